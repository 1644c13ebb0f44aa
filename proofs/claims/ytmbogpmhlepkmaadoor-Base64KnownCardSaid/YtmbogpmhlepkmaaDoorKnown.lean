/- Proved: the law Base64Known returns true, with no condition beyond what the card ties to the program text; what was in memory stays as it was. -/
import Derived.Test.YtmbogpmhlepkmaaDoorRows
import Derived.Test.YtmbogpmhlepkmaaDoorTie
import Derived.Test.YtmbogpmhlepkmaaDoorCards
import Derived.SevenTiedAt
import Derived.LaidLaws
import Derived.LaidHandle
import Derived.LaidMore
import Derived.Lay
import Derived.MakeChecks
import Derived.WalkKit
import Derived.ProofKit
import Derived.JoinedOf
import Derived.Test.YtmbogpmhlepkmaaDoorLawA
import Derived.Test.YtmbogpmhlepkmaaDoorLawB
import Derived.Test.YtmbogpmhlepkmaaDoorCoreE

set_option linter.unusedVariables false
set_option linter.unusedSimpArgs false

set_option linter.unusedVariables false
set_option linter.unusedSimpArgs false
namespace Go.Proofs.YtmbogpmhlepkmaaDoor.base64Known
open Go.ChangeShapes Go.WideShapes Go.ChangeAt Go.RowKit

theorem own : ownKnob Tryd.prog.godebug = none := by kernel_rfl
theorem laidOut : laidOutB Tryd.prog = true := by kernel_rfl
theorem gl_met {W : World} (_ : laidMetH Tryd.prog Rows.base64KnownRow.laid W) : Fen.GlOK [] (Fen.atW W) := Fen.GlOK.nil _
theorem typed (xs : List Fen.V) : Fen.All2 (Fen.TypedV Fen.T) [] xs → Fen.lawKnownSpec.pre xs ∧ Fen.lawKnownSpec.res xs = .one (.val (.c (.bool true))) :=
  fun h => by
    match xs, h with
    | [], _ => exact ⟨rfl, rfl⟩
set_option maxRecDepth 100000 in
theorem lifted (os : Os) (started : os.Started) (H : Type) (enc : TypeId × Value → H) :
    ReturnsInHanded {} Tryd.checked os 7 .any (fun w args => (Rows.base64KnownSpec.pre enc Tryd.prog Tryd.f7 [] false w args ∧ laidMetH Tryd.prog Rows.base64KnownRow.laid w) ∧ sizedMet enc Tryd.prog Tryd.f7 (OpenSpec.ofChange Rows.base64KnownSpec) false w args)
      (Rows.base64KnownSpec.post enc Tryd.prog Tryd.f7 false true false false) := by
  refine returnsInHanded_of_change_and (C := Tryd.checked) (X := fun w _ => laidMetH Tryd.prog Rows.base64KnownRow.laid w) (fun _ _ _ hh h => h.of_heap hh) own started (by kernel_rfl) Tryd.func7
    (ChangeSpec.witness_shaped (enc := enc) (C := Tryd.checked) (os := os) (X := fun w _ => laidMetH Tryd.prog Rows.base64KnownRow.laid w) false (World.laidAll Tryd.prog os Rows.base64KnownRow.laid) #[] 8 (World.laidAll_os _ _ _) (World.shaped_of_ZipB (by kernel_rfl) (by kernel_rfl)) (by kernel_rfl) (by kernel_rfl) (by kernel_rfl) (by rw [MakeChecks.laidMetH_plain _ _ _ (by kernel_rfl)]; exact laidMet_laidAll _ (by kernel_rfl) (by kernel_rfl))) ?_
  intro W base args ds gs before hval hW _ _ hL _
  exact Fen.law_calls Fen.tok laidOut (ts := []) (tb := 4) (D := 8) rfl rfl Tryd.underlying4 (by rfl) (by kernel_rfl) (Fen.lawKnown_sound []) rfl typed rfl (fun ds h => by
    match ds, h with
    | [], _ => exact ⟨rfl, rfl, rfl⟩) hval hW (gl_met hL)

theorem over : Rows.Base64KnownSaid :=
  OpenClaim.holds_of_wide 7 Tryd.f7 rfl rfl rfl rfl rfl rfl rfl ⟨rfl, rfl, rfl, rfl, rfl⟩ rfl rfl rfl rfl rfl (by kernel_rfl) Tryd.func7 (by kernel_rfl)
    (of_decide_eq_true (by kernel_rfl)) (by unfold Func.isWrapper; first | (rw [if_pos (by decide +kernel)]; kernel_rfl) | (rw [if_neg (by decide +kernel)]; exact ⟨rfl, rfl⟩))
    (fun os started H enc _ => lifted os started H enc)
/-- THE STATEMENT -/
theorem proved : Rows.Base64KnownCardSaid :=
  Claim7.holds_tied_plain_at .later [] [.data, .pinned] true (true, "2791f288e903287950b96588f36af52ac06e5b7f7d925edadcb0a84443d882e3") false
    over (fun _ h => by cases h) (by kernel_rfl) (fun _ h => by cases h) base64Known_row_tie rfl ⟨rfl, rfl⟩ (by kernel_rfl) rfl
    (fun f fn hf hfn => by
      obtain rfl : f = 7 := Option.some.inj ((show Tryd.prog.funcNamed "fenestra/fenestralaw07.Base64Known" = some 7 by kernel_rfl).symm.trans hf) |>.symm
      obtain rfl : fn = Tryd.f7 := (Option.some.inj (Tryd.func7.symm.trans hfn)).symm
      exact ⟨by kernel_rfl, fun j t ht => by
        have hm : t ∈ ([] : List TypeId) := by simpa using Array.mem_of_getElem? (show (#[] : Array TypeId)[j]? = some t from ht)
        have hall : (([] : List TypeId).all fun u => !Tryd.prog.wantsStandIn u) = true := by kernel_rfl
        exact (show Tryd.prog.wantsStandIn t = false by simpa using List.all_eq_true.1 hall t hm)⟩)
    (by kernel_rfl)
#print axioms proved
end Go.Proofs.YtmbogpmhlepkmaaDoor.base64Known
