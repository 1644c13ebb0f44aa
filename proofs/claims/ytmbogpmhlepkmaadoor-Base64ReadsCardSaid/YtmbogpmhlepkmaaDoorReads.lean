/- Proved: the law Base64Reads returns true, with no condition beyond what the card ties to the program text; what was in memory stays as it was. -/
import Derived.Test.YtmbogpmhlepkmaaDoorRows
import Derived.Test.YtmbogpmhlepkmaaDoorTie
import Derived.Test.YtmbogpmhlepkmaaDoorCards
import Derived.SevenTiedAt
import Derived.LaidLaws
import Derived.LaidHandle
import Derived.LaidMore
import Derived.Lay
import Derived.MakeChecks
import Derived.WalkKit
import Derived.ProofKit
import Derived.JoinedOf
import Derived.Test.YtmbogpmhlepkmaaDoorLawA
import Derived.Test.YtmbogpmhlepkmaaDoorLawB
import Derived.Test.YtmbogpmhlepkmaaDoorCoreE

set_option linter.unusedVariables false
set_option linter.unusedSimpArgs false

set_option linter.unusedVariables false
set_option linter.unusedSimpArgs false
namespace Go.Proofs.YtmbogpmhlepkmaaDoor.base64Reads
open Go.ChangeShapes Go.WideShapes Go.ChangeAt Go.RowKit

theorem own : ownKnob Tryd.prog.godebug = none := by kernel_rfl
theorem laidOut : laidOutB Tryd.prog = true := by kernel_rfl
theorem gl_met {W : World} (_ : laidMetH Tryd.prog Rows.base64ReadsRow.laid W) : Fen.GlOK [] (Fen.atW W) := Fen.GlOK.nil _
theorem typed (xs : List Fen.V) : Fen.All2 (Fen.TypedV Fen.T) [9, 28, 5, 5, 5] xs → Fen.lawReadsSpec.pre xs ∧ Fen.lawReadsSpec.res xs = .one (.val (.c (.bool true))) :=
  fun h => by
    match xs, h with
    | [a, b, c, d, e], ⟨h0, h1, h2, h3, h4, _⟩ =>
      obtain ⟨s, rfl, hs⟩ := Fen.arg_text h0
      obtain ⟨L, rfl, hL, hl⟩ := Fen.arg_bytes h1
      obtain ⟨x, rfl, hx⟩ := Fen.arg_u8 h2
      obtain ⟨y, rfl, hy⟩ := Fen.arg_u8 h3
      obtain ⟨z, rfl, hz⟩ := Fen.arg_u8 h4
      exact ⟨⟨s, L, x, y, z, rfl, hs, hL, hl, hx.1, hx.2, hy.1, hy.2, hz.1, hz.2⟩, rfl⟩
set_option maxRecDepth 100000 in
theorem lifted (os : Os) (started : os.Started) (H : Type) (enc : TypeId × Value → H) :
    ReturnsInHanded {} Tryd.checked os 4 .any (fun w args => (Rows.base64ReadsSpec.pre enc Tryd.prog Tryd.f4 [] false w args ∧ laidMetH Tryd.prog Rows.base64ReadsRow.laid w) ∧ sizedMet enc Tryd.prog Tryd.f4 (OpenSpec.ofChange Rows.base64ReadsSpec) false w args)
      (Rows.base64ReadsSpec.post enc Tryd.prog Tryd.f4 false true false false) := by
  refine returnsInHanded_of_change_and (C := Tryd.checked) (X := fun w _ => laidMetH Tryd.prog Rows.base64ReadsRow.laid w) (fun _ _ _ hh h => h.of_heap hh) own started (by kernel_rfl) Tryd.func4
    (ChangeSpec.witness_shaped (enc := enc) (C := Tryd.checked) (os := os) (X := fun w _ => laidMetH Tryd.prog Rows.base64ReadsRow.laid w) false (World.laidAll Tryd.prog os Rows.base64ReadsRow.laid) #[.string ⟨#[]⟩, .slice none 0 0, .int .u8 0, .int .u8 0, .int .u8 0] 8 (World.laidAll_os _ _ _) (World.shaped_of_ZipB (by kernel_rfl) (by kernel_rfl)) (by kernel_rfl) (by kernel_rfl) (by kernel_rfl) (by rw [MakeChecks.laidMetH_plain _ _ _ (by kernel_rfl)]; exact laidMet_laidAll _ (by kernel_rfl) (by kernel_rfl))) ?_
  intro W base args ds gs before hval hW _ _ hL _
  exact Fen.law_calls Fen.tok laidOut (ts := [9, 28, 5, 5, 5]) (tb := 4) (D := 8) rfl rfl Tryd.underlying4 (by rfl) (by kernel_rfl) (Fen.lawReads_sound []) rfl typed rfl (fun ds h => by
    match ds, h with
    | [d0, d1, d2, d3, d4], _ => exact ⟨rfl, rfl, rfl⟩) hval hW (gl_met hL)

theorem over : Rows.Base64ReadsSaid :=
  OpenClaim.holds_of_wide 4 Tryd.f4 rfl rfl rfl rfl rfl rfl rfl ⟨rfl, rfl, rfl, rfl, rfl⟩ rfl rfl rfl rfl rfl (by kernel_rfl) Tryd.func4 (by kernel_rfl)
    (of_decide_eq_true (by kernel_rfl)) (by unfold Func.isWrapper; first | (rw [if_pos (by decide +kernel)]; kernel_rfl) | (rw [if_neg (by decide +kernel)]; exact ⟨rfl, rfl⟩))
    (fun os started H enc _ => lifted os started H enc)
/-- THE STATEMENT -/
theorem proved : Rows.Base64ReadsCardSaid :=
  Claim7.holds_tied_plain_at .later [] [.data, .pinned] true (true, "2791f288e903287950b96588f36af52ac06e5b7f7d925edadcb0a84443d882e3") false
    over (fun _ h => by cases h) (by kernel_rfl) (fun _ h => by cases h) base64Reads_row_tie rfl ⟨rfl, rfl⟩ (by kernel_rfl) rfl
    (fun f fn hf hfn => by
      obtain rfl : f = 4 := Option.some.inj ((show Tryd.prog.funcNamed "fenestra/fenestralaw07.Base64Reads" = some 4 by kernel_rfl).symm.trans hf) |>.symm
      obtain rfl : fn = Tryd.f4 := (Option.some.inj (Tryd.func4.symm.trans hfn)).symm
      exact ⟨by kernel_rfl, fun j t ht => by
        have hm : t ∈ ([9, 28, 5, 5, 5] : List TypeId) := by simpa using Array.mem_of_getElem? (show (#[9, 28, 5, 5, 5] : Array TypeId)[j]? = some t from ht)
        have hall : (([9, 28, 5, 5, 5] : List TypeId).all fun u => !Tryd.prog.wantsStandIn u) = true := by kernel_rfl
        exact (show Tryd.prog.wantsStandIn t = false by simpa using List.all_eq_true.1 hall t hm)⟩)
    (by kernel_rfl)
#print axioms proved
end Go.Proofs.YtmbogpmhlepkmaaDoor.base64Reads
