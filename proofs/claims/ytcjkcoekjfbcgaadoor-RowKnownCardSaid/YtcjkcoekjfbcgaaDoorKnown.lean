/- Proved: the law RowKnown returns true, with no condition beyond what the card ties to the program text (two tables of the package width); what was in memory stays as it was. -/
import Derived.Test.YtcjkcoekjfbcgaaDoorRows
import Derived.Test.YtcjkcoekjfbcgaaDoorTie
import Derived.Test.YtcjkcoekjfbcgaaDoorCards
import Derived.SevenTiedAt
import Derived.LaidLaws
import Derived.LaidHandle
import Derived.LaidMore
import Derived.WalkKit
import Derived.ProofKit
import Derived.JoinedOf
import Derived.Test.YtcjkcoekjfbcgaaDoorKowE
import Derived.Test.YtcjkcoekjfbcgaaDoorKorE

set_option linter.unusedVariables false
set_option linter.unusedSimpArgs false

set_option linter.unusedVariables false
set_option linter.unusedSimpArgs false
namespace Go.Proofs.YtcjkcoekjfbcgaaDoor.rowKnown
open Go.ChangeShapes Go.WideShapes Go.ChangeAt Go.RowKit

theorem own : ownKnob Tryd.prog.godebug = none := by kernel_rfl
theorem laidOut : laidOutB Tryd.prog = true := by kernel_rfl
/-- the heap that the variables' own initialisers leave meets what is laid -/
theorem door_met (os : Os) (args : Array Value) : laidMetH Tryd.prog Rows.rowKnownRow.laid ((World.doorLaid Tryd.prog 400 os).forCall (fun _ _ => 0) ⟨#[], args, []⟩).memory :=
  laidMetH_of_parts3 (fuel := 8) (laidMet_of_run' 8 (by kernel_rfl) (by kernel_rfl)) (by kernel_rfl) (by kernel_rfl)
theorem gl_met {W : World} (h : laidMetH Tryd.prog Rows.rowKnownRow.laid W) : Fen.GlOK Fen.glW (Fen.atW W) :=
  Fen.gl_of_laid Fen.tok (D := 8) (laid := [("fenestra/width.marks", Rows.laid_fenestra_width_marks), ("fenestra/width.wides", Rows.laid_fenestra_width_wides)]) [(0, 102), (1, 104)] rfl ⟨⟨by kernel_rfl, by kernel_rfl, by rfl⟩, ⟨by kernel_rfl, by kernel_rfl, by rfl⟩, trivial⟩ (by kernel_rfl) h
theorem typed (xs : List Fen.V) : Fen.All2 (Fen.TypedV Fen.T) [] xs → Fen.lawKnownSpec.pre xs ∧ Fen.lawKnownSpec.res xs = .one (.val (.c (.bool true))) :=
  fun h => by
    match xs, h with
    | [], _ => exact ⟨rfl, rfl⟩
set_option maxRecDepth 100000 in
theorem lifted (os : Os) (started : os.Started) (H : Type) (enc : TypeId × Value → H) :
    ReturnsInHanded {} Tryd.checked os 10 .any (fun w args => (Rows.rowKnownSpec.pre enc Tryd.prog Tryd.f10 [] false w args ∧ laidMetH Tryd.prog Rows.rowKnownRow.laid w) ∧ sizedMet enc Tryd.prog Tryd.f10 (OpenSpec.ofChange Rows.rowKnownSpec) false w args)
      (Rows.rowKnownSpec.post enc Tryd.prog Tryd.f10 false true false false) := by
  refine returnsInHanded_of_change_and (C := Tryd.checked) (X := fun w _ => laidMetH Tryd.prog Rows.rowKnownRow.laid w) (fun _ _ _ hh h => h.of_heap hh) own started (by kernel_rfl) Tryd.func10
    (ChangeSpec.witness_shaped (enc := enc) (C := Tryd.checked) (os := os) (X := fun w _ => laidMetH Tryd.prog Rows.rowKnownRow.laid w) false (World.doorLaid Tryd.prog 400 os) #[] 8 rfl (World.shaped_of_RefB (by kernel_rfl) (by kernel_rfl)) (by kernel_rfl) (by kernel_rfl) (by kernel_rfl) (door_met os _)) ?_
  intro W base args ds gs before hval hW _ _ hL _
  exact Fen.law_calls Fen.tok laidOut (ts := []) (tb := 4) (D := 8) rfl rfl Tryd.underlying4 (by rfl) (by kernel_rfl) Fen.lawKnown_sound rfl typed rfl (fun ds h => by
    match ds, h with
    | [], _ => exact ⟨rfl, rfl, rfl⟩) hval hW (gl_met hL)

theorem over : Rows.RowKnownSaid :=
  OpenClaim.holds_of_wide 10 Tryd.f10 rfl rfl rfl rfl rfl rfl rfl ⟨rfl, rfl, rfl, rfl, rfl⟩ rfl rfl rfl rfl rfl (by kernel_rfl) Tryd.func10 (by kernel_rfl)
    (of_decide_eq_true (by kernel_rfl)) (by unfold Func.isWrapper; first | (rw [if_pos (by decide +kernel)]; kernel_rfl) | (rw [if_neg (by decide +kernel)]; exact ⟨rfl, rfl⟩))
    (fun os started H enc _ => lifted os started H enc)
/-- THE STATEMENT -/
theorem proved : Rows.RowKnownCardSaid :=
  Claim7.holds_tied_plain_at .later [] [.widerDeep, .widerDeep] true (true, "65bdc03face96a6f18dbf1dfef5af587f53e2b94a56da40e82cb2880f6b846bc") false
    over (fun _ h => by cases h) (by kernel_rfl) (fun _ h => by cases h) rowKnown_row_tie rfl ⟨rfl, rfl⟩ (by kernel_rfl) rfl
    (fun f fn hf hfn => by
      obtain rfl : f = 10 := Option.some.inj ((show Tryd.prog.funcNamed "fenestra/fenestralaw12.RowKnown" = some 10 by kernel_rfl).symm.trans hf) |>.symm
      obtain rfl : fn = Tryd.f10 := (Option.some.inj (Tryd.func10.symm.trans hfn)).symm
      exact ⟨by kernel_rfl, fun j t ht => by
        have hm : t ∈ ([] : List TypeId) := by simpa using Array.mem_of_getElem? (show (#[] : Array TypeId)[j]? = some t from ht)
        have hall : (([] : List TypeId).all fun u => !Tryd.prog.wantsStandIn u) = true := by kernel_rfl
        exact (show Tryd.prog.wantsStandIn t = false by simpa using List.all_eq_true.1 hall t hm)⟩)
    (by kernel_rfl)
#print axioms proved
end Go.Proofs.YtcjkcoekjfbcgaaDoor.rowKnown
