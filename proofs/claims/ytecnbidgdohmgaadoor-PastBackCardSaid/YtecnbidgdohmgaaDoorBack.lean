/- Proved: the law PastBack returns true, with no condition beyond what the card ties to the program text (two tables of the package width); what was in memory stays as it was. -/
import Derived.Test.YtecnbidgdohmgaaDoorRows
import Derived.Test.YtecnbidgdohmgaaDoorTie
import Derived.Test.YtecnbidgdohmgaaDoorCards
import Derived.SevenTiedAt
import Derived.LaidLaws
import Derived.LaidHandle
import Derived.LaidMore
import Derived.WalkKit
import Derived.ProofKit
import Derived.JoinedOf
import Derived.Test.YtecnbidgdohmgaaDoorPastB
import Derived.Test.YtecnbidgdohmgaaDoorCoreE

set_option linter.unusedVariables false
set_option linter.unusedSimpArgs false

set_option linter.unusedVariables false
set_option linter.unusedSimpArgs false
namespace Go.Proofs.YtecnbidgdohmgaaDoor.pastBack
open Go.ChangeShapes Go.WideShapes Go.ChangeAt Go.RowKit

theorem own : ownKnob Tryd.prog.godebug = none := by kernel_rfl
theorem laidOut : laidOutB Tryd.prog = true := by kernel_rfl
/-- the heap that the variables' own initialisers leave meets what is laid -/
theorem door_met (os : Os) (args : Array Value) : laidMetH Tryd.prog Rows.pastBackRow.laid ((World.doorLaid Tryd.prog 400 os).forCall (fun _ _ => 0) ⟨#[], args, []⟩).memory :=
  laidMetH_of_parts3 (fuel := 8) (laidMet_of_run' 8 (by kernel_rfl) (by kernel_rfl)) (by kernel_rfl) (by kernel_rfl)
theorem gl_met {W : World} (h : laidMetH Tryd.prog Rows.pastBackRow.laid W) : Fen.GlOK Fen.glW (Fen.atW W) :=
  Fen.gl_of_laid Fen.tok (D := 8) (laid := [("fenestra/width.marks", Rows.laid_fenestra_width_marks), ("fenestra/width.wides", Rows.laid_fenestra_width_wides)]) [(0, 87), (1, 89)] rfl ⟨⟨by kernel_rfl, by kernel_rfl, by rfl⟩, ⟨by kernel_rfl, by kernel_rfl, by rfl⟩, trivial⟩ (by kernel_rfl) h
theorem typed (xs : List Fen.V) : Fen.All2 (Fen.TypedV Fen.T) [5, 44] xs → Fen.lawBackSpec.pre xs ∧ Fen.lawBackSpec.res xs = .one (.val (.c (.bool true))) :=
  fun h => by
    match xs, h with
    | [a, b], ⟨h0, h1, _⟩ =>
      obtain ⟨n, rfl, hn⟩ := Fen.arg_int Fen.T_5 h0
      obtain ⟨l, rfl, hl⟩ := Fen.arg_lols h1
      exact ⟨⟨n, l, rfl, (Fen.u8_of hn).1, (Fen.u8_of hn).2, hl⟩, rfl⟩
set_option maxRecDepth 100000 in
theorem lifted (os : Os) (started : os.Started) (H : Type) (enc : TypeId × Value → H) :
    ReturnsInHanded {} Tryd.checked os 6 .any (fun w args => (Rows.pastBackSpec.pre enc Tryd.prog Tryd.f6 [] false w args ∧ laidMetH Tryd.prog Rows.pastBackRow.laid w) ∧ sizedMet enc Tryd.prog Tryd.f6 (OpenSpec.ofChange Rows.pastBackSpec) false w args)
      (Rows.pastBackSpec.post enc Tryd.prog Tryd.f6 false true false false) := by
  refine returnsInHanded_of_change_and (C := Tryd.checked) (X := fun w _ => laidMetH Tryd.prog Rows.pastBackRow.laid w) (fun _ _ _ hh h => h.of_heap hh) own started (by kernel_rfl) Tryd.func6
    (ChangeSpec.witness_shaped (enc := enc) (C := Tryd.checked) (os := os) (X := fun w _ => laidMetH Tryd.prog Rows.pastBackRow.laid w) false (World.doorLaid Tryd.prog 400 os) #[.int .u8 0, .slice none 0 0] 8 rfl (World.shaped_of_RefB (by kernel_rfl) (by kernel_rfl)) (by kernel_rfl) (by kernel_rfl) (by kernel_rfl) (door_met os _)) ?_
  intro W base args ds gs before hval hW _ _ hL _
  exact Fen.law_calls Fen.tok laidOut (ts := [5, 44]) (tb := 4) (D := 8) rfl rfl Tryd.underlying4 (by rfl) (by kernel_rfl) Fen.lawBack_sound rfl typed rfl (fun ds h => by
    match ds, h with
    | [d0, d1], _ => exact ⟨rfl, rfl, rfl⟩) hval hW (gl_met hL)

theorem over : Rows.PastBackSaid :=
  OpenClaim.holds_of_wide 6 Tryd.f6 rfl rfl rfl rfl rfl rfl rfl ⟨rfl, rfl, rfl, rfl, rfl⟩ rfl rfl rfl rfl rfl (by kernel_rfl) Tryd.func6 (by kernel_rfl)
    (of_decide_eq_true (by kernel_rfl)) (by unfold Func.isWrapper; first | (rw [if_pos (by decide +kernel)]; kernel_rfl) | (rw [if_neg (by decide +kernel)]; exact ⟨rfl, rfl⟩))
    (fun os started H enc _ => lifted os started H enc)
/-- THE STATEMENT -/
theorem proved : Rows.PastBackCardSaid :=
  Claim7.holds_tied_plain_at .later [] [.widerDeep, .widerDeep] true (true, "74dbd902d957543651d1c65c17b817f20b5157f1d77d4d03a26786e4dfddd6b6") false
    over (fun _ h => by cases h) (by kernel_rfl) (fun _ h => by cases h) pastBack_row_tie rfl ⟨rfl, rfl⟩ (by kernel_rfl) rfl
    (fun f fn hf hfn => by
      obtain rfl : f = 6 := Option.some.inj ((show Tryd.prog.funcNamed "fenestra/fenestralaw18.PastBack" = some 6 by kernel_rfl).symm.trans hf) |>.symm
      obtain rfl : fn = Tryd.f6 := (Option.some.inj (Tryd.func6.symm.trans hfn)).symm
      exact ⟨by kernel_rfl, fun j t ht => by
        have hm : t ∈ ([5, 44] : List TypeId) := by simpa using Array.mem_of_getElem? (show (#[5, 44] : Array TypeId)[j]? = some t from ht)
        have hall : (([5, 44] : List TypeId).all fun u => !Tryd.prog.wantsStandIn u) = true := by kernel_rfl
        exact (show Tryd.prog.wantsStandIn t = false by simpa using List.all_eq_true.1 hall t hm)⟩)
    (by kernel_rfl)
#print axioms proved
end Go.Proofs.YtecnbidgdohmgaaDoor.pastBack
