/- Proved: the law PastLooks returns true, with no condition beyond what the card ties to the program text (two tables of the package width); what was in memory stays as it was. -/
import Derived.Test.YtecnbidgdohmgaaDoorRows
import Derived.Test.YtecnbidgdohmgaaDoorTie
import Derived.Test.YtecnbidgdohmgaaDoorCards
import Derived.SevenTiedAt
import Derived.LaidLaws
import Derived.LaidHandle
import Derived.LaidMore
import Derived.WalkKit
import Derived.ProofKit
import Derived.JoinedOf
import Derived.Test.YtecnbidgdohmgaaDoorPastB
import Derived.Test.YtecnbidgdohmgaaDoorCoreE

set_option linter.unusedVariables false
set_option linter.unusedSimpArgs false

set_option linter.unusedVariables false
set_option linter.unusedSimpArgs false
namespace Go.Proofs.YtecnbidgdohmgaaDoor.pastLooks
open Go.ChangeShapes Go.WideShapes Go.ChangeAt Go.RowKit

theorem own : ownKnob Tryd.prog.godebug = none := by kernel_rfl
theorem laidOut : laidOutB Tryd.prog = true := by kernel_rfl
/-- the heap that the variables' own initialisers leave meets what is laid -/
theorem door_met (os : Os) (args : Array Value) : laidMetH Tryd.prog Rows.pastLooksRow.laid ((World.doorLaid Tryd.prog 400 os).forCall (fun _ _ => 0) ⟨#[], args, []⟩).memory :=
  laidMetH_of_parts3 (fuel := 8) (laidMet_of_run' 8 (by kernel_rfl) (by kernel_rfl)) (by kernel_rfl) (by kernel_rfl)
theorem gl_met {W : World} (h : laidMetH Tryd.prog Rows.pastLooksRow.laid W) : Fen.GlOK Fen.glW (Fen.atW W) :=
  Fen.gl_of_laid Fen.tok (D := 8) (laid := [("fenestra/width.marks", Rows.laid_fenestra_width_marks), ("fenestra/width.wides", Rows.laid_fenestra_width_wides)]) [(0, 87), (1, 89)] rfl ⟨⟨by kernel_rfl, by kernel_rfl, by rfl⟩, ⟨by kernel_rfl, by kernel_rfl, by rfl⟩, trivial⟩ (by kernel_rfl) h
theorem typed (xs : List Fen.V) : Fen.All2 (Fen.TypedV Fen.T) [5, 22, 22, 5] xs → Fen.lawLooksSpec.pre xs ∧ Fen.lawLooksSpec.res xs = .one (.val (.c (.bool true))) :=
  fun h => by
    match xs, h with
    | [a, b, c, d], ⟨h0, h1, h2, h3, _⟩ =>
      obtain ⟨n, rfl, hn⟩ := Fen.arg_int Fen.T_5 h0
      obtain ⟨l, rfl, _, hl⟩ := Fen.arg_bytes h1
      obtain ⟨k, rfl, _, hk⟩ := Fen.arg_bytes h2
      obtain ⟨o, rfl, ho⟩ := Fen.arg_int Fen.T_5 h3
      exact ⟨⟨n, o, l, k, rfl, (Fen.u8_of hn).1, (Fen.u8_of hn).2, (Fen.u8_of ho).1, (Fen.u8_of ho).2, hl, hk⟩, rfl⟩
set_option maxRecDepth 100000 in
theorem lifted (os : Os) (started : os.Started) (H : Type) (enc : TypeId × Value → H) :
    ReturnsInHanded {} Tryd.checked os 7 .any (fun w args => (Rows.pastLooksSpec.pre enc Tryd.prog Tryd.f7 [] false w args ∧ laidMetH Tryd.prog Rows.pastLooksRow.laid w) ∧ sizedMet enc Tryd.prog Tryd.f7 (OpenSpec.ofChange Rows.pastLooksSpec) false w args)
      (Rows.pastLooksSpec.post enc Tryd.prog Tryd.f7 false true false false) := by
  refine returnsInHanded_of_change_and (C := Tryd.checked) (X := fun w _ => laidMetH Tryd.prog Rows.pastLooksRow.laid w) (fun _ _ _ hh h => h.of_heap hh) own started (by kernel_rfl) Tryd.func7
    (ChangeSpec.witness_shaped (enc := enc) (C := Tryd.checked) (os := os) (X := fun w _ => laidMetH Tryd.prog Rows.pastLooksRow.laid w) false (World.doorLaid Tryd.prog 400 os) #[.int .u8 0, .slice none 0 0, .slice none 0 0, .int .u8 0] 8 rfl (World.shaped_of_RefB (by kernel_rfl) (by kernel_rfl)) (by kernel_rfl) (by kernel_rfl) (by kernel_rfl) (door_met os _)) ?_
  intro W base args ds gs before hval hW _ _ hL _
  exact Fen.law_calls Fen.tok laidOut (ts := [5, 22, 22, 5]) (tb := 4) (D := 8) rfl rfl Tryd.underlying4 (by rfl) (by kernel_rfl) Fen.lawLooks_sound rfl typed rfl (fun ds h => by
    match ds, h with
    | [d0, d1, d2, d3], _ => exact ⟨rfl, rfl, rfl⟩) hval hW (gl_met hL)

theorem over : Rows.PastLooksSaid :=
  OpenClaim.holds_of_wide 7 Tryd.f7 rfl rfl rfl rfl rfl rfl rfl ⟨rfl, rfl, rfl, rfl, rfl⟩ rfl rfl rfl rfl rfl (by kernel_rfl) Tryd.func7 (by kernel_rfl)
    (of_decide_eq_true (by kernel_rfl)) (by unfold Func.isWrapper; first | (rw [if_pos (by decide +kernel)]; kernel_rfl) | (rw [if_neg (by decide +kernel)]; exact ⟨rfl, rfl⟩))
    (fun os started H enc _ => lifted os started H enc)
/-- THE STATEMENT -/
theorem proved : Rows.PastLooksCardSaid :=
  Claim7.holds_tied_plain_at .later [] [.widerDeep, .widerDeep] true (true, "74dbd902d957543651d1c65c17b817f20b5157f1d77d4d03a26786e4dfddd6b6") false
    over (fun _ h => by cases h) (by kernel_rfl) (fun _ h => by cases h) pastLooks_row_tie rfl ⟨rfl, rfl⟩ (by kernel_rfl) rfl
    (fun f fn hf hfn => by
      obtain rfl : f = 7 := Option.some.inj ((show Tryd.prog.funcNamed "fenestra/fenestralaw18.PastLooks" = some 7 by kernel_rfl).symm.trans hf) |>.symm
      obtain rfl : fn = Tryd.f7 := (Option.some.inj (Tryd.func7.symm.trans hfn)).symm
      exact ⟨by kernel_rfl, fun j t ht => by
        have hm : t ∈ ([5, 22, 22, 5] : List TypeId) := by simpa using Array.mem_of_getElem? (show (#[5, 22, 22, 5] : Array TypeId)[j]? = some t from ht)
        have hall : (([5, 22, 22, 5] : List TypeId).all fun u => !Tryd.prog.wantsStandIn u) = true := by kernel_rfl
        exact (show Tryd.prog.wantsStandIn t = false by simpa using List.all_eq_true.1 hall t hm)⟩)
    (by kernel_rfl)
#print axioms proved
end Go.Proofs.YtecnbidgdohmgaaDoor.pastLooks
