/- Proved: the law ReflowSizes returns true, with no condition beyond what the card ties to the program text (two tables of the package width); what was in memory stays as it was. -/
import Derived.Test.YtjolofoocpeinaaDoorRows
import Derived.Test.YtjolofoocpeinaaDoorTie
import Derived.Test.YtjolofoocpeinaaDoorCards
import Derived.SevenTiedAt
import Derived.LaidLaws
import Derived.LaidHandle
import Derived.LaidMore
import Derived.WalkKit
import Derived.ProofKit
import Derived.JoinedOf
import Derived.Test.YtjolofoocpeinaaDoorLawA
import Derived.Test.YtjolofoocpeinaaDoorCoreE

set_option linter.unusedVariables false
set_option linter.unusedSimpArgs false

set_option linter.unusedVariables false
set_option linter.unusedSimpArgs false
namespace Go.Proofs.YtjolofoocpeinaaDoor.reflowSizes
open Go.ChangeShapes Go.WideShapes Go.ChangeAt Go.RowKit
theorem own : ownKnob Tryd.prog.godebug = none := by kernel_rfl
theorem laidOut : laidOutB Tryd.prog = true := by kernel_rfl
theorem door_met (os : Os) (args : Array Value) : laidMetH Tryd.prog Rows.reflowSizesRow.laid ((World.doorLaid Tryd.prog 400 os).forCall (fun _ _ => 0) ⟨#[], args, []⟩).memory :=
  laidMetH_of_parts3 (fuel := 8) (laidMet_of_run' 8 (by kernel_rfl) (by kernel_rfl)) (by kernel_rfl) (by kernel_rfl)
theorem gl_met {W : World} (h : laidMetH Tryd.prog Rows.reflowSizesRow.laid W) : Fen.GlOK Fen.glW (Fen.atW W) :=
  Fen.gl_of_laid Fen.tok (D := 8) (laid := [("fenestra/width.marks", Rows.laid_fenestra_width_marks), ("fenestra/width.wides", Rows.laid_fenestra_width_wides)]) [(0, 165), (1, 167)] rfl ⟨⟨by kernel_rfl, by kernel_rfl, by rfl⟩, ⟨by kernel_rfl, by kernel_rfl, by rfl⟩, trivial⟩ (by kernel_rfl) h
theorem typed (xs : List Fen.V) : Fen.All2 (Fen.TypedV Fen.T) [25, 32, 51, 23] xs → Fen.lawSizesSpec.pre xs ∧ Fen.lawSizesSpec.res xs = .one (.val (.c (.bool true))) :=
  fun h => by
    match xs, h with
    | [d, s, e, f], ⟨h0, h1, h2, h3, _⟩ =>
      obtain ⟨c, O, L, a, b, rfl, hD⟩ := Fen.arg_hdraft h0
      obtain ⟨x, y, r, p, k, rfl, hr, k0, k1⟩ := Fen.arg_spoil h1
      obtain ⟨u, v, rfl, hu, hv⟩ := Fen.arg_i64x2 h2
      obtain ⟨z, w, rfl, hz, hw⟩ := Fen.arg_u8x2 h3
      exact ⟨⟨c, O, L, a, b, x, y, r, p, k, u, v, z, w, rfl, hD, hr, k0, k1, hu, hv, hz.1, hz.2, hw.1, hw.2⟩, rfl⟩
set_option maxRecDepth 100000 in
theorem lifted (os : Os) (started : os.Started) (H : Type) (enc : TypeId × Value → H) :
    ReturnsInHanded {} Tryd.checked os 4 .any (fun w args => (Rows.reflowSizesSpec.pre enc Tryd.prog Tryd.f4 [] false w args ∧ laidMetH Tryd.prog Rows.reflowSizesRow.laid w) ∧ sizedMet enc Tryd.prog Tryd.f4 (OpenSpec.ofChange Rows.reflowSizesSpec) false w args)
      (Rows.reflowSizesSpec.post enc Tryd.prog Tryd.f4 false true false false) := by
  refine returnsInHanded_of_change_and (C := Tryd.checked) (X := fun w _ => laidMetH Tryd.prog Rows.reflowSizesRow.laid w) (fun _ _ _ hh h => h.of_heap hh) own started (by kernel_rfl) Tryd.func4
    (ChangeSpec.witness_shaped (enc := enc) (C := Tryd.checked) (os := os) (X := fun w _ => laidMetH Tryd.prog Rows.reflowSizesRow.laid w) false (World.doorLaid Tryd.prog 400 os) #[.agg #[.int .u8 0, .slice none 0 0, .slice none 0 0, .int .u8 0, .int .u8 0], .agg #[.int .i64 0, .int .i64 0, .slice none 0 0, .bool false, .bool false, .int .u8 0], .agg #[.int .i64 0, .int .i64 0], .agg #[.int .u8 0, .int .u8 0]] 8 rfl (World.shaped_of_RefB (by kernel_rfl) (by kernel_rfl)) (by kernel_rfl) (by kernel_rfl) (by kernel_rfl) (door_met os _)) ?_
  intro W base args ds gs before hval hW _ _ hL _
  exact Fen.law_calls Fen.tok laidOut (ts := [25, 32, 51, 23]) (tb := 4) (D := 8) rfl rfl Tryd.underlying4 (by rfl) (by kernel_rfl) Fen.lawSizes_sound rfl typed rfl (fun ds h => by
    match ds, h with
    | [d0, d1, d2, d3], _ => exact ⟨rfl, rfl, rfl⟩) hval hW (gl_met hL)
theorem over : Rows.ReflowSizesSaid :=
  OpenClaim.holds_of_wide 4 Tryd.f4 rfl rfl rfl rfl rfl rfl rfl ⟨rfl, rfl, rfl, rfl, rfl⟩ rfl rfl rfl rfl rfl (by kernel_rfl) Tryd.func4 (by kernel_rfl)
    (of_decide_eq_true (by kernel_rfl)) (by unfold Func.isWrapper; first | (rw [if_pos (by decide +kernel)]; kernel_rfl) | (rw [if_neg (by decide +kernel)]; exact ⟨rfl, rfl⟩))
    (fun os started H enc _ => lifted os started H enc)
theorem proved : Rows.ReflowSizesCardSaid :=
  Claim7.holds_tied_plain_at .later [] [.widerDeep, .widerDeep] true (true, "6ae92d21f6879002e0b84fea4be366b818faa83fefe75fb15e5493823658c2bd") false
    over (fun _ h => by cases h) (by kernel_rfl) (fun _ h => by cases h) reflowSizes_row_tie rfl ⟨rfl, rfl⟩ (by kernel_rfl) rfl
    (fun f fn hf hfn => by
      obtain rfl : f = 4 := Option.some.inj ((show Tryd.prog.funcNamed "fenestra/fenestralaw19.ReflowSizes" = some 4 by kernel_rfl).symm.trans hf) |>.symm
      obtain rfl : fn = Tryd.f4 := (Option.some.inj (Tryd.func4.symm.trans hfn)).symm
      exact ⟨by kernel_rfl, fun j t ht => by
        have hm : t ∈ ([25, 32, 51, 23] : List TypeId) := by simpa using Array.mem_of_getElem? (show (#[25, 32, 51, 23] : Array TypeId)[j]? = some t from ht)
        have hall : (([25, 32, 51, 23] : List TypeId).all fun u => !Tryd.prog.wantsStandIn u) = true := by kernel_rfl
        exact (show Tryd.prog.wantsStandIn t = false by simpa using List.all_eq_true.1 hall t hm)⟩)
    (by kernel_rfl)
#print axioms proved
end Go.Proofs.YtjolofoocpeinaaDoor.reflowSizes
