/- Proved: the law StateKnown returns true, with no condition; what was in memory stays as it was. -/
import Derived.Test.YthmebgohfigfpaaRows
import Derived.WalkKit
import Derived.ProofKit
import Derived.JoinedOf
import Derived.Test.YthmebgohfigfpaaRefA
import Derived.Test.YthmebgohfigfpaaLawA
import Derived.Test.YthmebgohfigfpaaCoreE

set_option linter.unusedVariables false
set_option linter.unusedSimpArgs false

set_option linter.unusedVariables false
set_option linter.unusedSimpArgs false
namespace Go.Proofs.Ythmebgohfigfpaa.stateKnown
open Go.ChangeShapes Go.WideShapes Go.ChangeAt Go.RowKit

theorem own : ownKnob Try.prog.godebug = none := by kernel_rfl
theorem laidOut : laidOutB Try.prog = true := by kernel_rfl
theorem typed (xs : List Fen.V) : Fen.All2 (Fen.TypedV Fen.T) [] xs → Fen.lawKnownSpec.pre xs ∧ Fen.lawKnownSpec.res xs = .one (.val (.c (.bool true))) :=
  fun h => by
    match xs, h with
    | [], _ => exact ⟨rfl, rfl⟩
set_option maxRecDepth 100000 in
theorem lifted (os : Os) (started : os.Started) (H : Type) (enc : TypeId × Value → H) :
    ReturnsInHanded {} Try.checked os 10 .any (Rows.stateKnownSpec.pre6 enc Try.prog Try.f10 Rows.stateKnownRow.domain false) (Rows.stateKnownSpec.post enc Try.prog Try.f10 false true false false) := by
  refine returnsInHanded_of_change (C := Try.checked) own started (by kernel_rfl) Try.func10
    (ChangeSpec.witness6 (enc := enc) (C := Try.checked) false ⟨#[], #[], []⟩ 8 (by kernel_rfl) (by kernel_rfl) (by kernel_rfl) (by kernel_rfl)) ?_
  intro W base args ds gs before hval hW _ _
  exact Fen.law_calls Fen.tok laidOut (ts := []) (tb := 4) (D := 8) rfl rfl Try.underlying4 (by rfl) (by kernel_rfl) (Fen.lawKnown_sound []) rfl typed rfl (fun ds h => by
    match ds, h with
    | [], _ => exact ⟨rfl, rfl, rfl⟩) hval hW (Fen.GlOK.nil _)

theorem over : Rows.StateKnownSaid :=
  OpenClaim.holds_of_wide 10 Try.f10 rfl rfl rfl rfl rfl rfl rfl ⟨rfl, rfl, rfl, rfl, rfl⟩ rfl rfl rfl rfl rfl (by kernel_rfl) Try.func10 (by kernel_rfl)
    (of_decide_eq_true (by kernel_rfl)) (by unfold Func.isWrapper; first | (rw [if_pos (by decide +kernel)]; kernel_rfl) | (rw [if_neg (by decide +kernel)]; exact ⟨rfl, rfl⟩))
    (fun os started H enc _ => lifted os started H enc)
/-- THE STATEMENT -/
theorem proved : Rows.StateKnownSaid := over
#print axioms proved
end Go.Proofs.Ythmebgohfigfpaa.stateKnown
