/- Proved: the law StateChecks returns true, with no condition; what was in memory stays as it was. -/
import Derived.Test.YthmebgohfigfpaaRows
import Derived.WalkKit
import Derived.ProofKit
import Derived.JoinedOf
import Derived.Test.YthmebgohfigfpaaLawB
import Derived.Test.YthmebgohfigfpaaCoreE

set_option linter.unusedVariables false
set_option linter.unusedSimpArgs false

set_option linter.unusedVariables false
set_option linter.unusedSimpArgs false
namespace Go.Proofs.Ythmebgohfigfpaa.stateChecks
open Go.ChangeShapes Go.WideShapes Go.ChangeAt Go.RowKit

theorem own : ownKnob Try.prog.godebug = none := by kernel_rfl
theorem laidOut : laidOutB Try.prog = true := by kernel_rfl
theorem typed (xs : List Fen.V) : Fen.All2 (Fen.TypedV Fen.T) [25, 22, 3, 62] xs → Fen.lawChecksSpec.pre xs ∧ Fen.lawChecksSpec.res xs = .one (.val (.c (.bool true))) :=
  fun h => by
    match xs, h with
    | [a, b, c, d], ⟨h0, h1, h2, h3, _⟩ =>
      obtain ⟨p, rfl, q⟩ := Fen.arg_parse h0
      obtain ⟨b, rfl, hb, hl⟩ := Fen.arg_bytes h1
      obtain ⟨n, rfl, hn⟩ := Fen.arg_i64 h2
      obtain ⟨e0, e1, rfl, he0, he1⟩ := Fen.arg_evs h3
      exact ⟨⟨p, b, n, e0, e1, rfl, q.1, hb, hl, q.2.1, q.2.2.1, q.2.2.2.1, q.2.2.2.2.1, q.2.2.2.2.2, he0, he1⟩, rfl⟩
set_option maxRecDepth 100000 in
theorem lifted (os : Os) (started : os.Started) (H : Type) (enc : TypeId × Value → H) :
    ReturnsInHanded {} Try.checked os 9 .any (Rows.stateChecksSpec.pre6 enc Try.prog Try.f9 Rows.stateChecksRow.domain false) (Rows.stateChecksSpec.post enc Try.prog Try.f9 false true false false) := by
  refine returnsInHanded_of_change (C := Try.checked) own started (by kernel_rfl) Try.func9
    (ChangeSpec.witness6 (enc := enc) (C := Try.checked) false ⟨#[], #[.agg #[.int .i64 0, .slice none 0 0, .int .u8 0, .int .u8 0, .slice none 0 0, .string ⟨#[]⟩, .string ⟨#[]⟩, .bool false], .slice none 0 0, .int .i64 0, .agg #[.int .i64 0, .int .i64 0, .int .u8 0, .int .u8 0, .slice none 0 0, .string ⟨#[]⟩, .string ⟨#[]⟩, .int .i64 0, .int .i64 0, .int .u8 0, .int .u8 0, .slice none 0 0, .string ⟨#[]⟩, .string ⟨#[]⟩]], []⟩ 8 (by kernel_rfl) (by kernel_rfl) (by kernel_rfl) (by kernel_rfl)) ?_
  intro W base args ds gs before hval hW _ _
  exact Fen.law_calls Fen.tok laidOut (ts := [25, 22, 3, 62]) (tb := 4) (D := 8) rfl rfl Try.underlying4 (by rfl) (by kernel_rfl) (Fen.lawChecks_sound []) rfl typed rfl (fun ds h => by
    match ds, h with
    | [d0, d1, d2, d3], _ => exact ⟨rfl, rfl, rfl⟩) hval hW (Fen.GlOK.nil _)

theorem over : Rows.StateChecksSaid :=
  OpenClaim.holds_of_wide 9 Try.f9 rfl rfl rfl rfl rfl rfl rfl ⟨rfl, rfl, rfl, rfl, rfl⟩ rfl rfl rfl rfl rfl (by kernel_rfl) Try.func9 (by kernel_rfl)
    (of_decide_eq_true (by kernel_rfl)) (by unfold Func.isWrapper; first | (rw [if_pos (by decide +kernel)]; kernel_rfl) | (rw [if_neg (by decide +kernel)]; exact ⟨rfl, rfl⟩))
    (fun os started H enc _ => lifted os started H enc)
/-- THE STATEMENT -/
theorem proved : Rows.StateChecksSaid := over
#print axioms proved
end Go.Proofs.Ythmebgohfigfpaa.stateChecks
