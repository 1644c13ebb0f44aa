/- A part of the proof; no statement is proved here: WUtfQx, WUtfRx. -/
import Derived.Test.YtcfigfhnlhkjiaaDoorUtfB
import Derived.Test.YtcfigfhnlhkjiaaDoorBld

set_option linter.unusedVariables false
set_option linter.unusedSimpArgs false

namespace Fen
open Go Go.Proofs

def GRt : Specs := [(35, putSpec)]
@[simp] theorem GRt_9 : GRt.find 35 = some putSpec := rfl
theorem GRt_ok (gl : Gl) : SpecsOK Tryd.prog gl GRt := .cons (rput_sound gl) (.nil _ _)

def rtextS (l : List Int) (k : Nat) : St := ⟨19, [(0, .val (.sl l.length (ints .i64 l))), (3, .val (.str (textF (l.take k)))), (4, .val (.int .i64 k))], []⟩

theorem textF_take {l : List Int} {k : Nat} (h : k < l.length) : textF (l.take (k + 1)) = textF (l.take k) ++ bytesS (putI l[k]) := by
  rw [List.take_add_one, List.getElem?_eq_getElem h, textF_app]; simp [textF]

set_option maxRecDepth 10000 in
theorem rtext_sound (gl : Gl) : Sound Tryd.prog gl 27 textSpec := by
  refine sound_fn (N := Tryd.f27.ntmps) (rs := Tryd.f27.results.toList) mixed tok (GRt_ok gl) Tryd.func27 rfl rfl rfl rfl rfl ?_ ?_ ?_
  · rintro args ⟨l, rfl, h0, h1⟩; simp [Tryd.f27]
  · rintro args ⟨l, rfl, h0, h1⟩; simp [textSpec, Tryd.f27]
  · rintro args ⟨l, rfl, h0, h1⟩ bs hgl hh hro
    have hE : Env.OK ⟨Tryd.prog, T, GRt, bs⟩ := ⟨tok, by rw [hgl]; exact GRt_ok gl⟩
    simp [textSpec, Tryd.f27, and_assoc]
    refine AWP.rounds (fun k => k ≤ l.length) (rtextS l) (fun k => l.length - k) 0 (by omega) ?_ ?_
    · refine Weak.keep ?_
      simp [rtextS, textF]
    · intro k hk
      refine wpc_ok hE mixed _ _ _ ?_
      rcases Nat.lt_or_ge k l.length with h | h
      · have hx : I64 l[k] := h0 _ (List.getElem_mem h)
        have w1 : IntKind.i64.wrap ((k : Int) + 1) = k + 1 := wrap64 _ (by omega) (by omega)
        have ht := textF_take h
        have hl1 := textF_len (l.take k)
        have hl2 := (putI_len1 l[k])
        have hl3 : (bytesS (putI l[k])).length = (putI l[k]).length := by simp [bytesS]
        have hl4 : (l.take k).length = k := by simp; omega
        have hhd : (ints .i64 (l.drop k)).head?.getD C.nilf = C.int .i64 l[k] := by rw [List.drop_eq_getElem_cons h]; rfl
        simp [rtextS, putSpec, and_assoc, h, hx, hhd, w1]
        refine ⟨by omega, by omega, Next.mk (k + 1) (by omega) (by omega) (Weak.keep ?_)⟩
        simp [rtextS, ht]
      · have : k = l.length := by omega
        subst this
        simp [rtextS]

end Fen

namespace Fen
open Go Go.Proofs

theorem textF_codes (l : List Int) : codesF (textF l) = l.map normI := by
  induction l with
  | nil => rfl
  | cons n l ih => simp only [textF, put_codes_app, ih, List.map_cons]

def textE : List Int → List UInt8
  | [] => []
  | n :: l => bytesS (putE n) ++ textE l
theorem textF_norm (l : List Int) : textF l = textE (l.map normI) := by
  induction l with
  | nil => rfl
  | cons n l ih => simp only [textF, textE, List.map_cons, ih, putI_eq]

end Fen
