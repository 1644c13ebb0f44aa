/- A part of the proof; no statement is proved here: UtfQ, UtfR. -/
import Derived.Test.YtbhjegpfcecoiaaUtfB
import Derived.Test.YtbhjegpfcecoiaaBld

set_option linter.unusedVariables false
set_option linter.unusedSimpArgs false

namespace Fen
open Go Go.Proofs

def GRt : Specs := [(9, putSpec)]
@[simp] theorem GRt_9 : GRt.find 9 = some putSpec := rfl
theorem GRt_ok (gl : Gl) : SpecsOK Try.prog gl GRt := .cons (rput_sound gl) (.nil _ _)

def rtextS (l : List Int) (k : Nat) : St := ⟨19, [(0, .val (.sl l.length (ints .i64 l))), (3, .val (.str (textF (l.take k)))), (4, .val (.int .i64 k))], []⟩

theorem textF_take {l : List Int} {k : Nat} (h : k < l.length) : textF (l.take (k + 1)) = textF (l.take k) ++ bytesS (putI l[k]) := by
  rw [List.take_add_one, List.getElem?_eq_getElem h, textF_app]; simp [textF]

set_option maxRecDepth 10000 in
theorem rtext_sound (gl : Gl) : Sound Try.prog gl 24 textSpec := by
  refine sound_fn (N := Try.f24.ntmps) (rs := Try.f24.results.toList) mixed tok (GRt_ok gl) Try.func24 rfl rfl rfl rfl rfl ?_ ?_ ?_
  · rintro args ⟨l, rfl, h0, h1⟩; simp [Try.f24]
  · rintro args ⟨l, rfl, h0, h1⟩; simp [textSpec, Try.f24]
  · rintro args ⟨l, rfl, h0, h1⟩ bs hgl hh hro
    have hE : Env.OK ⟨Try.prog, T, GRt, bs⟩ := ⟨tok, by rw [hgl]; exact GRt_ok gl⟩
    simp [textSpec, Try.f24, and_assoc]
    refine AWP.rounds (fun k => k ≤ l.length) (rtextS l) (fun k => l.length - k) 0 (by omega) ?_ ?_
    · refine Weak.keep ?_
      simp [rtextS, textF]
    · intro k hk
      refine wpc_ok hE mixed _ _ _ ?_
      rcases Nat.lt_or_ge k l.length with h | h
      · have hx : I64 l[k] := h0 _ (List.getElem_mem h)
        have w1 : IntKind.i64.wrap ((k : Int) + 1) = k + 1 := wrap64 _ (by omega) (by omega)
        have ht := textF_take h
        have hl1 := textF_len (l.take k)
        have hl2 := (putI_len1 l[k])
        have hl3 : (bytesS (putI l[k])).length = (putI l[k]).length := by simp [bytesS]
        have hl4 : (l.take k).length = k := by simp; omega
        have hhd : (ints .i64 (l.drop k)).head?.getD C.nilf = C.int .i64 l[k] := by rw [List.drop_eq_getElem_cons h]; rfl
        simp [rtextS, putSpec, and_assoc, h, hx, hhd, w1]
        refine ⟨by omega, by omega, Next.mk (k + 1) (by omega) (by omega) (Weak.keep ?_)⟩
        simp [rtextS, ht]
      · have : k = l.length := by omega
        subst this
        simp [rtextS]

def lawPutsSpec : Spec := { pre := fun args => ∃ (cp : Int) (l : List Int), args = [.c (.int .i64 cp), intsV l] ∧ I64 cp ∧ (∀ x ∈ l, I64 x) ∧ l.length ≤ 9223372036854775807, res := fun _ => .one (.val (.c (.bool true))) }

def GLq : Specs := [(21, checkSpec), (22, checkSpec), (19, putSpec), (9, putSpec), (23, textSpec), (24, textSpec), (17, worksSpec)]
@[simp] theorem GLq_21 : GLq.find 21 = some checkSpec := rfl
@[simp] theorem GLq_22 : GLq.find 22 = some checkSpec := rfl
@[simp] theorem GLq_19 : GLq.find 19 = some putSpec := rfl
@[simp] theorem GLq_9 : GLq.find 9 = some putSpec := rfl
@[simp] theorem GLq_23 : GLq.find 23 = some textSpec := rfl
@[simp] theorem GLq_24 : GLq.find 24 = some textSpec := rfl
@[simp] theorem GLq_17 : GLq.find 17 = some worksSpec := rfl
theorem GLq_ok (gl : Gl) : SpecsOK Try.prog gl GLq := .cons (check_sound gl) (.cons (rcheck_sound gl) (.cons (put_sound gl) (.cons (rput_sound gl) (.cons (text_sound gl) (.cons (rtext_sound gl) (.cons (works_sound gl) (.nil _ _)))))))

set_option maxRecDepth 10000 in
theorem lawPuts_sound (gl : Gl) : Sound Try.prog gl 6 lawPutsSpec := by
  refine sound_fn (N := Try.f6.ntmps) (rs := Try.f6.results.toList) mixed tok (GLq_ok gl) Try.func6 rfl rfl rfl rfl rfl ?_ ?_ ?_
  · rintro args ⟨cp, l, rfl, h0, h1, h2⟩; simp [Try.f6]
  · rintro args ⟨cp, l, rfl, h0, h1, h2⟩; simp [lawPutsSpec, Try.f6]
  · rintro args ⟨cp, l, rfl, h0, h1, h2⟩ bs hgl hh hro
    have hE : Env.OK ⟨Try.prog, T, GLq, bs⟩ := ⟨tok, by rw [hgl]; exact GLq_ok gl⟩
    have hz1 : I64 (IntKind.i64.wrap ((IntKind.u64.wrap cp).tmod 1179648)) := by rw [IntKind.wrap_i64]; unfold I64; omega
    have hz2 : I64 (IntKind.i64.wrap ((IntKind.u64.wrap cp).tmod 4096)) := by rw [IntKind.wrap_i64]; unfold I64; omega
    simp [lawPutsSpec, Try.f6, and_assoc]
    refine ⟨by split <;> omega, by split <;> omega, ?_⟩
    obtain ⟨m, hm, hm1, hm2⟩ : ∃ m : Nat, (if 100 < (l.length : Int) then 100 else (l.length : Int)) = m ∧ m ≤ 100 ∧ m ≤ l.length := by
      split
      · exact ⟨100, rfl, by omega, by omega⟩
      · exact ⟨l.length, rfl, by omega, by omega⟩
    rw [hm]
    simp only [Int.toNat_natCast]
    have hL : ∀ x ∈ l.take m, I64 x := fun x hx => h1 x (List.mem_of_mem_take hx)
    have hl : (l.take m).length = m := by simp; omega
    generalize l.take m = L at *
    clear hm hm2
    subst hl
    have tl := textF_len L
    generalize IntKind.i64.wrap ((IntKind.u64.wrap cp).tmod 1179648) = z1 at *
    generalize IntKind.i64.wrap ((IntKind.u64.wrap cp).tmod 4096) = z2 at *
    refine AWP.unroll hE mixed 4 ?_
    simp [checkSpec, putSpec, textSpec, worksSpec, and_assoc, h0, hz1, hz2]
    exact ⟨hL, by omega⟩
end Fen

namespace Fen
open Go Go.Proofs

theorem textF_codes (l : List Int) : codesF (textF l) = l.map normI := by
  induction l with
  | nil => rfl
  | cons n l ih => simp only [textF, put_codes_app, ih, List.map_cons]

def textE : List Int → List UInt8
  | [] => []
  | n :: l => bytesS (putE n) ++ textE l
theorem textF_norm (l : List Int) : textF l = textE (l.map normI) := by
  induction l with
  | nil => rfl
  | cons n l ih => simp only [textF, textE, List.map_cons, ih, putI_eq]

theorem textF_same (a b : List Int) : (textF a == textF b) = (a.map normI == b.map normI) := by
  rw [Bool.eq_iff_iff]
  simp only [beq_iff_eq]
  constructor
  · intro h; rw [← textF_codes, ← textF_codes, h]
  · intro h; rw [textF_norm, textF_norm, h]

def lawBackSpec : Spec := { pre := fun args => ∃ a b : List Int, args = [intsV a, intsV b] ∧ (∀ x ∈ a, I64 x) ∧ (∀ x ∈ b, I64 x) ∧ a.length ≤ 9223372036854775807 ∧ b.length ≤ 9223372036854775807, res := fun _ => .one (.val (.c (.bool true))) }

def GLb : Specs := [(21, checkSpec), (23, textSpec), (18, isSpec), (12, intsSpec), (17, worksSpec)]
@[simp] theorem GLb_21 : GLb.find 21 = some checkSpec := rfl
@[simp] theorem GLb_23 : GLb.find 23 = some textSpec := rfl
@[simp] theorem GLb_18 : GLb.find 18 = some isSpec := rfl
@[simp] theorem GLb_12 : GLb.find 12 = some intsSpec := rfl
@[simp] theorem GLb_17 : GLb.find 17 = some worksSpec := rfl
theorem GLb_ok (gl : Gl) : SpecsOK Try.prog gl GLb := .cons (check_sound gl) (.cons (text_sound gl) (.cons (is_sound gl) (.cons (ints_sound gl) (.cons (works_sound gl) (.nil _ _)))))

def backS1 (a b : List Int) (k : Nat) : St :=
  ⟨86, [(0, .val (.sl a.length (ints .i64 a))), (1, .val (.sl b.length (ints .i64 b))), (5, .ref 0 0), (6, .nil), (7, .val (.int .i64 k))], [.sl 3 0 true 1 k (ints .i64 ((a.map normI).take k))]⟩
def backS2 (a b : List Int) (k : Nat) : St :=
  ⟨86, [(0, .val (.sl a.length (ints .i64 a))), (1, .val (.sl b.length (ints .i64 b))), (5, .ref 0 0), (6, .ref 1 0), (8, .val (.int .i64 k))],
    [.sl 3 0 true 1 a.length (ints .i64 (a.map normI)), .sl 3 0 true 1 k (ints .i64 ((b.map normI).take k))]⟩

theorem norm_take {l : List Int} {k : Nat} (h : k < l.length) : (l.map normI).take (k + 1) = (l.map normI).take k ++ [normI l[k]] := by
  rw [List.take_add_one, List.getElem?_map, List.getElem?_eq_getElem h]; rfl
theorem seg_last {P : List Int} {k : Nat} (h : P.length = k) (x y : Int) : List.take k (P ++ [x]) ++ y :: List.drop (k + 1) (P ++ [x]) = P ++ [y] := by
  subst h
  rw [List.take_left' rfl, List.drop_eq_nil_of_le (by simp)]

set_option maxRecDepth 10000 in
theorem lawBack_sound (gl : Gl) : Sound Try.prog gl 7 lawBackSpec := by
  refine sound_fn (N := Try.f7.ntmps) (rs := Try.f7.results.toList) mixed tok (GLb_ok gl) Try.func7 rfl rfl rfl rfl rfl ?_ ?_ ?_
  · rintro args ⟨a, b, rfl, h⟩; simp [Try.f7]
  · rintro args ⟨a, b, rfl, h⟩; simp [lawBackSpec, Try.f7]
  · rintro args ⟨a, b, rfl, h0, h1, h2, h3⟩ bs hgl hh hro
    have hE : Env.OK ⟨Try.prog, T, GLb, bs⟩ := ⟨tok, by rw [hgl]; exact GLb_ok gl⟩
    simp [lawBackSpec, worksSpec, Try.f7, and_assoc]
    refine ⟨by split <;> omega, by split <;> omega, by split <;> omega, by split <;> omega, by rfl, ?_⟩
    obtain ⟨m, hm, hm1, hm2⟩ : ∃ m : Nat, (if 60 < (a.length : Int) then 60 else (a.length : Int)) = m ∧ m ≤ 60 ∧ m ≤ a.length := by
      split
      · exact ⟨60, rfl, by omega, by omega⟩
      · exact ⟨a.length, rfl, by omega, by omega⟩
    obtain ⟨n, hn, hn1, hn2⟩ : ∃ m : Nat, (if 60 < (b.length : Int) then 60 else (b.length : Int)) = m ∧ m ≤ 60 ∧ m ≤ b.length := by
      split
      · exact ⟨60, rfl, by omega, by omega⟩
      · exact ⟨b.length, rfl, by omega, by omega⟩
    rw [hm, hn]
    simp only [Int.toNat_natCast]
    have hA : ∀ x ∈ a.take m, I64 x := fun x hx => h0 x (List.mem_of_mem_take hx)
    have hB : ∀ x ∈ b.take n, I64 x := fun x hx => h1 x (List.mem_of_mem_take hx)
    have hla : (a.take m).length = m := by simp; omega
    have hlb : (b.take n).length = n := by simp; omega
    generalize a.take m = A at *
    generalize b.take n = B at *
    clear hm hm2 hn hn2
    subst hla
    subst hlb
    refine AWP.rounds (fun k => k ≤ A.length) (backS1 A B) (fun k => A.length - k) 0 (by omega) ?_ ?_
    · refine Weak.ren [none] (baseOK.nil hh) (by simp) (by simp) ?_
      simp [backS1]
    · intro k hk
      refine wpc_ok hE mixed _ _ _ ?_
      rcases Nat.lt_or_ge k A.length with h | h
      · have hx : I64 A[k] := hA _ (List.getElem_mem h)
        have w1 : IntKind.i64.wrap ((k : Int) + 1) = k + 1 := wrap64 _ (by omega) (by omega)
        have ht := norm_take h
        have hhd : (ints .i64 (A.drop k)).head?.getD C.nilf = C.int .i64 A[k] := by rw [List.drop_eq_getElem_cons h]; rfl
        have hP : ((A.map normI).take k).length = k := by simp; omega
        have hsg := seg_last hP A[k] 65533
        generalize hQ : (A.map normI).take k = Q at *
        simp [backS1, checkSpec, and_assoc, h, hx, hhd, w1, hQ, hsg]
        refine ⟨by omega, by omega, by omega, by omega, fun hc => ⟨by omega, by omega, ?_⟩, fun hc => ?_⟩
        · have hn : normI A[k] = 65533 := by unfold normI; rw [hc]; rfl
          refine Next.mk (k + 1) (by omega) (by omega) (Weak.ren [some 0] (baseOK.nil hh) (by simp) ?_ ?_)
          · simp [ht, hn]
          · simp
        · have hn : normI A[k] = A[k] := by unfold normI; rw [hc]; rfl
          refine Next.mk (k + 1) (by omega) (by omega) (Weak.ren [some 0] (baseOK.nil hh) (by simp) ?_ ?_)
          · simp [ht, hn]
          · simp
      · have : k = A.length := by omega
        subst this
        have hfull : (A.map normI).take A.length = A.map normI := List.take_of_length_le (by simp)
        simp [backS1, hfull]
        refine AWP.rounds (fun k => k ≤ B.length) (backS2 A B) (fun k => B.length - k) 0 (by omega) ?_ ?_
        · refine Weak.ren [some 0, none] (baseOK.nil hh) (by simp) (by simp) ?_
          simp [backS2]
        · intro k hk
          refine wpc_ok hE mixed _ _ _ ?_
          rcases Nat.lt_or_ge k B.length with h | h
          · have hx : I64 B[k] := hB _ (List.getElem_mem h)
            have w1 : IntKind.i64.wrap ((k : Int) + 1) = k + 1 := wrap64 _ (by omega) (by omega)
            have ht := norm_take h
            have hhd : (ints .i64 (B.drop k)).head?.getD C.nilf = C.int .i64 B[k] := by rw [List.drop_eq_getElem_cons h]; rfl
            have hP : ((B.map normI).take k).length = k := by simp; omega
            have hsg := seg_last hP B[k] 65533
            generalize hQ : (B.map normI).take k = Q at *
            simp [backS2, checkSpec, and_assoc, h, hx, hhd, w1, hQ, hsg]
            refine ⟨by omega, by omega, by omega, by omega, fun hc => ⟨by omega, by omega, ?_⟩, fun hc => ?_⟩
            · have hn : normI B[k] = 65533 := by unfold normI; rw [hc]; rfl
              refine Next.mk (k + 1) (by omega) (by omega) (Weak.ren [some 0, some 1] (baseOK.nil hh) (by simp) ?_ ?_)
              · simp [ht, hn]
              · simp
            · have hn : normI B[k] = B[k] := by unfold normI; rw [hc]; rfl
              refine Next.mk (k + 1) (by omega) (by omega) (Weak.ren [some 0, some 1] (baseOK.nil hh) (by simp) ?_ ?_)
              · simp [ht, hn]
              · simp
          · have : k = B.length := by omega
            subst this
            have hfull2 : (B.map normI).take B.length = B.map normI := List.take_of_length_le (by simp)
            have ta := textF_len A
            have tb := textF_len B
            simp [backS2, hfull2, textSpec, isSpec, intsSpec, and_assoc, textF_codes, textF_same]
            exact ⟨hA, by omega, by omega, by omega, hB, by omega, by omega, by omega, hA, by omega, hB, by omega, by omega, by omega⟩
end Fen
