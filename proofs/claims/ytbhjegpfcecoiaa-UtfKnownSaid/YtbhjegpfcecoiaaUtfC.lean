/- A part of the proof; no statement is proved here: UtfQ, UtfR, UtfS. -/
import Derived.Test.YtbhjegpfcecoiaaUtfB
import Derived.Test.YtbhjegpfcecoiaaBld

set_option linter.unusedVariables false
set_option linter.unusedSimpArgs false

namespace Fen
open Go Go.Proofs

def GRt : Specs := [(9, putSpec)]
@[simp] theorem GRt_9 : GRt.find 9 = some putSpec := rfl
theorem GRt_ok (gl : Gl) : SpecsOK Try.prog gl GRt := .cons (rput_sound gl) (.nil _ _)

def rtextS (l : List Int) (k : Nat) : St := ⟨19, [(0, .val (.sl l.length (ints .i64 l))), (3, .val (.str (textF (l.take k)))), (4, .val (.int .i64 k))], []⟩

theorem textF_take {l : List Int} {k : Nat} (h : k < l.length) : textF (l.take (k + 1)) = textF (l.take k) ++ bytesS (putI l[k]) := by
  rw [List.take_add_one, List.getElem?_eq_getElem h, textF_app]; simp [textF]

set_option maxRecDepth 10000 in
theorem rtext_sound (gl : Gl) : Sound Try.prog gl 24 textSpec := by
  refine sound_fn (N := Try.f24.ntmps) (rs := Try.f24.results.toList) mixed tok (GRt_ok gl) Try.func24 rfl rfl rfl rfl rfl ?_ ?_ ?_
  · rintro args ⟨l, rfl, h0, h1⟩; simp [Try.f24]
  · rintro args ⟨l, rfl, h0, h1⟩; simp [textSpec, Try.f24]
  · rintro args ⟨l, rfl, h0, h1⟩ bs hgl hh hro
    have hE : Env.OK ⟨Try.prog, T, GRt, bs⟩ := ⟨tok, by rw [hgl]; exact GRt_ok gl⟩
    simp [textSpec, Try.f24, and_assoc]
    refine AWP.rounds (fun k => k ≤ l.length) (rtextS l) (fun k => l.length - k) 0 (by omega) ?_ ?_
    · refine Weak.keep ?_
      simp [rtextS, textF]
    · intro k hk
      refine wpc_ok hE mixed _ _ _ ?_
      rcases Nat.lt_or_ge k l.length with h | h
      · have hx : I64 l[k] := h0 _ (List.getElem_mem h)
        have w1 : IntKind.i64.wrap ((k : Int) + 1) = k + 1 := wrap64 _ (by omega) (by omega)
        have ht := textF_take h
        have hl1 := textF_len (l.take k)
        have hl2 := (putI_len1 l[k])
        have hl3 : (bytesS (putI l[k])).length = (putI l[k]).length := by simp [bytesS]
        have hl4 : (l.take k).length = k := by simp; omega
        have hhd : (ints .i64 (l.drop k)).head?.getD C.nilf = C.int .i64 l[k] := by rw [List.drop_eq_getElem_cons h]; rfl
        simp [rtextS, putSpec, and_assoc, h, hx, hhd, w1]
        refine ⟨by omega, by omega, Next.mk (k + 1) (by omega) (by omega) (Weak.keep ?_)⟩
        simp [rtextS, ht]
      · have : k = l.length := by omega
        subst this
        simp [rtextS]

def lawPutsSpec : Spec := { pre := fun args => ∃ (cp : Int) (l : List Int), args = [.c (.int .i64 cp), intsV l] ∧ I64 cp ∧ (∀ x ∈ l, I64 x) ∧ l.length ≤ 9223372036854775807, res := fun _ => .one (.val (.c (.bool true))) }

def GLq : Specs := [(21, checkSpec), (22, checkSpec), (19, putSpec), (9, putSpec), (23, textSpec), (24, textSpec), (17, worksSpec)]
@[simp] theorem GLq_21 : GLq.find 21 = some checkSpec := rfl
@[simp] theorem GLq_22 : GLq.find 22 = some checkSpec := rfl
@[simp] theorem GLq_19 : GLq.find 19 = some putSpec := rfl
@[simp] theorem GLq_9 : GLq.find 9 = some putSpec := rfl
@[simp] theorem GLq_23 : GLq.find 23 = some textSpec := rfl
@[simp] theorem GLq_24 : GLq.find 24 = some textSpec := rfl
@[simp] theorem GLq_17 : GLq.find 17 = some worksSpec := rfl
theorem GLq_ok (gl : Gl) : SpecsOK Try.prog gl GLq := .cons (check_sound gl) (.cons (rcheck_sound gl) (.cons (put_sound gl) (.cons (rput_sound gl) (.cons (text_sound gl) (.cons (rtext_sound gl) (.cons (works_sound gl) (.nil _ _)))))))

set_option maxRecDepth 10000 in
theorem lawPuts_sound (gl : Gl) : Sound Try.prog gl 6 lawPutsSpec := by
  refine sound_fn (N := Try.f6.ntmps) (rs := Try.f6.results.toList) mixed tok (GLq_ok gl) Try.func6 rfl rfl rfl rfl rfl ?_ ?_ ?_
  · rintro args ⟨cp, l, rfl, h0, h1, h2⟩; simp [Try.f6]
  · rintro args ⟨cp, l, rfl, h0, h1, h2⟩; simp [lawPutsSpec, Try.f6]
  · rintro args ⟨cp, l, rfl, h0, h1, h2⟩ bs hgl hh hro
    have hE : Env.OK ⟨Try.prog, T, GLq, bs⟩ := ⟨tok, by rw [hgl]; exact GLq_ok gl⟩
    have hz1 : I64 (IntKind.i64.wrap ((IntKind.u64.wrap cp).tmod 1179648)) := by rw [IntKind.wrap_i64]; unfold I64; omega
    have hz2 : I64 (IntKind.i64.wrap ((IntKind.u64.wrap cp).tmod 4096)) := by rw [IntKind.wrap_i64]; unfold I64; omega
    simp [lawPutsSpec, Try.f6, and_assoc]
    refine ⟨by split <;> omega, by split <;> omega, ?_⟩
    obtain ⟨m, hm, hm1, hm2⟩ : ∃ m : Nat, (if 100 < (l.length : Int) then 100 else (l.length : Int)) = m ∧ m ≤ 100 ∧ m ≤ l.length := by
      split
      · exact ⟨100, rfl, by omega, by omega⟩
      · exact ⟨l.length, rfl, by omega, by omega⟩
    rw [hm]
    simp only [Int.toNat_natCast]
    have hL : ∀ x ∈ l.take m, I64 x := fun x hx => h1 x (List.mem_of_mem_take hx)
    have hl : (l.take m).length = m := by simp; omega
    generalize l.take m = L at *
    clear hm hm2
    subst hl
    have tl := textF_len L
    generalize IntKind.i64.wrap ((IntKind.u64.wrap cp).tmod 1179648) = z1 at *
    generalize IntKind.i64.wrap ((IntKind.u64.wrap cp).tmod 4096) = z2 at *
    refine AWP.unroll hE mixed 4 ?_
    simp [checkSpec, putSpec, textSpec, worksSpec, and_assoc, h0, hz1, hz2]
    exact ⟨hL, by omega⟩
end Fen

namespace Fen
open Go Go.Proofs

theorem textF_codes (l : List Int) : codesF (textF l) = l.map normI := by
  induction l with
  | nil => rfl
  | cons n l ih => simp only [textF, put_codes_app, ih, List.map_cons]

def textE : List Int → List UInt8
  | [] => []
  | n :: l => bytesS (putE n) ++ textE l
theorem textF_norm (l : List Int) : textF l = textE (l.map normI) := by
  induction l with
  | nil => rfl
  | cons n l ih => simp only [textF, textE, List.map_cons, ih, putI_eq]

theorem textF_same (a b : List Int) : (textF a == textF b) = (a.map normI == b.map normI) := by
  rw [Bool.eq_iff_iff]
  simp only [beq_iff_eq]
  constructor
  · intro h; rw [← textF_codes, ← textF_codes, h]
  · intro h; rw [textF_norm, textF_norm, h]

def lawBackSpec : Spec := { pre := fun args => ∃ a b : List Int, args = [intsV a, intsV b] ∧ (∀ x ∈ a, I64 x) ∧ (∀ x ∈ b, I64 x) ∧ a.length ≤ 9223372036854775807 ∧ b.length ≤ 9223372036854775807, res := fun _ => .one (.val (.c (.bool true))) }

def GLb : Specs := [(21, checkSpec), (23, textSpec), (18, isSpec), (12, intsSpec), (17, worksSpec)]
@[simp] theorem GLb_21 : GLb.find 21 = some checkSpec := rfl
@[simp] theorem GLb_23 : GLb.find 23 = some textSpec := rfl
@[simp] theorem GLb_18 : GLb.find 18 = some isSpec := rfl
@[simp] theorem GLb_12 : GLb.find 12 = some intsSpec := rfl
@[simp] theorem GLb_17 : GLb.find 17 = some worksSpec := rfl
theorem GLb_ok (gl : Gl) : SpecsOK Try.prog gl GLb := .cons (check_sound gl) (.cons (text_sound gl) (.cons (is_sound gl) (.cons (ints_sound gl) (.cons (works_sound gl) (.nil _ _)))))

def backS1 (a b : List Int) (k : Nat) : St :=
  ⟨86, [(0, .val (.sl a.length (ints .i64 a))), (1, .val (.sl b.length (ints .i64 b))), (5, .ref 0 0), (6, .nil), (7, .val (.int .i64 k))], [.sl 3 0 true 1 k (ints .i64 ((a.map normI).take k))]⟩
def backS2 (a b : List Int) (k : Nat) : St :=
  ⟨86, [(0, .val (.sl a.length (ints .i64 a))), (1, .val (.sl b.length (ints .i64 b))), (5, .ref 0 0), (6, .ref 1 0), (8, .val (.int .i64 k))],
    [.sl 3 0 true 1 a.length (ints .i64 (a.map normI)), .sl 3 0 true 1 k (ints .i64 ((b.map normI).take k))]⟩

theorem norm_take {l : List Int} {k : Nat} (h : k < l.length) : (l.map normI).take (k + 1) = (l.map normI).take k ++ [normI l[k]] := by
  rw [List.take_add_one, List.getElem?_map, List.getElem?_eq_getElem h]; rfl
theorem seg_last {P : List Int} {k : Nat} (h : P.length = k) (x y : Int) : List.take k (P ++ [x]) ++ y :: List.drop (k + 1) (P ++ [x]) = P ++ [y] := by
  subst h
  rw [List.take_left' rfl, List.drop_eq_nil_of_le (by simp)]

set_option maxRecDepth 10000 in
theorem lawBack_sound (gl : Gl) : Sound Try.prog gl 7 lawBackSpec := by
  refine sound_fn (N := Try.f7.ntmps) (rs := Try.f7.results.toList) mixed tok (GLb_ok gl) Try.func7 rfl rfl rfl rfl rfl ?_ ?_ ?_
  · rintro args ⟨a, b, rfl, h⟩; simp [Try.f7]
  · rintro args ⟨a, b, rfl, h⟩; simp [lawBackSpec, Try.f7]
  · rintro args ⟨a, b, rfl, h0, h1, h2, h3⟩ bs hgl hh hro
    have hE : Env.OK ⟨Try.prog, T, GLb, bs⟩ := ⟨tok, by rw [hgl]; exact GLb_ok gl⟩
    simp [lawBackSpec, worksSpec, Try.f7, and_assoc]
    refine ⟨by split <;> omega, by split <;> omega, by split <;> omega, by split <;> omega, by rfl, ?_⟩
    obtain ⟨m, hm, hm1, hm2⟩ : ∃ m : Nat, (if 60 < (a.length : Int) then 60 else (a.length : Int)) = m ∧ m ≤ 60 ∧ m ≤ a.length := by
      split
      · exact ⟨60, rfl, by omega, by omega⟩
      · exact ⟨a.length, rfl, by omega, by omega⟩
    obtain ⟨n, hn, hn1, hn2⟩ : ∃ m : Nat, (if 60 < (b.length : Int) then 60 else (b.length : Int)) = m ∧ m ≤ 60 ∧ m ≤ b.length := by
      split
      · exact ⟨60, rfl, by omega, by omega⟩
      · exact ⟨b.length, rfl, by omega, by omega⟩
    rw [hm, hn]
    simp only [Int.toNat_natCast]
    have hA : ∀ x ∈ a.take m, I64 x := fun x hx => h0 x (List.mem_of_mem_take hx)
    have hB : ∀ x ∈ b.take n, I64 x := fun x hx => h1 x (List.mem_of_mem_take hx)
    have hla : (a.take m).length = m := by simp; omega
    have hlb : (b.take n).length = n := by simp; omega
    generalize a.take m = A at *
    generalize b.take n = B at *
    clear hm hm2 hn hn2
    subst hla
    subst hlb
    refine AWP.rounds (fun k => k ≤ A.length) (backS1 A B) (fun k => A.length - k) 0 (by omega) ?_ ?_
    · refine Weak.ren [none] (baseOK.nil hh) (by simp) (by simp) ?_
      simp [backS1]
    · intro k hk
      refine wpc_ok hE mixed _ _ _ ?_
      rcases Nat.lt_or_ge k A.length with h | h
      · have hx : I64 A[k] := hA _ (List.getElem_mem h)
        have w1 : IntKind.i64.wrap ((k : Int) + 1) = k + 1 := wrap64 _ (by omega) (by omega)
        have ht := norm_take h
        have hhd : (ints .i64 (A.drop k)).head?.getD C.nilf = C.int .i64 A[k] := by rw [List.drop_eq_getElem_cons h]; rfl
        have hP : ((A.map normI).take k).length = k := by simp; omega
        have hsg := seg_last hP A[k] 65533
        generalize hQ : (A.map normI).take k = Q at *
        simp [backS1, checkSpec, and_assoc, h, hx, hhd, w1, hQ, hsg]
        refine ⟨by omega, by omega, by omega, by omega, fun hc => ⟨by omega, by omega, ?_⟩, fun hc => ?_⟩
        · have hn : normI A[k] = 65533 := by unfold normI; rw [hc]; rfl
          refine Next.mk (k + 1) (by omega) (by omega) (Weak.ren [some 0] (baseOK.nil hh) (by simp) ?_ ?_)
          · simp [ht, hn]
          · simp
        · have hn : normI A[k] = A[k] := by unfold normI; rw [hc]; rfl
          refine Next.mk (k + 1) (by omega) (by omega) (Weak.ren [some 0] (baseOK.nil hh) (by simp) ?_ ?_)
          · simp [ht, hn]
          · simp
      · have : k = A.length := by omega
        subst this
        have hfull : (A.map normI).take A.length = A.map normI := List.take_of_length_le (by simp)
        simp [backS1, hfull]
        refine AWP.rounds (fun k => k ≤ B.length) (backS2 A B) (fun k => B.length - k) 0 (by omega) ?_ ?_
        · refine Weak.ren [some 0, none] (baseOK.nil hh) (by simp) (by simp) ?_
          simp [backS2]
        · intro k hk
          refine wpc_ok hE mixed _ _ _ ?_
          rcases Nat.lt_or_ge k B.length with h | h
          · have hx : I64 B[k] := hB _ (List.getElem_mem h)
            have w1 : IntKind.i64.wrap ((k : Int) + 1) = k + 1 := wrap64 _ (by omega) (by omega)
            have ht := norm_take h
            have hhd : (ints .i64 (B.drop k)).head?.getD C.nilf = C.int .i64 B[k] := by rw [List.drop_eq_getElem_cons h]; rfl
            have hP : ((B.map normI).take k).length = k := by simp; omega
            have hsg := seg_last hP B[k] 65533
            generalize hQ : (B.map normI).take k = Q at *
            simp [backS2, checkSpec, and_assoc, h, hx, hhd, w1, hQ, hsg]
            refine ⟨by omega, by omega, by omega, by omega, fun hc => ⟨by omega, by omega, ?_⟩, fun hc => ?_⟩
            · have hn : normI B[k] = 65533 := by unfold normI; rw [hc]; rfl
              refine Next.mk (k + 1) (by omega) (by omega) (Weak.ren [some 0, some 1] (baseOK.nil hh) (by simp) ?_ ?_)
              · simp [ht, hn]
              · simp
            · have hn : normI B[k] = B[k] := by unfold normI; rw [hc]; rfl
              refine Next.mk (k + 1) (by omega) (by omega) (Weak.ren [some 0, some 1] (baseOK.nil hh) (by simp) ?_ ?_)
              · simp [ht, hn]
              · simp
          · have : k = B.length := by omega
            subst this
            have hfull2 : (B.map normI).take B.length = B.map normI := List.take_of_length_le (by simp)
            have ta := textF_len A
            have tb := textF_len B
            simp [backS2, hfull2, textSpec, isSpec, intsSpec, and_assoc, textF_codes, textF_same]
            exact ⟨hA, by omega, by omega, by omega, hB, by omega, by omega, by omega, hA, by omega, hB, by omega, by omega, by omega⟩
end Fen

namespace Fen
open Go Go.Proofs

def lawKnownSpec : Spec := { pre := fun args => args = [], res := fun _ => .one (.val (.c (.bool true))) }

def GLk : Specs := [(19, putSpec), (21, checkSpec), (18, isSpec), (10, rightSpec), (17, worksSpec), (25, stepsSpec), (20, codesSpec), (23, textSpec)]
@[simp] theorem GLk_19 : GLk.find 19 = some putSpec := rfl
@[simp] theorem GLk_21 : GLk.find 21 = some checkSpec := rfl
@[simp] theorem GLk_18 : GLk.find 18 = some isSpec := rfl
@[simp] theorem GLk_10 : GLk.find 10 = some rightSpec := rfl
@[simp] theorem GLk_17 : GLk.find 17 = some worksSpec := rfl
@[simp] theorem GLk_25 : GLk.find 25 = some stepsSpec := rfl
@[simp] theorem GLk_20 : GLk.find 20 = some codesSpec := rfl
@[simp] theorem GLk_23 : GLk.find 23 = some textSpec := rfl
theorem GLk_ok (gl : Gl) : SpecsOK Try.prog gl GLk := .cons (put_sound gl) (.cons (check_sound gl) (.cons (is_sound gl) (.cons (right_sound gl) (.cons (works_sound gl) (.cons (steps_sound gl) (.cons (codes_sound gl) (.cons (text_sound gl) (.nil _ _))))))))

def knownS (i : Nat) : St := ⟨110, [(41, .val (.int .i64 i)), (40, .agg [.str [224, 159], .str [237, 160], .str [240, 143], .str [244, 144], .str [193], .str [245], .str [128], .str [97]])], []⟩

set_option maxHeartbeats 1000000 in
set_option maxRecDepth 20000 in
theorem lawKnown_sound (gl : Gl) : Sound Try.prog gl 8 lawKnownSpec := by
  refine sound_fn (N := Try.f8.ntmps) (rs := Try.f8.results.toList) mixed tok (GLk_ok gl) Try.func8 rfl rfl rfl rfl rfl ?_ ?_ ?_
  · rintro args rfl; simp [Try.f8]
  · rintro args rfl; simp [lawKnownSpec, Try.f8]
  · rintro args rfl bs hgl hh hro
    have hE : Env.OK ⟨Try.prog, T, GLk, bs⟩ := ⟨tok, by rw [hgl]; exact GLk_ok gl⟩
    simp [lawKnownSpec, Try.f8, and_assoc]
    have p0 : bytesS (putI 0) = [0] := by decide
    have p1 : bytesS (putI 127) = [127] := by decide
    have p2 : bytesS (putI 128) = [194, 128] := by decide
    have p3 : bytesS (putI 2047) = [223, 191] := by decide
    have p4 : bytesS (putI 2048) = [224, 160, 128] := by decide
    have p5 : bytesS (putI 65535) = [239, 191, 191] := by decide
    have p6 : bytesS (putI 65536) = [240, 144, 128, 128] := by decide
    have p7 : bytesS (putI 1114111) = [244, 143, 191, 191] := by decide
    have c0 : codesF [0] = [0] := by rw [← p0, put_codes]; decide
    have c1 : codesF [127] = [127] := by rw [← p1, put_codes]; decide
    have c2 : codesF [194, 128] = [128] := by rw [← p2, put_codes]; decide
    have c3 : codesF [223, 191] = [2047] := by rw [← p3, put_codes]; decide
    have c4 : codesF [224, 160, 128] = [2048] := by rw [← p4, put_codes]; decide
    have c5 : codesF [239, 191, 191] = [65535] := by rw [← p5, put_codes]; decide
    have c6 : codesF [240, 144, 128, 128] = [65536] := by rw [← p6, put_codes]; decide
    have c7 : codesF [244, 143, 191, 191] = [1114111] := by rw [← p7, put_codes]; decide
    have k0 : checkF 0 = true := by decide
    have k1 : checkF 127 = true := by decide
    have k2 : checkF 128 = true := by decide
    have k3 : checkF 2047 = true := by decide
    have k4 : checkF 2048 = true := by decide
    have k5 : checkF 65535 = true := by decide
    have k6 : checkF 65536 = true := by decide
    have k7 : checkF 1114111 = true := by decide
    refine AWP.unroll hE mixed 9 ?_
    simp [putSpec, checkSpec, isSpec, and_assoc, I64, p0, p1, p2, p3, p4, p5, p6, p7, c0, c1, c2, c3, c4, c5, c6, c7, k0, k1, k2, k3, k4, k5, k6, k7]
    repeat (refine ⟨by rfl, ?_⟩)
    have r0 : rightF [224, 159] = false := by decide
    have r1 : rightF [237, 160] = false := by decide
    have r2 : rightF [240, 143] = false := by decide
    have r3 : rightF [244, 144] = false := by decide
    have r4 : rightF [193] = false := by decide
    have r5 : rightF [245] = false := by decide
    have r6 : rightF [128] = false := by decide
    have r7 : rightF [97] = false := by decide
    have r8 : rightF [] = true := by decide
    have r9 : rightF [237, 159] = true := by decide
    have ra : rightF [240, 144, 128] = true := by decide
    have rb : rightF [194] = true := by decide
    have rc : rightF [194, 128] = false := by decide
    have x0 : checkF (-1) = false := by decide
    have x1 : checkF 55296 = false := by decide
    have x2 : checkF 57343 = false := by decide
    have x3 : checkF 1114112 = false := by decide
    have x4 : checkF 55295 = true := by decide
    have x5 : checkF 57344 = true := by decide
    have n0 : numsS [224, 159] = [224, 159] := by decide
    have n1 : numsS [237, 160] = [237, 160] := by decide
    have n2 : numsS [240, 143] = [240, 143] := by decide
    have n3 : numsS [244, 144] = [244, 144] := by decide
    have n4 : numsS [193] = [193] := by decide
    have n5 : numsS [245] = [245] := by decide
    have n6 : numsS [128] = [128] := by decide
    have n7 : numsS [97] = [97] := by decide
    have n8 : numsS [] = [] := by decide
    have g0 : stepF (numsS [194, 128]) 65 = ([], [65]) := by decide
    have g1 : stepF (numsS [240, 159]) 240 = ([240], [65533]) := by decide
    have d0 : codesF [] = [] := by decide
    have t0 : textF [] = [] := rfl
    have j1 : bytesS [] = [] := rfl
    have j2 : bytesS [240] = [240] := rfl
    clear p0 p1 p2 p3 p4 p5 p6 p7 c0 c1 c2 c3 c4 c5 c6 c7 k0 k1 k2 k3 k4 k5 k6 k7
    refine AWP.rounds (fun i => i ≤ 8) knownS (fun i => 8 - i) 0 (by omega) (Weak.ren [] (baseOK.nil hh) (by simp) (by simp) (by simp [knownS])) fun i hi => ?_
    refine wpc_ok hE mixed _ _ _ ?_
    obtain rfl | rfl | rfl | rfl | rfl | rfl | rfl | rfl | rfl : i = 0 ∨ i = 1 ∨ i = 2 ∨ i = 3 ∨ i = 4 ∨ i = 5 ∨ i = 6 ∨ i = 7 ∨ i = 8 := by omega
    · simp [knownS, rightSpec, r0, n0]
      exact ⟨⟨_, ⟨rfl, rfl⟩, by simp, by simp⟩, Next.mk 1 (by omega) (by omega) (Weak.keep (by simp [knownS]))⟩
    · simp [knownS, rightSpec, r1, n1]
      exact ⟨⟨_, ⟨rfl, rfl⟩, by simp, by simp⟩, Next.mk 2 (by omega) (by omega) (Weak.keep (by simp [knownS]))⟩
    · simp [knownS, rightSpec, r2, n2]
      exact ⟨⟨_, ⟨rfl, rfl⟩, by simp, by simp⟩, Next.mk 3 (by omega) (by omega) (Weak.keep (by simp [knownS]))⟩
    · simp [knownS, rightSpec, r3, n3]
      exact ⟨⟨_, ⟨rfl, rfl⟩, by simp, by simp⟩, Next.mk 4 (by omega) (by omega) (Weak.keep (by simp [knownS]))⟩
    · simp [knownS, rightSpec, r4, n4]
      exact ⟨⟨_, ⟨rfl, rfl⟩, by simp, by simp⟩, Next.mk 5 (by omega) (by omega) (Weak.keep (by simp [knownS]))⟩
    · simp [knownS, rightSpec, r5, n5]
      exact ⟨⟨_, ⟨rfl, rfl⟩, by simp, by simp⟩, Next.mk 6 (by omega) (by omega) (Weak.keep (by simp [knownS]))⟩
    · simp [knownS, rightSpec, r6, n6]
      exact ⟨⟨_, ⟨rfl, rfl⟩, by simp, by simp⟩, Next.mk 7 (by omega) (by omega) (Weak.keep (by simp [knownS]))⟩
    · simp [knownS, rightSpec, r7, n7]
      exact ⟨⟨_, ⟨rfl, rfl⟩, by simp, by simp⟩, Next.mk 8 (by omega) (by omega) (Weak.keep (by simp [knownS]))⟩
    · simp [knownS, checkSpec, rightSpec, worksSpec, stepsSpec, codesSpec, textSpec, and_assoc, I64, r8, r9, ra, rb, rc, x0, x1, x2, x3, x4, x5, n8, g0, g1, d0, t0, j1, j2]
end Fen
