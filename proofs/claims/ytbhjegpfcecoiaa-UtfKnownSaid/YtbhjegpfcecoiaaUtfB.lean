/- A part of the proof; no statement is proved here: UtfM, UtfN, UtfO, UtfP. -/
import Derived.Test.YtbhjegpfcecoiaaUtfA

set_option linter.unusedVariables false
set_option linter.unusedSimpArgs false

namespace Fen
open Go Go.Proofs

def lawStepsSpec : Spec := { pre := fun args => ∃ (p : List Int) (cp n b : Int), args = [bytesV p, .c (.int .i64 cp), .c (.int .u8 n), .c (.int .u8 b)] ∧ Bytes p ∧ p.length ≤ 9223372036854775807 ∧ I64 cp ∧ (0 ≤ n ∧ n < 256) ∧ (0 ≤ b ∧ b < 256), res := fun _ => .one (.val (.c (.bool true))) }

def GLs : Specs := [(9, putSpec), (10, rightSpec), (11, rrightSpec), (13, flushSpec), (14, rflushSpec), (12, intsSpec), (15, stepSpec), (16, rstepSpec), (17, worksSpec)]
@[simp] theorem GLs_9 : GLs.find 9 = some putSpec := rfl
@[simp] theorem GLs_10 : GLs.find 10 = some rightSpec := rfl
@[simp] theorem GLs_11 : GLs.find 11 = some rrightSpec := rfl
@[simp] theorem GLs_13 : GLs.find 13 = some flushSpec := rfl
@[simp] theorem GLs_14 : GLs.find 14 = some rflushSpec := rfl
@[simp] theorem GLs_12 : GLs.find 12 = some intsSpec := rfl
@[simp] theorem GLs_15 : GLs.find 15 = some stepSpec := rfl
@[simp] theorem GLs_16 : GLs.find 16 = some rstepSpec := rfl
@[simp] theorem GLs_17 : GLs.find 17 = some worksSpec := rfl
theorem GLs_ok (gl : Gl) : SpecsOK Try.prog gl GLs := .cons (rput_sound gl) (.cons (right_sound gl) (.cons (rright_sound gl) (.cons (flush_sound gl) (.cons (rflush_sound gl) (.cons (ints_sound gl) (.cons (step_sound gl) (.cons (rstep_sound gl) (.cons (works_sound gl) (.nil _ _)))))))))

theorem wrapU64 (n : Int) : IntKind.u64.wrap n = n % 18446744073709551616 := by simp [IntKind.wrap, IntKind.bits, IntKind.signed]

theorem putI_len (n : Int) : (putI n).length ≤ 4 := by unfold putI; simp only; (repeat' split) <;> simp

def lawStepsS (b : Int) (p q : List Int) (i : Nat) : St :=
  ⟨93, [(3, .val (.int .u8 b)), (39, .agg [.sl p.length (ints .u8 p), .sl q.length (ints .u8 q)]), (40, .val (.int .i64 i))], []⟩

def lawStepsT (b : Int) (p q r : List Int) (i : Nat) (j : Nat) : St :=
  ⟨93, [(3, .val (.int .u8 b)), (39, .agg [.sl p.length (ints .u8 p), .sl q.length (ints .u8 q)]), (40, .val (.int .i64 i)), (11, .val (.sl r.length (ints .u8 r))),
    (63, .agg (ints .u8 [b, IntKind.u8.wrap (128 + b.tmod 64), IntKind.u8.wrap (192 + b.tmod 64)])), (64, .val (.int .i64 j))], []⟩

set_option maxRecDepth 10000 in
theorem lawSteps_sound (gl : Gl) : Sound Try.prog gl 3 lawStepsSpec := by
  refine sound_fn (N := Try.f3.ntmps) (rs := Try.f3.results.toList) mixed tok (GLs_ok gl) Try.func3 rfl rfl rfl rfl rfl ?_ ?_ ?_
  · rintro args ⟨p, cp, n, b, rfl, h0, h1, h2, h3, h4⟩; simp [Try.f3]
  · rintro args ⟨p, cp, n, b, rfl, h0, h1, h2, h3, h4⟩; simp [lawStepsSpec, Try.f3]
  · rintro args ⟨p, cp, n, b, rfl, h0, h1, h2, h3, h4⟩ bs hgl hh hro
    have hE : Env.OK ⟨Try.prog, T, GLs, bs⟩ := ⟨tok, by rw [hgl]; exact GLs_ok gl⟩
    simp [lawStepsSpec, putSpec, Try.f3, and_assoc]
    have hz : I64 (IntKind.i64.wrap ((IntKind.u64.wrap cp).tmod 1114112)) := by
      rw [IntKind.wrap_i64]; unfold I64; omega
    generalize IntKind.i64.wrap ((IntKind.u64.wrap cp).tmod 1114112) = z at *
    have hq := numsS_bytes (bytesS (putI z))
    have hql : (bytesS (putI z)).length ≤ 4 := by have := putI_len z; simpa [bytesS] using this
    generalize bytesS (putI z) = q at *
    have w1 : IntKind.i64.wrap ((q.length : Int) + 1) = q.length + 1 := wrap64 _ (by omega) (by omega)
    have w2 : IntKind.i64.wrap n = n := wrap64 _ (by omega) (by omega)
    have m1 : n.tmod ((q.length : Int) + 1) = n % ((q.length : Int) + 1) := Int.tmod_eq_emod_of_nonneg h3.1
    have m2 := Int.emod_nonneg n (show ((q.length : Int) + 1) ≠ 0 by omega)
    have m3 := Int.emod_lt_of_pos n (show (0 : Int) < (q.length : Int) + 1 by omega)
    rw [w1, w2, m1]
    generalize n % ((q.length : Int) + 1) = r at *
    obtain ⟨m, hm⟩ : ∃ m : Nat, (if 10 < (p.length : Int) then 10 else (p.length : Int)) = m ∧ m ≤ 10 ∧ m ≤ p.length := by
      split
      · exact ⟨10, rfl, by omega, by omega⟩
      · exact ⟨p.length, rfl, by omega, by omega⟩
    rw [hm.1]
    refine ⟨by omega, by omega, hz, by omega, by omega, m2, by omega, ?_⟩
    obtain ⟨k, rfl⟩ : ∃ k : Nat, r = k := ⟨r.toNat, by omega⟩
    simp only [Int.toNat_natCast]
    have hp1 : Bytes (p.take m) := fun x hx => h0 x (List.mem_of_mem_take hx)
    have hp2 : Bytes ((numsS q).take k) := fun x hx => hq x (List.mem_of_mem_take hx)
    have hl1 : (p.take m).length = m := by simp; omega
    have hl2 : ((numsS q).take k).length = k := by simp; omega
    have hk : k ≤ 4 := by omega
    generalize hP : p.take m = P at *
    generalize hQ : (numsS q).take k = Q at *
    clear hP hQ
    obtain ⟨hm1, hm2, hm3⟩ := hm
    clear hm1 hm3 m1 m2 m3 w1 hz
    subst hl1
    subst hl2
    refine AWP.rounds (fun i => i ≤ 2) (lawStepsS b P Q) (fun i => 2 - i) 0 (by omega) ?_ ?_
    · refine Weak.keep ?_
      simp [lawStepsS]
    · intro i hi
      refine wpc_ok hE mixed _ _ _ ?_
      have bb1 : 0 ≤ IntKind.u8.wrap (128 + b.tmod 64) ∧ IntKind.u8.wrap (128 + b.tmod 64) < 256 := by simp [IntKind.wrap, IntKind.bits, IntKind.signed]; omega
      have bb2 : 0 ≤ IntKind.u8.wrap (192 + b.tmod 64) ∧ IntKind.u8.wrap (192 + b.tmod 64) < 256 := by simp [IntKind.wrap, IntKind.bits, IntKind.signed]; omega
      have key : ∀ R : List Int, Bytes R → R.length ≤ 10 → flushF R = rflushF R ∧ rightF R = rrightF R ∧ ∀ c, 0 ≤ c ∧ c < 256 → stepF R c = rstepF R c := fun R hR _ => ⟨flush_eq hR, right_eq hR, fun c hc => step_eq hR hc⟩
      obtain rfl | rfl | rfl : i = 0 ∨ i = 1 ∨ i = 2 := by omega
      · obtain ⟨e1, e2, e3⟩ := key P hp1 (by omega)
        have s0 := e3 b h4
        have s1 := e3 (IntKind.u8.wrap (128 + b.tmod 64)) bb1
        have s2 := e3 (IntKind.u8.wrap (192 + b.tmod 64)) bb2
        have l0 := step_codes_len P b
        have l1 := step_codes_len P (IntKind.u8.wrap (128 + b.tmod 64))
        have l2 := step_codes_len P (IntKind.u8.wrap (192 + b.tmod 64))
        rw [s0] at l0
        rw [s1] at l1
        rw [s2] at l2
        have hfl : (rflushF P).length ≤ 1 := by unfold rflushF; split <;> simp
        simp [lawStepsS, rightSpec, rrightSpec, flushSpec, rflushSpec, intsSpec, and_assoc, hp1, e1, e2]
        refine ⟨by omega, by omega, ?_⟩
        refine AWP.unroll hE mixed 4 ?_
        simp [stepSpec, rstepSpec, intsSpec, and_assoc, hp1, h4, bb1, bb2, s0, s1, s2]
        refine ⟨by omega, by omega, by omega, by omega, by omega, by omega, by omega, by omega, by omega, Next.mk 1 (by omega) (by omega) (Weak.keep ?_)⟩
        simp [lawStepsS]
      · obtain ⟨e1, e2, e3⟩ := key Q hp2 (by omega)
        have s0 := e3 b h4
        have s1 := e3 (IntKind.u8.wrap (128 + b.tmod 64)) bb1
        have s2 := e3 (IntKind.u8.wrap (192 + b.tmod 64)) bb2
        have l0 := step_codes_len Q b
        have l1 := step_codes_len Q (IntKind.u8.wrap (128 + b.tmod 64))
        have l2 := step_codes_len Q (IntKind.u8.wrap (192 + b.tmod 64))
        rw [s0] at l0
        rw [s1] at l1
        rw [s2] at l2
        have hfl : (rflushF Q).length ≤ 1 := by unfold rflushF; split <;> simp
        simp [lawStepsS, rightSpec, rrightSpec, flushSpec, rflushSpec, intsSpec, and_assoc, hp2, e1, e2]
        refine ⟨by omega, by omega, ?_⟩
        refine AWP.unroll hE mixed 4 ?_
        simp [stepSpec, rstepSpec, intsSpec, and_assoc, hp2, h4, bb1, bb2, s0, s1, s2]
        refine ⟨by omega, by omega, by omega, by omega, by omega, by omega, by omega, by omega, by omega, Next.mk 2 (by omega) (by omega) (Weak.keep ?_)⟩
        simp [lawStepsS]
      · simp [lawStepsS, worksSpec]

end Fen

namespace Fen
open Go Go.Proofs

theorem right_kind {p : List Int} (h : kindF p = 1) : rightF p = true := by simp [rightF, h]

theorem step0_right (b : Int) : rightF (step0 b).1 = true := by
  unfold step0
  split
  · rfl
  · split
    · rename_i h; exact right_kind h
    · rfl

theorem step_right (p : List Int) (b : Int) : rightF (stepF p b).1 = true := by
  unfold stepF
  split
  · exact step0_right b
  · unfold stepP
    split
    · rfl
    · split
      · rename_i h; exact right_kind h
      · exact step0_right b

theorem run_right (s : List UInt8) : ∀ p, rightF p = true → rightF (runF p s).1 = true := by
  induction s with
  | nil => intro p h; exact h
  | cons b s ih => intro p _; simp only [runF]; exact ih _ (step_right p _)

theorem run_bytes (s : List UInt8) : ∀ p, Bytes p → Bytes (runF p s).1 := by
  induction s with
  | nil => intro p h; exact h
  | cons b s ih =>
    intro p h; simp only [runF]
    refine ih _ (step_bytes h ⟨by omega, ?_⟩).1
    have := b.toNat_lt; omega

theorem run_take (s : List UInt8) (i : Nat) (h : i < s.length) :
    runF [] (s.take (i + 1)) = ((stepF (runF [] (s.take i)).1 (s[i].toNat : Int)).1, (runF [] (s.take i)).2 ++ (stepF (runF [] (s.take i)).1 (s[i].toNat : Int)).2) := by
  rw [List.take_add_one, List.getElem?_eq_getElem h, runF_app]
  simp [runF]

def lawPiecesSpec : Spec := { pre := fun args => ∃ s : List UInt8, args = [.c (.str s)] ∧ s.length ≤ 9223372036854775807, res := fun _ => .one (.val (.c (.bool true))) }

def GLp : Specs := [(10, rightSpec), (13, flushSpec), (15, stepSpec), (18, isSpec), (17, worksSpec)]
@[simp] theorem GLp_10 : GLp.find 10 = some rightSpec := rfl
@[simp] theorem GLp_13 : GLp.find 13 = some flushSpec := rfl
@[simp] theorem GLp_15 : GLp.find 15 = some stepSpec := rfl
@[simp] theorem GLp_18 : GLp.find 18 = some isSpec := rfl
@[simp] theorem GLp_17 : GLp.find 17 = some worksSpec := rfl
theorem GLp_ok (gl : Gl) : SpecsOK Try.prog gl GLp := .cons (right_sound gl) (.cons (flush_sound gl) (.cons (step_sound gl) (.cons (is_sound gl) (.cons (works_sound gl) (.nil _ _)))))

def lawPiecesS (s : List UInt8) (p : List Int) (l : List Int) (i : Nat) : St :=
  ⟨58, [(0, .val (.str s)), (3, .ref 0 0), (4, .val (.sl p.length (ints .u8 p))), (5, .val (.int .i64 i))], [.sl 3 0 true 1 l.length (ints .i64 l)]⟩

set_option maxRecDepth 10000 in
theorem lawPieces_sound (gl : Gl) : Sound Try.prog gl 4 lawPiecesSpec := by
  refine sound_fn (N := Try.f4.ntmps) (rs := Try.f4.results.toList) mixed tok (GLp_ok gl) Try.func4 rfl rfl rfl rfl rfl ?_ ?_ ?_
  · rintro args ⟨s, rfl, h0⟩; simp [Try.f4]
  · rintro args ⟨s, rfl, h0⟩; simp [lawPiecesSpec, Try.f4]
  · rintro args ⟨s, rfl, h0⟩ bs hgl hh hro
    have hE : Env.OK ⟨Try.prog, T, GLp, bs⟩ := ⟨tok, by rw [hgl]; exact GLp_ok gl⟩
    simp [lawPiecesSpec, worksSpec, Try.f4, and_assoc]
    refine ⟨by split <;> omega, by split <;> omega, ?_⟩
    have ht : (s.take (if 200 < (s.length : Int) then 200 else (s.length : Int)).toNat).length ≤ 200 := by simp; split <;> omega
    generalize s.take (if 200 < (s.length : Int) then 200 else (s.length : Int)).toNat = t at *
    refine AWP.rounds (fun i => i ≤ t.length) (fun i => lawPiecesS t (runF [] (t.take i)).1 (runF [] (t.take i)).2 i) (fun i => t.length - i) 0 (by omega) ?_ ?_
    · refine Weak.ren [none] (baseOK.nil hh) (by simp) (by simp [runF]) ?_
      simp [runF, lawPiecesS]
    · intro i hi
      refine wpc_ok hE mixed _ _ _ ?_
      rcases Nat.lt_or_ge i t.length with h | h
      · have e0 := runF_len (t.take i) []
        have e1 := run_bytes (t.take i) [] Bytes.nil
        have e2 := run_right (t.take i) [] rfl
        have e3 := right_len e2
        have e4 : (t.take i).length = i := by simp; omega
        have et := run_take t i h
        have eg : t[i]?.getD 0 = t[i] := by rw [List.getElem?_eq_getElem h]; rfl
        have hc : ((t[i].toNat : Nat) : Int) < 256 := by have := t[i].toNat_lt; omega
        have ec : codesF (t.take (i + 1)) = (runF [] (t.take (i + 1))).2 ++ flushF (runF [] (t.take (i + 1))).1 := rfl
        have s1 := step_right (runF [] (t.take i)).1 (t[i].toNat : Int)
        have s2 := step_codes_len (runF [] (t.take i)).1 (t[i].toNat : Int)
        have s3 := (step_bytes e1 (b := (t[i].toNat : Int)) ⟨by omega, hc⟩).1
        have s4 := right_len s1
        have w1 : IntKind.i64.wrap ((i : Int) + 1) = i + 1 := wrap64 _ (by omega) (by omega)
        have fl : (flushF (stepF (runF [] (t.take i)).1 (t[i].toNat : Int)).1).length ≤ 1 := by unfold flushF; split <;> simp
        rw [e4] at e0
        obtain ⟨P, hP⟩ : ∃ P, runF [] (t.take i) = P := ⟨_, rfl⟩
        rw [hP] at et e0 e1 e2 e3 s1 s2 s3 s4 fl
        obtain ⟨q, hq⟩ : ∃ q, stepF P.1 (t[i].toNat : Int) = q := ⟨_, rfl⟩
        rw [hq] at et s1 s2 s3 s4 fl
        rw [et] at ec
        simp only at ec
        have m1 : min (i + 1) t.length = i + 1 := by omega
        simp [lawPiecesS, stepSpec, rightSpec, flushSpec, isSpec, and_assoc, hP, eg, hq, e1, h, hc, s1, s3, w1, m1, ec]
        refine ⟨by omega, by omega, by omega, by omega, by omega, by omega, fun _ _ => ⟨by omega, by omega, by omega, by omega, by omega, by omega, by omega, by omega, by omega, by omega, by rfl, ?_⟩⟩
        refine Next.mk (i + 1) (by omega) (by omega) (Weak.ren [some 0] (baseOK.nil hh) (by simp) ?_ ?_)
        · simp [et]
        · simp [et]
      · have : i = t.length := by omega
        subst this
        simp [lawPiecesS]
end Fen

namespace Fen
open Go Go.Proofs

/-! what encodes is decoded -/

def normI (n : Int) : Int := if checkF n then n else 65533
def putE (cp : Int) : List Int :=
  if cp < 128 then [cp] else if cp < 2048 then [192 + cp / 64, 128 + cp % 64] else if cp < 65536 then [224 + cp / 4096, 128 + cp / 64 % 64, 128 + cp % 64]
  else [240 + cp / 262144, 128 + cp / 4096 % 64, 128 + cp / 64 % 64, 128 + cp % 64]
theorem putI_eq (n : Int) : putI n = putE (normI n) := rfl
def CP (n : Int) : Prop := 0 ≤ n ∧ n ≤ 1114111 ∧ (n < 55296 ∨ 57343 < n)
theorem normI_cp (n : Int) : CP (normI n) := by
  unfold normI CP
  split
  · rename_i h; exact (checkF_iff n).1 h
  · omega
theorem normI_id {n : Int} (h : CP n) : normI n = n := by unfold normI; rw [if_pos ((checkF_iff n).2 h)]

theorem second_ok (a b : Int) (l : List Int) (h : 128 ≤ b ∧ b ≤ 191) (h1 : a = 224 → 160 ≤ b) (h2 : a = 237 → b ≤ 159) (h3 : a = 240 → 144 ≤ b) (h4 : a = 244 → b ≤ 143) (hl : restOK 128 191 l = true) :
    restOK (secondF a).1 (secondF a).2 (b :: l) = true := by
  unfold restOK
  rw [hl]
  unfold secondF
  (repeat' split) <;> simp <;> omega

theorem step_go {p : List Int} {b : Int} (hp : p = [] ∨ kindF p = 1) (h : kindF (p ++ [b]) = 1) : stepF p b = (p ++ [b], []) := by
  unfold stepF
  rcases hp with rfl | hp
  · simp [step0] at h ⊢; simp [h]
  · split
    · rename_i h1
      rcases h1 with rfl | h1
      · simp [step0] at h ⊢; simp [h]
      · rw [right_kind hp] at h1; cases h1
    · simp [stepP, h]

theorem step_end {p : List Int} {b : Int} (hp : p = [] ∨ kindF p = 1) (h : kindF (p ++ [b]) = 2) : stepF p b = ([], [codeF (p ++ [b])]) := by
  unfold stepF
  rcases hp with rfl | hp
  · simp [step0] at h ⊢; simp [h]
  · split
    · rename_i h1
      rcases h1 with rfl | h1
      · simp [step0] at h ⊢; simp [h]
      · rw [right_kind hp] at h1; cases h1
    · simp [stepP, h]

/-- the decoding of whole numbers -/
def runI (p : List Int) : List Int → List Int × List Int
  | [] => (p, [])
  | b :: l => ((runI (stepF p b).1 l).1, (stepF p b).2 ++ (runI (stepF p b).1 l).2)

theorem byte_back {n : Int} (h : 0 ≤ n ∧ n < 256) : ((UInt8.ofNat n.toNat).toNat : Int) = n := by
  have : n.toNat < 256 := by omega
  simp only [UInt8.toNat_ofNat']
  omega

theorem runF_bytesS : ∀ (l : List Int) (p : List Int), Bytes l → runF p (bytesS l) = runI p l
  | [], _, _ => rfl
  | x :: l, p, h => by
    have e := byte_back h.cons.1
    simp only [bytesS, List.map_cons, runF, runI, e]
    rw [show (l.map fun n => UInt8.ofNat n.toNat) = bytesS l from rfl, runF_bytesS l _ h.cons.2]

theorem putE_bytes {cp : Int} (h : CP cp) : Bytes (putE cp) := by
  unfold CP at h
  unfold putE
  intro x hx
  (repeat' split at hx) <;> simp at hx <;> omega

theorem kind_one {a : Int} : kindF [a] = if lengthF a < 1 then 0 else if 1 < lengthF a then 1 else 2 := by
  simp [kindF, restOK]

theorem kind_of {a : Int} {l : List Int} (hr : restOK (secondF a).1 (secondF a).2 l = true) (hl : (l.length : Int) + 1 ≤ lengthF a) : kindF (a :: l) = if (l.length : Int) + 1 < lengthF a then 1 else 2 := by
  simp only [kindF, List.headD_cons, List.tail_cons, hr, List.length_cons]
  rw [if_neg (by omega)]
  by_cases h : (l.length : Int) + 1 < lengthF a <;> simp [h]

theorem putE_run {cp : Int} (h : CP cp) : runI [] (putE cp) = ([], [cp]) := by
  unfold CP at h
  unfold putE
  split
  · rename_i h1
    have e1 : lengthF cp = 1 := by unfold lengthF; rw [if_neg (by omega), if_neg (by omega), if_neg (by omega), if_pos (by omega)]
    have k : kindF ([] ++ [cp]) = 2 := by simp [kind_one, e1]
    have s1 := step_end (.inl rfl) k
    simp [runI, s1, codeF, goCode, cp0F]
  split
  · rename_i h0 h1
    have e1 : lengthF (192 + cp / 64) = 2 := by unfold lengthF; rw [if_neg (by omega), if_neg (by omega), if_pos (by omega)]
    have k1 : kindF ([] ++ [192 + cp / 64]) = 1 := by simp [kind_one, e1]
    have k2 : kindF ([192 + cp / 64] ++ [128 + cp % 64]) = 2 := by
      simp only [List.singleton_append]
      rw [kind_of (second_ok _ _ _ (by omega) (by omega) (by omega) (by omega) (by omega) rfl) (by simp [e1])]; simp [e1]
    have s1 := step_go (.inl rfl) k1
    have s2 := step_end (.inr (by simpa using k1)) k2
    simp [runI, s1]
    simp at s2
    simp [s2, codeF, goCode, cp0F]
    omega
  split
  · rename_i h0 h1 h2
    have e1 : lengthF (224 + cp / 4096) = 3 := by unfold lengthF; rw [if_neg (by omega), if_pos (by omega)]
    have r1 : restOK (secondF (224 + cp / 4096)).1 (secondF (224 + cp / 4096)).2 [128 + cp / 64 % 64] = true := second_ok _ _ _ (by omega) (by omega) (by omega) (by omega) (by omega) rfl
    have r2 : restOK (secondF (224 + cp / 4096)).1 (secondF (224 + cp / 4096)).2 [128 + cp / 64 % 64, 128 + cp % 64] = true := second_ok _ _ _ (by omega) (by omega) (by omega) (by omega) (by omega) (by simp [restOK]; omega)
    have k1 : kindF [224 + cp / 4096] = 1 := by simp [kind_one, e1]
    have k2 : kindF [224 + cp / 4096, 128 + cp / 64 % 64] = 1 := by rw [kind_of r1 (by simp [e1])]; simp [e1]
    have k3 : kindF [224 + cp / 4096, 128 + cp / 64 % 64, 128 + cp % 64] = 2 := by rw [kind_of r2 (by simp [e1])]; simp [e1]
    have s1 := step_go (p := []) (.inl rfl) k1
    have s2 := step_go (p := [224 + cp / 4096]) (.inr k1) k2
    have s3 := step_end (p := [224 + cp / 4096, 128 + cp / 64 % 64]) (.inr k2) k3
    simp only [List.nil_append, List.cons_append] at s1 s2 s3
    simp only [runI, s1, s2, s3, List.nil_append, List.append_nil]
    simp [codeF, goCode, cp0F]
    omega
  · rename_i h0 h1 h2
    have e1 : lengthF (240 + cp / 262144) = 4 := by unfold lengthF; rw [if_pos (by omega)]
    have r1 : restOK (secondF (240 + cp / 262144)).1 (secondF (240 + cp / 262144)).2 [128 + cp / 4096 % 64] = true := second_ok _ _ _ (by omega) (by omega) (by omega) (by omega) (by omega) rfl
    have r2 : restOK (secondF (240 + cp / 262144)).1 (secondF (240 + cp / 262144)).2 [128 + cp / 4096 % 64, 128 + cp / 64 % 64] = true := second_ok _ _ _ (by omega) (by omega) (by omega) (by omega) (by omega) (by simp [restOK]; omega)
    have r3 : restOK (secondF (240 + cp / 262144)).1 (secondF (240 + cp / 262144)).2 [128 + cp / 4096 % 64, 128 + cp / 64 % 64, 128 + cp % 64] = true := second_ok _ _ _ (by omega) (by omega) (by omega) (by omega) (by omega) (by simp [restOK]; omega)
    have k1 : kindF [240 + cp / 262144] = 1 := by simp [kind_one, e1]
    have k2 : kindF [240 + cp / 262144, 128 + cp / 4096 % 64] = 1 := by rw [kind_of r1 (by simp [e1])]; simp [e1]
    have k3 : kindF [240 + cp / 262144, 128 + cp / 4096 % 64, 128 + cp / 64 % 64] = 1 := by rw [kind_of r2 (by simp [e1])]; simp [e1]
    have k4 : kindF [240 + cp / 262144, 128 + cp / 4096 % 64, 128 + cp / 64 % 64, 128 + cp % 64] = 2 := by rw [kind_of r3 (by simp [e1])]; simp [e1]
    have s1 := step_go (p := []) (.inl rfl) k1
    have s2 := step_go (p := [240 + cp / 262144]) (.inr k1) k2
    have s3 := step_go (p := [240 + cp / 262144, 128 + cp / 4096 % 64]) (.inr k2) k3
    have s4 := step_end (p := [240 + cp / 262144, 128 + cp / 4096 % 64, 128 + cp / 64 % 64]) (.inr k3) k4
    simp only [List.nil_append, List.cons_append] at s1 s2 s3 s4
    simp only [runI, s1, s2, s3, s4, List.nil_append, List.append_nil]
    simp [codeF, goCode, cp0F]
    omega

theorem put_run (n : Int) (p : List UInt8) : runF [] (bytesS (putI n) ++ p) = ((runF [] p).1, normI n :: (runF [] p).2) := by
  rw [runF_app, putI_eq, runF_bytesS _ _ (putE_bytes (normI_cp n)), putE_run (normI_cp n)]
  rfl

theorem put_codes (n : Int) : codesF (bytesS (putI n)) = [normI n] := by
  have := put_run n []
  simp [runF] at this
  simp [codesF, this, flushF]

theorem put_codes_app (n : Int) (p : List UInt8) : codesF (bytesS (putI n) ++ p) = normI n :: codesF p := by
  simp [codesF, put_run]

/-- the first byte of an encoding is no later byte -/
theorem putE_head {cp : Int} (h : CP cp) : ∃ a l, putE cp = a :: l ∧ (0 ≤ a ∧ a < 256) ∧ ¬ (128 ≤ a ∧ a ≤ 191) := by
  unfold CP at h
  unfold putE
  (repeat' split) <;> exact ⟨_, _, rfl, by omega, by omega⟩

theorem restOK_last : ∀ (l : List Int) (lo hi a : Int), 128 ≤ lo → hi ≤ 191 → ¬ (128 ≤ a ∧ a ≤ 191) → restOK lo hi (l ++ [a]) = false
  | [], lo, hi, a, h1, h2, h => by simp [restOK]; omega
  | x :: l, lo, hi, a, h1, h2, h => by simp [restOK, restOK_last l 128 191 a (by omega) (by omega) h]

theorem step_break {p : List Int} {a : Int} (hr : rightF p = true) (h : ¬ (128 ≤ a ∧ a ≤ 191)) : stepF p a = ((stepF [] a).1, flushF p ++ (stepF [] a).2) := by
  have e0 : stepF [] a = step0 a := by simp [stepF]
  cases p with
  | nil => simp [flushF, e0]
  | cons b l =>
    have hk : kindF (b :: l ++ [a]) = 0 := by
      have sr := second_range b
      unfold kindF
      split
      · rfl
      · rw [if_neg]
        simp only [List.cons_append, List.headD_cons, List.tail_cons]
        rw [restOK_last l _ _ a sr.1 sr.2 h]; simp
    rw [e0]
    simp only [stepF, hr, stepP, hk, flushF]
    simp

theorem run_break {p : List Int} {a : UInt8} (l : List UInt8) (hr : rightF p = true) (h : ¬ (128 ≤ (a.toNat : Int) ∧ (a.toNat : Int) ≤ 191)) :
    runF p (a :: l) = ((runF [] (a :: l)).1, flushF p ++ (runF [] (a :: l)).2) := by
  simp only [runF]
  rw [step_break hr h]
  simp

theorem codes_break (s l : List UInt8) (n : Int) : codesF (s ++ (bytesS (putI n) ++ l)) = codesF s ++ codesF (bytesS (putI n) ++ l) := by
  obtain ⟨a, r, e, h1, h2⟩ := putE_head (normI_cp n)
  have e2 : bytesS (putI n) ++ l = UInt8.ofNat a.toNat :: (bytesS r ++ l) := by rw [putI_eq, e]; rfl
  rw [e2]
  have hr := run_right s [] rfl
  have hb := run_break (p := (runF [] s).1) (a := UInt8.ofNat a.toNat) (bytesS r ++ l) hr (by rw [byte_back h1]; exact h2)
  simp only [codesF, runF_app, hb]
  simp [List.append_assoc]
end Fen

namespace Fen
open Go Go.Proofs

def lawFindsSpec : Spec := { pre := fun args => ∃ (s : List UInt8) (cp : Int) (t : List UInt8), args = [.c (.str s), .c (.int .i64 cp), .c (.str t)] ∧ s.length ≤ 9223372036854775807 ∧ t.length ≤ 9223372036854775807 ∧ I64 cp, res := fun _ => .one (.val (.c (.bool true))) }

def GLf : Specs := [(19, putSpec), (20, codesSpec), (18, isSpec), (17, worksSpec)]
@[simp] theorem GLf_19 : GLf.find 19 = some putSpec := rfl
@[simp] theorem GLf_20 : GLf.find 20 = some codesSpec := rfl
@[simp] theorem GLf_18 : GLf.find 18 = some isSpec := rfl
@[simp] theorem GLf_17 : GLf.find 17 = some worksSpec := rfl
theorem GLf_ok (gl : Gl) : SpecsOK Try.prog gl GLf := .cons (put_sound gl) (.cons (codes_sound gl) (.cons (is_sound gl) (.cons (works_sound gl) (.nil _ _))))

theorem bytesS_len (l : List Int) : (bytesS l).length = l.length := by simp [bytesS]

set_option maxRecDepth 10000 in
theorem lawFinds_sound (gl : Gl) : Sound Try.prog gl 5 lawFindsSpec := by
  refine sound_fn (N := Try.f5.ntmps) (rs := Try.f5.results.toList) mixed tok (GLf_ok gl) Try.func5 rfl rfl rfl rfl rfl ?_ ?_ ?_
  · rintro args ⟨s, cp, t, rfl, h0, h1, h2⟩; simp [Try.f5]
  · rintro args ⟨s, cp, t, rfl, h0, h1, h2⟩; simp [lawFindsSpec, Try.f5]
  · rintro args ⟨s, cp, t, rfl, h0, h1, h2⟩ bs hgl hh hro
    have hz : I64 (IntKind.i64.wrap ((IntKind.u64.wrap cp).tmod 1114112)) := by
      rw [IntKind.wrap_i64]; unfold I64; omega
    have c1 : (if 100 < (s.length : Int) then 100 else (s.length : Int)).toNat ≤ 100 := by split <;> omega
    have c2 : (if 100 < (t.length : Int) then 100 else (t.length : Int)).toNat ≤ 100 := by split <;> omega
    have l1 : (s.take (if 100 < (s.length : Int) then 100 else (s.length : Int)).toNat).length ≤ 100 := by simp; omega
    have l2 : (t.take (if 100 < (t.length : Int) then 100 else (t.length : Int)).toNat).length ≤ 100 := by simp; omega
    have l3 : (bytesS (putI (IntKind.i64.wrap ((IntKind.u64.wrap cp).tmod 1114112)))).length ≤ 4 := by have := putI_len (IntKind.i64.wrap ((IntKind.u64.wrap cp).tmod 1114112)); simpa [bytesS] using this
    have l4 := codesF_len (s.take (if 100 < (s.length : Int) then 100 else (s.length : Int)).toNat)
    have l5 := codesF_len (bytesS (putI (IntKind.i64.wrap ((IntKind.u64.wrap cp).tmod 1114112))) ++ t.take (if 100 < (t.length : Int) then 100 else (t.length : Int)).toNat)
    have hb := codes_break (s.take (if 100 < (s.length : Int) then 100 else (s.length : Int)).toNat) (t.take (if 100 < (t.length : Int) then 100 else (t.length : Int)).toNat) (IntKind.i64.wrap ((IntKind.u64.wrap cp).tmod 1114112))
    have hp := put_codes (IntKind.i64.wrap ((IntKind.u64.wrap cp).tmod 1114112))
    have a1 : (0 ≤ if 100 < (s.length : Int) then 100 else (s.length : Int)) ∧ (if 100 < (s.length : Int) then 100 else (s.length : Int)) ≤ s.length := by split <;> omega
    have a2 : (0 ≤ if 100 < (t.length : Int) then 100 else (t.length : Int)) ∧ (if 100 < (t.length : Int) then 100 else (t.length : Int)) ≤ t.length := by split <;> omega
    rw [List.length_append] at l5
    simp only [List.length_take] at l1 l2 l4 l5
    simp [lawFindsSpec, worksSpec, putSpec, codesSpec, isSpec, Try.f5, and_assoc, hb, hp]
    refine ⟨a1.1, a1.2, a2.1, a2.2, by rfl, hz, by omega, by omega, by omega, by omega, by omega, by omega, by omega, by omega, by omega, by omega, by omega, by omega⟩
end Fen
