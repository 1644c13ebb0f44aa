/- A part of the proof; no statement is proved here: WUtfNx, WUtfOx. -/
import Derived.Test.YtcfigfhnlhkjiaaDoorUtfA

set_option linter.unusedVariables false
set_option linter.unusedSimpArgs false

namespace Fen
open Go Go.Proofs

theorem right_kind {p : List Int} (h : kindF p = 1) : rightF p = true := by simp [rightF, h]

theorem step0_right (b : Int) : rightF (step0 b).1 = true := by
  unfold step0
  split
  · rfl
  · split
    · rename_i h; exact right_kind h
    · rfl

theorem step_right (p : List Int) (b : Int) : rightF (stepF p b).1 = true := by
  unfold stepF
  split
  · exact step0_right b
  · unfold stepP
    split
    · rfl
    · split
      · rename_i h; exact right_kind h
      · exact step0_right b

theorem run_right (s : List UInt8) : ∀ p, rightF p = true → rightF (runF p s).1 = true := by
  induction s with
  | nil => intro p h; exact h
  | cons b s ih => intro p _; simp only [runF]; exact ih _ (step_right p _)

theorem run_bytes (s : List UInt8) : ∀ p, Bytes p → Bytes (runF p s).1 := by
  induction s with
  | nil => intro p h; exact h
  | cons b s ih =>
    intro p h; simp only [runF]
    refine ih _ (step_bytes h ⟨by omega, ?_⟩).1
    have := b.toNat_lt; omega

end Fen

namespace Fen
open Go Go.Proofs

/-! what encodes is decoded -/

def normI (n : Int) : Int := if checkF n then n else 65533
def putE (cp : Int) : List Int :=
  if cp < 128 then [cp] else if cp < 2048 then [192 + cp / 64, 128 + cp % 64] else if cp < 65536 then [224 + cp / 4096, 128 + cp / 64 % 64, 128 + cp % 64]
  else [240 + cp / 262144, 128 + cp / 4096 % 64, 128 + cp / 64 % 64, 128 + cp % 64]
theorem putI_eq (n : Int) : putI n = putE (normI n) := rfl
def CP (n : Int) : Prop := 0 ≤ n ∧ n ≤ 1114111 ∧ (n < 55296 ∨ 57343 < n)
theorem normI_cp (n : Int) : CP (normI n) := by
  unfold normI CP
  split
  · rename_i h; exact (checkF_iff n).1 h
  · omega
theorem normI_id {n : Int} (h : CP n) : normI n = n := by unfold normI; rw [if_pos ((checkF_iff n).2 h)]

theorem second_ok (a b : Int) (l : List Int) (h : 128 ≤ b ∧ b ≤ 191) (h1 : a = 224 → 160 ≤ b) (h2 : a = 237 → b ≤ 159) (h3 : a = 240 → 144 ≤ b) (h4 : a = 244 → b ≤ 143) (hl : restOK 128 191 l = true) :
    restOK (secondF a).1 (secondF a).2 (b :: l) = true := by
  unfold restOK
  rw [hl]
  unfold secondF
  (repeat' split) <;> simp <;> omega

theorem step_go {p : List Int} {b : Int} (hp : p = [] ∨ kindF p = 1) (h : kindF (p ++ [b]) = 1) : stepF p b = (p ++ [b], []) := by
  unfold stepF
  rcases hp with rfl | hp
  · simp [step0] at h ⊢; simp [h]
  · split
    · rename_i h1
      rcases h1 with rfl | h1
      · simp [step0] at h ⊢; simp [h]
      · rw [right_kind hp] at h1; cases h1
    · simp [stepP, h]

theorem step_end {p : List Int} {b : Int} (hp : p = [] ∨ kindF p = 1) (h : kindF (p ++ [b]) = 2) : stepF p b = ([], [codeF (p ++ [b])]) := by
  unfold stepF
  rcases hp with rfl | hp
  · simp [step0] at h ⊢; simp [h]
  · split
    · rename_i h1
      rcases h1 with rfl | h1
      · simp [step0] at h ⊢; simp [h]
      · rw [right_kind hp] at h1; cases h1
    · simp [stepP, h]

/-- the decoding of whole numbers -/
def runI (p : List Int) : List Int → List Int × List Int
  | [] => (p, [])
  | b :: l => ((runI (stepF p b).1 l).1, (stepF p b).2 ++ (runI (stepF p b).1 l).2)

theorem byte_back {n : Int} (h : 0 ≤ n ∧ n < 256) : ((UInt8.ofNat n.toNat).toNat : Int) = n := by
  have : n.toNat < 256 := by omega
  simp only [UInt8.toNat_ofNat']
  omega

theorem runF_bytesS : ∀ (l : List Int) (p : List Int), Bytes l → runF p (bytesS l) = runI p l
  | [], _, _ => rfl
  | x :: l, p, h => by
    have e := byte_back h.cons.1
    simp only [bytesS, List.map_cons, runF, runI, e]
    rw [show (l.map fun n => UInt8.ofNat n.toNat) = bytesS l from rfl, runF_bytesS l _ h.cons.2]

theorem putE_bytes {cp : Int} (h : CP cp) : Bytes (putE cp) := by
  unfold CP at h
  unfold putE
  intro x hx
  (repeat' split at hx) <;> simp at hx <;> omega

theorem kind_one {a : Int} : kindF [a] = if lengthF a < 1 then 0 else if 1 < lengthF a then 1 else 2 := by
  simp [kindF, restOK]

theorem kind_of {a : Int} {l : List Int} (hr : restOK (secondF a).1 (secondF a).2 l = true) (hl : (l.length : Int) + 1 ≤ lengthF a) : kindF (a :: l) = if (l.length : Int) + 1 < lengthF a then 1 else 2 := by
  simp only [kindF, List.headD_cons, List.tail_cons, hr, List.length_cons]
  rw [if_neg (by omega)]
  by_cases h : (l.length : Int) + 1 < lengthF a <;> simp [h]

theorem putE_run {cp : Int} (h : CP cp) : runI [] (putE cp) = ([], [cp]) := by
  unfold CP at h
  unfold putE
  split
  · rename_i h1
    have e1 : lengthF cp = 1 := by unfold lengthF; rw [if_neg (by omega), if_neg (by omega), if_neg (by omega), if_pos (by omega)]
    have k : kindF ([] ++ [cp]) = 2 := by simp [kind_one, e1]
    have s1 := step_end (.inl rfl) k
    simp [runI, s1, codeF, goCode, cp0F]
  split
  · rename_i h0 h1
    have e1 : lengthF (192 + cp / 64) = 2 := by unfold lengthF; rw [if_neg (by omega), if_neg (by omega), if_pos (by omega)]
    have k1 : kindF ([] ++ [192 + cp / 64]) = 1 := by simp [kind_one, e1]
    have k2 : kindF ([192 + cp / 64] ++ [128 + cp % 64]) = 2 := by
      simp only [List.singleton_append]
      rw [kind_of (second_ok _ _ _ (by omega) (by omega) (by omega) (by omega) (by omega) rfl) (by simp [e1])]; simp [e1]
    have s1 := step_go (.inl rfl) k1
    have s2 := step_end (.inr (by simpa using k1)) k2
    simp [runI, s1]
    simp at s2
    simp [s2, codeF, goCode, cp0F]
    omega
  split
  · rename_i h0 h1 h2
    have e1 : lengthF (224 + cp / 4096) = 3 := by unfold lengthF; rw [if_neg (by omega), if_pos (by omega)]
    have r1 : restOK (secondF (224 + cp / 4096)).1 (secondF (224 + cp / 4096)).2 [128 + cp / 64 % 64] = true := second_ok _ _ _ (by omega) (by omega) (by omega) (by omega) (by omega) rfl
    have r2 : restOK (secondF (224 + cp / 4096)).1 (secondF (224 + cp / 4096)).2 [128 + cp / 64 % 64, 128 + cp % 64] = true := second_ok _ _ _ (by omega) (by omega) (by omega) (by omega) (by omega) (by simp [restOK]; omega)
    have k1 : kindF [224 + cp / 4096] = 1 := by simp [kind_one, e1]
    have k2 : kindF [224 + cp / 4096, 128 + cp / 64 % 64] = 1 := by rw [kind_of r1 (by simp [e1])]; simp [e1]
    have k3 : kindF [224 + cp / 4096, 128 + cp / 64 % 64, 128 + cp % 64] = 2 := by rw [kind_of r2 (by simp [e1])]; simp [e1]
    have s1 := step_go (p := []) (.inl rfl) k1
    have s2 := step_go (p := [224 + cp / 4096]) (.inr k1) k2
    have s3 := step_end (p := [224 + cp / 4096, 128 + cp / 64 % 64]) (.inr k2) k3
    simp only [List.nil_append, List.cons_append] at s1 s2 s3
    simp only [runI, s1, s2, s3, List.nil_append, List.append_nil]
    simp [codeF, goCode, cp0F]
    omega
  · rename_i h0 h1 h2
    have e1 : lengthF (240 + cp / 262144) = 4 := by unfold lengthF; rw [if_pos (by omega)]
    have r1 : restOK (secondF (240 + cp / 262144)).1 (secondF (240 + cp / 262144)).2 [128 + cp / 4096 % 64] = true := second_ok _ _ _ (by omega) (by omega) (by omega) (by omega) (by omega) rfl
    have r2 : restOK (secondF (240 + cp / 262144)).1 (secondF (240 + cp / 262144)).2 [128 + cp / 4096 % 64, 128 + cp / 64 % 64] = true := second_ok _ _ _ (by omega) (by omega) (by omega) (by omega) (by omega) (by simp [restOK]; omega)
    have r3 : restOK (secondF (240 + cp / 262144)).1 (secondF (240 + cp / 262144)).2 [128 + cp / 4096 % 64, 128 + cp / 64 % 64, 128 + cp % 64] = true := second_ok _ _ _ (by omega) (by omega) (by omega) (by omega) (by omega) (by simp [restOK]; omega)
    have k1 : kindF [240 + cp / 262144] = 1 := by simp [kind_one, e1]
    have k2 : kindF [240 + cp / 262144, 128 + cp / 4096 % 64] = 1 := by rw [kind_of r1 (by simp [e1])]; simp [e1]
    have k3 : kindF [240 + cp / 262144, 128 + cp / 4096 % 64, 128 + cp / 64 % 64] = 1 := by rw [kind_of r2 (by simp [e1])]; simp [e1]
    have k4 : kindF [240 + cp / 262144, 128 + cp / 4096 % 64, 128 + cp / 64 % 64, 128 + cp % 64] = 2 := by rw [kind_of r3 (by simp [e1])]; simp [e1]
    have s1 := step_go (p := []) (.inl rfl) k1
    have s2 := step_go (p := [240 + cp / 262144]) (.inr k1) k2
    have s3 := step_go (p := [240 + cp / 262144, 128 + cp / 4096 % 64]) (.inr k2) k3
    have s4 := step_end (p := [240 + cp / 262144, 128 + cp / 4096 % 64, 128 + cp / 64 % 64]) (.inr k3) k4
    simp only [List.nil_append, List.cons_append] at s1 s2 s3 s4
    simp only [runI, s1, s2, s3, s4, List.nil_append, List.append_nil]
    simp [codeF, goCode, cp0F]
    omega

theorem put_run (n : Int) (p : List UInt8) : runF [] (bytesS (putI n) ++ p) = ((runF [] p).1, normI n :: (runF [] p).2) := by
  rw [runF_app, putI_eq, runF_bytesS _ _ (putE_bytes (normI_cp n)), putE_run (normI_cp n)]
  rfl

theorem put_codes (n : Int) : codesF (bytesS (putI n)) = [normI n] := by
  have := put_run n []
  simp [runF] at this
  simp [codesF, this, flushF]

theorem put_codes_app (n : Int) (p : List UInt8) : codesF (bytesS (putI n) ++ p) = normI n :: codesF p := by
  simp [codesF, put_run]

/-- the first byte of an encoding is no later byte -/
theorem putE_head {cp : Int} (h : CP cp) : ∃ a l, putE cp = a :: l ∧ (0 ≤ a ∧ a < 256) ∧ ¬ (128 ≤ a ∧ a ≤ 191) := by
  unfold CP at h
  unfold putE
  (repeat' split) <;> exact ⟨_, _, rfl, by omega, by omega⟩

theorem restOK_last : ∀ (l : List Int) (lo hi a : Int), 128 ≤ lo → hi ≤ 191 → ¬ (128 ≤ a ∧ a ≤ 191) → restOK lo hi (l ++ [a]) = false
  | [], lo, hi, a, h1, h2, h => by simp [restOK]; omega
  | x :: l, lo, hi, a, h1, h2, h => by simp [restOK, restOK_last l 128 191 a (by omega) (by omega) h]

theorem step_break {p : List Int} {a : Int} (hr : rightF p = true) (h : ¬ (128 ≤ a ∧ a ≤ 191)) : stepF p a = ((stepF [] a).1, flushF p ++ (stepF [] a).2) := by
  have e0 : stepF [] a = step0 a := by simp [stepF]
  cases p with
  | nil => simp [flushF, e0]
  | cons b l =>
    have hk : kindF (b :: l ++ [a]) = 0 := by
      have sr := second_range b
      unfold kindF
      split
      · rfl
      · rw [if_neg]
        simp only [List.cons_append, List.headD_cons, List.tail_cons]
        rw [restOK_last l _ _ a sr.1 sr.2 h]; simp
    rw [e0]
    simp only [stepF, hr, stepP, hk, flushF]
    simp

theorem run_break {p : List Int} {a : UInt8} (l : List UInt8) (hr : rightF p = true) (h : ¬ (128 ≤ (a.toNat : Int) ∧ (a.toNat : Int) ≤ 191)) :
    runF p (a :: l) = ((runF [] (a :: l)).1, flushF p ++ (runF [] (a :: l)).2) := by
  simp only [runF]
  rw [step_break hr h]
  simp

theorem codes_break (s l : List UInt8) (n : Int) : codesF (s ++ (bytesS (putI n) ++ l)) = codesF s ++ codesF (bytesS (putI n) ++ l) := by
  obtain ⟨a, r, e, h1, h2⟩ := putE_head (normI_cp n)
  have e2 : bytesS (putI n) ++ l = UInt8.ofNat a.toNat :: (bytesS r ++ l) := by rw [putI_eq, e]; rfl
  rw [e2]
  have hr := run_right s [] rfl
  have hb := run_break (p := (runF [] s).1) (a := UInt8.ofNat a.toNat) (bytesS r ++ l) hr (by rw [byte_back h1]; exact h2)
  simp only [codesF, runF_app, hb]
  simp [List.append_assoc]
end Fen
