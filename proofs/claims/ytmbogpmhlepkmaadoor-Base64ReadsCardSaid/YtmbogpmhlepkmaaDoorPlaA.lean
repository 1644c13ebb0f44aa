/- A part of the proof; no statement is proved here: BB64A, BB64B, BB64C, BB64D, BB64E. -/
import Derived.Test.YtmbogpmhlepkmaaDoorCoreC

set_option linter.unusedVariables false
set_option linter.unusedSimpArgs false

namespace Fen
open Go

/-! ### chapter 07 in plain words: bytes and numbers of six bits -/
def enc6 : List Nat → List Nat
  | a :: b :: c :: l => a / 4 :: (a % 4 * 16 + b / 16) :: (b % 16 * 4 + c / 64) :: c % 64 :: enc6 l
  | [a, b] => [a / 4, a % 4 * 16 + b / 16, b % 16 * 4]
  | [a] => [a / 4, a % 4 * 16]
  | [] => []
def dec6 : List Nat → List Nat
  | p :: q :: r :: t :: l => (p * 4 + q / 16) :: (q % 16 * 16 + r / 4) :: (r % 4 * 64 + t) :: dec6 l
  | [p, q, r] => [p * 4 + q / 16, q % 16 * 16 + r / 4]
  | [p, q] => [p * 4 + q / 16]
  | _ => []
def ok6 : List Nat → Bool
  | _ :: _ :: _ :: _ :: l => ok6 l
  | [_, _, r] => decide (r % 4 = 0)
  | [_, q] => decide (q % 16 = 0)
  | [_] => false
  | [] => true
def By (l : List Nat) : Prop := ∀ x ∈ l, x < 256
def Sx (l : List Nat) : Prop := ∀ x ∈ l, x < 64
theorem By.tail {a : Nat} {l : List Nat} (h : By (a :: l)) : a < 256 ∧ By l := ⟨h a (by simp), fun x hx => h x (by simp [hx])⟩
theorem Sx.tail {a : Nat} {l : List Nat} (h : Sx (a :: l)) : a < 64 ∧ Sx l := ⟨h a (by simp), fun x hx => h x (by simp [hx])⟩
theorem Sx.cons {a : Nat} {l : List Nat} (h : a < 64) (k : Sx l) : Sx (a :: l) := fun x hx => (List.mem_cons.1 hx).elim (fun e => e ▸ h) (k x)
theorem By.cons {a : Nat} {l : List Nat} (h : a < 256) (k : By l) : By (a :: l) := fun x hx => (List.mem_cons.1 hx).elim (fun e => e ▸ h) (k x)
theorem Sx.nil : Sx [] := fun x h => by simp at h
theorem By.nil : By [] := fun x h => by simp at h
theorem enc_sx : ∀ {l : List Nat}, By l → Sx (enc6 l)
  | a :: b :: c :: l, h => by
    obtain ⟨ha, h⟩ := h.tail
    obtain ⟨hb, h⟩ := h.tail
    obtain ⟨hc, h⟩ := h.tail
    exact Sx.cons (by omega) (Sx.cons (by omega) (Sx.cons (by omega) (Sx.cons (by omega) (enc_sx h))))
  | [a, b], h => by
    obtain ⟨ha, h⟩ := h.tail
    obtain ⟨hb, h⟩ := h.tail
    exact Sx.cons (by omega) (Sx.cons (by omega) (Sx.cons (by omega) Sx.nil))
  | [a], h => by
    obtain ⟨ha, h⟩ := h.tail
    exact Sx.cons (by omega) (Sx.cons (by omega) Sx.nil)
  | [], _ => Sx.nil
theorem dec_by : ∀ {l : List Nat}, Sx l → By (dec6 l)
  | p :: q :: r :: t :: l, h => by
    obtain ⟨ha, h⟩ := h.tail
    obtain ⟨hb, h⟩ := h.tail
    obtain ⟨hc, h⟩ := h.tail
    obtain ⟨hd, h⟩ := h.tail
    exact By.cons (by omega) (By.cons (by omega) (By.cons (by omega) (dec_by h)))
  | [p, q, r], h => by
    obtain ⟨ha, h⟩ := h.tail
    obtain ⟨hb, h⟩ := h.tail
    obtain ⟨hc, h⟩ := h.tail
    exact By.cons (by omega) (By.cons (by omega) By.nil)
  | [p, q], h => by
    obtain ⟨ha, h⟩ := h.tail
    obtain ⟨hb, h⟩ := h.tail
    exact By.cons (by omega) By.nil
  | [p], _ => By.nil
  | [], _ => By.nil
/-- Decode undoes Encode -/
theorem dec_enc : ∀ {l : List Nat}, By l → dec6 (enc6 l) = l ∧ ok6 (enc6 l) = true
  | a :: b :: c :: l, h => by
    obtain ⟨ha, h⟩ := h.tail
    obtain ⟨hb, h⟩ := h.tail
    obtain ⟨hc, h⟩ := h.tail
    obtain ⟨h1, h2⟩ := dec_enc h
    simp only [enc6, dec6, ok6, h1, h2, List.cons.injEq, and_true]
    omega
  | [a, b], h => by
    obtain ⟨ha, h⟩ := h.tail
    obtain ⟨hb, h⟩ := h.tail
    simp [enc6, dec6, ok6]
    omega
  | [a], h => by
    obtain ⟨ha, h⟩ := h.tail
    simp [enc6, dec6, ok6]
    omega
  | [], _ => ⟨rfl, rfl⟩
/-- .. and Encode undoes Decode where nothing is left over, and only there -/
theorem enc_dec : ∀ {l : List Nat}, Sx l → (ok6 l = true ↔ enc6 (dec6 l) = l)
  | p :: q :: r :: t :: l, h => by
    obtain ⟨ha, h⟩ := h.tail
    obtain ⟨hb, h⟩ := h.tail
    obtain ⟨hc, h⟩ := h.tail
    obtain ⟨hd, h⟩ := h.tail
    have := enc_dec h
    simp only [enc6, dec6, ok6, List.cons.injEq, this]
    constructor
    · intro e; refine ⟨by omega, by omega, by omega, by omega, e⟩
    · intro e; exact e.2.2.2.2
  | [p, q, r], h => by
    obtain ⟨ha, h⟩ := h.tail
    obtain ⟨hb, h⟩ := h.tail
    obtain ⟨hc, h⟩ := h.tail
    simp [enc6, dec6, ok6]
    omega
  | [p, q], h => by
    obtain ⟨ha, h⟩ := h.tail
    obtain ⟨hb, h⟩ := h.tail
    simp [enc6, dec6, ok6]
    omega
  | [p], h => by simp [enc6, dec6, ok6]
  | [], _ => by simp [enc6, dec6, ok6]
theorem enc_len : ∀ l : List Nat, (enc6 l).length = (l.length * 4 + 2) / 3
  | a :: b :: c :: l => by simp only [enc6, List.length_cons, enc_len l]; omega
  | [a, b] => by simp [enc6]
  | [a] => by simp [enc6]
  | [] => rfl
theorem enc_app : ∀ (k : Nat) (a b : List Nat), a.length = 3 * k → enc6 (a ++ b) = enc6 a ++ enc6 b
  | 0, a, b, h => by
    obtain rfl : a = [] := List.eq_nil_of_length_eq_zero (by omega)
    rfl
  | k + 1, x :: y :: z :: a, b, h => by
    simp only [List.cons_append, enc6, enc_app k a b (by simp at h; omega)]
  | k + 1, [], b, h => by simp at h
  | k + 1, [x], b, h => by simp at h; omega
  | k + 1, [x, y], b, h => by simp at h; omega
/-! the machine that regroups -/
structure Rg where
  w : Nat
  r : Nat
  out : List Nat
/-- eight bits in, six bits out -/
def goE (x : Rg) (n : Nat) : Rg :=
  if x.w = 0 then ⟨2, n % 4, x.out ++ [n / 4]⟩
  else if x.w = 2 then ⟨4, (x.r * 256 + n) % 16, x.out ++ [(x.r * 256 + n) / 16]⟩
  else ⟨0, 0, x.out ++ [(x.r * 256 + n) / 64, (x.r * 256 + n) % 64]⟩
theorem goE_run : ∀ (l : List Nat) (out : List Nat), By l →
    (∃ w r o, l.foldl goE ⟨0, 0, out⟩ = ⟨w, r, out ++ o⟩ ∧ (w = 0 ∨ w = 2 ∨ w = 4) ∧ r < 2 ^ w ∧ enc6 l = o ++ (if w = 0 then [] else [r * 2 ^ (6 - w)]))
  | a :: b :: c :: l, out, h => by
    obtain ⟨ha, h⟩ := h.tail
    obtain ⟨hb, h⟩ := h.tail
    obtain ⟨hc, h⟩ := h.tail
    have e : (a :: b :: c :: l).foldl goE ⟨0, 0, out⟩ = l.foldl goE ⟨0, 0, out ++ [a / 4, a % 4 * 16 + b / 16, b % 16 * 4 + c / 64, c % 64]⟩ := by
      simp only [List.foldl_cons]
      congr 1
      simp [goE]
      omega
    obtain ⟨w, r, o, h1, h2, h3, h4⟩ := goE_run l (out ++ [a / 4, a % 4 * 16 + b / 16, b % 16 * 4 + c / 64, c % 64]) h
    refine ⟨w, r, [a / 4, a % 4 * 16 + b / 16, b % 16 * 4 + c / 64, c % 64] ++ o, by rw [e, h1]; simp, h2, h3, ?_⟩
    simp only [enc6, h4]
    simp
  | [a, b], out, h => by
    obtain ⟨ha, h⟩ := h.tail
    obtain ⟨hb, h⟩ := h.tail
    refine ⟨4, (a % 4 * 256 + b) % 16, [a / 4, (a % 4 * 256 + b) / 16], by simp [goE], by omega, by omega, ?_⟩
    simp [enc6]
    omega
  | [a], out, h => by
    obtain ⟨ha, h⟩ := h.tail
    refine ⟨2, a % 4, [a / 4], by simp [goE], by omega, by omega, ?_⟩
    simp [enc6]
  | [], out, _ => ⟨0, 0, [], by simp, by omega, by omega, rfl⟩
/-- six bits in, eight bits out -/
def goD (x : Rg) (n : Nat) : Rg :=
  if x.w = 0 then ⟨6, n, x.out⟩
  else if x.w = 6 then ⟨4, (x.r * 64 + n) % 16, x.out ++ [(x.r * 64 + n) / 16]⟩
  else if x.w = 4 then ⟨2, (x.r * 64 + n) % 4, x.out ++ [(x.r * 64 + n) / 4]⟩
  else ⟨0, 0, x.out ++ [x.r * 64 + n]⟩
theorem goD_run : ∀ (l : List Nat) (out : List Nat), Sx l →
    (∃ w r, l.foldl goD ⟨0, 0, out⟩ = ⟨w, r, out ++ dec6 l⟩ ∧ (ok6 l = true ↔ w ≠ 6 ∧ r = 0) ∧ r < 64 ∧ (w = 0 ∨ w = 2 ∨ w = 4 ∨ w = 6))
  | p :: q :: r :: t :: l, out, h => by
    obtain ⟨ha, h⟩ := h.tail
    obtain ⟨hb, h⟩ := h.tail
    obtain ⟨hc, h⟩ := h.tail
    obtain ⟨hd, h⟩ := h.tail
    have e : (p :: q :: r :: t :: l).foldl goD ⟨0, 0, out⟩ = l.foldl goD ⟨0, 0, out ++ [p * 4 + q / 16, q % 16 * 16 + r / 4, r % 4 * 64 + t]⟩ := by
      simp only [List.foldl_cons]
      congr 1
      simp [goD]
      omega
    obtain ⟨w, r', h1, h2, h3, h4⟩ := goD_run l (out ++ [p * 4 + q / 16, q % 16 * 16 + r / 4, r % 4 * 64 + t]) h
    refine ⟨w, r', by rw [e, h1]; simp [dec6], ?_, h3, h4⟩
    simp only [ok6]; exact h2
  | [p, q, r], out, h => by
    obtain ⟨ha, h⟩ := h.tail
    obtain ⟨hb, h⟩ := h.tail
    obtain ⟨hc, h⟩ := h.tail
    refine ⟨2, ((p * 64 + q) % 16 * 64 + r) % 4, by simp [goD, dec6]; omega, ?_, by omega, by omega⟩
    simp [ok6]; omega
  | [p, q], out, h => by
    obtain ⟨ha, h⟩ := h.tail
    obtain ⟨hb, h⟩ := h.tail
    refine ⟨4, (p * 64 + q) % 16, by simp [goD, dec6]; omega, ?_, by omega, by omega⟩
    simp [ok6]; omega
  | [p], out, h => by
    obtain ⟨ha, h⟩ := h.tail
    exact ⟨6, p, by simp [goD, dec6], by simp [ok6], ha, by omega⟩
  | [], out, _ => ⟨0, 0, by simp [dec6], by simp [ok6], by omega, by omega⟩
end Fen

namespace Fen
open Go

/-! ### the same, bit by bit (the reference) -/
def bitV (l : List Nat) (k : Nat) : Nat := l.getD (k / 8) 0 / 2 ^ (7 - k % 8) % 2
def sextV (l : List Nat) (m : Nat) : Nat := ((((bitV l m * 2 + bitV l (m + 1)) * 2 + bitV l (m + 2)) * 2 + bitV l (m + 3)) * 2 + bitV l (m + 4)) * 2 + bitV l (m + 5)
theorem bitV_far (a b c : Nat) (l : List Nat) (k : Nat) : bitV (a :: b :: c :: l) (24 + k) = bitV l k := by
  unfold bitV
  rw [show (24 + k) / 8 = k / 8 + 3 by omega, show (24 + k) % 8 = k % 8 by omega]
  simp
theorem sextV_far (a b c : Nat) (l : List Nat) (m : Nat) : sextV (a :: b :: c :: l) (24 + m) = sextV l m := by
  unfold sextV
  simp only [Nat.add_assoc, bitV_far]
theorem sext0 (a : Nat) (l : List Nat) (h : a < 256) : sextV (a :: l) 0 = a / 4 := by
  simp [sextV, bitV]; omega
theorem sext1 (a b : Nat) (l : List Nat) (h : a < 256) (hb : b < 256) : sextV (a :: b :: l) 6 = a % 4 * 16 + b / 16 := by
  simp [sextV, bitV]; omega
theorem sext1' (a : Nat) (h : a < 256) : sextV [a] 6 = a % 4 * 16 := by
  simp [sextV, bitV]; omega
theorem sext2 (a b c : Nat) (l : List Nat) (hb : b < 256) (hc : c < 256) : sextV (a :: b :: c :: l) 12 = b % 16 * 4 + c / 64 := by
  simp [sextV, bitV]; omega
theorem sext2' (a b : Nat) (hb : b < 256) : sextV [a, b] 12 = b % 16 * 4 := by
  simp [sextV, bitV]; omega
theorem sext3 (a b c : Nat) (l : List Nat) (hc : c < 256) : sextV (a :: b :: c :: l) 18 = c % 64 := by
  simp [sextV, bitV]; omega
theorem enc_sext : ∀ (l : List Nat), By l → ∀ j, j < (enc6 l).length → (enc6 l)[j]? = some (sextV l (6 * j))
  | a :: b :: c :: l, h, j, hj => by
    obtain ⟨ha, h⟩ := h.tail
    obtain ⟨hb, h⟩ := h.tail
    obtain ⟨hc, h⟩ := h.tail
    match j with
    | 0 => simp [enc6, sext0 a _ ha]
    | 1 => simp [enc6, sext1 a b _ ha hb]
    | 2 => simp [enc6, sext2 a b c l hb hc]
    | 3 => simp [enc6, sext3 a b c l hc]
    | j + 4 =>
      have := enc_sext l h j (by simp [enc6] at hj; omega)
      rw [show 6 * (j + 4) = 24 + 6 * j by omega, sextV_far]
      simpa [enc6] using this
  | [a, b], h, j, hj => by
    obtain ⟨ha, h⟩ := h.tail
    obtain ⟨hb, h⟩ := h.tail
    match j, hj with
    | 0, _ => simp [enc6, sext0 a _ ha]
    | 1, _ => simp [enc6, sext1 a b _ ha hb]
    | 2, _ => simp [enc6, sext2' a b hb]
    | j + 3, hj => simp [enc6] at hj; omega
  | [a], h, j, hj => by
    obtain ⟨ha, h⟩ := h.tail
    match j, hj with
    | 0, _ => simp [enc6, sext0 a _ ha]
    | 1, _ => simp [enc6, sext1' a ha]
    | j + 2, hj => simp [enc6] at hj; omega
  | [], _, j, hj => by simp [enc6] at hj
theorem sextV_lt (l : List Nat) (m : Nat) : sextV l m < 64 := by
  unfold sextV bitV; omega
end Fen

namespace Fen
open Go

/-! ### signs -/
def sgnI (n : Nat) : UInt8 := if n < 26 then UInt8.ofNat (65 + n) else if n < 52 then UInt8.ofNat (71 + n) else if n < 62 then UInt8.ofNat (n - 4) else if n = 62 then 43 else 47
def valI (c : UInt8) : Option Nat :=
  if 65 ≤ c.toNat ∧ c.toNat ≤ 90 then some (c.toNat - 65) else if 97 ≤ c.toNat ∧ c.toNat ≤ 122 then some (c.toNat - 71)
  else if 48 ≤ c.toNat ∧ c.toNat ≤ 57 then some (c.toNat + 4) else if c.toNat = 43 then some 62 else if c.toNat = 47 then some 63 else none
theorem val_sgn : ∀ n, n < 64 → valI (sgnI n) = some n := by decide +kernel
theorem sgn_val {c : UInt8} {n : Nat} (h : valI c = some n) : sgnI n = c ∧ n < 64 := by
  have key : ∀ m : Fin 256, ∀ k, k < 64 → valI (UInt8.ofNat m.1) = some k → sgnI k = UInt8.ofNat m.1 := by decide +kernel
  have hn : n < 64 := by
    have := c.toNat_lt
    unfold valI at h
    (repeat' split at h) <;> simp at h <;> omega
  refine ⟨?_, hn⟩
  have := key ⟨c.toNat, c.toNat_lt⟩ n hn (by simpa using h)
  simpa using this
theorem val_fill : valI 61 = none := by decide
/-- a text's numbers, as far as it is one of signs -/
def valsI : List UInt8 → List Nat
  | [] => []
  | c :: l => match valI c with
    | some n => n :: valsI l
    | none => []
def allI (l : List UInt8) : Bool := l.all fun c => (valI c).isSome
def txtI (v : List Nat) : List UInt8 := v.map sgnI
theorem vals_sx : ∀ l : List UInt8, Sx (valsI l)
  | [] => Sx.nil
  | c :: l => by
    unfold valsI
    cases h : valI c with
    | none => exact Sx.nil
    | some n => exact Sx.cons (sgn_val h).2 (vals_sx l)
theorem vals_txt : ∀ {v : List Nat}, Sx v → valsI (txtI v) = v ∧ allI (txtI v) = true
  | [], _ => ⟨rfl, rfl⟩
  | n :: v, h => by
    obtain ⟨hn, hv⟩ := h.tail
    obtain ⟨h1, h2⟩ := vals_txt hv
    have := val_sgn n hn
    constructor
    · show valsI (sgnI n :: txtI v) = _
      simp only [valsI, this, h1]
    · show allI (sgnI n :: txtI v) = true
      simp only [allI, List.all_cons, this] at h2 ⊢
      simpa using h2
theorem txt_vals : ∀ {l : List UInt8}, allI l = true → txtI (valsI l) = l
  | [], _ => rfl
  | c :: l, h => by
    simp only [allI, List.all_cons, Bool.and_eq_true] at h
    obtain ⟨h1, h2⟩ := h
    obtain ⟨n, hn⟩ := Option.isSome_iff_exists.1 h1
    unfold valsI
    rw [hn]
    show sgnI n :: txtI (valsI l) = c :: l
    rw [(sgn_val hn).1, txt_vals h2]
theorem vals_app : ∀ {a : List UInt8} (b : List UInt8), allI a = true → valsI (a ++ b) = valsI a ++ valsI b
  | [], b, _ => rfl
  | c :: a, b, h => by
    simp only [allI, List.all_cons, Bool.and_eq_true] at h
    obtain ⟨n, hn⟩ := Option.isSome_iff_exists.1 h.1
    simp only [List.cons_append, valsI, hn, vals_app b h.2]
theorem vals_stop {c : UInt8} {l : List UInt8} (h : valI c = none) : valsI (c :: l) = [] := by unfold valsI; rw [h]
/-- a text ends with so many fillers -/
def bareI (s : List UInt8) : List UInt8 := (s.reverse.dropWhile (· == 61)).reverse
theorem mem_takes {p : UInt8 → Bool} : ∀ {l : List UInt8} {x : UInt8}, x ∈ l.takeWhile p → p x = true
  | [], x, h => by simp at h
  | c :: l, x, h => by
    rw [List.takeWhile_cons] at h
    split at h
    · rcases List.mem_cons.1 h with rfl | h
      · assumption
      · exact mem_takes h
    · simp at h
theorem bare_split (s : List UInt8) : s = bareI s ++ List.replicate (s.length - (bareI s).length) 61 ∧ ((bareI s).getLast? ≠ some 61) ∧ (bareI s).length ≤ s.length := by
  have h1 : s.reverse = s.reverse.takeWhile (· == 61) ++ s.reverse.dropWhile (· == 61) := (List.takeWhile_append_dropWhile).symm
  have h2 : ∀ x ∈ s.reverse.takeWhile (· == 61), x = 61 := fun x hx => by simpa using mem_takes hx
  have h3 : s.reverse.takeWhile (· == 61) = List.replicate (s.reverse.takeWhile (· == 61)).length 61 := List.eq_replicate_of_mem h2
  have h4 : s = bareI s ++ (s.reverse.takeWhile (· == 61)).reverse := by
    have := congrArg List.reverse h1
    rw [List.reverse_reverse, List.reverse_append] at this
    exact this
  have h5 : s.length = (bareI s).length + (s.reverse.takeWhile (· == 61)).length := by
    have := congrArg List.length h4
    simpa using this
  refine ⟨?_, ?_, by omega⟩
  · have e : s.length - (bareI s).length = (s.reverse.takeWhile (· == 61)).length := by omega
    rw [e]
    conv => lhs; rw [h4]
    congr 1
    rw [h3]
    simp
  · unfold bareI
    rw [List.getLast?_reverse]
    intro q
    have := List.head?_dropWhile_not (· == 61) s.reverse
    rw [q] at this
    simp at this
def padI (n : Nat) : List UInt8 := List.replicate ((4 - n % 4) % 4) 61
/-- what Decode says: none: an error of form -/
def decI (s : List UInt8) : Option (List Nat) :=
  if (bareI s).length ≠ s.length ∧ (s.length % 4 ≠ 0 ∨ 2 < s.length - (bareI s).length) then none
  else if allI (bareI s) = true ∧ ok6 (valsI (bareI s)) = true then some (dec6 (valsI (bareI s))) else none
/-- .. and the reference -/
def rdecI (s : List UInt8) : Option (List Nat) :=
  if s = txtI (enc6 (dec6 (valsI s))) ∨ s = txtI (enc6 (dec6 (valsI s))) ++ padI (enc6 (dec6 (valsI s))).length then some (dec6 (valsI s)) else none
theorem last_not {l : List UInt8} (h : allI l = true) : l.getLast? ≠ some 61 := fun q => by
  have hm := List.mem_of_getLast? q
  have := List.all_eq_true.1 h 61 hm
  simp [val_fill] at this
theorem bare_of {a : List UInt8} (k : Nat) (h : a.getLast? ≠ some 61) : bareI (a ++ List.replicate k 61) = a := by
  unfold bareI
  rw [List.reverse_append, List.reverse_replicate, List.dropWhile_append_of_pos (by simp)]
  cases hr : a.reverse with
  | nil => simp at hr; simp [hr]
  | cons c l =>
    have hc : a.getLast? = some c := by rw [← List.head?_reverse, hr]; rfl
    rw [List.dropWhile_cons_of_neg (by simp; intro e; rw [hc, e] at h; exact h rfl), ← hr, List.reverse_reverse]
theorem ok6_mod : ∀ {l : List Nat}, ok6 l = true → l.length % 4 ≠ 1
  | _ :: _ :: _ :: _ :: l, h => by have := ok6_mod (l := l) (by simpa [ok6] using h); simp; omega
  | [_, _, _], _ => by simp
  | [_, _], _ => by simp
  | [_], h => by simp [ok6] at h
  | [], _ => by simp
theorem vals_len {l : List UInt8} (h : allI l = true) : (valsI l).length = l.length := by
  have := congrArg List.length (txt_vals h)
  simpa [txtI] using this
theorem dec_eq (s : List UInt8) : decI s = rdecI s := by
  obtain ⟨h1, h2, h3⟩ := bare_split s
  generalize hk : s.length - (bareI s).length = k at *
  generalize hb : bareI s = b at *
  have hlen : s.length = b.length + k := by omega
  unfold decI rdecI
  rw [hb, hk]
  by_cases ha : allI b = true
  · -- signs, then fillers
    have hv : valsI s = valsI b := by
      rw [h1, vals_app _ ha]
      cases k with
      | zero => simp [valsI]
      | succ k => rw [List.replicate_succ, vals_stop val_fill]; simp
    have hsx := vals_sx b
    have hvl := vals_len ha
    rw [hv]
    have hiff := enc_dec hsx
    by_cases ok : ok6 (valsI b) = true
    · have e := hiff.1 ok
      have hm := ok6_mod ok
      rw [hvl] at hm
      rw [e, txt_vals ha, hvl]
      by_cases c : b.length ≠ s.length ∧ (s.length % 4 ≠ 0 ∨ 2 < k)
      · rw [if_pos c, if_neg]
        rintro (q | q)
        · have := congrArg List.length q; omega
        · have hq := congrArg List.length q
          simp [padI] at hq
          omega
      · rw [if_neg c, if_pos ⟨ha, ok⟩, if_pos]
        by_cases z : k = 0
        · left; rw [h1, z]; simp
        · right
          have : k = (4 - b.length % 4) % 4 := by omega
          unfold padI
          rw [← this]; exact h1
    · have ne : enc6 (dec6 (valsI b)) ≠ valsI b := fun q => ok (hiff.2 q)
      have no : (if allI b = true ∧ ok6 (valsI b) = true then some (dec6 (valsI b)) else none) = none := if_neg fun q => ok q.2
      rw [no]
      have sx2 := enc_sx (dec_by hsx)
      have hall := (vals_txt sx2).2
      rw [if_neg (show ¬ (s = txtI (enc6 (dec6 (valsI b))) ∨ s = txtI (enc6 (dec6 (valsI b))) ++ padI (enc6 (dec6 (valsI b))).length) from ?_)]
      · split <;> rfl
      · have key : ∀ j, s = txtI (enc6 (dec6 (valsI b))) ++ List.replicate j 61 → False := fun j q => by
          have := bare_of j (last_not hall)
          rw [← q, hb] at this
          have e := (vals_txt sx2).1
          rw [← this] at e
          exact ne e.symm
        rintro (q | q)
        · exact key 0 (by simpa using q)
        · exact key _ q
  · rw [show (if allI b = true ∧ ok6 (valsI b) = true then some (dec6 (valsI b)) else none) = none from if_neg fun q => ha q.1]
    have sx2 := enc_sx (dec_by (vals_sx s))
    have hall := (vals_txt sx2).2
    rw [if_neg (show ¬ (s = txtI (enc6 (dec6 (valsI s))) ∨ s = txtI (enc6 (dec6 (valsI s))) ++ padI (enc6 (dec6 (valsI s))).length) from ?_)]
    · split <;> rfl
    · have key : ∀ j, s = txtI (enc6 (dec6 (valsI s))) ++ List.replicate j 61 → False := fun j q => by
        have := bare_of j (last_not hall)
        rw [← q, hb] at this
        exact ha (by rw [this]; exact hall)
      rintro (q | q)
      · exact key 0 (by simpa using q)
      · exact key _ q
end Fen

namespace Fen
open Go

/-! ### texts to texts -/
def natsI (s : List UInt8) : List Nat := s.map UInt8.toNat
theorem natsI_by (s : List UInt8) : By (natsI s) := fun x hx => by
  obtain ⟨b, _, rfl⟩ := List.mem_map.1 hx
  exact b.toNat_lt
@[simp] theorem natsI_len (s : List UInt8) : (natsI s).length = s.length := by simp [natsI]
def bareE (s : List UInt8) : List UInt8 := txtI (enc6 (natsI s))
def encI (s : List UInt8) : List UInt8 := bareE s ++ padI (bareE s).length
theorem bareE_len (s : List UInt8) : (bareE s).length = (s.length * 4 + 2) / 3 := by simp [bareE, txtI, enc_len]
theorem bareE_all (s : List UInt8) : allI (bareE s) = true := (vals_txt (enc_sx (natsI_by s))).2
theorem bareE_vals (s : List UInt8) : valsI (bareE s) = enc6 (natsI s) := (vals_txt (enc_sx (natsI_by s))).1
theorem encI_len (s : List UInt8) : (encI s).length = (s.length + 2) / 3 * 4 := by
  unfold encI padI
  rw [List.length_append, List.length_replicate, bareE_len]
  omega
theorem bare_enc (s : List UInt8) : bareI (encI s) = bareE s := bare_of _ (last_not (bareE_all s))
theorem bare_bare (s : List UInt8) : bareI (bareE s) = bareE s := by
  have := bare_of 0 (last_not (bareE_all s))
  simpa using this
theorem dec_bareE (s : List UInt8) : decI (bareE s) = some (natsI s) := by
  unfold decI
  rw [bare_bare, if_neg (by simp), bareE_vals, if_pos ⟨bareE_all s, (dec_enc (natsI_by s)).2⟩, (dec_enc (natsI_by s)).1]
theorem dec_encI (s : List UInt8) : decI (encI s) = some (natsI s) := by
  unfold decI
  have h1 := encI_len s
  have h2 := bareE_len s
  rw [bare_enc, if_neg (by rw [h1, h2]; omega), bareE_vals, if_pos ⟨bareE_all s, (dec_enc (natsI_by s)).2⟩, (dec_enc (natsI_by s)).1]
theorem natsI_back {v : List Nat} (h : By v) : natsI (v.map UInt8.ofNat) = v := by
  simp only [natsI, List.map_map]
  conv => rhs; rw [← List.map_id v]
  refine List.map_congr_left fun x hx => ?_
  have := h x hx
  simp only [Function.comp, UInt8.toNat_ofNat', id]
  omega
/-- what Decode accepts is an encoding -/
theorem dec_only {t : List UInt8} {v : List Nat} (h : decI t = some v) : By v ∧ (t = encI (v.map UInt8.ofNat) ∨ t = bareE (v.map UInt8.ofNat)) := by
  rw [dec_eq] at h
  unfold rdecI at h
  split at h
  · rename_i q
    obtain rfl := Option.some.inj h
    have hb := dec_by (vals_sx t)
    refine ⟨hb, ?_⟩
    unfold encI bareE
    rw [natsI_back hb]
    rcases q with q | q
    · exact .inr q
    · left
      conv => lhs; rw [q]
      simp [txtI]
  · cases h
theorem enc_split {a b : List UInt8} (h : a.length % 3 = 0) : encI (a ++ b) = encI a ++ encI b := by
  have e : natsI (a ++ b) = natsI a ++ natsI b := by simp [natsI]
  have e2 := enc_app (a.length / 3) (natsI a) (natsI b) (by simp; omega)
  have h1 := bareE_len a
  have h0 : padI (bareE a).length = [] := by
    unfold padI
    rw [h1, show (4 - (a.length * 4 + 2) / 3 % 4) % 4 = 0 by omega]
    rfl
  have h2 : bareE (a ++ b) = bareE a ++ bareE b := by unfold bareE; rw [e, e2]; simp [txtI]
  have h3 : padI (bareE (a ++ b)).length = padI (bareE b).length := by
    unfold padI
    rw [h2, List.length_append, h1, show (4 - ((a.length * 4 + 2) / 3 + (bareE b).length) % 4) % 4 = (4 - (bareE b).length % 4) % 4 by omega]
  unfold encI
  rw [h3, h2, h0]
  simp
end Fen

namespace Fen
open Go

/-! ### the program's two runs, as texts -/
/-- Encode's run: the signs that are out, and what waits -/
theorem enc_run (s : List UInt8) : ∃ w r o, (natsI s).foldl goE ⟨0, 0, []⟩ = ⟨w, r, o⟩ ∧ (w = 0 ∨ w = 2 ∨ w = 4) ∧ r < 2 ^ w ∧ bareE s = txtI o ++ (if w = 0 then [] else [sgnI (r * 2 ^ (6 - w))]) := by
  obtain ⟨w, r, o, h1, h2, h3, h4⟩ := goE_run (natsI s) [] (natsI_by s)
  refine ⟨w, r, o, by simpa using h1, h2, h3, ?_⟩
  unfold bareE
  rw [h4]
  split <;> simp [txtI]
/-- Decode's -/
theorem dec_run {b : List UInt8} (h : allI b = true) : ∃ w r, (valsI b).foldl goD ⟨0, 0, []⟩ = ⟨w, r, dec6 (valsI b)⟩ ∧ (ok6 (valsI b) = true ↔ w ≠ 6 ∧ r = 0) ∧ r < 64 ∧ (w = 0 ∨ w = 2 ∨ w = 4 ∨ w = 6) := by
  obtain ⟨w, r, h1, h2, h3, h4⟩ := goD_run (valsI b) [] (vals_sx b)
  exact ⟨w, r, by simpa using h1, h2, h3, h4⟩
end Fen
