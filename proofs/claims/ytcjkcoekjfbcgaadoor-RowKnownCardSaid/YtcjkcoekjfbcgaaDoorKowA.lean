/- A part of the proof; no statement is proved here: PlA, PlB, RTypes1, RWid, RRowA, RRowB. -/
import Derived.Test.YtcjkcoekjfbcgaaDoorKorE
import Derived.Test.YtcjkcoekjfbcgaaDoorChecked
import Derived.Test.YtcjkcoekjfbcgaaDoorKorD
import Derived.KernelRfl

set_option linter.unusedVariables false
set_option linter.unusedSimpArgs false

namespace Fen
open Go

/-! ### cells and rows, as cells of the model -/
structure Sty where
  (attr under fk fn bk bn lk ln : Int)
  deriving DecidableEq, Inhabited
structure Cel where
  (base m0 m1 wide : Int)
  (st : Sty)
  deriving DecidableEq, Inhabited
structure Rw where
  (cells : List Cel)
  (wrapped : Bool)
  deriving DecidableEq, Inhabited

def styC (s : Sty) : List C := [.int .i64 s.attr, .int .i64 s.under, .int .i64 s.fk, .int .i64 s.fn, .int .i64 s.bk, .int .i64 s.bn, .int .i64 s.lk, .int .i64 s.ln]
def celC (c : Cel) : List C := .int .i64 c.base :: .int .i64 c.m0 :: .int .i64 c.m1 :: .int .i64 c.wide :: styC c.st
def celsC : List Cel → List C
  | [] => []
  | c :: l => celC c ++ celsC l
def rowC (r : Rw) : List C := [.sl r.cells.length (celsC r.cells), .bool r.wrapped]
def rowsC : List Rw → List C
  | [] => []
  | r :: l => rowC r ++ rowsC l
def celV (c : Cel) : V := .agg (celC c)
def styV (s : Sty) : V := .agg (styC s)
def rowV (r : Rw) : V := .agg (rowC r)
def rowsV (l : List Rw) : V := .c (.sl l.length (rowsC l))
def celsV (l : List Cel) : V := .c (.sl l.length (celsC l))

section
variable (s : Sty) (c d : Cel) (r : Rw) (l m : List Cel) (q : List Rw) (rest : List C) (n k : Nat)

@[simp] theorem styC_len : (styC s).length = 8 := rfl
@[simp] theorem celC_len : (celC c).length = 12 := rfl
@[simp] theorem rowC_len : (rowC r).length = 2 := rfl
@[simp] theorem celsC_len : (celsC l).length = l.length * 12 := by
  induction l with
  | nil => rfl
  | cons x l ih => simp [celsC, ih]; omega
@[simp] theorem rowsC_len : (rowsC q).length = q.length * 2 := by
  induction q with
  | nil => rfl
  | cons x l ih => simp [rowsC, ih]; omega
theorem celsC_app : celsC (l ++ m) = celsC l ++ celsC m := by
  induction l with
  | nil => rfl
  | cons x l ih => simp [celsC, ih]
theorem rowsC_app (q p : List Rw) : rowsC (q ++ p) = rowsC q ++ rowsC p := by
  induction q with
  | nil => rfl
  | cons x l ih => simp [rowsC, ih]
@[simp] theorem celsC_nil : celsC [] = [] := rfl
@[simp] theorem rowsC_nil : rowsC [] = [] := rfl
theorem celsC_drop : ∀ (l : List Cel) (k : Nat), (celsC l).drop (k * 12) = celsC (l.drop k)
  | _, 0 => by simp
  | [], k + 1 => by simp [celsC]
  | x :: l, k + 1 => by
    rw [celsC, List.drop_append, List.drop_of_length_le (by simp; omega), List.drop_succ_cons, celC_len, show (k + 1) * 12 - 12 = k * 12 by omega]
    simpa using celsC_drop l k
theorem rowsC_drop : ∀ (l : List Rw) (k : Nat), (rowsC l).drop (k * 2) = rowsC (l.drop k)
  | _, 0 => by simp
  | [], k + 1 => by simp [rowsC]
  | x :: l, k + 1 => by
    rw [rowsC, List.drop_append, List.drop_of_length_le (by simp; omega), List.drop_succ_cons, rowC_len, show (k + 1) * 2 - 2 = k * 2 by omega]
    simpa using rowsC_drop l k
theorem celsC_take (l : List Cel) (k : Nat) : (celsC l).take (k * 12) = celsC (l.take k) := by
  have e : celsC l = celsC (l.take k) ++ celsC (l.drop k) := by rw [← celsC_app, List.take_append_drop]
  rcases Nat.lt_or_ge k l.length with h | h
  · rw [e, List.take_left' (by rw [celsC_len, List.length_take]; congr 1; omega)]
  · rw [List.take_of_length_le (by rw [celsC_len]; exact Nat.mul_le_mul_right _ h), List.take_of_length_le h]
theorem rowsC_take (l : List Rw) (k : Nat) : (rowsC l).take (k * 2) = rowsC (l.take k) := by
  have e : rowsC l = rowsC (l.take k) ++ rowsC (l.drop k) := by rw [← rowsC_app, List.take_append_drop]
  rcases Nat.lt_or_ge k l.length with h | h
  · rw [e, List.take_left' (by rw [rowsC_len, List.length_take]; congr 1; omega)]
  · rw [List.take_of_length_le (by rw [rowsC_len]; exact Nat.mul_le_mul_right _ h), List.take_of_length_le h]
/-- the cells from one on -/
theorem celsC_at {l : List Cel} {k : Nat} (h : k < l.length) : (celsC l).drop (k * 12) = celC l[k] ++ celsC (l.drop (k + 1)) := by
  rw [celsC_drop, List.drop_eq_getElem_cons h]; rfl
theorem rowsC_at {l : List Rw} {k : Nat} (h : k < l.length) : (rowsC l).drop (k * 2) = rowC l[k] ++ rowsC (l.drop (k + 1)) := by
  rw [rowsC_drop, List.drop_eq_getElem_cons h]; rfl
theorem celsC_set {l : List Cel} {k : Nat} (h : k < l.length) (c : Cel) : (celsC l).take (k * 12) ++ (celC c ++ (celsC l).drop (k * 12 + 12)) = celsC (l.set k c) := by
  rw [List.set_eq_take_append_cons_drop, if_pos h, celsC_app, celsC_take, show k * 12 + 12 = (k + 1) * 12 by omega, celsC_drop]; rfl
theorem rowsC_set {l : List Rw} {k : Nat} (h : k < l.length) (c : Rw) : (rowsC l).take (k * 2) ++ (rowC c ++ (rowsC l).drop (k * 2 + 2)) = rowsC (l.set k c) := by
  rw [List.set_eq_take_append_cons_drop, if_pos h, rowsC_app, rowsC_take, show k * 2 + 2 = (k + 1) * 2 by omega, rowsC_drop]; rfl

/-! parts -/
@[simp] theorem take_cel : (celC c ++ rest).take 12 = celC c := by rw [List.take_left' (by simp)]
@[simp] theorem take_cel0 : (celC c).take 12 = celC c := by rw [List.take_of_length_le (by simp)]
@[simp] theorem drop_cel12 : (celC c ++ rest).drop 12 = rest := by rw [List.drop_left' (by simp)]
@[simp] theorem take_sty0 : (styC s).take 8 = styC s := by rw [List.take_of_length_le (by simp)]
@[simp] theorem take_sty : (styC s ++ rest).take 8 = styC s := by rw [List.take_left' (by simp)]
@[simp] theorem cel_st : (celC c).drop 4 = styC c.st := rfl
@[simp] theorem cel_st2 : (celC c ++ rest).drop 4 = styC c.st ++ rest := rfl
@[simp] theorem cel_d1 : (celC c).drop 1 = .int .i64 c.m0 :: .int .i64 c.m1 :: .int .i64 c.wide :: styC c.st := rfl
@[simp] theorem cel_d1' : (celC c).tail = .int .i64 c.m0 :: .int .i64 c.m1 :: .int .i64 c.wide :: styC c.st := rfl
@[simp] theorem cel_0 : (celC c).head? = some (.int .i64 c.base) := rfl
@[simp] theorem cel_00 : (celC c)[0]? = some (.int .i64 c.base) := rfl
@[simp] theorem cel_1 : (celC c)[1]? = some (.int .i64 c.m0) := rfl
@[simp] theorem cel_2 : (celC c)[2]? = some (.int .i64 c.m1) := rfl
@[simp] theorem cel_3 : (celC c)[3]? = some (.int .i64 c.wide) := rfl
@[simp] theorem cel_h : (celC c ++ rest).head? = some (.int .i64 c.base) := rfl
@[simp] theorem cel_t : (celC c ++ rest).tail = .int .i64 c.m0 :: .int .i64 c.m1 :: .int .i64 c.wide :: (styC c.st ++ rest) := rfl
@[simp] theorem cel_r1 : (celC c ++ rest).drop 1 = .int .i64 c.m0 :: .int .i64 c.m1 :: .int .i64 c.wide :: (styC c.st ++ rest) := rfl
@[simp] theorem cel_r2 : (celC c ++ rest).drop 2 = .int .i64 c.m1 :: .int .i64 c.wide :: (styC c.st ++ rest) := rfl
@[simp] theorem cel_r3 : (celC c ++ rest).drop 3 = .int .i64 c.wide :: (styC c.st ++ rest) := rfl
@[simp] theorem sty_0 : (styC s).head? = some (.int .i64 s.attr) := rfl
@[simp] theorem sty_00 : (styC s)[0]? = some (.int .i64 s.attr) := rfl
@[simp] theorem sty_1 : (styC s)[1]? = some (.int .i64 s.under) := rfl
@[simp] theorem sty_d2 : (styC s).drop 2 = [.int .i64 s.fk, .int .i64 s.fn, .int .i64 s.bk, .int .i64 s.bn, .int .i64 s.lk, .int .i64 s.ln] := rfl
@[simp] theorem sty_d4 : (styC s).drop 4 = [.int .i64 s.bk, .int .i64 s.bn, .int .i64 s.lk, .int .i64 s.ln] := rfl
@[simp] theorem sty_d6 : (styC s).drop 6 = [.int .i64 s.lk, .int .i64 s.ln] := rfl
@[simp] theorem row_0 : (rowC r).head? = some (.sl r.cells.length (celsC r.cells)) := rfl
@[simp] theorem row_00 : (rowC r)[0]? = some (.sl r.cells.length (celsC r.cells)) := rfl
@[simp] theorem row_1 : (rowC r)[1]? = some (.bool r.wrapped) := rfl
@[simp] theorem take_row : (rowC r ++ rest).take 2 = rowC r := rfl
@[simp] theorem take_row0 : (rowC r).take 2 = rowC r := rfl
@[simp] theorem row_h : (rowC r ++ rest).head? = some (.sl r.cells.length (celsC r.cells)) := rfl
@[simp] theorem row_r1 : (rowC r ++ rest).drop 1 = .bool r.wrapped :: rest := rfl
@[simp] theorem row_t : (rowC r ++ rest).tail = .bool r.wrapped :: rest := rfl
@[simp] theorem drop_row2 : (rowC r ++ rest).drop 2 = rest := rfl

/-! == -/
theorem cellsEq_sty (a b : Sty) : cellsEq (styC a) (styC b) = decide (a = b) := by
  cases a; cases b
  rw [Bool.eq_iff_iff]
  simp [styC]
theorem cellsEq_cel (a b : Cel) : cellsEq (celC a) (celC b) = decide (a = b) := by
  obtain ⟨a0, a1, a2, a3, s⟩ := a
  obtain ⟨b0, b1, b2, b3, t⟩ := b
  rw [Bool.eq_iff_iff]
  simp [celC, cellsEq_sty]
attribute [simp] cellsEq_sty cellsEq_cel
def eksSty : List EK := [.int .i64, .int .i64, .int .i64, .int .i64, .int .i64, .int .i64, .int .i64, .int .i64]
def eksCel : List EK := [.int .i64, .int .i64, .int .i64, .int .i64, .int .i64, .int .i64, .int .i64, .int .i64, .int .i64, .int .i64, .int .i64, .int .i64]
@[simp] theorem kinds_sty : kindsOK [.int .i64, .int .i64, .int .i64, .int .i64, .int .i64, .int .i64, .int .i64, .int .i64] (styC s) = True := by simp [styC]
@[simp] theorem kinds_cel : kindsOK [.int .i64, .int .i64, .int .i64, .int .i64, .int .i64, .int .i64, .int .i64, .int .i64, .int .i64, .int .i64, .int .i64, .int .i64] (celC c) = True := by simp [celC, styC]
end
/-! built values, folded -/
theorem celC_mk (a b c d e f g h i j k l : Int) : [C.int .i64 a, .int .i64 b, .int .i64 c, .int .i64 d, .int .i64 e, .int .i64 f, .int .i64 g, .int .i64 h, .int .i64 i, .int .i64 j, .int .i64 k, .int .i64 l] = celC ⟨a, b, c, d, ⟨e, f, g, h, i, j, k, l⟩⟩ := rfl
theorem celC_st (a b c d : Int) (s : Sty) : (C.int .i64 a :: .int .i64 b :: .int .i64 c :: .int .i64 d :: styC s) = celC ⟨a, b, c, d, s⟩ := rfl
theorem styC_mk (e f g h i j k l : Int) : [C.int .i64 e, .int .i64 f, .int .i64 g, .int .i64 h, .int .i64 i, .int .i64 j, .int .i64 k, .int .i64 l] = styC ⟨e, f, g, h, i, j, k, l⟩ := rfl
attribute [simp] celC_st

@[simp] theorem celC_inj (a b : Cel) : celC a = celC b ↔ a = b := by
  refine ⟨fun h => ?_, fun h => by rw [h]⟩
  have := cellsEq_cel a b
  rw [h, cellsEq_cel] at this
  simpa using this
@[simp] theorem styC_inj (a b : Sty) : styC a = styC b ↔ a = b := by
  refine ⟨fun h => ?_, fun h => by rw [h]⟩
  have := cellsEq_sty a b
  rw [h, cellsEq_sty] at this
  simpa using this
theorem celsC_inj : ∀ {a b : List Cel}, celsC a = celsC b → a = b
  | [], [], _ => rfl
  | [], _ :: _, h => by have := congrArg List.length h; simp at this
  | _ :: _, [], h => by have := congrArg List.length h; simp at this
  | a :: la, b :: lb, h => by
    simp only [celsC] at h
    obtain ⟨h1, h2⟩ := List.append_inj h (by simp)
    rw [(celC_inj a b).1 h1, celsC_inj h2]
end Fen

namespace Fen
open Go

/-! values back from cells -/
def V.cs : V → List C
  | .agg cs => cs
  | .c (.sl _ cs) => cs
  | _ => []
@[simp] theorem V.cs_agg (cs : List C) : V.cs (.agg cs) = cs := rfl
@[simp] theorem V.cs_sl (n : Nat) (cs : List C) : V.cs (.c (.sl n cs)) = cs := rfl
def stOf : List C → Sty
  | [.int _ a, .int _ b, .int _ c, .int _ d, .int _ e, .int _ f, .int _ g, .int _ h] => ⟨a, b, c, d, e, f, g, h⟩
  | _ => default
@[simp] theorem stOf_C (s : Sty) : stOf (styC s) = s := rfl
def celOf : List C → Cel
  | .int _ a :: .int _ b :: .int _ c :: .int _ d :: l => ⟨a, b, c, d, stOf l⟩
  | _ => default
@[simp] theorem celOf_C (c : Cel) : celOf (celC c) = c := rfl
def celsOf : List C → List Cel
  | .int _ a :: .int _ b :: .int _ c :: .int _ d :: .int _ e :: .int _ f :: .int _ g :: .int _ h :: .int _ i :: .int _ j :: .int _ k :: .int _ m :: l => ⟨a, b, c, d, ⟨e, f, g, h, i, j, k, m⟩⟩ :: celsOf l
  | _ => []
@[simp] theorem celsOf_C : ∀ l : List Cel, celsOf (celsC l) = l
  | [] => rfl
  | c :: l => by simp only [celsC, celC, styC, List.cons_append, List.nil_append, celsOf, celsOf_C l]
def rowOf : List C → Rw
  | [.sl _ cs, .bool w] => ⟨celsOf cs, w⟩
  | _ => default
@[simp] theorem rowOf_C (r : Rw) : rowOf (rowC r) = r := by simp [rowOf, rowC]
def rowsOf : List C → List Rw
  | .sl _ cs :: .bool w :: l => ⟨celsOf cs, w⟩ :: rowsOf l
  | _ => []
@[simp] theorem rowsOf_C : ∀ l : List Rw, rowsOf (rowsC l) = l
  | [] => rfl
  | r :: l => by simp [rowsC, rowC, rowsOf, rowsOf_C l]
@[simp] theorem styV_x (s : Sty) : (styV s).x = .agg (styC s) := rfl
@[simp] theorem celV_x (s : Cel) : (celV s).x = .agg (celC s) := rfl
@[simp] theorem rowV_x (s : Rw) : (rowV s).x = .agg (rowC s) := rfl
@[simp] theorem rowsV_x (l : List Rw) : (rowsV l).x = .val (.sl l.length (rowsC l)) := rfl
@[simp] theorem celsV_x (l : List Cel) : (celsV l).x = .val (.sl l.length (celsC l)) := rfl
@[simp] theorem V.cs_sty (s : Sty) : (styV s).cs = styC s := rfl
@[simp] theorem V.cs_cel (s : Cel) : (celV s).cs = celC s := rfl
@[simp] theorem V.cs_row (s : Rw) : (rowV s).cs = rowC s := rfl
@[simp] theorem V.cs_rows (l : List Rw) : (rowsV l).cs = rowsC l := rfl
@[simp] theorem V.cs_cels (l : List Cel) : (celsV l).cs = celsC l := rfl
@[simp] theorem agg_styV (cs : List C) (s : Sty) : (V.agg cs = styV s) = (cs = styC s) := by simp [styV]
@[simp] theorem agg_celV (cs : List C) (s : Cel) : (V.agg cs = celV s) = (cs = celC s) := by simp [celV]
@[simp] theorem agg_rowV (cs : List C) (s : Rw) : (V.agg cs = rowV s) = (cs = rowC s) := by simp [rowV]
theorem rowC_inj {a b : Rw} : rowC a = rowC b ↔ a = b := ⟨fun h => by rw [← rowOf_C a, h, rowOf_C], fun h => by rw [h]⟩
theorem rowsC_inj {a b : List Rw} : rowsC a = rowsC b ↔ a = b := ⟨fun h => by rw [← rowsOf_C a, h, rowsOf_C], fun h => by rw [h]⟩
theorem celsC_inj' {a b : List Cel} : celsC a = celsC b ↔ a = b := ⟨fun h => celsC_inj h, fun h => by rw [h]⟩
attribute [simp] rowC_inj rowsC_inj celsC_inj'
@[simp] theorem sl_rowsV (n : Nat) (cs : List C) (p : List Rw) : (V.c (.sl n cs) = rowsV p) = (cs = rowsC p ∧ n = p.length) := by simp [rowsV]; exact And.comm
@[simp] theorem sl_celsV (n : Nat) (cs : List C) (p : List Cel) : (V.c (.sl n cs) = celsV p) = (cs = celsC p ∧ n = p.length) := by simp [celsV]; exact And.comm

/-! ### what the program says of colours, styles, cells, rows -/
def colF (k n : Int) : Int := if (k = 0 ∧ n = 0) ∨ (k = 1 ∧ 0 ≤ n ∧ n ≤ 255) ∨ (k = 2 ∧ 0 ≤ n ∧ n ≤ 16777215) then 0 else 130
def styF (s : Sty) : Int :=
  if s.attr < 0 ∨ 255 < s.attr ∨ s.under < 0 ∨ 5 < s.under then 140
  else if colF s.fk s.fn = 0 ∧ colF s.bk s.bn = 0 ∧ colF s.lk s.ln = 0 then 0 else 130

theorem andNot255 {a : Int} (h : -9223372036854775808 ≤ a ∧ a ≤ 9223372036854775807) : (bits2 (fun _ x y => x &&& ~~~y) .i64 a 255 = 0) ↔ (0 ≤ a ∧ a ≤ 255) := by
  have e : ∀ x : BitVec 64, (x &&& ~~~(BitVec.ofInt 64 255)).toNat = 0 ↔ x.toNat < 256 := fun x => by
    have q : (BitVec.ofInt 64 255) = 255#64 := by decide
    rw [q]
    constructor
    · intro h0
      refine Nat.lt_pow_two_of_testBit (n := 8) _ fun i hi => ?_
      have h1 : (x &&& ~~~255#64).getLsbD i = false := by
        have : (x &&& ~~~255#64) = 0#64 := BitVec.eq_of_toNat_eq (by simpa using h0)
        rw [this]; simp
      rcases Nat.lt_or_ge i 64 with c | c
      · have h2 : (255#64).getLsbD i = false := by
          have : ∀ i, i < 64 → 8 ≤ i → (255#64).getLsbD i = false := by decide
          exact this i c hi
        simp only [BitVec.getLsbD_and, BitVec.getLsbD_not, h2, c] at h1
        simpa [BitVec.getLsbD] using h1
      · exact Nat.testBit_lt_two_pow (Nat.lt_of_lt_of_le x.isLt (Nat.pow_le_pow_right (by omega) c))
    · intro h0
      have : (x &&& ~~~255#64) = 0#64 := by
        apply BitVec.eq_of_getLsbD_eq
        intro i hi
        simp only [BitVec.getLsbD_and, BitVec.getLsbD_not, BitVec.getLsbD_zero]
        rcases Nat.lt_or_ge i 8 with c | c
        · have h2 : ∀ i, i < 8 → (255#64).getLsbD i = true := by decide
          rw [h2 i c]; simp
        · have : x.getLsbD i = false := by
            unfold BitVec.getLsbD
            exact Nat.testBit_lt_two_pow (Nat.lt_of_lt_of_le h0 (by
              have : (2 : Nat) ^ 8 ≤ 2 ^ i := Nat.pow_le_pow_right (by omega) c
              omega))
          rw [this]; simp
      rw [this]; rfl
  unfold bits2
  have w : ∀ n : Nat, n < 18446744073709551616 → (IntKind.i64.wrap (n : Int) = 0 ↔ n = 0) := fun n hn => by rw [IntKind.wrap_i64]; omega
  have hx := (BitVec.ofInt IntKind.i64.bits a).isLt
  rw [w _ (by
    have := ((BitVec.ofInt IntKind.i64.bits a) &&& ~~~(BitVec.ofInt IntKind.i64.bits 255)).isLt
    exact this)]
  refine (e (BitVec.ofInt 64 a)).trans ?_
  rw [BitVec.toNat_ofInt]
  omega

def halfF (c : Cel) : Bool := decide (c = ⟨0, 0, 0, 2, c.st⟩)
theorem halfF_iff (c : Cel) : halfF c = true ↔ c.base = 0 ∧ c.m0 = 0 ∧ c.m1 = 0 ∧ c.wide = 2 := by
  obtain ⟨a, b, d, e, s⟩ := c
  simp [halfF]
end Fen

/- The table of this seat's types, and that the program has it. Printed by a program of mine (gen.py) from the translation. -/
namespace Fen
open Go Go.Proofs
set_option maxRecDepth 10000
theorem ty1_u : Tryd.prog.underlying 1 = some (.func #[] #[] false) := by kernel_rfl
theorem ty1_i : (Tryd.prog.info? 1).map (fun i => (i.zero, i.size, i.bytes)) = some (some (.nilFunc), 1, 8) := by kernel_rfl
theorem ty2_u : Tryd.prog.underlying 2 = some (.int .i64) := by kernel_rfl
theorem ty2_i : (Tryd.prog.info? 2).map (fun i => (i.zero, i.size, i.bytes)) = some (some (.int .i64 0), 1, 8) := by kernel_rfl
theorem ty3_u : Tryd.prog.underlying 3 = some (.int .i64) := by kernel_rfl
theorem ty3_i : (Tryd.prog.info? 3).map (fun i => (i.zero, i.size, i.bytes)) = some (some (.int .i64 0), 1, 8) := by kernel_rfl
theorem ty4_u : Tryd.prog.underlying 4 = some (.bool) := by kernel_rfl
theorem ty4_i : (Tryd.prog.info? 4).map (fun i => (i.zero, i.size, i.bytes)) = some (some (.bool false), 1, 1) := by kernel_rfl
theorem ty5_u : Tryd.prog.underlying 5 = some (.int .u8) := by kernel_rfl
theorem ty5_i : (Tryd.prog.info? 5).map (fun i => (i.zero, i.size, i.bytes)) = some (some (.int .u8 0), 1, 1) := by kernel_rfl
theorem ty9_u : Tryd.prog.underlying 9 = some (.string) := by kernel_rfl
theorem ty9_i : (Tryd.prog.info? 9).map (fun i => (i.zero, i.size, i.bytes)) = some (some (.string ⟨#[]⟩), 1, 16) := by kernel_rfl
theorem ty12_u : Tryd.prog.underlying 12 = some (.int .u64) := by kernel_rfl
theorem ty12_i : (Tryd.prog.info? 12).map (fun i => (i.zero, i.size, i.bytes)) = some (some (.int .u64 0), 1, 8) := by kernel_rfl
theorem ty21_u : Tryd.prog.underlying 21 = some (.int .i32) := by kernel_rfl
theorem ty21_i : (Tryd.prog.info? 21).map (fun i => (i.zero, i.size, i.bytes)) = some (some (.int .i32 0), 1, 4) := by kernel_rfl
theorem ty22_u : Tryd.prog.underlying 22 = some (.slice 5) := by kernel_rfl
theorem ty22_i : (Tryd.prog.info? 22).map (fun i => (i.zero, i.size, i.bytes)) = some (some (.slice none 0 0), 1, 24) := by kernel_rfl
theorem ty23_u : Tryd.prog.underlying 23 = some (.struct #[{ name := "Cols", type := 5, offset := 0, embedded := false, tag := "", pkgPath := "", byteOffset := 0 }, { name := "B", type := 22, offset := 1, embedded := false, tag := "", pkgPath := "", byteOffset := 8 }, { name := "Wrapped", type := 4, offset := 2, embedded := false, tag := "", pkgPath := "", byteOffset := 32 }]) := by kernel_rfl
theorem ty23_i : (Tryd.prog.info? 23).map (fun i => (i.zero, i.size, i.bytes)) = some (some (.agg #[.int .u8 0, .slice none 0 0, .bool false]), 3, 40) := by kernel_rfl
theorem ty24_u : Tryd.prog.underlying 24 = some (.struct #[{ name := "Cols", type := 5, offset := 0, embedded := false, tag := "", pkgPath := "", byteOffset := 0 }, { name := "B", type := 22, offset := 1, embedded := false, tag := "", pkgPath := "", byteOffset := 8 }, { name := "Wrapped", type := 4, offset := 2, embedded := false, tag := "", pkgPath := "", byteOffset := 32 }]) := by kernel_rfl
theorem ty24_i : (Tryd.prog.info? 24).map (fun i => (i.zero, i.size, i.bytes)) = some (some (.agg #[.int .u8 0, .slice none 0 0, .bool false]), 3, 40) := by kernel_rfl
theorem ty25_u : Tryd.prog.underlying 25 = some (.slice 34) := by kernel_rfl
theorem ty25_i : (Tryd.prog.info? 25).map (fun i => (i.zero, i.size, i.bytes)) = some (some (.slice none 0 0), 1, 24) := by kernel_rfl
theorem ty26_u : Tryd.prog.underlying 26 = some (.struct #[{ name := "Cells", type := 25, offset := 0, embedded := false, tag := "", pkgPath := "", byteOffset := 0 }, { name := "Wrapped", type := 4, offset := 1, embedded := false, tag := "", pkgPath := "", byteOffset := 24 }]) := by kernel_rfl
theorem ty26_i : (Tryd.prog.info? 26).map (fun i => (i.zero, i.size, i.bytes)) = some (some (.agg #[.slice none 0 0, .bool false]), 2, 32) := by kernel_rfl
theorem ty27_u : Tryd.prog.underlying 27 = some (.struct #[{ name := "Cells", type := 25, offset := 0, embedded := false, tag := "", pkgPath := "", byteOffset := 0 }, { name := "Wrapped", type := 4, offset := 1, embedded := false, tag := "", pkgPath := "", byteOffset := 24 }]) := by kernel_rfl
theorem ty27_i : (Tryd.prog.info? 27).map (fun i => (i.zero, i.size, i.bytes)) = some (some (.agg #[.slice none 0 0, .bool false]), 2, 32) := by kernel_rfl
theorem ty28_u : Tryd.prog.underlying 28 = some (.array 2 3) := by kernel_rfl
theorem ty28_i : (Tryd.prog.info? 28).map (fun i => (i.zero, i.size, i.bytes)) = some (some (.agg #[.int .i64 0, .int .i64 0]), 2, 16) := by kernel_rfl
theorem ty29_u : Tryd.prog.underlying 29 = some (.struct #[{ name := "Kind", type := 3, offset := 0, embedded := false, tag := "", pkgPath := "", byteOffset := 0 }, { name := "N", type := 3, offset := 1, embedded := false, tag := "", pkgPath := "", byteOffset := 8 }]) := by kernel_rfl
theorem ty29_i : (Tryd.prog.info? 29).map (fun i => (i.zero, i.size, i.bytes)) = some (some (.agg #[.int .i64 0, .int .i64 0]), 2, 16) := by kernel_rfl
theorem ty30_u : Tryd.prog.underlying 30 = some (.struct #[{ name := "Kind", type := 3, offset := 0, embedded := false, tag := "", pkgPath := "", byteOffset := 0 }, { name := "N", type := 3, offset := 1, embedded := false, tag := "", pkgPath := "", byteOffset := 8 }]) := by kernel_rfl
theorem ty30_i : (Tryd.prog.info? 30).map (fun i => (i.zero, i.size, i.bytes)) = some (some (.agg #[.int .i64 0, .int .i64 0]), 2, 16) := by kernel_rfl
theorem ty31_u : Tryd.prog.underlying 31 = some (.struct #[{ name := "Attr", type := 3, offset := 0, embedded := false, tag := "", pkgPath := "", byteOffset := 0 }, { name := "Under", type := 3, offset := 1, embedded := false, tag := "", pkgPath := "", byteOffset := 8 }, { name := "Fore", type := 30, offset := 2, embedded := false, tag := "", pkgPath := "", byteOffset := 16 }, { name := "Back", type := 30, offset := 4, embedded := false, tag := "", pkgPath := "", byteOffset := 32 }, { name := "Line", type := 30, offset := 6, embedded := false, tag := "", pkgPath := "", byteOffset := 48 }]) := by kernel_rfl
theorem ty31_i : (Tryd.prog.info? 31).map (fun i => (i.zero, i.size, i.bytes)) = some (some (.agg #[.int .i64 0, .int .i64 0, .int .i64 0, .int .i64 0, .int .i64 0, .int .i64 0, .int .i64 0, .int .i64 0]), 8, 64) := by kernel_rfl
theorem ty32_u : Tryd.prog.underlying 32 = some (.struct #[{ name := "Attr", type := 3, offset := 0, embedded := false, tag := "", pkgPath := "", byteOffset := 0 }, { name := "Under", type := 3, offset := 1, embedded := false, tag := "", pkgPath := "", byteOffset := 8 }, { name := "Fore", type := 30, offset := 2, embedded := false, tag := "", pkgPath := "", byteOffset := 16 }, { name := "Back", type := 30, offset := 4, embedded := false, tag := "", pkgPath := "", byteOffset := 32 }, { name := "Line", type := 30, offset := 6, embedded := false, tag := "", pkgPath := "", byteOffset := 48 }]) := by kernel_rfl
theorem ty32_i : (Tryd.prog.info? 32).map (fun i => (i.zero, i.size, i.bytes)) = some (some (.agg #[.int .i64 0, .int .i64 0, .int .i64 0, .int .i64 0, .int .i64 0, .int .i64 0, .int .i64 0, .int .i64 0]), 8, 64) := by kernel_rfl
theorem ty33_u : Tryd.prog.underlying 33 = some (.struct #[{ name := "Base", type := 3, offset := 0, embedded := false, tag := "", pkgPath := "", byteOffset := 0 }, { name := "Marks", type := 28, offset := 1, embedded := false, tag := "", pkgPath := "", byteOffset := 8 }, { name := "Wide", type := 3, offset := 3, embedded := false, tag := "", pkgPath := "", byteOffset := 24 }, { name := "Style", type := 32, offset := 4, embedded := false, tag := "", pkgPath := "", byteOffset := 32 }]) := by kernel_rfl
theorem ty33_i : (Tryd.prog.info? 33).map (fun i => (i.zero, i.size, i.bytes)) = some (some (.agg #[.int .i64 0, .int .i64 0, .int .i64 0, .int .i64 0, .int .i64 0, .int .i64 0, .int .i64 0, .int .i64 0, .int .i64 0, .int .i64 0, .int .i64 0, .int .i64 0]), 12, 96) := by kernel_rfl
theorem ty34_u : Tryd.prog.underlying 34 = some (.struct #[{ name := "Base", type := 3, offset := 0, embedded := false, tag := "", pkgPath := "", byteOffset := 0 }, { name := "Marks", type := 28, offset := 1, embedded := false, tag := "", pkgPath := "", byteOffset := 8 }, { name := "Wide", type := 3, offset := 3, embedded := false, tag := "", pkgPath := "", byteOffset := 24 }, { name := "Style", type := 32, offset := 4, embedded := false, tag := "", pkgPath := "", byteOffset := 32 }]) := by kernel_rfl
theorem ty34_i : (Tryd.prog.info? 34).map (fun i => (i.zero, i.size, i.bytes)) = some (some (.agg #[.int .i64 0, .int .i64 0, .int .i64 0, .int .i64 0, .int .i64 0, .int .i64 0, .int .i64 0, .int .i64 0, .int .i64 0, .int .i64 0, .int .i64 0, .int .i64 0]), 12, 96) := by kernel_rfl
theorem ty35_u : Tryd.prog.underlying 35 = some (.array 2 5) := by kernel_rfl
theorem ty35_i : (Tryd.prog.info? 35).map (fun i => (i.zero, i.size, i.bytes)) = some (some (.agg #[.int .u8 0, .int .u8 0]), 2, 2) := by kernel_rfl
theorem ty36_u : Tryd.prog.underlying 36 = some (.func #[] #[27] false) := by kernel_rfl
theorem ty36_i : (Tryd.prog.info? 36).map (fun i => (i.zero, i.size, i.bytes)) = some (some (.nilFunc), 1, 8) := by kernel_rfl
theorem ty37_u : Tryd.prog.underlying 37 = some (.func #[5, 5] #[34] false) := by kernel_rfl
theorem ty37_i : (Tryd.prog.info? 37).map (fun i => (i.zero, i.size, i.bytes)) = some (some (.nilFunc), 1, 8) := by kernel_rfl
theorem ty38_u : Tryd.prog.underlying 38 = some (.func #[27] #[27] false) := by kernel_rfl
theorem ty38_i : (Tryd.prog.info? 38).map (fun i => (i.zero, i.size, i.bytes)) = some (some (.nilFunc), 1, 8) := by kernel_rfl
theorem ty39_u : Tryd.prog.underlying 39 = some (.array 2 27) := by kernel_rfl
theorem ty39_i : (Tryd.prog.info? 39).map (fun i => (i.zero, i.size, i.bytes)) = some (some (.agg #[.slice none 0 0, .bool false, .slice none 0 0, .bool false]), 4, 64) := by kernel_rfl
theorem ty40_u : Tryd.prog.underlying 40 = some (.array 2 34) := by kernel_rfl
theorem ty40_i : (Tryd.prog.info? 40).map (fun i => (i.zero, i.size, i.bytes)) = some (some (.agg #[.int .i64 0, .int .i64 0, .int .i64 0, .int .i64 0, .int .i64 0, .int .i64 0, .int .i64 0, .int .i64 0, .int .i64 0, .int .i64 0, .int .i64 0, .int .i64 0, .int .i64 0, .int .i64 0, .int .i64 0, .int .i64 0, .int .i64 0, .int .i64 0, .int .i64 0, .int .i64 0, .int .i64 0, .int .i64 0, .int .i64 0, .int .i64 0]), 24, 192) := by kernel_rfl
theorem ty41_u : Tryd.prog.underlying 41 = some (.int .u64) := by kernel_rfl
theorem ty41_i : (Tryd.prog.info? 41).map (fun i => (i.zero, i.size, i.bytes)) = some (some (.int .u64 0), 1, 8) := by kernel_rfl
theorem ty42_u : Tryd.prog.underlying 42 = some (.int .i64) := by kernel_rfl
theorem ty42_i : (Tryd.prog.info? 42).map (fun i => (i.zero, i.size, i.bytes)) = some (some (.int .i64 0), 1, 8) := by kernel_rfl
theorem ty44_u : Tryd.prog.underlying 44 = some (.func #[27, 3, 34] #[27, 42] false) := by kernel_rfl
theorem ty44_i : (Tryd.prog.info? 44).map (fun i => (i.zero, i.size, i.bytes)) = some (some (.nilFunc), 1, 8) := by kernel_rfl
theorem ty45_u : Tryd.prog.underlying 45 = some (.func #[27, 42, 27, 42] #[4] false) := by kernel_rfl
theorem ty45_i : (Tryd.prog.info? 45).map (fun i => (i.zero, i.size, i.bytes)) = some (some (.nilFunc), 1, 8) := by kernel_rfl
theorem ty46_u : Tryd.prog.underlying 46 = some (.func #[] #[4] false) := by kernel_rfl
theorem ty46_i : (Tryd.prog.info? 46).map (fun i => (i.zero, i.size, i.bytes)) = some (some (.nilFunc), 1, 8) := by kernel_rfl
theorem ty47_u : Tryd.prog.underlying 47 = some (.func #[24, 27, 3, 34, 35] #[4] false) := by kernel_rfl
theorem ty47_i : (Tryd.prog.info? 47).map (fun i => (i.zero, i.size, i.bytes)) = some (some (.nilFunc), 1, 8) := by kernel_rfl
theorem ty48_u : Tryd.prog.underlying 48 = some (.array 4 3) := by kernel_rfl
theorem ty48_i : (Tryd.prog.info? 48).map (fun i => (i.zero, i.size, i.bytes)) = some (some (.agg #[.int .i64 0, .int .i64 0, .int .i64 0, .int .i64 0]), 4, 32) := by kernel_rfl
theorem ty49_u : Tryd.prog.underlying 49 = some (.func #[27, 3, 3] #[27, 42] false) := by kernel_rfl
theorem ty49_i : (Tryd.prog.info? 49).map (fun i => (i.zero, i.size, i.bytes)) = some (some (.nilFunc), 1, 8) := by kernel_rfl
theorem ty50_u : Tryd.prog.underlying 50 = some (.func #[24, 27, 3, 3] #[4] false) := by kernel_rfl
theorem ty50_i : (Tryd.prog.info? 50).map (fun i => (i.zero, i.size, i.bytes)) = some (some (.nilFunc), 1, 8) := by kernel_rfl
theorem ty51_u : Tryd.prog.underlying 51 = some (.func #[5] #[32] false) := by kernel_rfl
theorem ty51_i : (Tryd.prog.info? 51).map (fun i => (i.zero, i.size, i.bytes)) = some (some (.nilFunc), 1, 8) := by kernel_rfl
theorem ty52_u : Tryd.prog.underlying 52 = some (.array 2 32) := by kernel_rfl
theorem ty52_i : (Tryd.prog.info? 52).map (fun i => (i.zero, i.size, i.bytes)) = some (some (.agg #[.int .i64 0, .int .i64 0, .int .i64 0, .int .i64 0, .int .i64 0, .int .i64 0, .int .i64 0, .int .i64 0, .int .i64 0, .int .i64 0, .int .i64 0, .int .i64 0, .int .i64 0, .int .i64 0, .int .i64 0, .int .i64 0]), 16, 128) := by kernel_rfl
theorem ty53_u : Tryd.prog.underlying 53 = some (.array 3 28) := by kernel_rfl
theorem ty53_i : (Tryd.prog.info? 53).map (fun i => (i.zero, i.size, i.bytes)) = some (some (.agg #[.int .i64 0, .int .i64 0, .int .i64 0, .int .i64 0, .int .i64 0, .int .i64 0]), 6, 48) := by kernel_rfl
theorem ty54_u : Tryd.prog.underlying 54 = some (.func #[27, 3, 3, 32] #[27, 42] false) := by kernel_rfl
theorem ty54_i : (Tryd.prog.info? 54).map (fun i => (i.zero, i.size, i.bytes)) = some (some (.nilFunc), 1, 8) := by kernel_rfl
theorem ty55_u : Tryd.prog.underlying 55 = some (.func #[24, 27, 28, 32, 5] #[4] false) := by kernel_rfl
theorem ty55_i : (Tryd.prog.info? 55).map (fun i => (i.zero, i.size, i.bytes)) = some (some (.nilFunc), 1, 8) := by kernel_rfl
theorem ty56_u : Tryd.prog.underlying 56 = some (.func #[27, 3, 3, 32, 4] #[27, 42] false) := by kernel_rfl
theorem ty56_i : (Tryd.prog.info? 56).map (fun i => (i.zero, i.size, i.bytes)) = some (some (.nilFunc), 1, 8) := by kernel_rfl
theorem ty57_u : Tryd.prog.underlying 57 = some (.slice 59) := by kernel_rfl
theorem ty57_i : (Tryd.prog.info? 57).map (fun i => (i.zero, i.size, i.bytes)) = some (some (.slice none 0 0), 1, 24) := by kernel_rfl
theorem ty58_u : Tryd.prog.underlying 58 = some (.struct #[{ name := "What", type := 5, offset := 0, embedded := false, tag := "", pkgPath := "", byteOffset := 0 }, { name := "At", type := 5, offset := 1, embedded := false, tag := "", pkgPath := "", byteOffset := 1 }, { name := "N", type := 5, offset := 2, embedded := false, tag := "", pkgPath := "", byteOffset := 2 }, { name := "Sign", type := 5, offset := 3, embedded := false, tag := "", pkgPath := "", byteOffset := 3 }, { name := "Style", type := 5, offset := 4, embedded := false, tag := "", pkgPath := "", byteOffset := 4 }]) := by kernel_rfl
theorem ty58_i : (Tryd.prog.info? 58).map (fun i => (i.zero, i.size, i.bytes)) = some (some (.agg #[.int .u8 0, .int .u8 0, .int .u8 0, .int .u8 0, .int .u8 0]), 5, 5) := by kernel_rfl
theorem ty59_u : Tryd.prog.underlying 59 = some (.struct #[{ name := "What", type := 5, offset := 0, embedded := false, tag := "", pkgPath := "", byteOffset := 0 }, { name := "At", type := 5, offset := 1, embedded := false, tag := "", pkgPath := "", byteOffset := 1 }, { name := "N", type := 5, offset := 2, embedded := false, tag := "", pkgPath := "", byteOffset := 2 }, { name := "Sign", type := 5, offset := 3, embedded := false, tag := "", pkgPath := "", byteOffset := 3 }, { name := "Style", type := 5, offset := 4, embedded := false, tag := "", pkgPath := "", byteOffset := 4 }]) := by kernel_rfl
theorem ty59_i : (Tryd.prog.info? 59).map (fun i => (i.zero, i.size, i.bytes)) = some (some (.agg #[.int .u8 0, .int .u8 0, .int .u8 0, .int .u8 0, .int .u8 0]), 5, 5) := by kernel_rfl
theorem ty60_u : Tryd.prog.underlying 60 = some (.func #[27] #[27, 42] false) := by kernel_rfl
theorem ty60_i : (Tryd.prog.info? 60).map (fun i => (i.zero, i.size, i.bytes)) = some (some (.nilFunc), 1, 8) := by kernel_rfl
theorem ty61_u : Tryd.prog.underlying 61 = some (.func #[27] #[42] false) := by kernel_rfl
theorem ty61_i : (Tryd.prog.info? 61).map (fun i => (i.zero, i.size, i.bytes)) = some (some (.nilFunc), 1, 8) := by kernel_rfl
theorem ty62_u : Tryd.prog.underlying 62 = some (.func #[27, 27] #[4] false) := by kernel_rfl
theorem ty62_i : (Tryd.prog.info? 62).map (fun i => (i.zero, i.size, i.bytes)) = some (some (.nilFunc), 1, 8) := by kernel_rfl
theorem ty63_u : Tryd.prog.underlying 63 = some (.func #[24, 57] #[4] false) := by kernel_rfl
theorem ty63_i : (Tryd.prog.info? 63).map (fun i => (i.zero, i.size, i.bytes)) = some (some (.nilFunc), 1, 8) := by kernel_rfl
theorem ty64_u : Tryd.prog.underlying 64 = some (.func #[24, 5, 35] #[4] false) := by kernel_rfl
theorem ty64_i : (Tryd.prog.info? 64).map (fun i => (i.zero, i.size, i.bytes)) = some (some (.nilFunc), 1, 8) := by kernel_rfl
theorem ty65_u : Tryd.prog.underlying 65 = some (.func #[24, 5, 5] #[4] false) := by kernel_rfl
theorem ty65_i : (Tryd.prog.info? 65).map (fun i => (i.zero, i.size, i.bytes)) = some (some (.nilFunc), 1, 8) := by kernel_rfl
theorem ty66_u : Tryd.prog.underlying 66 = some (.func #[9] #[27] false) := by kernel_rfl
theorem ty66_i : (Tryd.prog.info? 66).map (fun i => (i.zero, i.size, i.bytes)) = some (some (.nilFunc), 1, 8) := by kernel_rfl
theorem ty67_u : Tryd.prog.underlying 67 = some (.slice 27) := by kernel_rfl
theorem ty67_i : (Tryd.prog.info? 67).map (fun i => (i.zero, i.size, i.bytes)) = some (some (.slice none 0 0), 1, 24) := by kernel_rfl
theorem ty68_u : Tryd.prog.underlying 68 = some (.func #[] #[34] false) := by kernel_rfl
theorem ty68_i : (Tryd.prog.info? 68).map (fun i => (i.zero, i.size, i.bytes)) = some (some (.nilFunc), 1, 8) := by kernel_rfl
theorem ty69_u : Tryd.prog.underlying 69 = some (.func #[34] #[42] false) := by kernel_rfl
theorem ty69_i : (Tryd.prog.info? 69).map (fun i => (i.zero, i.size, i.bytes)) = some (some (.nilFunc), 1, 8) := by kernel_rfl
theorem ty70_u : Tryd.prog.underlying 70 = some (.func #[27, 42, 9] #[4] false) := by kernel_rfl
theorem ty70_i : (Tryd.prog.info? 70).map (fun i => (i.zero, i.size, i.bytes)) = some (some (.nilFunc), 1, 8) := by kernel_rfl
theorem ty71_u : Tryd.prog.underlying 71 = some (.func #[27] #[3] false) := by kernel_rfl
theorem ty71_i : (Tryd.prog.info? 71).map (fun i => (i.zero, i.size, i.bytes)) = some (some (.nilFunc), 1, 8) := by kernel_rfl
theorem ty72_u : Tryd.prog.underlying 72 = some (.array 3 27) := by kernel_rfl
theorem ty72_i : (Tryd.prog.info? 72).map (fun i => (i.zero, i.size, i.bytes)) = some (some (.agg #[.slice none 0 0, .bool false, .slice none 0 0, .bool false, .slice none 0 0, .bool false]), 6, 96) := by kernel_rfl
theorem ty73_u : Tryd.prog.underlying 73 = some (.func #[34] #[4] false) := by kernel_rfl
theorem ty73_i : (Tryd.prog.info? 73).map (fun i => (i.zero, i.size, i.bytes)) = some (some (.nilFunc), 1, 8) := by kernel_rfl
theorem ty74_u : Tryd.prog.underlying 74 = some (.func #[32] #[34] false) := by kernel_rfl
theorem ty74_i : (Tryd.prog.info? 74).map (fun i => (i.zero, i.size, i.bytes)) = some (some (.nilFunc), 1, 8) := by kernel_rfl
theorem ty75_u : Tryd.prog.underlying 75 = some (.func #[27, 24, 5, 34] #[4] false) := by kernel_rfl
theorem ty75_i : (Tryd.prog.info? 75).map (fun i => (i.zero, i.size, i.bytes)) = some (some (.nilFunc), 1, 8) := by kernel_rfl
theorem ty76_u : Tryd.prog.underlying 76 = some (.func #[3, 32] #[27, 42] false) := by kernel_rfl
theorem ty76_i : (Tryd.prog.info? 76).map (fun i => (i.zero, i.size, i.bytes)) = some (some (.nilFunc), 1, 8) := by kernel_rfl
theorem ty77_u : Tryd.prog.underlying 77 = some (.func #[3, 32, 5] #[4] false) := by kernel_rfl
theorem ty77_i : (Tryd.prog.info? 77).map (fun i => (i.zero, i.size, i.bytes)) = some (some (.nilFunc), 1, 8) := by kernel_rfl
theorem ty78_u : Tryd.prog.underlying 78 = some (.func #[5] #[3] false) := by kernel_rfl
theorem ty78_i : (Tryd.prog.info? 78).map (fun i => (i.zero, i.size, i.bytes)) = some (some (.nilFunc), 1, 8) := by kernel_rfl
theorem ty79_u : Tryd.prog.underlying 79 = some (.func #[3] #[3] false) := by kernel_rfl
theorem ty79_i : (Tryd.prog.info? 79).map (fun i => (i.zero, i.size, i.bytes)) = some (some (.nilFunc), 1, 8) := by kernel_rfl
theorem ty80_u : Tryd.prog.underlying 80 = some (.func #[27, 3] #[42] false) := by kernel_rfl
theorem ty80_i : (Tryd.prog.info? 80).map (fun i => (i.zero, i.size, i.bytes)) = some (some (.nilFunc), 1, 8) := by kernel_rfl
theorem ty81_u : Tryd.prog.underlying 81 = some (.func #[27, 83] #[27] false) := by kernel_rfl
theorem ty81_i : (Tryd.prog.info? 81).map (fun i => (i.zero, i.size, i.bytes)) = some (some (.nilFunc), 1, 8) := by kernel_rfl
theorem ty82_u : Tryd.prog.underlying 82 = some (.func #[25, 86] #[] true) := by kernel_rfl
theorem ty82_i : (Tryd.prog.info? 82).map (fun i => (i.zero, i.size, i.bytes)) = some (some (.nilFunc), 1, 8) := by kernel_rfl
theorem ty83_u : Tryd.prog.underlying 83 = some (.func #[25] #[] false) := by kernel_rfl
theorem ty83_i : (Tryd.prog.info? 83).map (fun i => (i.zero, i.size, i.bytes)) = some (some (.nilFunc), 1, 8) := by kernel_rfl
theorem ty84_u : Tryd.prog.underlying 84 = some (.func #[25, 3] #[25] false) := by kernel_rfl
theorem ty84_i : (Tryd.prog.info? 84).map (fun i => (i.zero, i.size, i.bytes)) = some (some (.nilFunc), 1, 8) := by kernel_rfl
theorem ty85_u : Tryd.prog.underlying 85 = some (.func #[86, 3] #[3] false) := by kernel_rfl
theorem ty85_i : (Tryd.prog.info? 85).map (fun i => (i.zero, i.size, i.bytes)) = some (some (.nilFunc), 1, 8) := by kernel_rfl
theorem ty86_u : Tryd.prog.underlying 86 = some (.slice 3) := by kernel_rfl
theorem ty86_i : (Tryd.prog.info? 86).map (fun i => (i.zero, i.size, i.bytes)) = some (some (.slice none 0 0), 1, 24) := by kernel_rfl
theorem ty87_u : Tryd.prog.underlying 87 = some (.array 8 32) := by kernel_rfl
theorem ty87_i : (Tryd.prog.info? 87).map (fun i => (i.zero, i.size, i.bytes)) = some (some (.agg #[.int .i64 0, .int .i64 0, .int .i64 0, .int .i64 0, .int .i64 0, .int .i64 0, .int .i64 0, .int .i64 0, .int .i64 0, .int .i64 0, .int .i64 0, .int .i64 0, .int .i64 0, .int .i64 0, .int .i64 0, .int .i64 0, .int .i64 0, .int .i64 0, .int .i64 0, .int .i64 0, .int .i64 0, .int .i64 0, .int .i64 0, .int .i64 0, .int .i64 0, .int .i64 0, .int .i64 0, .int .i64 0, .int .i64 0, .int .i64 0, .int .i64 0, .int .i64 0, .int .i64 0, .int .i64 0, .int .i64 0, .int .i64 0, .int .i64 0, .int .i64 0, .int .i64 0, .int .i64 0, .int .i64 0, .int .i64 0, .int .i64 0, .int .i64 0, .int .i64 0, .int .i64 0, .int .i64 0, .int .i64 0, .int .i64 0, .int .i64 0, .int .i64 0, .int .i64 0, .int .i64 0, .int .i64 0, .int .i64 0, .int .i64 0, .int .i64 0, .int .i64 0, .int .i64 0, .int .i64 0, .int .i64 0, .int .i64 0, .int .i64 0, .int .i64 0]), 64, 512) := by kernel_rfl
theorem ty88_u : Tryd.prog.underlying 88 = some (.func #[32] #[42] false) := by kernel_rfl
theorem ty88_i : (Tryd.prog.info? 88).map (fun i => (i.zero, i.size, i.bytes)) = some (some (.nilFunc), 1, 8) := by kernel_rfl
theorem ty89_u : Tryd.prog.underlying 89 = some (.func #[27, 3, 3, 32, 84] #[27, 42] false) := by kernel_rfl
theorem ty89_i : (Tryd.prog.info? 89).map (fun i => (i.zero, i.size, i.bytes)) = some (some (.nilFunc), 1, 8) := by kernel_rfl
theorem ty90_u : Tryd.prog.underlying 90 = some (.func #[3, 32] #[25] false) := by kernel_rfl
theorem ty90_i : (Tryd.prog.info? 90).map (fun i => (i.zero, i.size, i.bytes)) = some (some (.nilFunc), 1, 8) := by kernel_rfl
theorem ty91_u : Tryd.prog.underlying 91 = some (.func #[28] #[4] false) := by kernel_rfl
theorem ty91_i : (Tryd.prog.info? 91).map (fun i => (i.zero, i.size, i.bytes)) = some (some (.nilFunc), 1, 8) := by kernel_rfl
theorem ty92_u : Tryd.prog.underlying 92 = some (.func #[25, 25] #[4] false) := by kernel_rfl
theorem ty92_i : (Tryd.prog.info? 92).map (fun i => (i.zero, i.size, i.bytes)) = some (some (.nilFunc), 1, 8) := by kernel_rfl
theorem ty93_u : Tryd.prog.underlying 93 = some (.array 8 3) := by kernel_rfl
theorem ty93_i : (Tryd.prog.info? 93).map (fun i => (i.zero, i.size, i.bytes)) = some (some (.agg #[.int .i64 0, .int .i64 0, .int .i64 0, .int .i64 0, .int .i64 0, .int .i64 0, .int .i64 0, .int .i64 0]), 8, 64) := by kernel_rfl
theorem ty94_u : Tryd.prog.underlying 94 = some (.func #[3] #[4] false) := by kernel_rfl
theorem ty94_i : (Tryd.prog.info? 94).map (fun i => (i.zero, i.size, i.bytes)) = some (some (.nilFunc), 1, 8) := by kernel_rfl
theorem ty95_u : Tryd.prog.underlying 95 = some (.func #[96, 3] #[4] false) := by kernel_rfl
theorem ty95_i : (Tryd.prog.info? 95).map (fun i => (i.zero, i.size, i.bytes)) = some (some (.nilFunc), 1, 8) := by kernel_rfl
theorem ty96_u : Tryd.prog.underlying 96 = some (.slice 28) := by kernel_rfl
theorem ty96_i : (Tryd.prog.info? 96).map (fun i => (i.zero, i.size, i.bytes)) = some (some (.slice none 0 0), 1, 24) := by kernel_rfl
theorem ty97_u : Tryd.prog.underlying 97 = some (.func #[] #[96] false) := by kernel_rfl
theorem ty97_i : (Tryd.prog.info? 97).map (fun i => (i.zero, i.size, i.bytes)) = some (some (.nilFunc), 1, 8) := by kernel_rfl
theorem ty98_u : Tryd.prog.underlying 98 = some (.func #[34] #[34] false) := by kernel_rfl
theorem ty98_i : (Tryd.prog.info? 98).map (fun i => (i.zero, i.size, i.bytes)) = some (some (.nilFunc), 1, 8) := by kernel_rfl
theorem ty99_u : Tryd.prog.underlying 99 = some (.func #[3, 103] #[4] true) := by kernel_rfl
theorem ty99_i : (Tryd.prog.info? 99).map (fun i => (i.zero, i.size, i.bytes)) = some (some (.nilFunc), 1, 8) := by kernel_rfl
theorem ty100_u : Tryd.prog.underlying 100 = some (.struct #[{ name := "from", type := 3, offset := 0, embedded := false, tag := "", pkgPath := "fenestra/width", byteOffset := 0 }, { name := "to", type := 3, offset := 1, embedded := false, tag := "", pkgPath := "fenestra/width", byteOffset := 8 }]) := by kernel_rfl
theorem ty100_i : (Tryd.prog.info? 100).map (fun i => (i.zero, i.size, i.bytes)) = some (some (.agg #[.int .i64 0, .int .i64 0]), 2, 16) := by kernel_rfl
theorem ty101_u : Tryd.prog.underlying 101 = some (.struct #[{ name := "from", type := 3, offset := 0, embedded := false, tag := "", pkgPath := "fenestra/width", byteOffset := 0 }, { name := "to", type := 3, offset := 1, embedded := false, tag := "", pkgPath := "fenestra/width", byteOffset := 8 }]) := by kernel_rfl
theorem ty101_i : (Tryd.prog.info? 101).map (fun i => (i.zero, i.size, i.bytes)) = some (some (.agg #[.int .i64 0, .int .i64 0]), 2, 16) := by kernel_rfl
theorem ty102_u : Tryd.prog.underlying 102 = some (.array 11 101) := by kernel_rfl
theorem ty102_i : (Tryd.prog.info? 102).map (fun i => (i.zero, i.size, i.bytes)) = some (some (.agg #[.int .i64 0, .int .i64 0, .int .i64 0, .int .i64 0, .int .i64 0, .int .i64 0, .int .i64 0, .int .i64 0, .int .i64 0, .int .i64 0, .int .i64 0, .int .i64 0, .int .i64 0, .int .i64 0, .int .i64 0, .int .i64 0, .int .i64 0, .int .i64 0, .int .i64 0, .int .i64 0, .int .i64 0, .int .i64 0]), 22, 176) := by kernel_rfl
theorem ty103_u : Tryd.prog.underlying 103 = some (.slice 101) := by kernel_rfl
theorem ty103_i : (Tryd.prog.info? 103).map (fun i => (i.zero, i.size, i.bytes)) = some (some (.slice none 0 0), 1, 24) := by kernel_rfl
theorem ty104_u : Tryd.prog.underlying 104 = some (.array 13 101) := by kernel_rfl
theorem ty104_i : (Tryd.prog.info? 104).map (fun i => (i.zero, i.size, i.bytes)) = some (some (.agg #[.int .i64 0, .int .i64 0, .int .i64 0, .int .i64 0, .int .i64 0, .int .i64 0, .int .i64 0, .int .i64 0, .int .i64 0, .int .i64 0, .int .i64 0, .int .i64 0, .int .i64 0, .int .i64 0, .int .i64 0, .int .i64 0, .int .i64 0, .int .i64 0, .int .i64 0, .int .i64 0, .int .i64 0, .int .i64 0, .int .i64 0, .int .i64 0, .int .i64 0, .int .i64 0]), 26, 208) := by kernel_rfl
theorem ty105_u : Tryd.prog.underlying 105 = some (.array 3 30) := by kernel_rfl
theorem ty105_i : (Tryd.prog.info? 105).map (fun i => (i.zero, i.size, i.bytes)) = some (some (.agg #[.int .i64 0, .int .i64 0, .int .i64 0, .int .i64 0, .int .i64 0, .int .i64 0]), 6, 48) := by kernel_rfl
theorem ty106_u : Tryd.prog.underlying 106 = some (.func #[30] #[42] false) := by kernel_rfl
theorem ty106_i : (Tryd.prog.info? 106).map (fun i => (i.zero, i.size, i.bytes)) = some (some (.nilFunc), 1, 8) := by kernel_rfl
theorem ty108_u : Tryd.prog.underlying 108 = some (.func #[41, 41] #[41, 41] false) := by kernel_rfl
theorem ty108_i : (Tryd.prog.info? 108).map (fun i => (i.zero, i.size, i.bytes)) = some (some (.nilFunc), 1, 8) := by kernel_rfl
theorem ty109_u : Tryd.prog.underlying 109 = some (.array 3 3) := by kernel_rfl
theorem ty109_i : (Tryd.prog.info? 109).map (fun i => (i.zero, i.size, i.bytes)) = some (some (.agg #[.int .i64 0, .int .i64 0, .int .i64 0]), 3, 24) := by kernel_rfl
theorem ty110_u : Tryd.prog.underlying 110 = some (.func #[] #[109] false) := by kernel_rfl
theorem ty110_i : (Tryd.prog.info? 110).map (fun i => (i.zero, i.size, i.bytes)) = some (some (.nilFunc), 1, 8) := by kernel_rfl
theorem ty111_u : Tryd.prog.underlying 111 = some (.int .u32) := by kernel_rfl
theorem ty111_i : (Tryd.prog.info? 111).map (fun i => (i.zero, i.size, i.bytes)) = some (some (.int .u32 0), 1, 4) := by kernel_rfl
theorem ty113_u : Tryd.prog.underlying 113 = some (.func #[111, 111] #[111, 111] false) := by kernel_rfl
theorem ty113_i : (Tryd.prog.info? 113).map (fun i => (i.zero, i.size, i.bytes)) = some (some (.nilFunc), 1, 8) := by kernel_rfl
theorem ty114_u : Tryd.prog.underlying 114 = some (.int .u64) := by kernel_rfl
theorem ty114_i : (Tryd.prog.info? 114).map (fun i => (i.zero, i.size, i.bytes)) = some (some (.int .u64 0), 1, 8) := by kernel_rfl
theorem ty116_u : Tryd.prog.underlying 116 = some (.func #[114, 114] #[114, 114] false) := by kernel_rfl
theorem ty116_i : (Tryd.prog.info? 116).map (fun i => (i.zero, i.size, i.bytes)) = some (some (.nilFunc), 1, 8) := by kernel_rfl
theorem ty117_u : Tryd.prog.underlying 117 = some (.func #[] #[9] false) := by kernel_rfl
theorem ty117_i : (Tryd.prog.info? 117).map (fun i => (i.zero, i.size, i.bytes)) = some (some (.nilFunc), 1, 8) := by kernel_rfl
theorem ty120_u : Tryd.prog.underlying 120 = some (.array 0 16) := by kernel_rfl
theorem ty120_i : (Tryd.prog.info? 120).map (fun i => (i.zero, i.size, i.bytes)) = some (some (.agg #[]), 0, 0) := by kernel_rfl
theorem ty123_u : Tryd.prog.underlying 123 = some (.func #[] #[3] false) := by kernel_rfl
theorem ty123_i : (Tryd.prog.info? 123).map (fun i => (i.zero, i.size, i.bytes)) = some (some (.nilFunc), 1, 8) := by kernel_rfl
theorem ty126_u : Tryd.prog.underlying 126 = some (.func #[132, 132] #[4] false) := by kernel_rfl
theorem ty126_i : (Tryd.prog.info? 126).map (fun i => (i.zero, i.size, i.bytes)) = some (some (.nilFunc), 1, 8) := by kernel_rfl
theorem ty127_u : Tryd.prog.underlying 127 = some (.pointer 5) := by kernel_rfl
theorem ty127_i : (Tryd.prog.info? 127).map (fun i => (i.zero, i.size, i.bytes)) = some (some (.pointer none), 1, 8) := by kernel_rfl
theorem ty130_u : Tryd.prog.underlying 130 = some (.struct #[{ name := "Size_", type := 12, offset := 0, embedded := false, tag := "", pkgPath := "", byteOffset := 0 }, { name := "PtrBytes", type := 12, offset := 1, embedded := false, tag := "", pkgPath := "", byteOffset := 8 }, { name := "Hash", type := 111, offset := 2, embedded := false, tag := "", pkgPath := "", byteOffset := 16 }, { name := "TFlag", type := 124, offset := 3, embedded := false, tag := "", pkgPath := "", byteOffset := 20 }, { name := "Align_", type := 5, offset := 4, embedded := false, tag := "", pkgPath := "", byteOffset := 21 }, { name := "FieldAlign_", type := 5, offset := 5, embedded := false, tag := "", pkgPath := "", byteOffset := 22 }, { name := "Kind_", type := 125, offset := 6, embedded := false, tag := "", pkgPath := "", byteOffset := 23 }, { name := "Equal", type := 126, offset := 7, embedded := false, tag := "", pkgPath := "", byteOffset := 24 }, { name := "GCData", type := 127, offset := 8, embedded := false, tag := "", pkgPath := "", byteOffset := 32 }, { name := "Str", type := 128, offset := 9, embedded := false, tag := "", pkgPath := "", byteOffset := 40 }, { name := "PtrToThis", type := 129, offset := 10, embedded := false, tag := "", pkgPath := "", byteOffset := 44 }]) := by kernel_rfl
theorem ty130_i : (Tryd.prog.info? 130).map (fun i => (i.zero, i.size, i.bytes)) = some (some (.agg #[.int .u64 0, .int .u64 0, .int .u32 0, .int .u8 0, .int .u8 0, .int .u8 0, .int .u8 0, .nilFunc, .pointer none, .int .i32 0, .int .i32 0]), 11, 48) := by kernel_rfl
def tt : List (Nat × TI) := [(1, ⟨.other, 1, 8, [.val .nilf]⟩),
  (2, ⟨.int .i64, 1, 8, [.val (.int .i64 0)]⟩),
  (3, ⟨.int .i64, 1, 8, [.val (.int .i64 0)]⟩),
  (4, ⟨.bool, 1, 1, [.val (.bool false)]⟩),
  (5, ⟨.int .u8, 1, 1, [.val (.int .u8 0)]⟩),
  (9, ⟨.str, 1, 16, [.val (.str [])]⟩),
  (12, ⟨.int .u64, 1, 8, [.val (.int .u64 0)]⟩),
  (21, ⟨.int .i32, 1, 4, [.val (.int .i32 0)]⟩),
  (22, ⟨.slice 5, 1, 24, [.nil]⟩),
  (23, ⟨.struct [(0, 5), (1, 22), (2, 4)], 3, 40, [.val (.int .u8 0), .nil, .val (.bool false)]⟩),
  (24, ⟨.struct [(0, 5), (1, 22), (2, 4)], 3, 40, [.val (.int .u8 0), .nil, .val (.bool false)]⟩),
  (25, ⟨.slice 34, 1, 24, [.nil]⟩),
  (26, ⟨.struct [(0, 25), (1, 4)], 2, 32, [.nil, .val (.bool false)]⟩),
  (27, ⟨.struct [(0, 25), (1, 4)], 2, 32, [.nil, .val (.bool false)]⟩),
  (28, ⟨.array 2 3, 2, 16, [.val (.int .i64 0), .val (.int .i64 0)]⟩),
  (29, ⟨.struct [(0, 3), (1, 3)], 2, 16, [.val (.int .i64 0), .val (.int .i64 0)]⟩),
  (30, ⟨.struct [(0, 3), (1, 3)], 2, 16, [.val (.int .i64 0), .val (.int .i64 0)]⟩),
  (31, ⟨.struct [(0, 3), (1, 3), (2, 30), (4, 30), (6, 30)], 8, 64, [.val (.int .i64 0), .val (.int .i64 0), .val (.int .i64 0), .val (.int .i64 0), .val (.int .i64 0), .val (.int .i64 0), .val (.int .i64 0), .val (.int .i64 0)]⟩),
  (32, ⟨.struct [(0, 3), (1, 3), (2, 30), (4, 30), (6, 30)], 8, 64, [.val (.int .i64 0), .val (.int .i64 0), .val (.int .i64 0), .val (.int .i64 0), .val (.int .i64 0), .val (.int .i64 0), .val (.int .i64 0), .val (.int .i64 0)]⟩),
  (33, ⟨.struct [(0, 3), (1, 28), (3, 3), (4, 32)], 12, 96, [.val (.int .i64 0), .val (.int .i64 0), .val (.int .i64 0), .val (.int .i64 0), .val (.int .i64 0), .val (.int .i64 0), .val (.int .i64 0), .val (.int .i64 0), .val (.int .i64 0), .val (.int .i64 0), .val (.int .i64 0), .val (.int .i64 0)]⟩),
  (34, ⟨.struct [(0, 3), (1, 28), (3, 3), (4, 32)], 12, 96, [.val (.int .i64 0), .val (.int .i64 0), .val (.int .i64 0), .val (.int .i64 0), .val (.int .i64 0), .val (.int .i64 0), .val (.int .i64 0), .val (.int .i64 0), .val (.int .i64 0), .val (.int .i64 0), .val (.int .i64 0), .val (.int .i64 0)]⟩),
  (35, ⟨.array 2 5, 2, 2, [.val (.int .u8 0), .val (.int .u8 0)]⟩),
  (36, ⟨.other, 1, 8, [.val .nilf]⟩),
  (37, ⟨.other, 1, 8, [.val .nilf]⟩),
  (38, ⟨.other, 1, 8, [.val .nilf]⟩),
  (39, ⟨.array 2 27, 4, 64, [.nil, .val (.bool false), .nil, .val (.bool false)]⟩),
  (40, ⟨.array 2 34, 24, 192, [.val (.int .i64 0), .val (.int .i64 0), .val (.int .i64 0), .val (.int .i64 0), .val (.int .i64 0), .val (.int .i64 0), .val (.int .i64 0), .val (.int .i64 0), .val (.int .i64 0), .val (.int .i64 0), .val (.int .i64 0), .val (.int .i64 0), .val (.int .i64 0), .val (.int .i64 0), .val (.int .i64 0), .val (.int .i64 0), .val (.int .i64 0), .val (.int .i64 0), .val (.int .i64 0), .val (.int .i64 0), .val (.int .i64 0), .val (.int .i64 0), .val (.int .i64 0), .val (.int .i64 0)]⟩),
  (41, ⟨.int .u64, 1, 8, [.val (.int .u64 0)]⟩),
  (42, ⟨.int .i64, 1, 8, [.val (.int .i64 0)]⟩),
  (44, ⟨.other, 1, 8, [.val .nilf]⟩),
  (45, ⟨.other, 1, 8, [.val .nilf]⟩),
  (46, ⟨.other, 1, 8, [.val .nilf]⟩),
  (47, ⟨.other, 1, 8, [.val .nilf]⟩),
  (48, ⟨.array 4 3, 4, 32, [.val (.int .i64 0), .val (.int .i64 0), .val (.int .i64 0), .val (.int .i64 0)]⟩),
  (49, ⟨.other, 1, 8, [.val .nilf]⟩),
  (50, ⟨.other, 1, 8, [.val .nilf]⟩),
  (51, ⟨.other, 1, 8, [.val .nilf]⟩),
  (52, ⟨.array 2 32, 16, 128, [.val (.int .i64 0), .val (.int .i64 0), .val (.int .i64 0), .val (.int .i64 0), .val (.int .i64 0), .val (.int .i64 0), .val (.int .i64 0), .val (.int .i64 0), .val (.int .i64 0), .val (.int .i64 0), .val (.int .i64 0), .val (.int .i64 0), .val (.int .i64 0), .val (.int .i64 0), .val (.int .i64 0), .val (.int .i64 0)]⟩),
  (53, ⟨.array 3 28, 6, 48, [.val (.int .i64 0), .val (.int .i64 0), .val (.int .i64 0), .val (.int .i64 0), .val (.int .i64 0), .val (.int .i64 0)]⟩),
  (54, ⟨.other, 1, 8, [.val .nilf]⟩),
  (55, ⟨.other, 1, 8, [.val .nilf]⟩),
  (56, ⟨.other, 1, 8, [.val .nilf]⟩),
  (57, ⟨.slice 59, 1, 24, [.nil]⟩),
  (58, ⟨.struct [(0, 5), (1, 5), (2, 5), (3, 5), (4, 5)], 5, 5, [.val (.int .u8 0), .val (.int .u8 0), .val (.int .u8 0), .val (.int .u8 0), .val (.int .u8 0)]⟩),
  (59, ⟨.struct [(0, 5), (1, 5), (2, 5), (3, 5), (4, 5)], 5, 5, [.val (.int .u8 0), .val (.int .u8 0), .val (.int .u8 0), .val (.int .u8 0), .val (.int .u8 0)]⟩),
  (60, ⟨.other, 1, 8, [.val .nilf]⟩),
  (61, ⟨.other, 1, 8, [.val .nilf]⟩),
  (62, ⟨.other, 1, 8, [.val .nilf]⟩),
  (63, ⟨.other, 1, 8, [.val .nilf]⟩),
  (64, ⟨.other, 1, 8, [.val .nilf]⟩),
  (65, ⟨.other, 1, 8, [.val .nilf]⟩),
  (66, ⟨.other, 1, 8, [.val .nilf]⟩),
  (67, ⟨.slice 27, 1, 24, [.nil]⟩),
  (68, ⟨.other, 1, 8, [.val .nilf]⟩),
  (69, ⟨.other, 1, 8, [.val .nilf]⟩),
  (70, ⟨.other, 1, 8, [.val .nilf]⟩),
  (71, ⟨.other, 1, 8, [.val .nilf]⟩),
  (72, ⟨.array 3 27, 6, 96, [.nil, .val (.bool false), .nil, .val (.bool false), .nil, .val (.bool false)]⟩),
  (73, ⟨.other, 1, 8, [.val .nilf]⟩),
  (74, ⟨.other, 1, 8, [.val .nilf]⟩),
  (75, ⟨.other, 1, 8, [.val .nilf]⟩),
  (76, ⟨.other, 1, 8, [.val .nilf]⟩),
  (77, ⟨.other, 1, 8, [.val .nilf]⟩),
  (78, ⟨.other, 1, 8, [.val .nilf]⟩),
  (79, ⟨.other, 1, 8, [.val .nilf]⟩),
  (80, ⟨.other, 1, 8, [.val .nilf]⟩),
  (81, ⟨.other, 1, 8, [.val .nilf]⟩),
  (82, ⟨.other, 1, 8, [.val .nilf]⟩),
  (83, ⟨.other, 1, 8, [.val .nilf]⟩),
  (84, ⟨.other, 1, 8, [.val .nilf]⟩),
  (85, ⟨.other, 1, 8, [.val .nilf]⟩),
  (86, ⟨.slice 3, 1, 24, [.nil]⟩),
  (87, ⟨.array 8 32, 64, 512, [.val (.int .i64 0), .val (.int .i64 0), .val (.int .i64 0), .val (.int .i64 0), .val (.int .i64 0), .val (.int .i64 0), .val (.int .i64 0), .val (.int .i64 0), .val (.int .i64 0), .val (.int .i64 0), .val (.int .i64 0), .val (.int .i64 0), .val (.int .i64 0), .val (.int .i64 0), .val (.int .i64 0), .val (.int .i64 0), .val (.int .i64 0), .val (.int .i64 0), .val (.int .i64 0), .val (.int .i64 0), .val (.int .i64 0), .val (.int .i64 0), .val (.int .i64 0), .val (.int .i64 0), .val (.int .i64 0), .val (.int .i64 0), .val (.int .i64 0), .val (.int .i64 0), .val (.int .i64 0), .val (.int .i64 0), .val (.int .i64 0), .val (.int .i64 0), .val (.int .i64 0), .val (.int .i64 0), .val (.int .i64 0), .val (.int .i64 0), .val (.int .i64 0), .val (.int .i64 0), .val (.int .i64 0), .val (.int .i64 0), .val (.int .i64 0), .val (.int .i64 0), .val (.int .i64 0), .val (.int .i64 0), .val (.int .i64 0), .val (.int .i64 0), .val (.int .i64 0), .val (.int .i64 0), .val (.int .i64 0), .val (.int .i64 0), .val (.int .i64 0), .val (.int .i64 0), .val (.int .i64 0), .val (.int .i64 0), .val (.int .i64 0), .val (.int .i64 0), .val (.int .i64 0), .val (.int .i64 0), .val (.int .i64 0), .val (.int .i64 0), .val (.int .i64 0), .val (.int .i64 0), .val (.int .i64 0), .val (.int .i64 0)]⟩),
  (88, ⟨.other, 1, 8, [.val .nilf]⟩),
  (89, ⟨.other, 1, 8, [.val .nilf]⟩),
  (90, ⟨.other, 1, 8, [.val .nilf]⟩),
  (91, ⟨.other, 1, 8, [.val .nilf]⟩),
  (92, ⟨.other, 1, 8, [.val .nilf]⟩),
  (93, ⟨.array 8 3, 8, 64, [.val (.int .i64 0), .val (.int .i64 0), .val (.int .i64 0), .val (.int .i64 0), .val (.int .i64 0), .val (.int .i64 0), .val (.int .i64 0), .val (.int .i64 0)]⟩),
  (94, ⟨.other, 1, 8, [.val .nilf]⟩),
  (95, ⟨.other, 1, 8, [.val .nilf]⟩),
  (96, ⟨.slice 28, 1, 24, [.nil]⟩),
  (97, ⟨.other, 1, 8, [.val .nilf]⟩),
  (98, ⟨.other, 1, 8, [.val .nilf]⟩),
  (99, ⟨.other, 1, 8, [.val .nilf]⟩),
  (100, ⟨.struct [(0, 3), (1, 3)], 2, 16, [.val (.int .i64 0), .val (.int .i64 0)]⟩),
  (101, ⟨.struct [(0, 3), (1, 3)], 2, 16, [.val (.int .i64 0), .val (.int .i64 0)]⟩),
  (102, ⟨.array 11 101, 22, 176, [.val (.int .i64 0), .val (.int .i64 0), .val (.int .i64 0), .val (.int .i64 0), .val (.int .i64 0), .val (.int .i64 0), .val (.int .i64 0), .val (.int .i64 0), .val (.int .i64 0), .val (.int .i64 0), .val (.int .i64 0), .val (.int .i64 0), .val (.int .i64 0), .val (.int .i64 0), .val (.int .i64 0), .val (.int .i64 0), .val (.int .i64 0), .val (.int .i64 0), .val (.int .i64 0), .val (.int .i64 0), .val (.int .i64 0), .val (.int .i64 0)]⟩),
  (103, ⟨.slice 101, 1, 24, [.nil]⟩),
  (104, ⟨.array 13 101, 26, 208, [.val (.int .i64 0), .val (.int .i64 0), .val (.int .i64 0), .val (.int .i64 0), .val (.int .i64 0), .val (.int .i64 0), .val (.int .i64 0), .val (.int .i64 0), .val (.int .i64 0), .val (.int .i64 0), .val (.int .i64 0), .val (.int .i64 0), .val (.int .i64 0), .val (.int .i64 0), .val (.int .i64 0), .val (.int .i64 0), .val (.int .i64 0), .val (.int .i64 0), .val (.int .i64 0), .val (.int .i64 0), .val (.int .i64 0), .val (.int .i64 0), .val (.int .i64 0), .val (.int .i64 0), .val (.int .i64 0), .val (.int .i64 0)]⟩),
  (105, ⟨.array 3 30, 6, 48, [.val (.int .i64 0), .val (.int .i64 0), .val (.int .i64 0), .val (.int .i64 0), .val (.int .i64 0), .val (.int .i64 0)]⟩),
  (106, ⟨.other, 1, 8, [.val .nilf]⟩),
  (108, ⟨.other, 1, 8, [.val .nilf]⟩),
  (109, ⟨.array 3 3, 3, 24, [.val (.int .i64 0), .val (.int .i64 0), .val (.int .i64 0)]⟩),
  (110, ⟨.other, 1, 8, [.val .nilf]⟩),
  (111, ⟨.int .u32, 1, 4, [.val (.int .u32 0)]⟩),
  (113, ⟨.other, 1, 8, [.val .nilf]⟩),
  (114, ⟨.int .u64, 1, 8, [.val (.int .u64 0)]⟩),
  (116, ⟨.other, 1, 8, [.val .nilf]⟩),
  (117, ⟨.other, 1, 8, [.val .nilf]⟩),
  (120, ⟨.array 0 16, 0, 0, []⟩),
  (123, ⟨.other, 1, 8, [.val .nilf]⟩),
  (126, ⟨.other, 1, 8, [.val .nilf]⟩),
  (127, ⟨.other, 1, 8, [.val .nilp]⟩),
  (130, ⟨.struct [(0, 12), (1, 12), (2, 111), (3, 124), (4, 5), (5, 5), (6, 125), (7, 126), (8, 127), (9, 128), (10, 129)], 11, 48, [.val (.int .u64 0), .val (.int .u64 0), .val (.int .u32 0), .val (.int .u8 0), .val (.int .u8 0), .val (.int .u8 0), .val (.int .u8 0), .val .nilf, .val .nilp, .val (.int .i32 0), .val (.int .i32 0)]⟩)]
def T : TT := ttFind tt
@[simp] theorem T_1 : T 1 = some ⟨.other, 1, 8, [.val .nilf]⟩ := rfl
@[simp] theorem T_2 : T 2 = some ⟨.int .i64, 1, 8, [.val (.int .i64 0)]⟩ := rfl
@[simp] theorem T_3 : T 3 = some ⟨.int .i64, 1, 8, [.val (.int .i64 0)]⟩ := rfl
@[simp] theorem T_4 : T 4 = some ⟨.bool, 1, 1, [.val (.bool false)]⟩ := rfl
@[simp] theorem T_5 : T 5 = some ⟨.int .u8, 1, 1, [.val (.int .u8 0)]⟩ := rfl
@[simp] theorem T_9 : T 9 = some ⟨.str, 1, 16, [.val (.str [])]⟩ := rfl
@[simp] theorem T_12 : T 12 = some ⟨.int .u64, 1, 8, [.val (.int .u64 0)]⟩ := rfl
@[simp] theorem T_21 : T 21 = some ⟨.int .i32, 1, 4, [.val (.int .i32 0)]⟩ := rfl
@[simp] theorem T_22 : T 22 = some ⟨.slice 5, 1, 24, [.nil]⟩ := rfl
@[simp] theorem T_23 : T 23 = some ⟨.struct [(0, 5), (1, 22), (2, 4)], 3, 40, [.val (.int .u8 0), .nil, .val (.bool false)]⟩ := rfl
@[simp] theorem T_24 : T 24 = some ⟨.struct [(0, 5), (1, 22), (2, 4)], 3, 40, [.val (.int .u8 0), .nil, .val (.bool false)]⟩ := rfl
@[simp] theorem T_25 : T 25 = some ⟨.slice 34, 1, 24, [.nil]⟩ := rfl
@[simp] theorem T_26 : T 26 = some ⟨.struct [(0, 25), (1, 4)], 2, 32, [.nil, .val (.bool false)]⟩ := rfl
@[simp] theorem T_27 : T 27 = some ⟨.struct [(0, 25), (1, 4)], 2, 32, [.nil, .val (.bool false)]⟩ := rfl
@[simp] theorem T_28 : T 28 = some ⟨.array 2 3, 2, 16, [.val (.int .i64 0), .val (.int .i64 0)]⟩ := rfl
@[simp] theorem T_29 : T 29 = some ⟨.struct [(0, 3), (1, 3)], 2, 16, [.val (.int .i64 0), .val (.int .i64 0)]⟩ := rfl
@[simp] theorem T_30 : T 30 = some ⟨.struct [(0, 3), (1, 3)], 2, 16, [.val (.int .i64 0), .val (.int .i64 0)]⟩ := rfl
@[simp] theorem T_31 : T 31 = some ⟨.struct [(0, 3), (1, 3), (2, 30), (4, 30), (6, 30)], 8, 64, [.val (.int .i64 0), .val (.int .i64 0), .val (.int .i64 0), .val (.int .i64 0), .val (.int .i64 0), .val (.int .i64 0), .val (.int .i64 0), .val (.int .i64 0)]⟩ := rfl
@[simp] theorem T_32 : T 32 = some ⟨.struct [(0, 3), (1, 3), (2, 30), (4, 30), (6, 30)], 8, 64, [.val (.int .i64 0), .val (.int .i64 0), .val (.int .i64 0), .val (.int .i64 0), .val (.int .i64 0), .val (.int .i64 0), .val (.int .i64 0), .val (.int .i64 0)]⟩ := rfl
@[simp] theorem T_33 : T 33 = some ⟨.struct [(0, 3), (1, 28), (3, 3), (4, 32)], 12, 96, [.val (.int .i64 0), .val (.int .i64 0), .val (.int .i64 0), .val (.int .i64 0), .val (.int .i64 0), .val (.int .i64 0), .val (.int .i64 0), .val (.int .i64 0), .val (.int .i64 0), .val (.int .i64 0), .val (.int .i64 0), .val (.int .i64 0)]⟩ := rfl
@[simp] theorem T_34 : T 34 = some ⟨.struct [(0, 3), (1, 28), (3, 3), (4, 32)], 12, 96, [.val (.int .i64 0), .val (.int .i64 0), .val (.int .i64 0), .val (.int .i64 0), .val (.int .i64 0), .val (.int .i64 0), .val (.int .i64 0), .val (.int .i64 0), .val (.int .i64 0), .val (.int .i64 0), .val (.int .i64 0), .val (.int .i64 0)]⟩ := rfl
@[simp] theorem T_35 : T 35 = some ⟨.array 2 5, 2, 2, [.val (.int .u8 0), .val (.int .u8 0)]⟩ := rfl
@[simp] theorem T_36 : T 36 = some ⟨.other, 1, 8, [.val .nilf]⟩ := rfl
@[simp] theorem T_37 : T 37 = some ⟨.other, 1, 8, [.val .nilf]⟩ := rfl
@[simp] theorem T_38 : T 38 = some ⟨.other, 1, 8, [.val .nilf]⟩ := rfl
@[simp] theorem T_39 : T 39 = some ⟨.array 2 27, 4, 64, [.nil, .val (.bool false), .nil, .val (.bool false)]⟩ := rfl
@[simp] theorem T_40 : T 40 = some ⟨.array 2 34, 24, 192, [.val (.int .i64 0), .val (.int .i64 0), .val (.int .i64 0), .val (.int .i64 0), .val (.int .i64 0), .val (.int .i64 0), .val (.int .i64 0), .val (.int .i64 0), .val (.int .i64 0), .val (.int .i64 0), .val (.int .i64 0), .val (.int .i64 0), .val (.int .i64 0), .val (.int .i64 0), .val (.int .i64 0), .val (.int .i64 0), .val (.int .i64 0), .val (.int .i64 0), .val (.int .i64 0), .val (.int .i64 0), .val (.int .i64 0), .val (.int .i64 0), .val (.int .i64 0), .val (.int .i64 0)]⟩ := rfl
@[simp] theorem T_41 : T 41 = some ⟨.int .u64, 1, 8, [.val (.int .u64 0)]⟩ := rfl
@[simp] theorem T_42 : T 42 = some ⟨.int .i64, 1, 8, [.val (.int .i64 0)]⟩ := rfl
@[simp] theorem T_44 : T 44 = some ⟨.other, 1, 8, [.val .nilf]⟩ := rfl
@[simp] theorem T_45 : T 45 = some ⟨.other, 1, 8, [.val .nilf]⟩ := rfl
@[simp] theorem T_46 : T 46 = some ⟨.other, 1, 8, [.val .nilf]⟩ := rfl
@[simp] theorem T_47 : T 47 = some ⟨.other, 1, 8, [.val .nilf]⟩ := rfl
@[simp] theorem T_48 : T 48 = some ⟨.array 4 3, 4, 32, [.val (.int .i64 0), .val (.int .i64 0), .val (.int .i64 0), .val (.int .i64 0)]⟩ := rfl
@[simp] theorem T_49 : T 49 = some ⟨.other, 1, 8, [.val .nilf]⟩ := rfl
@[simp] theorem T_50 : T 50 = some ⟨.other, 1, 8, [.val .nilf]⟩ := rfl
@[simp] theorem T_51 : T 51 = some ⟨.other, 1, 8, [.val .nilf]⟩ := rfl
@[simp] theorem T_52 : T 52 = some ⟨.array 2 32, 16, 128, [.val (.int .i64 0), .val (.int .i64 0), .val (.int .i64 0), .val (.int .i64 0), .val (.int .i64 0), .val (.int .i64 0), .val (.int .i64 0), .val (.int .i64 0), .val (.int .i64 0), .val (.int .i64 0), .val (.int .i64 0), .val (.int .i64 0), .val (.int .i64 0), .val (.int .i64 0), .val (.int .i64 0), .val (.int .i64 0)]⟩ := rfl
@[simp] theorem T_53 : T 53 = some ⟨.array 3 28, 6, 48, [.val (.int .i64 0), .val (.int .i64 0), .val (.int .i64 0), .val (.int .i64 0), .val (.int .i64 0), .val (.int .i64 0)]⟩ := rfl
@[simp] theorem T_54 : T 54 = some ⟨.other, 1, 8, [.val .nilf]⟩ := rfl
@[simp] theorem T_55 : T 55 = some ⟨.other, 1, 8, [.val .nilf]⟩ := rfl
@[simp] theorem T_56 : T 56 = some ⟨.other, 1, 8, [.val .nilf]⟩ := rfl
@[simp] theorem T_57 : T 57 = some ⟨.slice 59, 1, 24, [.nil]⟩ := rfl
@[simp] theorem T_58 : T 58 = some ⟨.struct [(0, 5), (1, 5), (2, 5), (3, 5), (4, 5)], 5, 5, [.val (.int .u8 0), .val (.int .u8 0), .val (.int .u8 0), .val (.int .u8 0), .val (.int .u8 0)]⟩ := rfl
@[simp] theorem T_59 : T 59 = some ⟨.struct [(0, 5), (1, 5), (2, 5), (3, 5), (4, 5)], 5, 5, [.val (.int .u8 0), .val (.int .u8 0), .val (.int .u8 0), .val (.int .u8 0), .val (.int .u8 0)]⟩ := rfl
@[simp] theorem T_60 : T 60 = some ⟨.other, 1, 8, [.val .nilf]⟩ := rfl
@[simp] theorem T_61 : T 61 = some ⟨.other, 1, 8, [.val .nilf]⟩ := rfl
@[simp] theorem T_62 : T 62 = some ⟨.other, 1, 8, [.val .nilf]⟩ := rfl
@[simp] theorem T_63 : T 63 = some ⟨.other, 1, 8, [.val .nilf]⟩ := rfl
@[simp] theorem T_64 : T 64 = some ⟨.other, 1, 8, [.val .nilf]⟩ := rfl
@[simp] theorem T_65 : T 65 = some ⟨.other, 1, 8, [.val .nilf]⟩ := rfl
@[simp] theorem T_66 : T 66 = some ⟨.other, 1, 8, [.val .nilf]⟩ := rfl
@[simp] theorem T_67 : T 67 = some ⟨.slice 27, 1, 24, [.nil]⟩ := rfl
@[simp] theorem T_68 : T 68 = some ⟨.other, 1, 8, [.val .nilf]⟩ := rfl
@[simp] theorem T_69 : T 69 = some ⟨.other, 1, 8, [.val .nilf]⟩ := rfl
@[simp] theorem T_70 : T 70 = some ⟨.other, 1, 8, [.val .nilf]⟩ := rfl
@[simp] theorem T_71 : T 71 = some ⟨.other, 1, 8, [.val .nilf]⟩ := rfl
@[simp] theorem T_72 : T 72 = some ⟨.array 3 27, 6, 96, [.nil, .val (.bool false), .nil, .val (.bool false), .nil, .val (.bool false)]⟩ := rfl
@[simp] theorem T_73 : T 73 = some ⟨.other, 1, 8, [.val .nilf]⟩ := rfl
@[simp] theorem T_74 : T 74 = some ⟨.other, 1, 8, [.val .nilf]⟩ := rfl
@[simp] theorem T_75 : T 75 = some ⟨.other, 1, 8, [.val .nilf]⟩ := rfl
@[simp] theorem T_76 : T 76 = some ⟨.other, 1, 8, [.val .nilf]⟩ := rfl
@[simp] theorem T_77 : T 77 = some ⟨.other, 1, 8, [.val .nilf]⟩ := rfl
@[simp] theorem T_78 : T 78 = some ⟨.other, 1, 8, [.val .nilf]⟩ := rfl
@[simp] theorem T_79 : T 79 = some ⟨.other, 1, 8, [.val .nilf]⟩ := rfl
@[simp] theorem T_80 : T 80 = some ⟨.other, 1, 8, [.val .nilf]⟩ := rfl
@[simp] theorem T_81 : T 81 = some ⟨.other, 1, 8, [.val .nilf]⟩ := rfl
@[simp] theorem T_82 : T 82 = some ⟨.other, 1, 8, [.val .nilf]⟩ := rfl
@[simp] theorem T_83 : T 83 = some ⟨.other, 1, 8, [.val .nilf]⟩ := rfl
@[simp] theorem T_84 : T 84 = some ⟨.other, 1, 8, [.val .nilf]⟩ := rfl
@[simp] theorem T_85 : T 85 = some ⟨.other, 1, 8, [.val .nilf]⟩ := rfl
@[simp] theorem T_86 : T 86 = some ⟨.slice 3, 1, 24, [.nil]⟩ := rfl
@[simp] theorem T_87 : T 87 = some ⟨.array 8 32, 64, 512, [.val (.int .i64 0), .val (.int .i64 0), .val (.int .i64 0), .val (.int .i64 0), .val (.int .i64 0), .val (.int .i64 0), .val (.int .i64 0), .val (.int .i64 0), .val (.int .i64 0), .val (.int .i64 0), .val (.int .i64 0), .val (.int .i64 0), .val (.int .i64 0), .val (.int .i64 0), .val (.int .i64 0), .val (.int .i64 0), .val (.int .i64 0), .val (.int .i64 0), .val (.int .i64 0), .val (.int .i64 0), .val (.int .i64 0), .val (.int .i64 0), .val (.int .i64 0), .val (.int .i64 0), .val (.int .i64 0), .val (.int .i64 0), .val (.int .i64 0), .val (.int .i64 0), .val (.int .i64 0), .val (.int .i64 0), .val (.int .i64 0), .val (.int .i64 0), .val (.int .i64 0), .val (.int .i64 0), .val (.int .i64 0), .val (.int .i64 0), .val (.int .i64 0), .val (.int .i64 0), .val (.int .i64 0), .val (.int .i64 0), .val (.int .i64 0), .val (.int .i64 0), .val (.int .i64 0), .val (.int .i64 0), .val (.int .i64 0), .val (.int .i64 0), .val (.int .i64 0), .val (.int .i64 0), .val (.int .i64 0), .val (.int .i64 0), .val (.int .i64 0), .val (.int .i64 0), .val (.int .i64 0), .val (.int .i64 0), .val (.int .i64 0), .val (.int .i64 0), .val (.int .i64 0), .val (.int .i64 0), .val (.int .i64 0), .val (.int .i64 0), .val (.int .i64 0), .val (.int .i64 0), .val (.int .i64 0), .val (.int .i64 0)]⟩ := rfl
@[simp] theorem T_88 : T 88 = some ⟨.other, 1, 8, [.val .nilf]⟩ := rfl
@[simp] theorem T_89 : T 89 = some ⟨.other, 1, 8, [.val .nilf]⟩ := rfl
@[simp] theorem T_90 : T 90 = some ⟨.other, 1, 8, [.val .nilf]⟩ := rfl
@[simp] theorem T_91 : T 91 = some ⟨.other, 1, 8, [.val .nilf]⟩ := rfl
@[simp] theorem T_92 : T 92 = some ⟨.other, 1, 8, [.val .nilf]⟩ := rfl
@[simp] theorem T_93 : T 93 = some ⟨.array 8 3, 8, 64, [.val (.int .i64 0), .val (.int .i64 0), .val (.int .i64 0), .val (.int .i64 0), .val (.int .i64 0), .val (.int .i64 0), .val (.int .i64 0), .val (.int .i64 0)]⟩ := rfl
@[simp] theorem T_94 : T 94 = some ⟨.other, 1, 8, [.val .nilf]⟩ := rfl
@[simp] theorem T_95 : T 95 = some ⟨.other, 1, 8, [.val .nilf]⟩ := rfl
@[simp] theorem T_96 : T 96 = some ⟨.slice 28, 1, 24, [.nil]⟩ := rfl
@[simp] theorem T_97 : T 97 = some ⟨.other, 1, 8, [.val .nilf]⟩ := rfl
@[simp] theorem T_98 : T 98 = some ⟨.other, 1, 8, [.val .nilf]⟩ := rfl
@[simp] theorem T_99 : T 99 = some ⟨.other, 1, 8, [.val .nilf]⟩ := rfl
@[simp] theorem T_100 : T 100 = some ⟨.struct [(0, 3), (1, 3)], 2, 16, [.val (.int .i64 0), .val (.int .i64 0)]⟩ := rfl
@[simp] theorem T_101 : T 101 = some ⟨.struct [(0, 3), (1, 3)], 2, 16, [.val (.int .i64 0), .val (.int .i64 0)]⟩ := rfl
@[simp] theorem T_102 : T 102 = some ⟨.array 11 101, 22, 176, [.val (.int .i64 0), .val (.int .i64 0), .val (.int .i64 0), .val (.int .i64 0), .val (.int .i64 0), .val (.int .i64 0), .val (.int .i64 0), .val (.int .i64 0), .val (.int .i64 0), .val (.int .i64 0), .val (.int .i64 0), .val (.int .i64 0), .val (.int .i64 0), .val (.int .i64 0), .val (.int .i64 0), .val (.int .i64 0), .val (.int .i64 0), .val (.int .i64 0), .val (.int .i64 0), .val (.int .i64 0), .val (.int .i64 0), .val (.int .i64 0)]⟩ := rfl
@[simp] theorem T_103 : T 103 = some ⟨.slice 101, 1, 24, [.nil]⟩ := rfl
@[simp] theorem T_104 : T 104 = some ⟨.array 13 101, 26, 208, [.val (.int .i64 0), .val (.int .i64 0), .val (.int .i64 0), .val (.int .i64 0), .val (.int .i64 0), .val (.int .i64 0), .val (.int .i64 0), .val (.int .i64 0), .val (.int .i64 0), .val (.int .i64 0), .val (.int .i64 0), .val (.int .i64 0), .val (.int .i64 0), .val (.int .i64 0), .val (.int .i64 0), .val (.int .i64 0), .val (.int .i64 0), .val (.int .i64 0), .val (.int .i64 0), .val (.int .i64 0), .val (.int .i64 0), .val (.int .i64 0), .val (.int .i64 0), .val (.int .i64 0), .val (.int .i64 0), .val (.int .i64 0)]⟩ := rfl
@[simp] theorem T_105 : T 105 = some ⟨.array 3 30, 6, 48, [.val (.int .i64 0), .val (.int .i64 0), .val (.int .i64 0), .val (.int .i64 0), .val (.int .i64 0), .val (.int .i64 0)]⟩ := rfl
@[simp] theorem T_106 : T 106 = some ⟨.other, 1, 8, [.val .nilf]⟩ := rfl
@[simp] theorem T_108 : T 108 = some ⟨.other, 1, 8, [.val .nilf]⟩ := rfl
@[simp] theorem T_109 : T 109 = some ⟨.array 3 3, 3, 24, [.val (.int .i64 0), .val (.int .i64 0), .val (.int .i64 0)]⟩ := rfl
@[simp] theorem T_110 : T 110 = some ⟨.other, 1, 8, [.val .nilf]⟩ := rfl
@[simp] theorem T_111 : T 111 = some ⟨.int .u32, 1, 4, [.val (.int .u32 0)]⟩ := rfl
@[simp] theorem T_113 : T 113 = some ⟨.other, 1, 8, [.val .nilf]⟩ := rfl
@[simp] theorem T_114 : T 114 = some ⟨.int .u64, 1, 8, [.val (.int .u64 0)]⟩ := rfl
@[simp] theorem T_116 : T 116 = some ⟨.other, 1, 8, [.val .nilf]⟩ := rfl
@[simp] theorem T_117 : T 117 = some ⟨.other, 1, 8, [.val .nilf]⟩ := rfl
@[simp] theorem T_120 : T 120 = some ⟨.array 0 16, 0, 0, []⟩ := rfl
@[simp] theorem T_123 : T 123 = some ⟨.other, 1, 8, [.val .nilf]⟩ := rfl
@[simp] theorem T_126 : T 126 = some ⟨.other, 1, 8, [.val .nilf]⟩ := rfl
@[simp] theorem T_127 : T 127 = some ⟨.other, 1, 8, [.val .nilp]⟩ := rfl
@[simp] theorem T_130 : T 130 = some ⟨.struct [(0, 12), (1, 12), (2, 111), (3, 124), (4, 5), (5, 5), (6, 125), (7, 126), (8, 127), (9, 128), (10, 129)], 11, 48, [.val (.int .u64 0), .val (.int .u64 0), .val (.int .u32 0), .val (.int .u8 0), .val (.int .u8 0), .val (.int .u8 0), .val (.int .u8 0), .val .nilf, .val .nilp, .val (.int .i32 0), .val (.int .i32 0)]⟩ := rfl
theorem eqN_1 : eqK T 8 1 = none := by kernel_rfl
theorem ty2_e : eqOK Tryd.prog 2 = true := by kernel_rfl
@[simp] theorem eqK_2 : eqK T 8 2 = some [.int .i64] := by kernel_rfl
theorem ty3_e : eqOK Tryd.prog 3 = true := by kernel_rfl
@[simp] theorem eqK_3 : eqK T 8 3 = some [.int .i64] := by kernel_rfl
theorem ty4_e : eqOK Tryd.prog 4 = true := by kernel_rfl
@[simp] theorem eqK_4 : eqK T 8 4 = some [.bool] := by kernel_rfl
theorem ty5_e : eqOK Tryd.prog 5 = true := by kernel_rfl
@[simp] theorem eqK_5 : eqK T 8 5 = some [.int .u8] := by kernel_rfl
theorem ty9_e : eqOK Tryd.prog 9 = true := by kernel_rfl
@[simp] theorem eqK_9 : eqK T 8 9 = some [.str] := by kernel_rfl
theorem ty12_e : eqOK Tryd.prog 12 = true := by kernel_rfl
@[simp] theorem eqK_12 : eqK T 8 12 = some [.int .u64] := by kernel_rfl
theorem ty21_e : eqOK Tryd.prog 21 = true := by kernel_rfl
@[simp] theorem eqK_21 : eqK T 8 21 = some [.int .i32] := by kernel_rfl
theorem eqN_22 : eqK T 8 22 = none := by kernel_rfl
theorem eqN_23 : eqK T 8 23 = none := by kernel_rfl
theorem eqN_24 : eqK T 8 24 = none := by kernel_rfl
theorem eqN_25 : eqK T 8 25 = none := by kernel_rfl
theorem eqN_26 : eqK T 8 26 = none := by kernel_rfl
theorem eqN_27 : eqK T 8 27 = none := by kernel_rfl
theorem ty28_e : eqOK Tryd.prog 28 = true := by kernel_rfl
@[simp] theorem eqK_28 : eqK T 8 28 = some [.int .i64, .int .i64] := by kernel_rfl
theorem ty29_e : eqOK Tryd.prog 29 = true := by kernel_rfl
@[simp] theorem eqK_29 : eqK T 8 29 = some [.int .i64, .int .i64] := by kernel_rfl
theorem ty30_e : eqOK Tryd.prog 30 = true := by kernel_rfl
@[simp] theorem eqK_30 : eqK T 8 30 = some [.int .i64, .int .i64] := by kernel_rfl
theorem ty31_e : eqOK Tryd.prog 31 = true := by kernel_rfl
@[simp] theorem eqK_31 : eqK T 8 31 = some [.int .i64, .int .i64, .int .i64, .int .i64, .int .i64, .int .i64, .int .i64, .int .i64] := by kernel_rfl
theorem ty32_e : eqOK Tryd.prog 32 = true := by kernel_rfl
@[simp] theorem eqK_32 : eqK T 8 32 = some [.int .i64, .int .i64, .int .i64, .int .i64, .int .i64, .int .i64, .int .i64, .int .i64] := by kernel_rfl
theorem ty33_e : eqOK Tryd.prog 33 = true := by kernel_rfl
@[simp] theorem eqK_33 : eqK T 8 33 = some [.int .i64, .int .i64, .int .i64, .int .i64, .int .i64, .int .i64, .int .i64, .int .i64, .int .i64, .int .i64, .int .i64, .int .i64] := by kernel_rfl
theorem ty34_e : eqOK Tryd.prog 34 = true := by kernel_rfl
@[simp] theorem eqK_34 : eqK T 8 34 = some [.int .i64, .int .i64, .int .i64, .int .i64, .int .i64, .int .i64, .int .i64, .int .i64, .int .i64, .int .i64, .int .i64, .int .i64] := by kernel_rfl
theorem ty35_e : eqOK Tryd.prog 35 = true := by kernel_rfl
@[simp] theorem eqK_35 : eqK T 8 35 = some [.int .u8, .int .u8] := by kernel_rfl
theorem eqN_36 : eqK T 8 36 = none := by kernel_rfl
theorem eqN_37 : eqK T 8 37 = none := by kernel_rfl
theorem eqN_38 : eqK T 8 38 = none := by kernel_rfl
theorem eqN_39 : eqK T 8 39 = none := by kernel_rfl
theorem ty40_e : eqOK Tryd.prog 40 = true := by kernel_rfl
@[simp] theorem eqK_40 : eqK T 8 40 = some [.int .i64, .int .i64, .int .i64, .int .i64, .int .i64, .int .i64, .int .i64, .int .i64, .int .i64, .int .i64, .int .i64, .int .i64, .int .i64, .int .i64, .int .i64, .int .i64, .int .i64, .int .i64, .int .i64, .int .i64, .int .i64, .int .i64, .int .i64, .int .i64] := by kernel_rfl
theorem ty41_e : eqOK Tryd.prog 41 = true := by kernel_rfl
@[simp] theorem eqK_41 : eqK T 8 41 = some [.int .u64] := by kernel_rfl
theorem ty42_e : eqOK Tryd.prog 42 = true := by kernel_rfl
@[simp] theorem eqK_42 : eqK T 8 42 = some [.int .i64] := by kernel_rfl
theorem eqN_44 : eqK T 8 44 = none := by kernel_rfl
theorem eqN_45 : eqK T 8 45 = none := by kernel_rfl
theorem eqN_46 : eqK T 8 46 = none := by kernel_rfl
theorem eqN_47 : eqK T 8 47 = none := by kernel_rfl
theorem ty48_e : eqOK Tryd.prog 48 = true := by kernel_rfl
@[simp] theorem eqK_48 : eqK T 8 48 = some [.int .i64, .int .i64, .int .i64, .int .i64] := by kernel_rfl
theorem eqN_49 : eqK T 8 49 = none := by kernel_rfl
theorem eqN_50 : eqK T 8 50 = none := by kernel_rfl
theorem eqN_51 : eqK T 8 51 = none := by kernel_rfl
theorem ty52_e : eqOK Tryd.prog 52 = true := by kernel_rfl
@[simp] theorem eqK_52 : eqK T 8 52 = some [.int .i64, .int .i64, .int .i64, .int .i64, .int .i64, .int .i64, .int .i64, .int .i64, .int .i64, .int .i64, .int .i64, .int .i64, .int .i64, .int .i64, .int .i64, .int .i64] := by kernel_rfl
theorem ty53_e : eqOK Tryd.prog 53 = true := by kernel_rfl
@[simp] theorem eqK_53 : eqK T 8 53 = some [.int .i64, .int .i64, .int .i64, .int .i64, .int .i64, .int .i64] := by kernel_rfl
theorem eqN_54 : eqK T 8 54 = none := by kernel_rfl
theorem eqN_55 : eqK T 8 55 = none := by kernel_rfl
theorem eqN_56 : eqK T 8 56 = none := by kernel_rfl
theorem eqN_57 : eqK T 8 57 = none := by kernel_rfl
theorem ty58_e : eqOK Tryd.prog 58 = true := by kernel_rfl
@[simp] theorem eqK_58 : eqK T 8 58 = some [.int .u8, .int .u8, .int .u8, .int .u8, .int .u8] := by kernel_rfl
theorem ty59_e : eqOK Tryd.prog 59 = true := by kernel_rfl
@[simp] theorem eqK_59 : eqK T 8 59 = some [.int .u8, .int .u8, .int .u8, .int .u8, .int .u8] := by kernel_rfl
theorem eqN_60 : eqK T 8 60 = none := by kernel_rfl
theorem eqN_61 : eqK T 8 61 = none := by kernel_rfl
theorem eqN_62 : eqK T 8 62 = none := by kernel_rfl
theorem eqN_63 : eqK T 8 63 = none := by kernel_rfl
theorem eqN_64 : eqK T 8 64 = none := by kernel_rfl
theorem eqN_65 : eqK T 8 65 = none := by kernel_rfl
theorem eqN_66 : eqK T 8 66 = none := by kernel_rfl
theorem eqN_67 : eqK T 8 67 = none := by kernel_rfl
theorem eqN_68 : eqK T 8 68 = none := by kernel_rfl
theorem eqN_69 : eqK T 8 69 = none := by kernel_rfl
theorem eqN_70 : eqK T 8 70 = none := by kernel_rfl
theorem eqN_71 : eqK T 8 71 = none := by kernel_rfl
theorem eqN_72 : eqK T 8 72 = none := by kernel_rfl
theorem eqN_73 : eqK T 8 73 = none := by kernel_rfl
theorem eqN_74 : eqK T 8 74 = none := by kernel_rfl
theorem eqN_75 : eqK T 8 75 = none := by kernel_rfl
theorem eqN_76 : eqK T 8 76 = none := by kernel_rfl
theorem eqN_77 : eqK T 8 77 = none := by kernel_rfl
theorem eqN_78 : eqK T 8 78 = none := by kernel_rfl
theorem eqN_79 : eqK T 8 79 = none := by kernel_rfl
theorem eqN_80 : eqK T 8 80 = none := by kernel_rfl
theorem eqN_81 : eqK T 8 81 = none := by kernel_rfl
theorem eqN_82 : eqK T 8 82 = none := by kernel_rfl
theorem eqN_83 : eqK T 8 83 = none := by kernel_rfl
theorem eqN_84 : eqK T 8 84 = none := by kernel_rfl
theorem eqN_85 : eqK T 8 85 = none := by kernel_rfl
theorem eqN_86 : eqK T 8 86 = none := by kernel_rfl
theorem ty87_e : eqOK Tryd.prog 87 = true := by kernel_rfl
@[simp] theorem eqK_87 : eqK T 8 87 = some [.int .i64, .int .i64, .int .i64, .int .i64, .int .i64, .int .i64, .int .i64, .int .i64, .int .i64, .int .i64, .int .i64, .int .i64, .int .i64, .int .i64, .int .i64, .int .i64, .int .i64, .int .i64, .int .i64, .int .i64, .int .i64, .int .i64, .int .i64, .int .i64, .int .i64, .int .i64, .int .i64, .int .i64, .int .i64, .int .i64, .int .i64, .int .i64, .int .i64, .int .i64, .int .i64, .int .i64, .int .i64, .int .i64, .int .i64, .int .i64, .int .i64, .int .i64, .int .i64, .int .i64, .int .i64, .int .i64, .int .i64, .int .i64, .int .i64, .int .i64, .int .i64, .int .i64, .int .i64, .int .i64, .int .i64, .int .i64, .int .i64, .int .i64, .int .i64, .int .i64, .int .i64, .int .i64, .int .i64, .int .i64] := by kernel_rfl
theorem eqN_88 : eqK T 8 88 = none := by kernel_rfl
theorem eqN_89 : eqK T 8 89 = none := by kernel_rfl
theorem eqN_90 : eqK T 8 90 = none := by kernel_rfl
theorem eqN_91 : eqK T 8 91 = none := by kernel_rfl
theorem eqN_92 : eqK T 8 92 = none := by kernel_rfl
theorem ty93_e : eqOK Tryd.prog 93 = true := by kernel_rfl
@[simp] theorem eqK_93 : eqK T 8 93 = some [.int .i64, .int .i64, .int .i64, .int .i64, .int .i64, .int .i64, .int .i64, .int .i64] := by kernel_rfl
theorem eqN_94 : eqK T 8 94 = none := by kernel_rfl
theorem eqN_95 : eqK T 8 95 = none := by kernel_rfl
theorem eqN_96 : eqK T 8 96 = none := by kernel_rfl
theorem eqN_97 : eqK T 8 97 = none := by kernel_rfl
theorem eqN_98 : eqK T 8 98 = none := by kernel_rfl
theorem eqN_99 : eqK T 8 99 = none := by kernel_rfl
theorem ty100_e : eqOK Tryd.prog 100 = true := by kernel_rfl
@[simp] theorem eqK_100 : eqK T 8 100 = some [.int .i64, .int .i64] := by kernel_rfl
theorem ty101_e : eqOK Tryd.prog 101 = true := by kernel_rfl
@[simp] theorem eqK_101 : eqK T 8 101 = some [.int .i64, .int .i64] := by kernel_rfl
theorem ty102_e : eqOK Tryd.prog 102 = true := by kernel_rfl
@[simp] theorem eqK_102 : eqK T 8 102 = some [.int .i64, .int .i64, .int .i64, .int .i64, .int .i64, .int .i64, .int .i64, .int .i64, .int .i64, .int .i64, .int .i64, .int .i64, .int .i64, .int .i64, .int .i64, .int .i64, .int .i64, .int .i64, .int .i64, .int .i64, .int .i64, .int .i64] := by kernel_rfl
theorem eqN_103 : eqK T 8 103 = none := by kernel_rfl
theorem ty104_e : eqOK Tryd.prog 104 = true := by kernel_rfl
@[simp] theorem eqK_104 : eqK T 8 104 = some [.int .i64, .int .i64, .int .i64, .int .i64, .int .i64, .int .i64, .int .i64, .int .i64, .int .i64, .int .i64, .int .i64, .int .i64, .int .i64, .int .i64, .int .i64, .int .i64, .int .i64, .int .i64, .int .i64, .int .i64, .int .i64, .int .i64, .int .i64, .int .i64, .int .i64, .int .i64] := by kernel_rfl
theorem ty105_e : eqOK Tryd.prog 105 = true := by kernel_rfl
@[simp] theorem eqK_105 : eqK T 8 105 = some [.int .i64, .int .i64, .int .i64, .int .i64, .int .i64, .int .i64] := by kernel_rfl
theorem eqN_106 : eqK T 8 106 = none := by kernel_rfl
theorem eqN_108 : eqK T 8 108 = none := by kernel_rfl
theorem ty109_e : eqOK Tryd.prog 109 = true := by kernel_rfl
@[simp] theorem eqK_109 : eqK T 8 109 = some [.int .i64, .int .i64, .int .i64] := by kernel_rfl
theorem eqN_110 : eqK T 8 110 = none := by kernel_rfl
theorem ty111_e : eqOK Tryd.prog 111 = true := by kernel_rfl
@[simp] theorem eqK_111 : eqK T 8 111 = some [.int .u32] := by kernel_rfl
theorem eqN_113 : eqK T 8 113 = none := by kernel_rfl
theorem ty114_e : eqOK Tryd.prog 114 = true := by kernel_rfl
@[simp] theorem eqK_114 : eqK T 8 114 = some [.int .u64] := by kernel_rfl
theorem eqN_116 : eqK T 8 116 = none := by kernel_rfl
theorem eqN_117 : eqK T 8 117 = none := by kernel_rfl
theorem eqN_120 : eqK T 8 120 = none := by kernel_rfl
theorem eqN_123 : eqK T 8 123 = none := by kernel_rfl
theorem eqN_126 : eqK T 8 126 = none := by kernel_rfl
theorem eqN_127 : eqK T 8 127 = none := by kernel_rfl
theorem eqN_130 : eqK T 8 130 = none := by kernel_rfl
theorem tok : TOK Tryd.prog T := tok_of rfl (by
  simp only [tt, List.forall_mem_cons, List.not_mem_nil, false_imp_iff, implies_true, and_true]
  exact ⟨tokRow ty1_u ty1_i trivial (by simp [zval, Value.cells]) rfl rfl,
    tokRow ty2_u ty2_i rfl (by simp [zval, Value.cells]) rfl rfl,
    tokRow ty3_u ty3_i rfl (by simp [zval, Value.cells]) rfl rfl,
    tokRow ty4_u ty4_i rfl (by simp [zval, Value.cells]) rfl rfl,
    tokRow ty5_u ty5_i rfl (by simp [zval, Value.cells]) rfl rfl,
    tokRow ty9_u ty9_i rfl (by simp [zval, Value.cells]) rfl rfl,
    tokRow ty12_u ty12_i rfl (by simp [zval, Value.cells]) rfl rfl,
    tokRow ty21_u ty21_i rfl (by simp [zval, Value.cells]) rfl rfl,
    tokRow ty22_u ty22_i rfl (by simp [zval, Value.cells]) rfl rfl,
    tokRow ty23_u ty23_i ⟨_, rfl, rfl⟩ (by simp [zval, Value.cells]) rfl rfl,
    tokRow ty24_u ty24_i ⟨_, rfl, rfl⟩ (by simp [zval, Value.cells]) rfl rfl,
    tokRow ty25_u ty25_i rfl (by simp [zval, Value.cells]) rfl rfl,
    tokRow ty26_u ty26_i ⟨_, rfl, rfl⟩ (by simp [zval, Value.cells]) rfl rfl,
    tokRow ty27_u ty27_i ⟨_, rfl, rfl⟩ (by simp [zval, Value.cells]) rfl rfl,
    tokRow ty28_u ty28_i rfl (by simp [zval, Value.cells]) rfl rfl,
    tokRow ty29_u ty29_i ⟨_, rfl, rfl⟩ (by simp [zval, Value.cells]) rfl rfl,
    tokRow ty30_u ty30_i ⟨_, rfl, rfl⟩ (by simp [zval, Value.cells]) rfl rfl,
    tokRow ty31_u ty31_i ⟨_, rfl, rfl⟩ (by simp [zval, Value.cells]) rfl rfl,
    tokRow ty32_u ty32_i ⟨_, rfl, rfl⟩ (by simp [zval, Value.cells]) rfl rfl,
    tokRow ty33_u ty33_i ⟨_, rfl, rfl⟩ (by simp [zval, Value.cells]) rfl rfl,
    tokRow ty34_u ty34_i ⟨_, rfl, rfl⟩ (by simp [zval, Value.cells]) rfl rfl,
    tokRow ty35_u ty35_i rfl (by simp [zval, Value.cells]) rfl rfl,
    tokRow ty36_u ty36_i trivial (by simp [zval, Value.cells]) rfl rfl,
    tokRow ty37_u ty37_i trivial (by simp [zval, Value.cells]) rfl rfl,
    tokRow ty38_u ty38_i trivial (by simp [zval, Value.cells]) rfl rfl,
    tokRow ty39_u ty39_i rfl (by simp [zval, Value.cells]) rfl rfl,
    tokRow ty40_u ty40_i rfl (by simp [zval, Value.cells]) rfl rfl,
    tokRow ty41_u ty41_i rfl (by simp [zval, Value.cells]) rfl rfl,
    tokRow ty42_u ty42_i rfl (by simp [zval, Value.cells]) rfl rfl,
    tokRow ty44_u ty44_i trivial (by simp [zval, Value.cells]) rfl rfl,
    tokRow ty45_u ty45_i trivial (by simp [zval, Value.cells]) rfl rfl,
    tokRow ty46_u ty46_i trivial (by simp [zval, Value.cells]) rfl rfl,
    tokRow ty47_u ty47_i trivial (by simp [zval, Value.cells]) rfl rfl,
    tokRow ty48_u ty48_i rfl (by simp [zval, Value.cells]) rfl rfl,
    tokRow ty49_u ty49_i trivial (by simp [zval, Value.cells]) rfl rfl,
    tokRow ty50_u ty50_i trivial (by simp [zval, Value.cells]) rfl rfl,
    tokRow ty51_u ty51_i trivial (by simp [zval, Value.cells]) rfl rfl,
    tokRow ty52_u ty52_i rfl (by simp [zval, Value.cells]) rfl rfl,
    tokRow ty53_u ty53_i rfl (by simp [zval, Value.cells]) rfl rfl,
    tokRow ty54_u ty54_i trivial (by simp [zval, Value.cells]) rfl rfl,
    tokRow ty55_u ty55_i trivial (by simp [zval, Value.cells]) rfl rfl,
    tokRow ty56_u ty56_i trivial (by simp [zval, Value.cells]) rfl rfl,
    tokRow ty57_u ty57_i rfl (by simp [zval, Value.cells]) rfl rfl,
    tokRow ty58_u ty58_i ⟨_, rfl, rfl⟩ (by simp [zval, Value.cells]) rfl rfl,
    tokRow ty59_u ty59_i ⟨_, rfl, rfl⟩ (by simp [zval, Value.cells]) rfl rfl,
    tokRow ty60_u ty60_i trivial (by simp [zval, Value.cells]) rfl rfl,
    tokRow ty61_u ty61_i trivial (by simp [zval, Value.cells]) rfl rfl,
    tokRow ty62_u ty62_i trivial (by simp [zval, Value.cells]) rfl rfl,
    tokRow ty63_u ty63_i trivial (by simp [zval, Value.cells]) rfl rfl,
    tokRow ty64_u ty64_i trivial (by simp [zval, Value.cells]) rfl rfl,
    tokRow ty65_u ty65_i trivial (by simp [zval, Value.cells]) rfl rfl,
    tokRow ty66_u ty66_i trivial (by simp [zval, Value.cells]) rfl rfl,
    tokRow ty67_u ty67_i rfl (by simp [zval, Value.cells]) rfl rfl,
    tokRow ty68_u ty68_i trivial (by simp [zval, Value.cells]) rfl rfl,
    tokRow ty69_u ty69_i trivial (by simp [zval, Value.cells]) rfl rfl,
    tokRow ty70_u ty70_i trivial (by simp [zval, Value.cells]) rfl rfl,
    tokRow ty71_u ty71_i trivial (by simp [zval, Value.cells]) rfl rfl,
    tokRow ty72_u ty72_i rfl (by simp [zval, Value.cells]) rfl rfl,
    tokRow ty73_u ty73_i trivial (by simp [zval, Value.cells]) rfl rfl,
    tokRow ty74_u ty74_i trivial (by simp [zval, Value.cells]) rfl rfl,
    tokRow ty75_u ty75_i trivial (by simp [zval, Value.cells]) rfl rfl,
    tokRow ty76_u ty76_i trivial (by simp [zval, Value.cells]) rfl rfl,
    tokRow ty77_u ty77_i trivial (by simp [zval, Value.cells]) rfl rfl,
    tokRow ty78_u ty78_i trivial (by simp [zval, Value.cells]) rfl rfl,
    tokRow ty79_u ty79_i trivial (by simp [zval, Value.cells]) rfl rfl,
    tokRow ty80_u ty80_i trivial (by simp [zval, Value.cells]) rfl rfl,
    tokRow ty81_u ty81_i trivial (by simp [zval, Value.cells]) rfl rfl,
    tokRow ty82_u ty82_i trivial (by simp [zval, Value.cells]) rfl rfl,
    tokRow ty83_u ty83_i trivial (by simp [zval, Value.cells]) rfl rfl,
    tokRow ty84_u ty84_i trivial (by simp [zval, Value.cells]) rfl rfl,
    tokRow ty85_u ty85_i trivial (by simp [zval, Value.cells]) rfl rfl,
    tokRow ty86_u ty86_i rfl (by simp [zval, Value.cells]) rfl rfl,
    tokRow ty87_u ty87_i rfl (by simp [zval, Value.cells]) rfl rfl,
    tokRow ty88_u ty88_i trivial (by simp [zval, Value.cells]) rfl rfl,
    tokRow ty89_u ty89_i trivial (by simp [zval, Value.cells]) rfl rfl,
    tokRow ty90_u ty90_i trivial (by simp [zval, Value.cells]) rfl rfl,
    tokRow ty91_u ty91_i trivial (by simp [zval, Value.cells]) rfl rfl,
    tokRow ty92_u ty92_i trivial (by simp [zval, Value.cells]) rfl rfl,
    tokRow ty93_u ty93_i rfl (by simp [zval, Value.cells]) rfl rfl,
    tokRow ty94_u ty94_i trivial (by simp [zval, Value.cells]) rfl rfl,
    tokRow ty95_u ty95_i trivial (by simp [zval, Value.cells]) rfl rfl,
    tokRow ty96_u ty96_i rfl (by simp [zval, Value.cells]) rfl rfl,
    tokRow ty97_u ty97_i trivial (by simp [zval, Value.cells]) rfl rfl,
    tokRow ty98_u ty98_i trivial (by simp [zval, Value.cells]) rfl rfl,
    tokRow ty99_u ty99_i trivial (by simp [zval, Value.cells]) rfl rfl,
    tokRow ty100_u ty100_i ⟨_, rfl, rfl⟩ (by simp [zval, Value.cells]) rfl rfl,
    tokRow ty101_u ty101_i ⟨_, rfl, rfl⟩ (by simp [zval, Value.cells]) rfl rfl,
    tokRow ty102_u ty102_i rfl (by simp [zval, Value.cells]) rfl rfl,
    tokRow ty103_u ty103_i rfl (by simp [zval, Value.cells]) rfl rfl,
    tokRow ty104_u ty104_i rfl (by simp [zval, Value.cells]) rfl rfl,
    tokRow ty105_u ty105_i rfl (by simp [zval, Value.cells]) rfl rfl,
    tokRow ty106_u ty106_i trivial (by simp [zval, Value.cells]) rfl rfl,
    tokRow ty108_u ty108_i trivial (by simp [zval, Value.cells]) rfl rfl,
    tokRow ty109_u ty109_i rfl (by simp [zval, Value.cells]) rfl rfl,
    tokRow ty110_u ty110_i trivial (by simp [zval, Value.cells]) rfl rfl,
    tokRow ty111_u ty111_i rfl (by simp [zval, Value.cells]) rfl rfl,
    tokRow ty113_u ty113_i trivial (by simp [zval, Value.cells]) rfl rfl,
    tokRow ty114_u ty114_i rfl (by simp [zval, Value.cells]) rfl rfl,
    tokRow ty116_u ty116_i trivial (by simp [zval, Value.cells]) rfl rfl,
    tokRow ty117_u ty117_i trivial (by simp [zval, Value.cells]) rfl rfl,
    tokRow ty120_u ty120_i rfl (by simp [zval, Value.cells]) rfl rfl,
    tokRow ty123_u ty123_i trivial (by simp [zval, Value.cells]) rfl rfl,
    tokRow ty126_u ty126_i trivial (by simp [zval, Value.cells]) rfl rfl,
    tokRow ty127_u ty127_i trivial (by simp [zval, Value.cells]) rfl rfl,
    tokRow ty130_u ty130_i ⟨_, rfl, rfl⟩ (by simp [zval, Value.cells]) rfl rfl⟩) (by
  simp only [tt, List.forall_mem_cons, List.not_mem_nil, false_imp_iff, implies_true, and_true]
  exact ⟨eq_not eqN_1, fun _ => ty2_e, fun _ => ty3_e, fun _ => ty4_e, fun _ => ty5_e, fun _ => ty9_e, fun _ => ty12_e, fun _ => ty21_e, eq_not eqN_22, eq_not eqN_23, eq_not eqN_24, eq_not eqN_25, eq_not eqN_26, eq_not eqN_27, fun _ => ty28_e, fun _ => ty29_e, fun _ => ty30_e, fun _ => ty31_e, fun _ => ty32_e, fun _ => ty33_e, fun _ => ty34_e, fun _ => ty35_e, eq_not eqN_36, eq_not eqN_37, eq_not eqN_38, eq_not eqN_39, fun _ => ty40_e, fun _ => ty41_e, fun _ => ty42_e, eq_not eqN_44, eq_not eqN_45, eq_not eqN_46, eq_not eqN_47, fun _ => ty48_e, eq_not eqN_49, eq_not eqN_50, eq_not eqN_51, fun _ => ty52_e, fun _ => ty53_e, eq_not eqN_54, eq_not eqN_55, eq_not eqN_56, eq_not eqN_57, fun _ => ty58_e, fun _ => ty59_e, eq_not eqN_60, eq_not eqN_61, eq_not eqN_62, eq_not eqN_63, eq_not eqN_64, eq_not eqN_65, eq_not eqN_66, eq_not eqN_67, eq_not eqN_68, eq_not eqN_69, eq_not eqN_70, eq_not eqN_71, eq_not eqN_72, eq_not eqN_73, eq_not eqN_74, eq_not eqN_75, eq_not eqN_76, eq_not eqN_77, eq_not eqN_78, eq_not eqN_79, eq_not eqN_80, eq_not eqN_81, eq_not eqN_82, eq_not eqN_83, eq_not eqN_84, eq_not eqN_85, eq_not eqN_86, fun _ => ty87_e, eq_not eqN_88, eq_not eqN_89, eq_not eqN_90, eq_not eqN_91, eq_not eqN_92, fun _ => ty93_e, eq_not eqN_94, eq_not eqN_95, eq_not eqN_96, eq_not eqN_97, eq_not eqN_98, eq_not eqN_99, fun _ => ty100_e, fun _ => ty101_e, fun _ => ty102_e, eq_not eqN_103, fun _ => ty104_e, fun _ => ty105_e, eq_not eqN_106, eq_not eqN_108, fun _ => ty109_e, eq_not eqN_110, fun _ => ty111_e, eq_not eqN_113, fun _ => ty114_e, eq_not eqN_116, eq_not eqN_117, eq_not eqN_120, eq_not eqN_123, eq_not eqN_126, eq_not eqN_127, eq_not eqN_130⟩)
theorem mixed : Tryd.prog.follows .mixedOrders = true := by kernel_rfl
end Fen

namespace Fen
open Go Go.Proofs

theorem fdiv2 (n : Int) (k : Nat) : n.fdiv (2 ^ k) = n / 2 ^ k := Int.fdiv_eq_ediv_of_nonneg _ (Int.le_of_lt (Int.pow_pos (by decide)))

def checkF (n : Int) : Bool := decide (0 ≤ n) && decide (n ≤ 1114111) && (decide (n < 55296) || decide (57343 < n))
theorem checkF_iff (n : Int) : checkF n = true ↔ 0 ≤ n ∧ n ≤ 1114111 ∧ (n < 55296 ∨ 57343 < n) := by simp [checkF, and_assoc]

def I64 (n : Int) : Prop := -9223372036854775808 ≤ n ∧ n ≤ 9223372036854775807

def checkSpec : Spec := { pre := fun args => ∃ n : Int, args = [.c (.int .i64 n)], res := fun args => .one (.val (.c (.bool (checkF (args.headD default).int)))) }

set_option maxRecDepth 10000 in
theorem check_sound (gl : Gl) : Sound Tryd.prog gl 73 checkSpec := by
  refine sound_fn (N := Tryd.f73.ntmps) (rs := Tryd.f73.results.toList) mixed tok (SpecsOK.nil _ _) Tryd.func73 rfl rfl rfl rfl rfl ?_ ?_ ?_
  · rintro args ⟨n, rfl⟩; simp [Tryd.f73]
  · rintro args ⟨n, rfl⟩; simp [checkSpec, Tryd.f73]
  · rintro args ⟨n, rfl⟩ bs hgl hh hro
    simp [checkSpec, Tryd.f73, checkF]
    have e : n.fdiv (2 ^ min 11 IntKind.i64.bits) = n / 2048 := by rw [show min 11 IntKind.i64.bits = 11 from rfl, fdiv2]; rfl
    have e2 : (¬ n / 2048 = 27) ↔ (n < 55296 ∨ 57343 < n) := by constructor <;> intro h <;> omega
    have e3 : (n / 2048 != 27) = (decide (n < 55296) || decide (57343 < n)) := by rw [Bool.eq_iff_iff]; simpa using e2
    rw [e, e3]
    rfl

set_option maxRecDepth 10000 in
theorem rcheck_sound (gl : Gl) : Sound Tryd.prog gl 68 checkSpec := by
  refine sound_fn (N := Tryd.f68.ntmps) (rs := Tryd.f68.results.toList) mixed tok (SpecsOK.nil _ _) Tryd.func68 rfl rfl rfl rfl rfl ?_ ?_ ?_
  · rintro args ⟨n, rfl⟩; simp [Tryd.f68]
  · rintro args ⟨n, rfl⟩; simp [checkSpec, Tryd.f68]
  · rintro args ⟨n, rfl⟩ bs hgl hh hro
    simp [checkSpec, Tryd.f68, checkF]
    exact ⟨fun a b => ⟨⟨a, b⟩, fun c => ⟨⟨a, b⟩, c⟩⟩, rfl⟩

/-- ranges as cells -/
def spansC : List (Int × Int) → List C
  | [] => []
  | x :: l => .int .i64 x.1 :: .int .i64 x.2 :: spansC l
theorem spansC_drop : ∀ (l : List (Int × Int)) (k : Nat), (spansC l).drop (k * 2) = spansC (l.drop k)
  | _, 0 => by simp
  | [], k + 1 => by simp [spansC]
  | x :: l, k + 1 => by
    rw [show (k + 1) * 2 = k * 2 + 1 + 1 by omega]
    simp only [spansC, List.drop_succ_cons]
    exact spansC_drop l k
@[simp] theorem spansC_len (l : List (Int × Int)) : (spansC l).length = l.length * 2 := by
  induction l with
  | nil => rfl
  | cons x l ih => simp [spansC, ih]; omega

def inF (cp : Int) (l : List (Int × Int)) : Bool := l.any fun x => decide (x.1 ≤ cp) && decide (cp ≤ x.2)

def inSpec : Spec := { pre := fun args => ∃ (cp : Int) (l : List (Int × Int)), args = [.c (.int .i64 cp), .c (.sl l.length (spansC l))] ∧ l.length ≤ 1000, res := fun args => match args with
  | [.c (.int _ cp), .c (.sl _ cs)] => .one (.val (.c (.bool (inF cp (unC cs)))))
  | _ => .many [] }
where unC : List C → List (Int × Int)
  | .int _ a :: .int _ b :: l => (a, b) :: unC l
  | _ => []
@[simp] theorem unC_spansC (l : List (Int × Int)) : inSpec.unC (spansC l) = l := by
  induction l with
  | nil => rfl
  | cons x l ih => simp [spansC, inSpec.unC, ih]

def inS (cp : Int) (l : List (Int × Int)) (k : Nat) : St :=
  ⟨24, [(0, .val (.int .i64 cp)), (7, .val (.sl l.length (spansC l))), (8, .val (.int .i64 l.length)), (9, .val (.int .i64 k))], []⟩

set_option maxRecDepth 10000 in
theorem in_sound (gl : Gl) : Sound Tryd.prog gl 74 inSpec := by
  refine sound_fn (N := Tryd.f74.ntmps) (rs := Tryd.f74.results.toList) mixed tok (SpecsOK.nil _ gl) Tryd.func74 rfl rfl rfl rfl rfl ?_ ?_ ?_
  · rintro args ⟨cp, l, rfl, h0⟩; simp [Tryd.f74]
  · rintro args ⟨cp, l, rfl, h0⟩; simp [inSpec, Tryd.f74]
  · rintro args ⟨cp, l, rfl, h0⟩ bs hgl hh hro
    have hE : Env.OK ⟨Tryd.prog, T, [], bs⟩ := ⟨tok, by rw [hgl]; exact SpecsOK.nil _ gl⟩
    simp [inSpec, Tryd.f74]
    refine AWP.rounds (fun k => k ≤ l.length ∧ inF cp (l.take k) = false) (inS cp l) (fun k => l.length - k) 0 ⟨by omega, by simp [inF]⟩ ?_ ?_
    · refine Weak.keep ?_
      simp [inS]
    · rintro k ⟨hk, hf⟩
      refine wpc_ok hE mixed _ _ _ ?_
      rcases Nat.lt_or_ge k l.length with h | h
      · have w1 : IntKind.i64.wrap ((k : Int) + 1) = k + 1 := wrap64 _ (by omega) (by omega)
        have hd : (spansC l).drop (k * 2) = .int .i64 l[k].1 :: .int .i64 l[k].2 :: spansC (l.drop (k + 1)) := by
          rw [spansC_drop, List.drop_eq_getElem_cons h]; rfl
        have ht : inF cp (l.take (k + 1)) = (decide (l[k].1 ≤ cp) && decide (cp ≤ l[k].2)) := by
          rw [List.take_add_one, List.getElem?_eq_getElem h]
          unfold inF at hf ⊢
          rw [List.any_append, hf]; simp
        simp [inS, and_assoc, h, hd, w1]
        refine ⟨fun h1 h2 => ?_, fun h1 => ?_⟩
        · unfold inF
          rw [List.any_eq_true]
          exact ⟨l[k], List.getElem_mem h, by simp [h1, h2]⟩
        · refine Next.mk (k + 1) ⟨by omega, ?_⟩ (by omega) (Weak.ren [] (baseOK.nil hh) (by simp) (by simp) ?_)
          · rw [ht]; simp; omega
          · simp [inS]
      · have : k = l.length := by omega
        subst this
        rw [List.take_length] at hf
        simp [inS, hf]

def marksL : List (Int × Int) := [(0x300, 0x36f), (0x483, 0x489), (0x591, 0x5bd), (0x610, 0x61a), (0x64b, 0x65f), (0x1ab0, 0x1aff), (0x1dc0, 0x1dff), (0x200b, 0x200f), (0x20d0, 0x20ff), (0xfe00, 0xfe0f), (0xfe20, 0xfe2f)]
def widesL : List (Int × Int) := [(0x1100, 0x115f), (0x2e80, 0x303e), (0x3041, 0x4dbf), (0x4e00, 0xa4cf), (0xac00, 0xd7a3), (0xf900, 0xfaff), (0xfe30, 0xfe6f), (0xff00, 0xff60), (0xffe0, 0xffe6), (0x1f300, 0x1f64f), (0x1f680, 0x1f6ff), (0x1f900, 0x1f9ff), (0x20000, 0x3fffd)]
def glW : Gl := [(0, spansC marksL), (1, spansC widesL)]

@[simp] theorem glk_0 : glk glW 0 = .fptr (spansC marksL) := rfl
@[simp] theorem glk_1 : glk glW 1 = .fptr (spansC widesL) := rfl

def widthF (cp : Int) : Int := if checkF cp = false ∨ inF cp [(0, 31), (127, 159)] = true then -1 else if cp < 768 then 1 else if inF cp marksL then 0 else if inF cp widesL then 2 else 1

def ofSpec : Spec := { pre := fun args => ∃ cp : Int, args = [.c (.int .i64 cp)], res := fun args => .one (.val (.c (.int .i64 (widthF (args.headD default).int)))) }

def GOf : Specs := [(73, checkSpec), (74, inSpec)]
@[simp] theorem GOf_live : Specs.live GOf = false := rfl
@[simp] theorem GOf_nils : Specs.nils GOf = false := rfl
@[simp] theorem GOf_froz : Specs.froz GOf = false := rfl
@[simp] theorem GOf_18 : GOf.find 73 = some checkSpec := rfl
@[simp] theorem GOf_19 : GOf.find 74 = some inSpec := rfl
theorem GOf_ok (gl : Gl) : SpecsOK Tryd.prog gl GOf := .cons (check_sound gl) (.cons (in_sound gl) (.nil _ _))

set_option maxRecDepth 10000 in
theorem of_sound : Sound Tryd.prog glW 55 ofSpec := by
  refine sound_fn (N := Tryd.f55.ntmps) (rs := Tryd.f55.results.toList) mixed tok (GOf_ok glW) Tryd.func55 rfl rfl rfl rfl rfl ?_ ?_ ?_
  · rintro args ⟨cp, rfl⟩; simp [Tryd.f55]
  · rintro args ⟨cp, rfl⟩; simp [ofSpec, Tryd.f55]
  · rintro args ⟨cp, rfl⟩ bs hgl hh hro
    obtain ⟨w0, own, g0, h0', gl, ro⟩ := bs
    simp only at hgl
    subst hgl
    have u0 : [C.int .i64 0, C.int .i64 31, C.int .i64 127, C.int .i64 159] = spansC [(0, 31), (127, 159)] := rfl
    have u1 : (spansC marksL).head? = some (.int .i64 768) := rfl
    have u2 : marksL.length = 11 := rfl
    have u3 : widesL.length = 13 := rfl
    simp [ofSpec, checkSpec, inSpec, Tryd.f55, and_assoc, u0, u1, u2]
    refine ⟨fun h => ⟨h, [(0, 31), (127, 159)], rfl, rfl, by decide⟩, fun h => by unfold widthF; rw [if_pos h], fun h1 h2 => ?_⟩
    refine ⟨fun h => by unfold widthF; rw [if_neg (by simp [h1, h2]), if_pos h], fun h => ?_⟩
    refine OpW.arr tok T_102 rfl T_101 (cs := spansC marksL) rfl rfl (by decide) (by simp [dstOK]) ?_
    simp [inSpec, u2]
    refine ⟨⟨cp, marksL, ⟨rfl, rfl, rfl⟩, by decide⟩, fun h3 => by unfold widthF; rw [if_neg (by simp [h1, h2]), if_neg (by omega), if_pos h3], fun h3 => ?_⟩
    refine OpW.arr tok T_104 rfl T_101 (cs := spansC widesL) rfl rfl (by decide) (by simp [dstOK]) ?_
    simp [inSpec, u3]
    refine ⟨⟨cp, widesL, ⟨rfl, rfl, rfl⟩, by decide⟩, fun h4 => by unfold widthF; rw [if_neg (by simp [h1, h2]), if_neg (by omega), if_neg (by simp [h3]), if_pos h4], fun h4 => by unfold widthF; rw [if_neg (by simp [h1, h2]), if_neg (by omega), if_neg (by simp [h3]), if_neg (by simp [h4])]⟩

def rinSpec : Spec := { pre := fun args => ∃ (cp : Int) (l : List (Int × Int)), args = [.c (.sl l.length (spansC l)), .c (.int .i64 cp)] ∧ l.length ≤ 1000, res := fun args => match args with
  | [.c (.sl _ cs), .c (.int _ cp)] => .one (.val (.c (.bool (inF cp (inSpec.unC cs)))))
  | _ => .many [] }

def rinS (cp : Int) (l : List (Int × Int)) (k : Nat) : St :=
  ⟨28, [(0, .val (.sl l.length (spansC l))), (1, .val (.int .i64 cp)), (5, .val (.int .i64 k))], []⟩

set_option maxRecDepth 10000 in
theorem rin_sound (gl : Gl) : Sound Tryd.prog gl 69 rinSpec := by
  refine sound_fn (N := Tryd.f69.ntmps) (rs := Tryd.f69.results.toList) mixed tok (SpecsOK.nil _ gl) Tryd.func69 rfl rfl rfl rfl rfl ?_ ?_ ?_
  · rintro args ⟨cp, l, rfl, h0⟩; simp [Tryd.f69]
  · rintro args ⟨cp, l, rfl, h0⟩; simp [rinSpec, Tryd.f69]
  · rintro args ⟨cp, l, rfl, h0⟩ bs hgl hh hro
    have hE : Env.OK ⟨Tryd.prog, T, [], bs⟩ := ⟨tok, by rw [hgl]; exact SpecsOK.nil _ gl⟩
    simp [rinSpec, Tryd.f69]
    refine AWP.rounds (fun k => k ≤ l.length ∧ inF cp (l.take k) = false) (rinS cp l) (fun k => l.length - k) 0 ⟨by omega, by simp [inF]⟩ ?_ ?_
    · refine Weak.keep ?_
      simp [rinS]
    · rintro k ⟨hk, hf⟩
      refine wpc_ok hE mixed _ _ _ ?_
      rcases Nat.lt_or_ge k l.length with h | h
      · have w1 : IntKind.i64.wrap ((k : Int) + 1) = k + 1 := wrap64 _ (by omega) (by omega)
        have hd : (spansC l).drop (k * 2) = .int .i64 l[k].1 :: .int .i64 l[k].2 :: spansC (l.drop (k + 1)) := by
          rw [spansC_drop, List.drop_eq_getElem_cons h]; rfl
        have ht : inF cp (l.take (k + 1)) = (decide (l[k].1 ≤ cp) && decide (cp ≤ l[k].2)) := by
          rw [List.take_add_one, List.getElem?_eq_getElem h]
          unfold inF at hf ⊢
          rw [List.any_append, hf]; simp
        simp [rinS, and_assoc, h, hd, w1]
        refine ⟨fun h1 h2 => ?_, fun h1 => ?_⟩
        · unfold inF
          rw [List.any_eq_true]
          exact ⟨l[k], List.getElem_mem h, by simp [h1, h2]⟩
        · refine Next.mk (k + 1) ⟨by omega, ?_⟩ (by omega) (Weak.keep ?_)
          · rw [ht]; simp; omega
          · simp [rinS]
      · have : k = l.length := by omega
        subst this
        rw [List.take_length] at hf
        simp [rinS, hf]

def twosL : List (Int × Int) := [(0x1100, 0x115f), (0x2e80, 0x303e), (0x3041, 0x33ff), (0x3400, 0x4dbf), (0x4e00, 0x9fff), (0xa000, 0xa4cf), (0xac00, 0xd7a3), (0xf900, 0xfaff), (0xfe30, 0xfe6f), (0xff00, 0xff60), (0xffe0, 0xffe6), (0x1f300, 0x1f64f), (0x1f680, 0x1f6ff), (0x1f900, 0x1f9ff), (0x20000, 0x3fffd)]
def zeroSpec : Spec := { pre := fun args => args = [], res := fun _ => .one (.val (.c (.sl 11 (spansC marksL)))) }
def twoSpec : Spec := { pre := fun args => args = [], res := fun _ => .one (.val (.c (.sl 15 (spansC twosL)))) }

set_option maxRecDepth 10000 in
theorem zero_sound (gl : Gl) : Sound Tryd.prog gl 70 zeroSpec := by
  refine sound_fn (N := Tryd.f70.ntmps) (rs := Tryd.f70.results.toList) mixed tok (SpecsOK.nil _ gl) Tryd.func70 rfl rfl rfl rfl rfl ?_ ?_ ?_
  · rintro args rfl; simp [Tryd.f70]
  · rintro args rfl; simp [zeroSpec, Tryd.f70]
  · rintro args rfl bs hgl hh hro
    simp [zeroSpec, Tryd.f70, spansC, marksL]

set_option maxRecDepth 10000 in
theorem two_sound (gl : Gl) : Sound Tryd.prog gl 71 twoSpec := by
  refine sound_fn (N := Tryd.f71.ntmps) (rs := Tryd.f71.results.toList) mixed tok (SpecsOK.nil _ gl) Tryd.func71 rfl rfl rfl rfl rfl ?_ ?_ ?_
  · rintro args rfl; simp [Tryd.f71]
  · rintro args rfl; simp [twoSpec, Tryd.f71]
  · rintro args rfl bs hgl hh hro
    simp [twoSpec, Tryd.f71, spansC, twosL]

/-- the two tables hold the same code points -/
theorem twos_same (cp : Int) : inF cp twosL = inF cp widesL := by
  rw [Bool.eq_iff_iff]
  simp [inF, twosL, widesL]
  omega

def rofF (cp : Int) : Int := if checkF cp = false ∨ cp < 32 ∨ (127 ≤ cp ∧ cp < 160) then -1 else if inF cp marksL then 0 else if inF cp twosL then 2 else 1

theorem of_same (cp : Int) : rofF cp = widthF cp := by
  unfold rofF widthF
  rw [twos_same]
  have e : (inF cp [(0, 31), (127, 159)] = true) ↔ ((0 ≤ cp ∧ cp ≤ 31) ∨ (127 ≤ cp ∧ cp ≤ 159)) := by simp [inF]
  cases hc : checkF cp with
  | false => simp
  | true =>
    rw [checkF_iff] at hc
    have hm : cp < 768 → inF cp marksL = false := fun h => by
      rw [Bool.eq_false_iff, Ne]; simp [inF, marksL]; omega
    have hw : cp < 768 → inF cp widesL = false := fun h => by
      rw [Bool.eq_false_iff, Ne]; simp [inF, widesL]; omega
    by_cases h1 : cp < 32 ∨ (127 ≤ cp ∧ cp < 160)
    · rw [if_pos (.inr h1), if_pos (.inr (e.2 (by omega)))]
    · have n1 : ¬ (true = false ∨ cp < 32 ∨ (127 ≤ cp ∧ cp < 160)) := by simp; omega
      have n2 : ¬ (true = false ∨ inF cp [(0, 31), (127, 159)] = true) := by rw [e]; simp; omega
      rw [if_neg n1, if_neg n2]
      by_cases h2 : cp < 768
      · rw [if_pos h2, hm h2, hw h2]; rfl
      · rw [if_neg h2]

def GRo : Specs := [(68, checkSpec), (70, zeroSpec), (71, twoSpec), (69, rinSpec)]
@[simp] theorem GRo_live : Specs.live GRo = false := rfl
@[simp] theorem GRo_nils : Specs.nils GRo = false := rfl
@[simp] theorem GRo_froz : Specs.froz GRo = false := rfl
@[simp] theorem GRo_20 : GRo.find 68 = some checkSpec := rfl
@[simp] theorem GRo_22 : GRo.find 70 = some zeroSpec := rfl
@[simp] theorem GRo_23 : GRo.find 71 = some twoSpec := rfl
@[simp] theorem GRo_21 : GRo.find 69 = some rinSpec := rfl
theorem GRo_ok (gl : Gl) : SpecsOK Tryd.prog gl GRo := .cons (rcheck_sound gl) (.cons (zero_sound gl) (.cons (two_sound gl) (.cons (rin_sound gl) (.nil _ _))))

set_option maxRecDepth 10000 in
theorem rof_sound (gl : Gl) : Sound Tryd.prog gl 47 ofSpec := by
  refine sound_fn (N := Tryd.f47.ntmps) (rs := Tryd.f47.results.toList) mixed tok (GRo_ok gl) Tryd.func47 rfl rfl rfl rfl rfl ?_ ?_ ?_
  · rintro args ⟨cp, rfl⟩; simp [Tryd.f47]
  · rintro args ⟨cp, rfl⟩; simp [ofSpec, Tryd.f47]
  · rintro args ⟨cp, rfl⟩ bs hgl hh hro
    simp [ofSpec, checkSpec, zeroSpec, twoSpec, rinSpec, Tryd.f47, and_assoc, ← of_same]
    refine ⟨fun a b => ⟨a, b, fun c => ⟨a, b, c⟩⟩, fun h => by unfold rofF; rw [if_pos (by rcases h with (h | h) | h <;> simp [h])], fun a b c => ?_⟩
    have n0 : ¬ (checkF cp = false ∨ cp < 32 ∨ (127 ≤ cp ∧ cp < 160)) := by simp [a]; omega
    refine ⟨⟨cp, marksL, rfl, rfl, rfl, by decide⟩, fun h => by unfold rofF; rw [if_neg n0, if_pos h], fun h => ⟨⟨cp, twosL, rfl, rfl, rfl, by decide⟩, fun h2 => by unfold rofF; rw [if_neg n0, if_neg (by simp [h]), if_pos h2], fun h2 => by unfold rofF; rw [if_neg n0, if_neg (by simp [h]), if_neg (by simp [h2])]⟩⟩
end Fen

namespace Fen
open Go Go.Proofs

def limSpec : Spec := { pre := fun args => args = [], res := fun _ => .one (.val (.agg [.int .i64 0, .int .i64 255, .int .i64 16777215])) }
set_option maxRecDepth 10000 in
theorem lim_sound (gl : Gl) : Sound Tryd.prog gl 79 limSpec := by
  refine sound_fn (N := Tryd.f79.ntmps) (rs := Tryd.f79.results.toList) mixed tok (SpecsOK.nil _ _) Tryd.func79 rfl rfl rfl rfl rfl ?_ ?_ ?_
  · rintro args rfl; simp [Tryd.f79]
  · rintro args rfl; simp [limSpec, Tryd.f79]
  · rintro args rfl bs hgl hh hro
    simp [limSpec, Tryd.f79]

def colSpec : Spec := { pre := fun args => ∃ k n : Int, args = [.agg [.int .i64 k, .int .i64 n]], res := fun args => match args with
  | [.agg [.int _ k, .int _ n]] => .one (.val (.c (.int .i64 (colF k n))))
  | _ => .many [] }

def GCo : Specs := [(79, limSpec)]
@[simp] theorem GCo_live : Specs.live GCo = false := rfl
@[simp] theorem GCo_nils : Specs.nils GCo = false := rfl
@[simp] theorem GCo_froz : Specs.froz GCo = false := rfl
@[simp] theorem GCo_56 : GCo.find 79 = some limSpec := rfl
theorem GCo_ok (gl : Gl) : SpecsOK Tryd.prog gl GCo := .cons (lim_sound gl) (.nil _ _)

set_option maxRecDepth 10000 in
theorem col_sound (gl : Gl) : Sound Tryd.prog gl 75 colSpec := by
  refine sound_fn (N := Tryd.f75.ntmps) (rs := Tryd.f75.results.toList) mixed tok (GCo_ok gl) Tryd.func75 rfl rfl rfl rfl rfl ?_ ?_ ?_
  · rintro args ⟨k, n, rfl⟩; simp [Tryd.f75]
  · rintro args ⟨k, n, rfl⟩; simp [colSpec, Tryd.f75]
  · rintro args ⟨k, n, rfl⟩ bs hgl hh hro
    by_cases hk : k < 0
    · have e : colF k n = 130 := by unfold colF; rw [if_neg (by omega)]
      have ht : k.toNat = 0 := by omega
      simp [colSpec, limSpec, Tryd.f75, hk, ht, e]
      rfl
    · by_cases hk2 : 3 ≤ k
      · have e : colF k n = 130 := by unfold colF; rw [if_neg (by omega)]
        simp [colSpec, limSpec, Tryd.f75, hk, hk2, e]
        rfl
      · have key : ∀ m : Int, (k = 0 ∧ m = 0) ∨ (k = 1 ∧ m = 255) ∨ (k = 2 ∧ m = 16777215) → colF k n = if n < 0 ∨ m < n then 130 else 0 := fun m hm => by
          unfold colF
          split <;> split <;> first | rfl | omega
        obtain rfl | rfl | rfl : k = 0 ∨ k = 1 ∨ k = 2 := by omega
        · rcases Decidable.em (n < 0) with hn | hn <;> rcases Decidable.em (0 < n) with hm | hm <;> simp [colSpec, limSpec, Tryd.f75, key 0 (by simp), hn, hm] <;> rfl
        · rcases Decidable.em (n < 0) with hn | hn <;> rcases Decidable.em (255 < n) with hm | hm <;> simp [colSpec, limSpec, Tryd.f75, key 255 (by simp), hn, hm] <;> rfl
        · rcases Decidable.em (n < 0) with hn | hn <;> rcases Decidable.em (16777215 < n) with hm | hm <;> simp [colSpec, limSpec, Tryd.f75, key 16777215 (by simp), hn, hm] <;> rfl

set_option maxRecDepth 10000 in
theorem rcol_sound (gl : Gl) : Sound Tryd.prog gl 76 colSpec := by
  refine sound_fn (N := Tryd.f76.ntmps) (rs := Tryd.f76.results.toList) mixed tok (SpecsOK.nil _ _) Tryd.func76 rfl rfl rfl rfl rfl ?_ ?_ ?_
  · rintro args ⟨k, n, rfl⟩; simp [Tryd.f76]
  · rintro args ⟨k, n, rfl⟩; simp [colSpec, Tryd.f76]
  · rintro args ⟨k, n, rfl⟩ bs hgl hh hro
    unfold colSpec colF
    by_cases h0 : k = 0
    · subst h0
      by_cases c : n = 0 <;> simp [Tryd.f76, c]
    · by_cases h1 : k = 1
      · subst h1
        by_cases c : 0 ≤ n <;> by_cases d : n ≤ 255 <;> simp [Tryd.f76, c, d]
      · by_cases h2 : k = 2
        · subst h2
          by_cases c : 0 ≤ n <;> by_cases d : n ≤ 16777215 <;> simp [Tryd.f76, c, d]
        · simp [Tryd.f76, h0, h1, h2]

def Sty.ok (s : Sty) : Prop := -9223372036854775808 ≤ s.attr ∧ s.attr ≤ 9223372036854775807
def stySpec : Spec := { pre := fun args => ∃ s : Sty, args = [styV s] ∧ s.ok, res := fun args => .one (.val (.c (.int .i64 (styF (stOf (args.headD default).cs))))) }

def GSt : Specs := [(75, colSpec)]
@[simp] theorem GSt_live : Specs.live GSt = false := rfl
@[simp] theorem GSt_nils : Specs.nils GSt = false := rfl
@[simp] theorem GSt_froz : Specs.froz GSt = false := rfl
@[simp] theorem GSt_50 : GSt.find 75 = some colSpec := rfl
theorem GSt_ok (gl : Gl) : SpecsOK Tryd.prog gl GSt := .cons (col_sound gl) (.nil _ _)
def GSu : Specs := [(76, colSpec)]
@[simp] theorem GSu_live : Specs.live GSu = false := rfl
@[simp] theorem GSu_nils : Specs.nils GSu = false := rfl
@[simp] theorem GSu_froz : Specs.froz GSu = false := rfl
@[simp] theorem GSu_59 : GSu.find 76 = some colSpec := rfl
theorem GSu_ok (gl : Gl) : SpecsOK Tryd.prog gl GSu := .cons (rcol_sound gl) (.nil _ _)

theorem colF_or (k n : Int) : colF k n = 0 ∨ colF k n = 130 := by unfold colF; split <;> simp

set_option maxRecDepth 10000 in
theorem sty_sound (gl : Gl) : Sound Tryd.prog gl 58 stySpec := by
  refine sound_fn (N := Tryd.f58.ntmps) (rs := Tryd.f58.results.toList) mixed tok (GSt_ok gl) Tryd.func58 rfl rfl rfl rfl rfl ?_ ?_ ?_
  · rintro args ⟨s, rfl, h⟩; simp [Tryd.f58]
  · rintro args ⟨s, rfl, h⟩; simp [stySpec, Tryd.f58]
  · rintro args ⟨s, rfl, h⟩ bs hgl hh hro
    have hE : Env.OK ⟨Tryd.prog, T, GSt, bs⟩ := ⟨tok, by rw [hgl]; exact GSt_ok gl⟩
    have ha := andNot255 h
    obtain ⟨a, u, fk, fn, bk, bn, lk, ln⟩ := s
    simp only at ha
    generalize hq : bits2 (fun _ x y => x &&& ~~~y) .i64 a 255 = q at *
    by_cases h1 : q = 0 ∧ ¬ u < 0 ∧ ¬ 5 < u
    · obtain ⟨h1, h2, h3⟩ := h1
      have e : ¬ (a < 0 ∨ 255 < a ∨ u < 0 ∨ 5 < u) := by have := ha.1 h1; omega
      simp [stySpec, Tryd.f58, styV, hq, h1, h2, h3]
      refine AWP.unroll hE mixed 4 ?_
      have c1 := colF_or fk fn
      have c2 := colF_or bk bn
      have c3 := colF_or lk ln
      unfold styF
      simp only [stOf_C, if_neg e]
      rcases c1 with c1 | c1
      · rcases c2 with c2 | c2
        · rcases c3 with c3 | c3 <;> simp [colSpec, c1, c2, c3]
        · simp [colSpec, c1, c2]
      · simp [colSpec, c1]
    · have e : styF ⟨a, u, fk, fn, bk, bn, lk, ln⟩ = 140 := by
        unfold styF
        rw [if_pos]
        show a < 0 ∨ 255 < a ∨ u < 0 ∨ 5 < u
        by_cases c : q = 0
        · have := ha.1 c; omega
        · have : ¬ (0 ≤ a ∧ a ≤ 255) := fun h => c (ha.2 h)
          omega
      by_cases c1 : q = 0
      · by_cases c2 : u < 0
        · simp [stySpec, Tryd.f58, styV, hq, c1, c2, e]
        · have c3 : 5 < u := by omega
          simp [stySpec, Tryd.f58, styV, hq, c1, c2, c3, e]
      · simp [stySpec, Tryd.f58, styV, hq, c1, e]

set_option maxRecDepth 10000 in
theorem rsty_sound (gl : Gl) : Sound Tryd.prog gl 60 stySpec := by
  refine sound_fn (N := Tryd.f60.ntmps) (rs := Tryd.f60.results.toList) mixed tok (GSu_ok gl) Tryd.func60 rfl rfl rfl rfl rfl ?_ ?_ ?_
  · rintro args ⟨s, rfl, h⟩; simp [Tryd.f60]
  · rintro args ⟨s, rfl, h⟩; simp [stySpec, Tryd.f60]
  · rintro args ⟨s, rfl, h⟩ bs hgl hh hro
    have hE : Env.OK ⟨Tryd.prog, T, GSu, bs⟩ := ⟨tok, by rw [hgl]; exact GSu_ok gl⟩
    obtain ⟨a, u, fk, fn, bk, bn, lk, ln⟩ := s
    by_cases h1 : a < 0 ∨ 255 < a ∨ u < 0 ∨ 5 < u
    · have e : styF ⟨a, u, fk, fn, bk, bn, lk, ln⟩ = 140 := by unfold styF; rw [if_pos h1]
      by_cases c1 : a < 0
      · simp [stySpec, Tryd.f60, styV, c1, e]
      · by_cases c2 : 255 < a
        · simp [stySpec, Tryd.f60, styV, c1, c2, e]
        · by_cases c3 : u < 0
          · simp [stySpec, Tryd.f60, styV, c1, c2, c3, e]
          · have c4 : 5 < u := by omega
            simp [stySpec, Tryd.f60, styV, c1, c2, c3, c4, e]
    · have h2 : ¬ a < 0 ∧ ¬ 255 < a ∧ ¬ u < 0 ∧ ¬ 5 < u := by omega
      obtain ⟨c1, c2, c3, c4⟩ := h2
      simp [stySpec, Tryd.f60, styV, c1, c2, c3, c4]
      refine AWP.unroll hE mixed 4 ?_
      have c1 := colF_or fk fn
      have c2 := colF_or bk bn
      have c3 := colF_or lk ln
      unfold styF
      simp only [stOf_C, if_neg h1]
      rcases c1 with c1 | c1
      · rcases c2 with c2 | c2
        · rcases c3 with c3 | c3 <;> simp [colSpec, c1, c2, c3]
        · simp [colSpec, c1, c2]
      · simp [colSpec, c1]

def halfSpec : Spec := { pre := fun args => ∃ c : Cel, args = [celV c], res := fun args => .one (.val (.c (.bool (halfF (celOf (args.headD default).cs))))) }

set_option maxRecDepth 10000 in
theorem half_sound (gl : Gl) : Sound Tryd.prog gl 49 halfSpec := by
  refine sound_fn (N := Tryd.f49.ntmps) (rs := Tryd.f49.results.toList) mixed tok (SpecsOK.nil _ _) Tryd.func49 rfl rfl rfl rfl rfl ?_ ?_ ?_
  · rintro args ⟨c, rfl⟩; simp [Tryd.f49]
  · rintro args ⟨c, rfl⟩; simp [halfSpec, Tryd.f49]
  · rintro args ⟨c, rfl⟩ bs hgl hh hro
    simp [halfSpec, Tryd.f49]
    unfold halfF
    congr

set_option maxRecDepth 10000 in
theorem second_sound (gl : Gl) : Sound Tryd.prog gl 53 halfSpec := by
  refine sound_fn (N := Tryd.f53.ntmps) (rs := Tryd.f53.results.toList) mixed tok (SpecsOK.nil _ _) Tryd.func53 rfl rfl rfl rfl rfl ?_ ?_ ?_
  · rintro args ⟨c, rfl⟩; simp [Tryd.f53]
  · rintro args ⟨c, rfl⟩; simp [halfSpec, Tryd.f53]
  · rintro args ⟨c, rfl⟩ bs hgl hh hro
    have e : halfF c = (decide (c.base = 0) && (decide (c.m0 = 0) && decide (c.m1 = 0)) && decide (c.wide = 2)) := by
      rw [Bool.eq_iff_iff, halfF_iff]; simp [and_assoc]
    simp [halfSpec, Tryd.f53, e]
    rfl
end Fen

namespace Fen
open Go Go.Proofs

def markedF (m0 m1 : Int) : Bool := !((decide (m0 ≠ 0) && decide (widthF m0 ≠ 0)) || (decide (m1 ≠ 0) && (decide (m0 = 0) || decide (widthF m1 ≠ 0))))
def cellF (c : Cel) : Int :=
  if styF c.st ≠ 0 then 221
  else if halfF c = true ∨ (markedF c.m0 c.m1 = true ∧ ((c.wide = 0 ∧ widthF c.base = 1) ∨ (c.wide = 1 ∧ widthF c.base = 2))) then 0 else 221

def markedSpec : Spec := { pre := fun args => ∃ a b : Int, args = [.agg [.int .i64 a, .int .i64 b]], res := fun args => match args with
  | [.agg [.int _ a, .int _ b]] => .one (.val (.c (.bool (markedF a b))))
  | _ => .many [] }

def GMa : Specs := [(55, ofSpec)]
@[simp] theorem GMa_live : Specs.live GMa = false := rfl
@[simp] theorem GMa_nils : Specs.nils GMa = false := rfl
@[simp] theorem GMa_froz : Specs.froz GMa = false := rfl
@[simp] theorem GMa_41 : GMa.find 55 = some ofSpec := rfl
theorem GMa_ok : SpecsOK Tryd.prog glW GMa := .cons of_sound (.nil _ _)

set_option maxRecDepth 10000 in
theorem marked_sound : Sound Tryd.prog glW 65 markedSpec := by
  refine sound_fn (N := Tryd.f65.ntmps) (rs := Tryd.f65.results.toList) mixed tok GMa_ok Tryd.func65 rfl rfl rfl rfl rfl ?_ ?_ ?_
  · rintro args ⟨a, b, rfl⟩; simp [Tryd.f65]
  · rintro args ⟨a, b, rfl⟩; simp [markedSpec, Tryd.f65]
  · rintro args ⟨a, b, rfl⟩ bs hgl hh hro
    have hE : Env.OK ⟨Tryd.prog, T, GMa, bs⟩ := ⟨tok, by rw [hgl]; exact GMa_ok⟩
    simp [markedSpec, Tryd.f65]
    refine AWP.unroll hE mixed 3 ?_
    unfold markedF
    rcases Decidable.em (a = 0) with h1 | h1 <;> rcases Decidable.em (widthF a = 0) with h2 | h2 <;> rcases Decidable.em (b = 0) with h3 | h3 <;> rcases Decidable.em (widthF b = 0) with h4 | h4 <;> simp [ofSpec, h1, h2, h3, h4]

def Cel.ok (c : Cel) : Prop := c.st.ok
def cellSpec : Spec := { pre := fun args => ∃ c : Cel, args = [celV c] ∧ c.ok, res := fun args => .one (.val (.c (.int .i64 (cellF (celOf (args.headD default).cs))))) }

def GCe : Specs := [(49, halfSpec), (55, ofSpec), (65, markedSpec), (58, stySpec)]
@[simp] theorem GCe_live : Specs.live GCe = false := rfl
@[simp] theorem GCe_nils : Specs.nils GCe = false := rfl
@[simp] theorem GCe_froz : Specs.froz GCe = false := rfl
@[simp] theorem GCe_40 : GCe.find 49 = some halfSpec := rfl
@[simp] theorem GCe_41 : GCe.find 55 = some ofSpec := rfl
@[simp] theorem GCe_42 : GCe.find 65 = some markedSpec := rfl
@[simp] theorem GCe_43 : GCe.find 58 = some stySpec := rfl
theorem GCe_ok : SpecsOK Tryd.prog glW GCe := .cons (half_sound glW) (.cons of_sound (.cons marked_sound (.cons (sty_sound glW) (.nil _ _))))

set_option maxHeartbeats 1000000 in
set_option maxRecDepth 10000 in
theorem cell_sound : Sound Tryd.prog glW 33 cellSpec := by
  refine sound_fn (N := Tryd.f33.ntmps) (rs := Tryd.f33.results.toList) mixed tok GCe_ok Tryd.func33 rfl rfl rfl rfl rfl ?_ ?_ ?_
  · rintro args ⟨c, rfl, h⟩; simp [Tryd.f33]
  · rintro args ⟨c, rfl, h⟩; simp [cellSpec, Tryd.f33]
  · rintro args ⟨c, rfl, h⟩ bs hgl hh hro
    have h : c.st.ok := h
    have w0 : IntKind.i64.wrap (0 + 1) = 1 := rfl
    have w1 : IntKind.i64.wrap (1 + 1) = 2 := rfl
    simp only [cellSpec, List.headD_cons, V.cs_cel, celOf_C]
    unfold cellF
    cases hb : halfF c with
    | true =>
      have hw : c.wide = 2 := ((halfF_iff c).1 hb).2.2.2
      rcases Decidable.em (styF c.st = 0) with h2 | h2 <;> simp [halfSpec, ofSpec, markedSpec, stySpec, Tryd.f33, celV, hb, hw, h, h2] <;> rfl
    | false =>
      rcases Decidable.em (c.wide = 0) with h3 | h3
      · rcases Decidable.em (widthF c.base = 1) with h4 | h4 <;> cases h5 : markedF c.m0 c.m1 <;> rcases Decidable.em (styF c.st = 0) with h2 | h2 <;> simp [halfSpec, ofSpec, markedSpec, stySpec, Tryd.f33, celV, hb, h3, h4, h5, h, h2] <;> rfl
      · rcases Decidable.em (c.wide = 1) with h3' | h3'
        · rcases Decidable.em (widthF c.base = 2) with h4 | h4 <;> cases h5 : markedF c.m0 c.m1 <;> rcases Decidable.em (styF c.st = 0) with h2 | h2 <;> simp [halfSpec, ofSpec, markedSpec, stySpec, Tryd.f33, celV, hb, h3', h4, h5, h, h2] <;> rfl
        · rcases Decidable.em (0 ≤ c.wide) with h6 | h6
          · have h7 : ¬ c.wide ≤ 1 := by omega
            rcases Decidable.em (styF c.st = 0) with h2 | h2 <;> simp [halfSpec, ofSpec, markedSpec, stySpec, Tryd.f33, celV, hb, h3, h3', h6, h7, h, h2] <;> rfl
          · rcases Decidable.em (styF c.st = 0) with h2 | h2 <;> simp [halfSpec, ofSpec, markedSpec, stySpec, Tryd.f33, celV, hb, h3, h3', h6, h, h2] <;> rfl

def GCr : Specs := [(47, ofSpec), (60, stySpec), (53, halfSpec)]
@[simp] theorem GCr_live : Specs.live GCr = false := rfl
@[simp] theorem GCr_nils : Specs.nils GCr = false := rfl
@[simp] theorem GCr_froz : Specs.froz GCr = false := rfl
@[simp] theorem GCr_47 : GCr.find 47 = some ofSpec := rfl
@[simp] theorem GCr_57 : GCr.find 60 = some stySpec := rfl
@[simp] theorem GCr_58 : GCr.find 53 = some halfSpec := rfl
theorem GCr_ok (gl : Gl) : SpecsOK Tryd.prog gl GCr := .cons (rof_sound gl) (.cons (rsty_sound gl) (.cons (second_sound gl) (.nil _ _)))

set_option maxHeartbeats 1000000 in
set_option maxRecDepth 10000 in
theorem rcell_sound (gl : Gl) : Sound Tryd.prog gl 38 cellSpec := by
  refine sound_fn (N := Tryd.f38.ntmps) (rs := Tryd.f38.results.toList) mixed tok (GCr_ok gl) Tryd.func38 rfl rfl rfl rfl rfl ?_ ?_ ?_
  · rintro args ⟨c, rfl, h⟩; simp [Tryd.f38]
  · rintro args ⟨c, rfl, h⟩; simp [cellSpec, Tryd.f38]
  · rintro args ⟨c, rfl, h⟩ bs hgl hh hro
    have hE : Env.OK ⟨Tryd.prog, T, GCr, bs⟩ := ⟨tok, by rw [hgl]; exact GCr_ok gl⟩
    have h : c.st.ok := h
    simp only [cellSpec, List.headD_cons, V.cs_cel, celOf_C]
    unfold cellF
    rcases Decidable.em (styF c.st = 0) with h2 | h2
    · cases hb : halfF c with
      | true => simp [halfSpec, ofSpec, stySpec, Tryd.f38, celV, hb, h, h2]
      | false =>
        simp [halfSpec, ofSpec, stySpec, Tryd.f38, celV, hb, h, h2]
        refine AWP.unroll hE mixed 3 ?_
        unfold markedF
        rcases Decidable.em (c.m0 = 0) with a1 | a1 <;> rcases Decidable.em (widthF c.m0 = 0) with a2 | a2 <;> rcases Decidable.em (c.m1 = 0) with a3 | a3 <;> rcases Decidable.em (widthF c.m1 = 0) with a4 | a4 <;> simp [ofSpec, a1, a2, a3, a4]
        all_goals
          rcases Decidable.em (widthF c.base = 1) with b1 | b1 <;> rcases Decidable.em (widthF c.base = 2) with b2 | b2 <;> rcases Decidable.em (c.wide = 0) with b3 | b3 <;> rcases Decidable.em (c.wide = 1) with b4 | b4 <;> simp [b1, b2, b3, b4] <;> omega
    · simp [halfSpec, ofSpec, stySpec, Tryd.f38, celV, h, h2]
end Fen
