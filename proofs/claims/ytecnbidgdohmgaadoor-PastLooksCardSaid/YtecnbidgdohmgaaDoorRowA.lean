/- A part of the proof; no statement is proved here: PlA, PlB, PTypes1, PWid, PRowA, PRowB. -/
import Derived.Test.YtecnbidgdohmgaaDoorCoreE
import Derived.Test.YtecnbidgdohmgaaDoorChecked
import Derived.Test.YtecnbidgdohmgaaDoorCoreD
import Derived.KernelRfl

set_option linter.unusedVariables false
set_option linter.unusedSimpArgs false

namespace Fen
open Go

/-! ### cells and rows, as cells of the model -/
structure Sty where
  (attr under fk fn bk bn lk ln : Int)
  deriving DecidableEq, Inhabited
structure Cel where
  (base m0 m1 wide : Int)
  (st : Sty)
  deriving DecidableEq, Inhabited
structure Rw where
  (cells : List Cel)
  (wrapped : Bool)
  deriving DecidableEq, Inhabited

def styC (s : Sty) : List C := [.int .i64 s.attr, .int .i64 s.under, .int .i64 s.fk, .int .i64 s.fn, .int .i64 s.bk, .int .i64 s.bn, .int .i64 s.lk, .int .i64 s.ln]
def celC (c : Cel) : List C := .int .i64 c.base :: .int .i64 c.m0 :: .int .i64 c.m1 :: .int .i64 c.wide :: styC c.st
def celsC : List Cel → List C
  | [] => []
  | c :: l => celC c ++ celsC l
def rowC (r : Rw) : List C := [.sl r.cells.length (celsC r.cells), .bool r.wrapped]
def rowsC : List Rw → List C
  | [] => []
  | r :: l => rowC r ++ rowsC l
def celV (c : Cel) : V := .agg (celC c)
def styV (s : Sty) : V := .agg (styC s)
def rowV (r : Rw) : V := .agg (rowC r)
def rowsV (l : List Rw) : V := .c (.sl l.length (rowsC l))
def celsV (l : List Cel) : V := .c (.sl l.length (celsC l))

section
variable (s : Sty) (c d : Cel) (r : Rw) (l m : List Cel) (q : List Rw) (rest : List C) (n k : Nat)

@[simp] theorem styC_len : (styC s).length = 8 := rfl
@[simp] theorem celC_len : (celC c).length = 12 := rfl
@[simp] theorem rowC_len : (rowC r).length = 2 := rfl
@[simp] theorem celsC_len : (celsC l).length = l.length * 12 := by
  induction l with
  | nil => rfl
  | cons x l ih => simp [celsC, ih]; omega
@[simp] theorem rowsC_len : (rowsC q).length = q.length * 2 := by
  induction q with
  | nil => rfl
  | cons x l ih => simp [rowsC, ih]; omega
theorem celsC_app : celsC (l ++ m) = celsC l ++ celsC m := by
  induction l with
  | nil => rfl
  | cons x l ih => simp [celsC, ih]
theorem rowsC_app (q p : List Rw) : rowsC (q ++ p) = rowsC q ++ rowsC p := by
  induction q with
  | nil => rfl
  | cons x l ih => simp [rowsC, ih]
@[simp] theorem celsC_nil : celsC [] = [] := rfl
@[simp] theorem rowsC_nil : rowsC [] = [] := rfl
theorem celsC_drop : ∀ (l : List Cel) (k : Nat), (celsC l).drop (k * 12) = celsC (l.drop k)
  | _, 0 => by simp
  | [], k + 1 => by simp [celsC]
  | x :: l, k + 1 => by
    rw [celsC, List.drop_append, List.drop_of_length_le (by simp; omega), List.drop_succ_cons, celC_len, show (k + 1) * 12 - 12 = k * 12 by omega]
    simpa using celsC_drop l k
theorem rowsC_drop : ∀ (l : List Rw) (k : Nat), (rowsC l).drop (k * 2) = rowsC (l.drop k)
  | _, 0 => by simp
  | [], k + 1 => by simp [rowsC]
  | x :: l, k + 1 => by
    rw [rowsC, List.drop_append, List.drop_of_length_le (by simp; omega), List.drop_succ_cons, rowC_len, show (k + 1) * 2 - 2 = k * 2 by omega]
    simpa using rowsC_drop l k
theorem celsC_take (l : List Cel) (k : Nat) : (celsC l).take (k * 12) = celsC (l.take k) := by
  have e : celsC l = celsC (l.take k) ++ celsC (l.drop k) := by rw [← celsC_app, List.take_append_drop]
  rcases Nat.lt_or_ge k l.length with h | h
  · rw [e, List.take_left' (by rw [celsC_len, List.length_take]; congr 1; omega)]
  · rw [List.take_of_length_le (by rw [celsC_len]; exact Nat.mul_le_mul_right _ h), List.take_of_length_le h]
theorem rowsC_take (l : List Rw) (k : Nat) : (rowsC l).take (k * 2) = rowsC (l.take k) := by
  have e : rowsC l = rowsC (l.take k) ++ rowsC (l.drop k) := by rw [← rowsC_app, List.take_append_drop]
  rcases Nat.lt_or_ge k l.length with h | h
  · rw [e, List.take_left' (by rw [rowsC_len, List.length_take]; congr 1; omega)]
  · rw [List.take_of_length_le (by rw [rowsC_len]; exact Nat.mul_le_mul_right _ h), List.take_of_length_le h]
/-- the cells from one on -/
theorem celsC_at {l : List Cel} {k : Nat} (h : k < l.length) : (celsC l).drop (k * 12) = celC l[k] ++ celsC (l.drop (k + 1)) := by
  rw [celsC_drop, List.drop_eq_getElem_cons h]; rfl
theorem rowsC_at {l : List Rw} {k : Nat} (h : k < l.length) : (rowsC l).drop (k * 2) = rowC l[k] ++ rowsC (l.drop (k + 1)) := by
  rw [rowsC_drop, List.drop_eq_getElem_cons h]; rfl
theorem celsC_set {l : List Cel} {k : Nat} (h : k < l.length) (c : Cel) : (celsC l).take (k * 12) ++ (celC c ++ (celsC l).drop (k * 12 + 12)) = celsC (l.set k c) := by
  rw [List.set_eq_take_append_cons_drop, if_pos h, celsC_app, celsC_take, show k * 12 + 12 = (k + 1) * 12 by omega, celsC_drop]; rfl
theorem rowsC_set {l : List Rw} {k : Nat} (h : k < l.length) (c : Rw) : (rowsC l).take (k * 2) ++ (rowC c ++ (rowsC l).drop (k * 2 + 2)) = rowsC (l.set k c) := by
  rw [List.set_eq_take_append_cons_drop, if_pos h, rowsC_app, rowsC_take, show k * 2 + 2 = (k + 1) * 2 by omega, rowsC_drop]; rfl

/-! parts -/
@[simp] theorem take_cel : (celC c ++ rest).take 12 = celC c := by rw [List.take_left' (by simp)]
@[simp] theorem take_cel0 : (celC c).take 12 = celC c := by rw [List.take_of_length_le (by simp)]
@[simp] theorem drop_cel12 : (celC c ++ rest).drop 12 = rest := by rw [List.drop_left' (by simp)]
@[simp] theorem take_sty0 : (styC s).take 8 = styC s := by rw [List.take_of_length_le (by simp)]
@[simp] theorem take_sty : (styC s ++ rest).take 8 = styC s := by rw [List.take_left' (by simp)]
@[simp] theorem cel_st : (celC c).drop 4 = styC c.st := rfl
@[simp] theorem cel_st2 : (celC c ++ rest).drop 4 = styC c.st ++ rest := rfl
@[simp] theorem cel_d1 : (celC c).drop 1 = .int .i64 c.m0 :: .int .i64 c.m1 :: .int .i64 c.wide :: styC c.st := rfl
@[simp] theorem cel_d1' : (celC c).tail = .int .i64 c.m0 :: .int .i64 c.m1 :: .int .i64 c.wide :: styC c.st := rfl
@[simp] theorem cel_0 : (celC c).head? = some (.int .i64 c.base) := rfl
@[simp] theorem cel_00 : (celC c)[0]? = some (.int .i64 c.base) := rfl
@[simp] theorem cel_1 : (celC c)[1]? = some (.int .i64 c.m0) := rfl
@[simp] theorem cel_2 : (celC c)[2]? = some (.int .i64 c.m1) := rfl
@[simp] theorem cel_3 : (celC c)[3]? = some (.int .i64 c.wide) := rfl
@[simp] theorem cel_h : (celC c ++ rest).head? = some (.int .i64 c.base) := rfl
@[simp] theorem cel_t : (celC c ++ rest).tail = .int .i64 c.m0 :: .int .i64 c.m1 :: .int .i64 c.wide :: (styC c.st ++ rest) := rfl
@[simp] theorem cel_r1 : (celC c ++ rest).drop 1 = .int .i64 c.m0 :: .int .i64 c.m1 :: .int .i64 c.wide :: (styC c.st ++ rest) := rfl
@[simp] theorem cel_r2 : (celC c ++ rest).drop 2 = .int .i64 c.m1 :: .int .i64 c.wide :: (styC c.st ++ rest) := rfl
@[simp] theorem cel_r3 : (celC c ++ rest).drop 3 = .int .i64 c.wide :: (styC c.st ++ rest) := rfl
@[simp] theorem sty_0 : (styC s).head? = some (.int .i64 s.attr) := rfl
@[simp] theorem sty_00 : (styC s)[0]? = some (.int .i64 s.attr) := rfl
@[simp] theorem sty_1 : (styC s)[1]? = some (.int .i64 s.under) := rfl
@[simp] theorem sty_d2 : (styC s).drop 2 = [.int .i64 s.fk, .int .i64 s.fn, .int .i64 s.bk, .int .i64 s.bn, .int .i64 s.lk, .int .i64 s.ln] := rfl
@[simp] theorem sty_d4 : (styC s).drop 4 = [.int .i64 s.bk, .int .i64 s.bn, .int .i64 s.lk, .int .i64 s.ln] := rfl
@[simp] theorem sty_d6 : (styC s).drop 6 = [.int .i64 s.lk, .int .i64 s.ln] := rfl
@[simp] theorem row_0 : (rowC r).head? = some (.sl r.cells.length (celsC r.cells)) := rfl
@[simp] theorem row_00 : (rowC r)[0]? = some (.sl r.cells.length (celsC r.cells)) := rfl
@[simp] theorem row_1 : (rowC r)[1]? = some (.bool r.wrapped) := rfl
@[simp] theorem take_row : (rowC r ++ rest).take 2 = rowC r := rfl
@[simp] theorem take_row0 : (rowC r).take 2 = rowC r := rfl
@[simp] theorem row_h : (rowC r ++ rest).head? = some (.sl r.cells.length (celsC r.cells)) := rfl
@[simp] theorem row_r1 : (rowC r ++ rest).drop 1 = .bool r.wrapped :: rest := rfl
@[simp] theorem row_t : (rowC r ++ rest).tail = .bool r.wrapped :: rest := rfl
@[simp] theorem drop_row2 : (rowC r ++ rest).drop 2 = rest := rfl

/-! == -/
theorem cellsEq_sty (a b : Sty) : cellsEq (styC a) (styC b) = decide (a = b) := by
  cases a; cases b
  rw [Bool.eq_iff_iff]
  simp [styC]
theorem cellsEq_cel (a b : Cel) : cellsEq (celC a) (celC b) = decide (a = b) := by
  obtain ⟨a0, a1, a2, a3, s⟩ := a
  obtain ⟨b0, b1, b2, b3, t⟩ := b
  rw [Bool.eq_iff_iff]
  simp [celC, cellsEq_sty]
attribute [simp] cellsEq_sty cellsEq_cel
def eksSty : List EK := [.int .i64, .int .i64, .int .i64, .int .i64, .int .i64, .int .i64, .int .i64, .int .i64]
def eksCel : List EK := [.int .i64, .int .i64, .int .i64, .int .i64, .int .i64, .int .i64, .int .i64, .int .i64, .int .i64, .int .i64, .int .i64, .int .i64]
@[simp] theorem kinds_sty : kindsOK [.int .i64, .int .i64, .int .i64, .int .i64, .int .i64, .int .i64, .int .i64, .int .i64] (styC s) = True := by simp [styC]
@[simp] theorem kinds_cel : kindsOK [.int .i64, .int .i64, .int .i64, .int .i64, .int .i64, .int .i64, .int .i64, .int .i64, .int .i64, .int .i64, .int .i64, .int .i64] (celC c) = True := by simp [celC, styC]
end
/-! built values, folded -/
theorem celC_mk (a b c d e f g h i j k l : Int) : [C.int .i64 a, .int .i64 b, .int .i64 c, .int .i64 d, .int .i64 e, .int .i64 f, .int .i64 g, .int .i64 h, .int .i64 i, .int .i64 j, .int .i64 k, .int .i64 l] = celC ⟨a, b, c, d, ⟨e, f, g, h, i, j, k, l⟩⟩ := rfl
theorem celC_st (a b c d : Int) (s : Sty) : (C.int .i64 a :: .int .i64 b :: .int .i64 c :: .int .i64 d :: styC s) = celC ⟨a, b, c, d, s⟩ := rfl
theorem styC_mk (e f g h i j k l : Int) : [C.int .i64 e, .int .i64 f, .int .i64 g, .int .i64 h, .int .i64 i, .int .i64 j, .int .i64 k, .int .i64 l] = styC ⟨e, f, g, h, i, j, k, l⟩ := rfl
attribute [simp] celC_st

@[simp] theorem celC_inj (a b : Cel) : celC a = celC b ↔ a = b := by
  refine ⟨fun h => ?_, fun h => by rw [h]⟩
  have := cellsEq_cel a b
  rw [h, cellsEq_cel] at this
  simpa using this
@[simp] theorem styC_inj (a b : Sty) : styC a = styC b ↔ a = b := by
  refine ⟨fun h => ?_, fun h => by rw [h]⟩
  have := cellsEq_sty a b
  rw [h, cellsEq_sty] at this
  simpa using this
theorem celsC_inj : ∀ {a b : List Cel}, celsC a = celsC b → a = b
  | [], [], _ => rfl
  | [], _ :: _, h => by have := congrArg List.length h; simp at this
  | _ :: _, [], h => by have := congrArg List.length h; simp at this
  | a :: la, b :: lb, h => by
    simp only [celsC] at h
    obtain ⟨h1, h2⟩ := List.append_inj h (by simp)
    rw [(celC_inj a b).1 h1, celsC_inj h2]
end Fen

namespace Fen
open Go

/-! values back from cells -/
def V.cs : V → List C
  | .agg cs => cs
  | .c (.sl _ cs) => cs
  | _ => []
@[simp] theorem V.cs_agg (cs : List C) : V.cs (.agg cs) = cs := rfl
@[simp] theorem V.cs_sl (n : Nat) (cs : List C) : V.cs (.c (.sl n cs)) = cs := rfl
def stOf : List C → Sty
  | [.int _ a, .int _ b, .int _ c, .int _ d, .int _ e, .int _ f, .int _ g, .int _ h] => ⟨a, b, c, d, e, f, g, h⟩
  | _ => default
@[simp] theorem stOf_C (s : Sty) : stOf (styC s) = s := rfl
def celOf : List C → Cel
  | .int _ a :: .int _ b :: .int _ c :: .int _ d :: l => ⟨a, b, c, d, stOf l⟩
  | _ => default
@[simp] theorem celOf_C (c : Cel) : celOf (celC c) = c := rfl
def celsOf : List C → List Cel
  | .int _ a :: .int _ b :: .int _ c :: .int _ d :: .int _ e :: .int _ f :: .int _ g :: .int _ h :: .int _ i :: .int _ j :: .int _ k :: .int _ m :: l => ⟨a, b, c, d, ⟨e, f, g, h, i, j, k, m⟩⟩ :: celsOf l
  | _ => []
@[simp] theorem celsOf_C : ∀ l : List Cel, celsOf (celsC l) = l
  | [] => rfl
  | c :: l => by simp only [celsC, celC, styC, List.cons_append, List.nil_append, celsOf, celsOf_C l]
def rowOf : List C → Rw
  | [.sl _ cs, .bool w] => ⟨celsOf cs, w⟩
  | _ => default
@[simp] theorem rowOf_C (r : Rw) : rowOf (rowC r) = r := by simp [rowOf, rowC]
def rowsOf : List C → List Rw
  | .sl _ cs :: .bool w :: l => ⟨celsOf cs, w⟩ :: rowsOf l
  | _ => []
@[simp] theorem rowsOf_C : ∀ l : List Rw, rowsOf (rowsC l) = l
  | [] => rfl
  | r :: l => by simp [rowsC, rowC, rowsOf, rowsOf_C l]
@[simp] theorem styV_x (s : Sty) : (styV s).x = .agg (styC s) := rfl
@[simp] theorem celV_x (s : Cel) : (celV s).x = .agg (celC s) := rfl
@[simp] theorem rowV_x (s : Rw) : (rowV s).x = .agg (rowC s) := rfl
@[simp] theorem rowsV_x (l : List Rw) : (rowsV l).x = .val (.sl l.length (rowsC l)) := rfl
@[simp] theorem celsV_x (l : List Cel) : (celsV l).x = .val (.sl l.length (celsC l)) := rfl
@[simp] theorem V.cs_sty (s : Sty) : (styV s).cs = styC s := rfl
@[simp] theorem V.cs_cel (s : Cel) : (celV s).cs = celC s := rfl
@[simp] theorem V.cs_row (s : Rw) : (rowV s).cs = rowC s := rfl
@[simp] theorem V.cs_rows (l : List Rw) : (rowsV l).cs = rowsC l := rfl
@[simp] theorem V.cs_cels (l : List Cel) : (celsV l).cs = celsC l := rfl
@[simp] theorem agg_styV (cs : List C) (s : Sty) : (V.agg cs = styV s) = (cs = styC s) := by simp [styV]
@[simp] theorem agg_celV (cs : List C) (s : Cel) : (V.agg cs = celV s) = (cs = celC s) := by simp [celV]
@[simp] theorem agg_rowV (cs : List C) (s : Rw) : (V.agg cs = rowV s) = (cs = rowC s) := by simp [rowV]
theorem rowC_inj {a b : Rw} : rowC a = rowC b ↔ a = b := ⟨fun h => by rw [← rowOf_C a, h, rowOf_C], fun h => by rw [h]⟩
theorem rowsC_inj {a b : List Rw} : rowsC a = rowsC b ↔ a = b := ⟨fun h => by rw [← rowsOf_C a, h, rowsOf_C], fun h => by rw [h]⟩
theorem celsC_inj' {a b : List Cel} : celsC a = celsC b ↔ a = b := ⟨fun h => celsC_inj h, fun h => by rw [h]⟩
attribute [simp] rowC_inj rowsC_inj celsC_inj'
@[simp] theorem sl_rowsV (n : Nat) (cs : List C) (p : List Rw) : (V.c (.sl n cs) = rowsV p) = (cs = rowsC p ∧ n = p.length) := by simp [rowsV]; exact And.comm
@[simp] theorem sl_celsV (n : Nat) (cs : List C) (p : List Cel) : (V.c (.sl n cs) = celsV p) = (cs = celsC p ∧ n = p.length) := by simp [celsV]; exact And.comm

/-! ### what the program says of colours, styles, cells, rows -/
def colF (k n : Int) : Int := if (k = 0 ∧ n = 0) ∨ (k = 1 ∧ 0 ≤ n ∧ n ≤ 255) ∨ (k = 2 ∧ 0 ≤ n ∧ n ≤ 16777215) then 0 else 130
def styF (s : Sty) : Int :=
  if s.attr < 0 ∨ 255 < s.attr ∨ s.under < 0 ∨ 5 < s.under then 140
  else if colF s.fk s.fn = 0 ∧ colF s.bk s.bn = 0 ∧ colF s.lk s.ln = 0 then 0 else 130

theorem andNot255 {a : Int} (h : -9223372036854775808 ≤ a ∧ a ≤ 9223372036854775807) : (bits2 (fun _ x y => x &&& ~~~y) .i64 a 255 = 0) ↔ (0 ≤ a ∧ a ≤ 255) := by
  have e : ∀ x : BitVec 64, (x &&& ~~~(BitVec.ofInt 64 255)).toNat = 0 ↔ x.toNat < 256 := fun x => by
    have q : (BitVec.ofInt 64 255) = 255#64 := by decide
    rw [q]
    constructor
    · intro h0
      refine Nat.lt_pow_two_of_testBit (n := 8) _ fun i hi => ?_
      have h1 : (x &&& ~~~255#64).getLsbD i = false := by
        have : (x &&& ~~~255#64) = 0#64 := BitVec.eq_of_toNat_eq (by simpa using h0)
        rw [this]; simp
      rcases Nat.lt_or_ge i 64 with c | c
      · have h2 : (255#64).getLsbD i = false := by
          have : ∀ i, i < 64 → 8 ≤ i → (255#64).getLsbD i = false := by decide
          exact this i c hi
        simp only [BitVec.getLsbD_and, BitVec.getLsbD_not, h2, c] at h1
        simpa [BitVec.getLsbD] using h1
      · exact Nat.testBit_lt_two_pow (Nat.lt_of_lt_of_le x.isLt (Nat.pow_le_pow_right (by omega) c))
    · intro h0
      have : (x &&& ~~~255#64) = 0#64 := by
        apply BitVec.eq_of_getLsbD_eq
        intro i hi
        simp only [BitVec.getLsbD_and, BitVec.getLsbD_not, BitVec.getLsbD_zero]
        rcases Nat.lt_or_ge i 8 with c | c
        · have h2 : ∀ i, i < 8 → (255#64).getLsbD i = true := by decide
          rw [h2 i c]; simp
        · have : x.getLsbD i = false := by
            unfold BitVec.getLsbD
            exact Nat.testBit_lt_two_pow (Nat.lt_of_lt_of_le h0 (by
              have : (2 : Nat) ^ 8 ≤ 2 ^ i := Nat.pow_le_pow_right (by omega) c
              omega))
          rw [this]; simp
      rw [this]; rfl
  unfold bits2
  have w : ∀ n : Nat, n < 18446744073709551616 → (IntKind.i64.wrap (n : Int) = 0 ↔ n = 0) := fun n hn => by rw [IntKind.wrap_i64]; omega
  have hx := (BitVec.ofInt IntKind.i64.bits a).isLt
  rw [w _ (by
    have := ((BitVec.ofInt IntKind.i64.bits a) &&& ~~~(BitVec.ofInt IntKind.i64.bits 255)).isLt
    exact this)]
  refine (e (BitVec.ofInt 64 a)).trans ?_
  rw [BitVec.toNat_ofInt]
  omega

def halfF (c : Cel) : Bool := decide (c = ⟨0, 0, 0, 2, c.st⟩)
theorem halfF_iff (c : Cel) : halfF c = true ↔ c.base = 0 ∧ c.m0 = 0 ∧ c.m1 = 0 ∧ c.wide = 2 := by
  obtain ⟨a, b, d, e, s⟩ := c
  simp [halfF]
end Fen

/- The table of this seat's types, and that the program has it. Printed by a program of mine (gen.py) from the translation. -/
namespace Fen
open Go Go.Proofs
theorem ty2_u : Tryd.prog.underlying 2 = some (.int .i64) := by kernel_rfl
theorem ty2_i : (Tryd.prog.info? 2).map (fun i => (i.zero, i.size, i.bytes)) = some (some (.int .i64 0), 1, 8) := by kernel_rfl
theorem ty3_u : Tryd.prog.underlying 3 = some (.int .i64) := by kernel_rfl
theorem ty3_i : (Tryd.prog.info? 3).map (fun i => (i.zero, i.size, i.bytes)) = some (some (.int .i64 0), 1, 8) := by kernel_rfl
theorem ty4_u : Tryd.prog.underlying 4 = some (.bool) := by kernel_rfl
theorem ty4_i : (Tryd.prog.info? 4).map (fun i => (i.zero, i.size, i.bytes)) = some (some (.bool false), 1, 1) := by kernel_rfl
theorem ty5_u : Tryd.prog.underlying 5 = some (.int .u8) := by kernel_rfl
theorem ty5_i : (Tryd.prog.info? 5).map (fun i => (i.zero, i.size, i.bytes)) = some (some (.int .u8 0), 1, 1) := by kernel_rfl
theorem ty9_u : Tryd.prog.underlying 9 = some (.string) := by kernel_rfl
theorem ty9_i : (Tryd.prog.info? 9).map (fun i => (i.zero, i.size, i.bytes)) = some (some (.string ⟨#[]⟩), 1, 16) := by kernel_rfl
theorem ty12_u : Tryd.prog.underlying 12 = some (.int .u64) := by kernel_rfl
theorem ty12_i : (Tryd.prog.info? 12).map (fun i => (i.zero, i.size, i.bytes)) = some (some (.int .u64 0), 1, 8) := by kernel_rfl
theorem ty21_u : Tryd.prog.underlying 21 = some (.int .i32) := by kernel_rfl
theorem ty21_i : (Tryd.prog.info? 21).map (fun i => (i.zero, i.size, i.bytes)) = some (some (.int .i32 0), 1, 4) := by kernel_rfl
theorem ty22_u : Tryd.prog.underlying 22 = some (.slice 5) := by kernel_rfl
theorem ty22_i : (Tryd.prog.info? 22).map (fun i => (i.zero, i.size, i.bytes)) = some (some (.slice none 0 0), 1, 24) := by kernel_rfl
theorem ty23_u : Tryd.prog.underlying 23 = some (.slice 71) := by kernel_rfl
theorem ty23_i : (Tryd.prog.info? 23).map (fun i => (i.zero, i.size, i.bytes)) = some (some (.slice none 0 0), 1, 24) := by kernel_rfl
theorem ty24_u : Tryd.prog.underlying 24 = some (.struct #[{ name := "Cells", type := 23, offset := 0, embedded := false, tag := "", pkgPath := "", byteOffset := 0 }, { name := "Wrapped", type := 4, offset := 1, embedded := false, tag := "", pkgPath := "", byteOffset := 24 }]) := by kernel_rfl
theorem ty24_i : (Tryd.prog.info? 24).map (fun i => (i.zero, i.size, i.bytes)) = some (some (.agg #[.slice none 0 0, .bool false]), 2, 32) := by kernel_rfl
theorem ty25_u : Tryd.prog.underlying 25 = some (.struct #[{ name := "Cells", type := 23, offset := 0, embedded := false, tag := "", pkgPath := "", byteOffset := 0 }, { name := "Wrapped", type := 4, offset := 1, embedded := false, tag := "", pkgPath := "", byteOffset := 24 }]) := by kernel_rfl
theorem ty25_i : (Tryd.prog.info? 25).map (fun i => (i.zero, i.size, i.bytes)) = some (some (.agg #[.slice none 0 0, .bool false]), 2, 32) := by kernel_rfl
theorem ty26_u : Tryd.prog.underlying 26 = some (.struct #[{ name := "Cols", type := 3, offset := 0, embedded := false, tag := "", pkgPath := "", byteOffset := 0 }, { name := "Old", type := 22, offset := 1, embedded := false, tag := "", pkgPath := "", byteOffset := 8 }, { name := "New", type := 22, offset := 2, embedded := false, tag := "", pkgPath := "", byteOffset := 32 }, { name := "Many", type := 5, offset := 3, embedded := false, tag := "", pkgPath := "", byteOffset := 56 }, { name := "Odd", type := 25, offset := 4, embedded := false, tag := "", pkgPath := "", byteOffset := 64 }, { name := "At", type := 5, offset := 6, embedded := false, tag := "", pkgPath := "", byteOffset := 96 }, { name := "Spoil", type := 4, offset := 7, embedded := false, tag := "", pkgPath := "", byteOffset := 97 }, { name := "Fit", type := 4, offset := 8, embedded := false, tag := "", pkgPath := "", byteOffset := 98 }]) := by kernel_rfl
theorem ty26_i : (Tryd.prog.info? 26).map (fun i => (i.zero, i.size, i.bytes)) = some (some (.agg #[.int .i64 0, .slice none 0 0, .slice none 0 0, .int .u8 0, .slice none 0 0, .bool false, .int .u8 0, .bool false, .bool false]), 9, 104) := by kernel_rfl
theorem ty27_u : Tryd.prog.underlying 27 = some (.struct #[{ name := "Cols", type := 3, offset := 0, embedded := false, tag := "", pkgPath := "", byteOffset := 0 }, { name := "Old", type := 22, offset := 1, embedded := false, tag := "", pkgPath := "", byteOffset := 8 }, { name := "New", type := 22, offset := 2, embedded := false, tag := "", pkgPath := "", byteOffset := 32 }, { name := "Many", type := 5, offset := 3, embedded := false, tag := "", pkgPath := "", byteOffset := 56 }, { name := "Odd", type := 25, offset := 4, embedded := false, tag := "", pkgPath := "", byteOffset := 64 }, { name := "At", type := 5, offset := 6, embedded := false, tag := "", pkgPath := "", byteOffset := 96 }, { name := "Spoil", type := 4, offset := 7, embedded := false, tag := "", pkgPath := "", byteOffset := 97 }, { name := "Fit", type := 4, offset := 8, embedded := false, tag := "", pkgPath := "", byteOffset := 98 }]) := by kernel_rfl
theorem ty27_i : (Tryd.prog.info? 27).map (fun i => (i.zero, i.size, i.bytes)) = some (some (.agg #[.int .i64 0, .slice none 0 0, .slice none 0 0, .int .u8 0, .slice none 0 0, .bool false, .int .u8 0, .bool false, .bool false]), 9, 104) := by kernel_rfl
theorem ty28_u : Tryd.prog.underlying 28 = some (.slice 25) := by kernel_rfl
theorem ty28_i : (Tryd.prog.info? 28).map (fun i => (i.zero, i.size, i.bytes)) = some (some (.slice none 0 0), 1, 24) := by kernel_rfl
theorem ty31_u : Tryd.prog.underlying 31 = some (.int .i64) := by kernel_rfl
theorem ty31_i : (Tryd.prog.info? 31).map (fun i => (i.zero, i.size, i.bytes)) = some (some (.int .i64 0), 1, 8) := by kernel_rfl
theorem ty38_u : Tryd.prog.underlying 38 = some (.int .u64) := by kernel_rfl
theorem ty38_i : (Tryd.prog.info? 38).map (fun i => (i.zero, i.size, i.bytes)) = some (some (.int .u64 0), 1, 8) := by kernel_rfl
theorem ty39_u : Tryd.prog.underlying 39 = some (.array 3 3) := by kernel_rfl
theorem ty39_i : (Tryd.prog.info? 39).map (fun i => (i.zero, i.size, i.bytes)) = some (some (.agg #[.int .i64 0, .int .i64 0, .int .i64 0]), 3, 24) := by kernel_rfl
theorem ty44_u : Tryd.prog.underlying 44 = some (.slice 22) := by kernel_rfl
theorem ty44_i : (Tryd.prog.info? 44).map (fun i => (i.zero, i.size, i.bytes)) = some (some (.slice none 0 0), 1, 24) := by kernel_rfl
theorem ty49_u : Tryd.prog.underlying 49 = some (.slice 28) := by kernel_rfl
theorem ty49_i : (Tryd.prog.info? 49).map (fun i => (i.zero, i.size, i.bytes)) = some (some (.slice none 0 0), 1, 24) := by kernel_rfl
theorem ty63_u : Tryd.prog.underlying 63 = some (.struct #[{ name := "Cols", type := 5, offset := 0, embedded := false, tag := "", pkgPath := "", byteOffset := 0 }, { name := "B", type := 22, offset := 1, embedded := false, tag := "", pkgPath := "", byteOffset := 8 }, { name := "Wrapped", type := 4, offset := 2, embedded := false, tag := "", pkgPath := "", byteOffset := 32 }]) := by kernel_rfl
theorem ty63_i : (Tryd.prog.info? 63).map (fun i => (i.zero, i.size, i.bytes)) = some (some (.agg #[.int .u8 0, .slice none 0 0, .bool false]), 3, 40) := by kernel_rfl
theorem ty64_u : Tryd.prog.underlying 64 = some (.struct #[{ name := "Cols", type := 5, offset := 0, embedded := false, tag := "", pkgPath := "", byteOffset := 0 }, { name := "B", type := 22, offset := 1, embedded := false, tag := "", pkgPath := "", byteOffset := 8 }, { name := "Wrapped", type := 4, offset := 2, embedded := false, tag := "", pkgPath := "", byteOffset := 32 }]) := by kernel_rfl
theorem ty64_i : (Tryd.prog.info? 64).map (fun i => (i.zero, i.size, i.bytes)) = some (some (.agg #[.int .u8 0, .slice none 0 0, .bool false]), 3, 40) := by kernel_rfl
theorem ty65_u : Tryd.prog.underlying 65 = some (.array 2 3) := by kernel_rfl
theorem ty65_i : (Tryd.prog.info? 65).map (fun i => (i.zero, i.size, i.bytes)) = some (some (.agg #[.int .i64 0, .int .i64 0]), 2, 16) := by kernel_rfl
theorem ty66_u : Tryd.prog.underlying 66 = some (.struct #[{ name := "Kind", type := 3, offset := 0, embedded := false, tag := "", pkgPath := "", byteOffset := 0 }, { name := "N", type := 3, offset := 1, embedded := false, tag := "", pkgPath := "", byteOffset := 8 }]) := by kernel_rfl
theorem ty66_i : (Tryd.prog.info? 66).map (fun i => (i.zero, i.size, i.bytes)) = some (some (.agg #[.int .i64 0, .int .i64 0]), 2, 16) := by kernel_rfl
theorem ty67_u : Tryd.prog.underlying 67 = some (.struct #[{ name := "Kind", type := 3, offset := 0, embedded := false, tag := "", pkgPath := "", byteOffset := 0 }, { name := "N", type := 3, offset := 1, embedded := false, tag := "", pkgPath := "", byteOffset := 8 }]) := by kernel_rfl
theorem ty67_i : (Tryd.prog.info? 67).map (fun i => (i.zero, i.size, i.bytes)) = some (some (.agg #[.int .i64 0, .int .i64 0]), 2, 16) := by kernel_rfl
theorem ty68_u : Tryd.prog.underlying 68 = some (.struct #[{ name := "Attr", type := 3, offset := 0, embedded := false, tag := "", pkgPath := "", byteOffset := 0 }, { name := "Under", type := 3, offset := 1, embedded := false, tag := "", pkgPath := "", byteOffset := 8 }, { name := "Fore", type := 67, offset := 2, embedded := false, tag := "", pkgPath := "", byteOffset := 16 }, { name := "Back", type := 67, offset := 4, embedded := false, tag := "", pkgPath := "", byteOffset := 32 }, { name := "Line", type := 67, offset := 6, embedded := false, tag := "", pkgPath := "", byteOffset := 48 }]) := by kernel_rfl
theorem ty68_i : (Tryd.prog.info? 68).map (fun i => (i.zero, i.size, i.bytes)) = some (some (.agg #[.int .i64 0, .int .i64 0, .int .i64 0, .int .i64 0, .int .i64 0, .int .i64 0, .int .i64 0, .int .i64 0]), 8, 64) := by kernel_rfl
theorem ty69_u : Tryd.prog.underlying 69 = some (.struct #[{ name := "Attr", type := 3, offset := 0, embedded := false, tag := "", pkgPath := "", byteOffset := 0 }, { name := "Under", type := 3, offset := 1, embedded := false, tag := "", pkgPath := "", byteOffset := 8 }, { name := "Fore", type := 67, offset := 2, embedded := false, tag := "", pkgPath := "", byteOffset := 16 }, { name := "Back", type := 67, offset := 4, embedded := false, tag := "", pkgPath := "", byteOffset := 32 }, { name := "Line", type := 67, offset := 6, embedded := false, tag := "", pkgPath := "", byteOffset := 48 }]) := by kernel_rfl
theorem ty69_i : (Tryd.prog.info? 69).map (fun i => (i.zero, i.size, i.bytes)) = some (some (.agg #[.int .i64 0, .int .i64 0, .int .i64 0, .int .i64 0, .int .i64 0, .int .i64 0, .int .i64 0, .int .i64 0]), 8, 64) := by kernel_rfl
theorem ty70_u : Tryd.prog.underlying 70 = some (.struct #[{ name := "Base", type := 3, offset := 0, embedded := false, tag := "", pkgPath := "", byteOffset := 0 }, { name := "Marks", type := 65, offset := 1, embedded := false, tag := "", pkgPath := "", byteOffset := 8 }, { name := "Wide", type := 3, offset := 3, embedded := false, tag := "", pkgPath := "", byteOffset := 24 }, { name := "Style", type := 69, offset := 4, embedded := false, tag := "", pkgPath := "", byteOffset := 32 }]) := by kernel_rfl
theorem ty70_i : (Tryd.prog.info? 70).map (fun i => (i.zero, i.size, i.bytes)) = some (some (.agg #[.int .i64 0, .int .i64 0, .int .i64 0, .int .i64 0, .int .i64 0, .int .i64 0, .int .i64 0, .int .i64 0, .int .i64 0, .int .i64 0, .int .i64 0, .int .i64 0]), 12, 96) := by kernel_rfl
theorem ty71_u : Tryd.prog.underlying 71 = some (.struct #[{ name := "Base", type := 3, offset := 0, embedded := false, tag := "", pkgPath := "", byteOffset := 0 }, { name := "Marks", type := 65, offset := 1, embedded := false, tag := "", pkgPath := "", byteOffset := 8 }, { name := "Wide", type := 3, offset := 3, embedded := false, tag := "", pkgPath := "", byteOffset := 24 }, { name := "Style", type := 69, offset := 4, embedded := false, tag := "", pkgPath := "", byteOffset := 32 }]) := by kernel_rfl
theorem ty71_i : (Tryd.prog.info? 71).map (fun i => (i.zero, i.size, i.bytes)) = some (some (.agg #[.int .i64 0, .int .i64 0, .int .i64 0, .int .i64 0, .int .i64 0, .int .i64 0, .int .i64 0, .int .i64 0, .int .i64 0, .int .i64 0, .int .i64 0, .int .i64 0]), 12, 96) := by kernel_rfl
theorem ty85_u : Tryd.prog.underlying 85 = some (.struct #[{ name := "from", type := 3, offset := 0, embedded := false, tag := "", pkgPath := "fenestra/width", byteOffset := 0 }, { name := "to", type := 3, offset := 1, embedded := false, tag := "", pkgPath := "fenestra/width", byteOffset := 8 }]) := by kernel_rfl
theorem ty85_i : (Tryd.prog.info? 85).map (fun i => (i.zero, i.size, i.bytes)) = some (some (.agg #[.int .i64 0, .int .i64 0]), 2, 16) := by kernel_rfl
theorem ty86_u : Tryd.prog.underlying 86 = some (.struct #[{ name := "from", type := 3, offset := 0, embedded := false, tag := "", pkgPath := "fenestra/width", byteOffset := 0 }, { name := "to", type := 3, offset := 1, embedded := false, tag := "", pkgPath := "fenestra/width", byteOffset := 8 }]) := by kernel_rfl
theorem ty86_i : (Tryd.prog.info? 86).map (fun i => (i.zero, i.size, i.bytes)) = some (some (.agg #[.int .i64 0, .int .i64 0]), 2, 16) := by kernel_rfl
theorem ty87_u : Tryd.prog.underlying 87 = some (.array 11 86) := by kernel_rfl
theorem ty87_i : (Tryd.prog.info? 87).map (fun i => (i.zero, i.size, i.bytes)) = some (some (.agg #[.int .i64 0, .int .i64 0, .int .i64 0, .int .i64 0, .int .i64 0, .int .i64 0, .int .i64 0, .int .i64 0, .int .i64 0, .int .i64 0, .int .i64 0, .int .i64 0, .int .i64 0, .int .i64 0, .int .i64 0, .int .i64 0, .int .i64 0, .int .i64 0, .int .i64 0, .int .i64 0, .int .i64 0, .int .i64 0]), 22, 176) := by kernel_rfl
theorem ty88_u : Tryd.prog.underlying 88 = some (.slice 86) := by kernel_rfl
theorem ty88_i : (Tryd.prog.info? 88).map (fun i => (i.zero, i.size, i.bytes)) = some (some (.slice none 0 0), 1, 24) := by kernel_rfl
theorem ty89_u : Tryd.prog.underlying 89 = some (.array 13 86) := by kernel_rfl
theorem ty89_i : (Tryd.prog.info? 89).map (fun i => (i.zero, i.size, i.bytes)) = some (some (.agg #[.int .i64 0, .int .i64 0, .int .i64 0, .int .i64 0, .int .i64 0, .int .i64 0, .int .i64 0, .int .i64 0, .int .i64 0, .int .i64 0, .int .i64 0, .int .i64 0, .int .i64 0, .int .i64 0, .int .i64 0, .int .i64 0, .int .i64 0, .int .i64 0, .int .i64 0, .int .i64 0, .int .i64 0, .int .i64 0, .int .i64 0, .int .i64 0, .int .i64 0, .int .i64 0]), 26, 208) := by kernel_rfl
theorem ty90_u : Tryd.prog.underlying 90 = some (.array 3 67) := by kernel_rfl
theorem ty90_i : (Tryd.prog.info? 90).map (fun i => (i.zero, i.size, i.bytes)) = some (some (.agg #[.int .i64 0, .int .i64 0, .int .i64 0, .int .i64 0, .int .i64 0, .int .i64 0]), 6, 48) := by kernel_rfl
theorem ty92_u : Tryd.prog.underlying 92 = some (.array 8 3) := by kernel_rfl
theorem ty92_i : (Tryd.prog.info? 92).map (fun i => (i.zero, i.size, i.bytes)) = some (some (.agg #[.int .i64 0, .int .i64 0, .int .i64 0, .int .i64 0, .int .i64 0, .int .i64 0, .int .i64 0, .int .i64 0]), 8, 64) := by kernel_rfl
theorem ty93_u : Tryd.prog.underlying 93 = some (.array 8 69) := by kernel_rfl
theorem ty93_i : (Tryd.prog.info? 93).map (fun i => (i.zero, i.size, i.bytes)) = some (some (.agg #[.int .i64 0, .int .i64 0, .int .i64 0, .int .i64 0, .int .i64 0, .int .i64 0, .int .i64 0, .int .i64 0, .int .i64 0, .int .i64 0, .int .i64 0, .int .i64 0, .int .i64 0, .int .i64 0, .int .i64 0, .int .i64 0, .int .i64 0, .int .i64 0, .int .i64 0, .int .i64 0, .int .i64 0, .int .i64 0, .int .i64 0, .int .i64 0, .int .i64 0, .int .i64 0, .int .i64 0, .int .i64 0, .int .i64 0, .int .i64 0, .int .i64 0, .int .i64 0, .int .i64 0, .int .i64 0, .int .i64 0, .int .i64 0, .int .i64 0, .int .i64 0, .int .i64 0, .int .i64 0, .int .i64 0, .int .i64 0, .int .i64 0, .int .i64 0, .int .i64 0, .int .i64 0, .int .i64 0, .int .i64 0, .int .i64 0, .int .i64 0, .int .i64 0, .int .i64 0, .int .i64 0, .int .i64 0, .int .i64 0, .int .i64 0, .int .i64 0, .int .i64 0, .int .i64 0, .int .i64 0, .int .i64 0, .int .i64 0, .int .i64 0, .int .i64 0]), 64, 512) := by kernel_rfl
theorem ty95_u : Tryd.prog.underlying 95 = some (.slice 65) := by kernel_rfl
theorem ty95_i : (Tryd.prog.info? 95).map (fun i => (i.zero, i.size, i.bytes)) = some (some (.slice none 0 0), 1, 24) := by kernel_rfl
theorem ty101_u : Tryd.prog.underlying 101 = some (.array 0 16) := by kernel_rfl
theorem ty101_i : (Tryd.prog.info? 101).map (fun i => (i.zero, i.size, i.bytes)) = some (some (.agg #[]), 0, 0) := by kernel_rfl
theorem ty105_u : Tryd.prog.underlying 105 = some (.int .u32) := by kernel_rfl
theorem ty105_i : (Tryd.prog.info? 105).map (fun i => (i.zero, i.size, i.bytes)) = some (some (.int .u32 0), 1, 4) := by kernel_rfl
theorem ty109_u : Tryd.prog.underlying 109 = some (.pointer 5) := by kernel_rfl
theorem ty109_i : (Tryd.prog.info? 109).map (fun i => (i.zero, i.size, i.bytes)) = some (some (.pointer none), 1, 8) := by kernel_rfl
theorem ty112_u : Tryd.prog.underlying 112 = some (.struct #[{ name := "Size_", type := 12, offset := 0, embedded := false, tag := "", pkgPath := "", byteOffset := 0 }, { name := "PtrBytes", type := 12, offset := 1, embedded := false, tag := "", pkgPath := "", byteOffset := 8 }, { name := "Hash", type := 105, offset := 2, embedded := false, tag := "", pkgPath := "", byteOffset := 16 }, { name := "TFlag", type := 106, offset := 3, embedded := false, tag := "", pkgPath := "", byteOffset := 20 }, { name := "Align_", type := 5, offset := 4, embedded := false, tag := "", pkgPath := "", byteOffset := 21 }, { name := "FieldAlign_", type := 5, offset := 5, embedded := false, tag := "", pkgPath := "", byteOffset := 22 }, { name := "Kind_", type := 107, offset := 6, embedded := false, tag := "", pkgPath := "", byteOffset := 23 }, { name := "Equal", type := 108, offset := 7, embedded := false, tag := "", pkgPath := "", byteOffset := 24 }, { name := "GCData", type := 109, offset := 8, embedded := false, tag := "", pkgPath := "", byteOffset := 32 }, { name := "Str", type := 110, offset := 9, embedded := false, tag := "", pkgPath := "", byteOffset := 40 }, { name := "PtrToThis", type := 111, offset := 10, embedded := false, tag := "", pkgPath := "", byteOffset := 44 }]) := by kernel_rfl
theorem ty112_i : (Tryd.prog.info? 112).map (fun i => (i.zero, i.size, i.bytes)) = some (some (.agg #[.int .u64 0, .int .u64 0, .int .u32 0, .int .u8 0, .int .u8 0, .int .u8 0, .int .u8 0, .nilFunc, .pointer none, .int .i32 0, .int .i32 0]), 11, 48) := by kernel_rfl
def tt : List (Nat × TI) := [(2, ⟨.int .i64, 1, 8, [.val (.int .i64 0)]⟩),
  (3, ⟨.int .i64, 1, 8, [.val (.int .i64 0)]⟩),
  (4, ⟨.bool, 1, 1, [.val (.bool false)]⟩),
  (5, ⟨.int .u8, 1, 1, [.val (.int .u8 0)]⟩),
  (9, ⟨.str, 1, 16, [.val (.str [])]⟩),
  (12, ⟨.int .u64, 1, 8, [.val (.int .u64 0)]⟩),
  (21, ⟨.int .i32, 1, 4, [.val (.int .i32 0)]⟩),
  (22, ⟨.slice 5, 1, 24, [.nil]⟩),
  (23, ⟨.slice 71, 1, 24, [.nil]⟩),
  (24, ⟨.struct [(0, 23), (1, 4)], 2, 32, [.nil, .val (.bool false)]⟩),
  (25, ⟨.struct [(0, 23), (1, 4)], 2, 32, [.nil, .val (.bool false)]⟩),
  (26, ⟨.struct [(0, 3), (1, 22), (2, 22), (3, 5), (4, 25), (6, 5), (7, 4), (8, 4)], 9, 104, [.val (.int .i64 0), .nil, .nil, .val (.int .u8 0), .nil, .val (.bool false), .val (.int .u8 0), .val (.bool false), .val (.bool false)]⟩),
  (27, ⟨.struct [(0, 3), (1, 22), (2, 22), (3, 5), (4, 25), (6, 5), (7, 4), (8, 4)], 9, 104, [.val (.int .i64 0), .nil, .nil, .val (.int .u8 0), .nil, .val (.bool false), .val (.int .u8 0), .val (.bool false), .val (.bool false)]⟩),
  (28, ⟨.slice 25, 1, 24, [.nil]⟩),
  (31, ⟨.int .i64, 1, 8, [.val (.int .i64 0)]⟩),
  (38, ⟨.int .u64, 1, 8, [.val (.int .u64 0)]⟩),
  (39, ⟨.array 3 3, 3, 24, [.val (.int .i64 0), .val (.int .i64 0), .val (.int .i64 0)]⟩),
  (44, ⟨.slice 22, 1, 24, [.nil]⟩),
  (49, ⟨.slice 28, 1, 24, [.nil]⟩),
  (63, ⟨.struct [(0, 5), (1, 22), (2, 4)], 3, 40, [.val (.int .u8 0), .nil, .val (.bool false)]⟩),
  (64, ⟨.struct [(0, 5), (1, 22), (2, 4)], 3, 40, [.val (.int .u8 0), .nil, .val (.bool false)]⟩),
  (65, ⟨.array 2 3, 2, 16, [.val (.int .i64 0), .val (.int .i64 0)]⟩),
  (66, ⟨.struct [(0, 3), (1, 3)], 2, 16, [.val (.int .i64 0), .val (.int .i64 0)]⟩),
  (67, ⟨.struct [(0, 3), (1, 3)], 2, 16, [.val (.int .i64 0), .val (.int .i64 0)]⟩),
  (68, ⟨.struct [(0, 3), (1, 3), (2, 67), (4, 67), (6, 67)], 8, 64, [.val (.int .i64 0), .val (.int .i64 0), .val (.int .i64 0), .val (.int .i64 0), .val (.int .i64 0), .val (.int .i64 0), .val (.int .i64 0), .val (.int .i64 0)]⟩),
  (69, ⟨.struct [(0, 3), (1, 3), (2, 67), (4, 67), (6, 67)], 8, 64, [.val (.int .i64 0), .val (.int .i64 0), .val (.int .i64 0), .val (.int .i64 0), .val (.int .i64 0), .val (.int .i64 0), .val (.int .i64 0), .val (.int .i64 0)]⟩),
  (70, ⟨.struct [(0, 3), (1, 65), (3, 3), (4, 69)], 12, 96, [.val (.int .i64 0), .val (.int .i64 0), .val (.int .i64 0), .val (.int .i64 0), .val (.int .i64 0), .val (.int .i64 0), .val (.int .i64 0), .val (.int .i64 0), .val (.int .i64 0), .val (.int .i64 0), .val (.int .i64 0), .val (.int .i64 0)]⟩),
  (71, ⟨.struct [(0, 3), (1, 65), (3, 3), (4, 69)], 12, 96, [.val (.int .i64 0), .val (.int .i64 0), .val (.int .i64 0), .val (.int .i64 0), .val (.int .i64 0), .val (.int .i64 0), .val (.int .i64 0), .val (.int .i64 0), .val (.int .i64 0), .val (.int .i64 0), .val (.int .i64 0), .val (.int .i64 0)]⟩),
  (85, ⟨.struct [(0, 3), (1, 3)], 2, 16, [.val (.int .i64 0), .val (.int .i64 0)]⟩),
  (86, ⟨.struct [(0, 3), (1, 3)], 2, 16, [.val (.int .i64 0), .val (.int .i64 0)]⟩),
  (87, ⟨.array 11 86, 22, 176, [.val (.int .i64 0), .val (.int .i64 0), .val (.int .i64 0), .val (.int .i64 0), .val (.int .i64 0), .val (.int .i64 0), .val (.int .i64 0), .val (.int .i64 0), .val (.int .i64 0), .val (.int .i64 0), .val (.int .i64 0), .val (.int .i64 0), .val (.int .i64 0), .val (.int .i64 0), .val (.int .i64 0), .val (.int .i64 0), .val (.int .i64 0), .val (.int .i64 0), .val (.int .i64 0), .val (.int .i64 0), .val (.int .i64 0), .val (.int .i64 0)]⟩),
  (88, ⟨.slice 86, 1, 24, [.nil]⟩),
  (89, ⟨.array 13 86, 26, 208, [.val (.int .i64 0), .val (.int .i64 0), .val (.int .i64 0), .val (.int .i64 0), .val (.int .i64 0), .val (.int .i64 0), .val (.int .i64 0), .val (.int .i64 0), .val (.int .i64 0), .val (.int .i64 0), .val (.int .i64 0), .val (.int .i64 0), .val (.int .i64 0), .val (.int .i64 0), .val (.int .i64 0), .val (.int .i64 0), .val (.int .i64 0), .val (.int .i64 0), .val (.int .i64 0), .val (.int .i64 0), .val (.int .i64 0), .val (.int .i64 0), .val (.int .i64 0), .val (.int .i64 0), .val (.int .i64 0), .val (.int .i64 0)]⟩),
  (90, ⟨.array 3 67, 6, 48, [.val (.int .i64 0), .val (.int .i64 0), .val (.int .i64 0), .val (.int .i64 0), .val (.int .i64 0), .val (.int .i64 0)]⟩),
  (92, ⟨.array 8 3, 8, 64, [.val (.int .i64 0), .val (.int .i64 0), .val (.int .i64 0), .val (.int .i64 0), .val (.int .i64 0), .val (.int .i64 0), .val (.int .i64 0), .val (.int .i64 0)]⟩),
  (93, ⟨.array 8 69, 64, 512, [.val (.int .i64 0), .val (.int .i64 0), .val (.int .i64 0), .val (.int .i64 0), .val (.int .i64 0), .val (.int .i64 0), .val (.int .i64 0), .val (.int .i64 0), .val (.int .i64 0), .val (.int .i64 0), .val (.int .i64 0), .val (.int .i64 0), .val (.int .i64 0), .val (.int .i64 0), .val (.int .i64 0), .val (.int .i64 0), .val (.int .i64 0), .val (.int .i64 0), .val (.int .i64 0), .val (.int .i64 0), .val (.int .i64 0), .val (.int .i64 0), .val (.int .i64 0), .val (.int .i64 0), .val (.int .i64 0), .val (.int .i64 0), .val (.int .i64 0), .val (.int .i64 0), .val (.int .i64 0), .val (.int .i64 0), .val (.int .i64 0), .val (.int .i64 0), .val (.int .i64 0), .val (.int .i64 0), .val (.int .i64 0), .val (.int .i64 0), .val (.int .i64 0), .val (.int .i64 0), .val (.int .i64 0), .val (.int .i64 0), .val (.int .i64 0), .val (.int .i64 0), .val (.int .i64 0), .val (.int .i64 0), .val (.int .i64 0), .val (.int .i64 0), .val (.int .i64 0), .val (.int .i64 0), .val (.int .i64 0), .val (.int .i64 0), .val (.int .i64 0), .val (.int .i64 0), .val (.int .i64 0), .val (.int .i64 0), .val (.int .i64 0), .val (.int .i64 0), .val (.int .i64 0), .val (.int .i64 0), .val (.int .i64 0), .val (.int .i64 0), .val (.int .i64 0), .val (.int .i64 0), .val (.int .i64 0), .val (.int .i64 0)]⟩),
  (95, ⟨.slice 65, 1, 24, [.nil]⟩),
  (101, ⟨.array 0 16, 0, 0, []⟩),
  (105, ⟨.int .u32, 1, 4, [.val (.int .u32 0)]⟩),
  (109, ⟨.other, 1, 8, [.val .nilp]⟩),
  (112, ⟨.struct [(0, 12), (1, 12), (2, 105), (3, 106), (4, 5), (5, 5), (6, 107), (7, 108), (8, 109), (9, 110), (10, 111)], 11, 48, [.val (.int .u64 0), .val (.int .u64 0), .val (.int .u32 0), .val (.int .u8 0), .val (.int .u8 0), .val (.int .u8 0), .val (.int .u8 0), .val .nilf, .val .nilp, .val (.int .i32 0), .val (.int .i32 0)]⟩)]
def T : TT := ttFind tt
@[simp] theorem T_2 : T 2 = some ⟨.int .i64, 1, 8, [.val (.int .i64 0)]⟩ := rfl
@[simp] theorem T_3 : T 3 = some ⟨.int .i64, 1, 8, [.val (.int .i64 0)]⟩ := rfl
@[simp] theorem T_4 : T 4 = some ⟨.bool, 1, 1, [.val (.bool false)]⟩ := rfl
@[simp] theorem T_5 : T 5 = some ⟨.int .u8, 1, 1, [.val (.int .u8 0)]⟩ := rfl
@[simp] theorem T_9 : T 9 = some ⟨.str, 1, 16, [.val (.str [])]⟩ := rfl
@[simp] theorem T_12 : T 12 = some ⟨.int .u64, 1, 8, [.val (.int .u64 0)]⟩ := rfl
@[simp] theorem T_21 : T 21 = some ⟨.int .i32, 1, 4, [.val (.int .i32 0)]⟩ := rfl
@[simp] theorem T_22 : T 22 = some ⟨.slice 5, 1, 24, [.nil]⟩ := rfl
@[simp] theorem T_23 : T 23 = some ⟨.slice 71, 1, 24, [.nil]⟩ := rfl
@[simp] theorem T_24 : T 24 = some ⟨.struct [(0, 23), (1, 4)], 2, 32, [.nil, .val (.bool false)]⟩ := rfl
@[simp] theorem T_25 : T 25 = some ⟨.struct [(0, 23), (1, 4)], 2, 32, [.nil, .val (.bool false)]⟩ := rfl
@[simp] theorem T_26 : T 26 = some ⟨.struct [(0, 3), (1, 22), (2, 22), (3, 5), (4, 25), (6, 5), (7, 4), (8, 4)], 9, 104, [.val (.int .i64 0), .nil, .nil, .val (.int .u8 0), .nil, .val (.bool false), .val (.int .u8 0), .val (.bool false), .val (.bool false)]⟩ := rfl
@[simp] theorem T_27 : T 27 = some ⟨.struct [(0, 3), (1, 22), (2, 22), (3, 5), (4, 25), (6, 5), (7, 4), (8, 4)], 9, 104, [.val (.int .i64 0), .nil, .nil, .val (.int .u8 0), .nil, .val (.bool false), .val (.int .u8 0), .val (.bool false), .val (.bool false)]⟩ := rfl
@[simp] theorem T_28 : T 28 = some ⟨.slice 25, 1, 24, [.nil]⟩ := rfl
@[simp] theorem T_31 : T 31 = some ⟨.int .i64, 1, 8, [.val (.int .i64 0)]⟩ := rfl
@[simp] theorem T_38 : T 38 = some ⟨.int .u64, 1, 8, [.val (.int .u64 0)]⟩ := rfl
@[simp] theorem T_39 : T 39 = some ⟨.array 3 3, 3, 24, [.val (.int .i64 0), .val (.int .i64 0), .val (.int .i64 0)]⟩ := rfl
@[simp] theorem T_44 : T 44 = some ⟨.slice 22, 1, 24, [.nil]⟩ := rfl
@[simp] theorem T_49 : T 49 = some ⟨.slice 28, 1, 24, [.nil]⟩ := rfl
@[simp] theorem T_63 : T 63 = some ⟨.struct [(0, 5), (1, 22), (2, 4)], 3, 40, [.val (.int .u8 0), .nil, .val (.bool false)]⟩ := rfl
@[simp] theorem T_64 : T 64 = some ⟨.struct [(0, 5), (1, 22), (2, 4)], 3, 40, [.val (.int .u8 0), .nil, .val (.bool false)]⟩ := rfl
@[simp] theorem T_65 : T 65 = some ⟨.array 2 3, 2, 16, [.val (.int .i64 0), .val (.int .i64 0)]⟩ := rfl
@[simp] theorem T_66 : T 66 = some ⟨.struct [(0, 3), (1, 3)], 2, 16, [.val (.int .i64 0), .val (.int .i64 0)]⟩ := rfl
@[simp] theorem T_67 : T 67 = some ⟨.struct [(0, 3), (1, 3)], 2, 16, [.val (.int .i64 0), .val (.int .i64 0)]⟩ := rfl
@[simp] theorem T_68 : T 68 = some ⟨.struct [(0, 3), (1, 3), (2, 67), (4, 67), (6, 67)], 8, 64, [.val (.int .i64 0), .val (.int .i64 0), .val (.int .i64 0), .val (.int .i64 0), .val (.int .i64 0), .val (.int .i64 0), .val (.int .i64 0), .val (.int .i64 0)]⟩ := rfl
@[simp] theorem T_69 : T 69 = some ⟨.struct [(0, 3), (1, 3), (2, 67), (4, 67), (6, 67)], 8, 64, [.val (.int .i64 0), .val (.int .i64 0), .val (.int .i64 0), .val (.int .i64 0), .val (.int .i64 0), .val (.int .i64 0), .val (.int .i64 0), .val (.int .i64 0)]⟩ := rfl
@[simp] theorem T_70 : T 70 = some ⟨.struct [(0, 3), (1, 65), (3, 3), (4, 69)], 12, 96, [.val (.int .i64 0), .val (.int .i64 0), .val (.int .i64 0), .val (.int .i64 0), .val (.int .i64 0), .val (.int .i64 0), .val (.int .i64 0), .val (.int .i64 0), .val (.int .i64 0), .val (.int .i64 0), .val (.int .i64 0), .val (.int .i64 0)]⟩ := rfl
@[simp] theorem T_71 : T 71 = some ⟨.struct [(0, 3), (1, 65), (3, 3), (4, 69)], 12, 96, [.val (.int .i64 0), .val (.int .i64 0), .val (.int .i64 0), .val (.int .i64 0), .val (.int .i64 0), .val (.int .i64 0), .val (.int .i64 0), .val (.int .i64 0), .val (.int .i64 0), .val (.int .i64 0), .val (.int .i64 0), .val (.int .i64 0)]⟩ := rfl
@[simp] theorem T_85 : T 85 = some ⟨.struct [(0, 3), (1, 3)], 2, 16, [.val (.int .i64 0), .val (.int .i64 0)]⟩ := rfl
@[simp] theorem T_86 : T 86 = some ⟨.struct [(0, 3), (1, 3)], 2, 16, [.val (.int .i64 0), .val (.int .i64 0)]⟩ := rfl
@[simp] theorem T_87 : T 87 = some ⟨.array 11 86, 22, 176, [.val (.int .i64 0), .val (.int .i64 0), .val (.int .i64 0), .val (.int .i64 0), .val (.int .i64 0), .val (.int .i64 0), .val (.int .i64 0), .val (.int .i64 0), .val (.int .i64 0), .val (.int .i64 0), .val (.int .i64 0), .val (.int .i64 0), .val (.int .i64 0), .val (.int .i64 0), .val (.int .i64 0), .val (.int .i64 0), .val (.int .i64 0), .val (.int .i64 0), .val (.int .i64 0), .val (.int .i64 0), .val (.int .i64 0), .val (.int .i64 0)]⟩ := rfl
@[simp] theorem T_88 : T 88 = some ⟨.slice 86, 1, 24, [.nil]⟩ := rfl
@[simp] theorem T_89 : T 89 = some ⟨.array 13 86, 26, 208, [.val (.int .i64 0), .val (.int .i64 0), .val (.int .i64 0), .val (.int .i64 0), .val (.int .i64 0), .val (.int .i64 0), .val (.int .i64 0), .val (.int .i64 0), .val (.int .i64 0), .val (.int .i64 0), .val (.int .i64 0), .val (.int .i64 0), .val (.int .i64 0), .val (.int .i64 0), .val (.int .i64 0), .val (.int .i64 0), .val (.int .i64 0), .val (.int .i64 0), .val (.int .i64 0), .val (.int .i64 0), .val (.int .i64 0), .val (.int .i64 0), .val (.int .i64 0), .val (.int .i64 0), .val (.int .i64 0), .val (.int .i64 0)]⟩ := rfl
@[simp] theorem T_90 : T 90 = some ⟨.array 3 67, 6, 48, [.val (.int .i64 0), .val (.int .i64 0), .val (.int .i64 0), .val (.int .i64 0), .val (.int .i64 0), .val (.int .i64 0)]⟩ := rfl
@[simp] theorem T_92 : T 92 = some ⟨.array 8 3, 8, 64, [.val (.int .i64 0), .val (.int .i64 0), .val (.int .i64 0), .val (.int .i64 0), .val (.int .i64 0), .val (.int .i64 0), .val (.int .i64 0), .val (.int .i64 0)]⟩ := rfl
@[simp] theorem T_93 : T 93 = some ⟨.array 8 69, 64, 512, [.val (.int .i64 0), .val (.int .i64 0), .val (.int .i64 0), .val (.int .i64 0), .val (.int .i64 0), .val (.int .i64 0), .val (.int .i64 0), .val (.int .i64 0), .val (.int .i64 0), .val (.int .i64 0), .val (.int .i64 0), .val (.int .i64 0), .val (.int .i64 0), .val (.int .i64 0), .val (.int .i64 0), .val (.int .i64 0), .val (.int .i64 0), .val (.int .i64 0), .val (.int .i64 0), .val (.int .i64 0), .val (.int .i64 0), .val (.int .i64 0), .val (.int .i64 0), .val (.int .i64 0), .val (.int .i64 0), .val (.int .i64 0), .val (.int .i64 0), .val (.int .i64 0), .val (.int .i64 0), .val (.int .i64 0), .val (.int .i64 0), .val (.int .i64 0), .val (.int .i64 0), .val (.int .i64 0), .val (.int .i64 0), .val (.int .i64 0), .val (.int .i64 0), .val (.int .i64 0), .val (.int .i64 0), .val (.int .i64 0), .val (.int .i64 0), .val (.int .i64 0), .val (.int .i64 0), .val (.int .i64 0), .val (.int .i64 0), .val (.int .i64 0), .val (.int .i64 0), .val (.int .i64 0), .val (.int .i64 0), .val (.int .i64 0), .val (.int .i64 0), .val (.int .i64 0), .val (.int .i64 0), .val (.int .i64 0), .val (.int .i64 0), .val (.int .i64 0), .val (.int .i64 0), .val (.int .i64 0), .val (.int .i64 0), .val (.int .i64 0), .val (.int .i64 0), .val (.int .i64 0), .val (.int .i64 0), .val (.int .i64 0)]⟩ := rfl
@[simp] theorem T_95 : T 95 = some ⟨.slice 65, 1, 24, [.nil]⟩ := rfl
@[simp] theorem T_101 : T 101 = some ⟨.array 0 16, 0, 0, []⟩ := rfl
@[simp] theorem T_105 : T 105 = some ⟨.int .u32, 1, 4, [.val (.int .u32 0)]⟩ := rfl
@[simp] theorem T_109 : T 109 = some ⟨.other, 1, 8, [.val .nilp]⟩ := rfl
@[simp] theorem T_112 : T 112 = some ⟨.struct [(0, 12), (1, 12), (2, 105), (3, 106), (4, 5), (5, 5), (6, 107), (7, 108), (8, 109), (9, 110), (10, 111)], 11, 48, [.val (.int .u64 0), .val (.int .u64 0), .val (.int .u32 0), .val (.int .u8 0), .val (.int .u8 0), .val (.int .u8 0), .val (.int .u8 0), .val .nilf, .val .nilp, .val (.int .i32 0), .val (.int .i32 0)]⟩ := rfl
theorem ty2_e : eqOK Tryd.prog 2 = true := by kernel_rfl
@[simp] theorem eqK_2 : eqK T 8 2 = some [.int .i64] := by kernel_rfl
theorem ty3_e : eqOK Tryd.prog 3 = true := by kernel_rfl
@[simp] theorem eqK_3 : eqK T 8 3 = some [.int .i64] := by kernel_rfl
theorem ty4_e : eqOK Tryd.prog 4 = true := by kernel_rfl
@[simp] theorem eqK_4 : eqK T 8 4 = some [.bool] := by kernel_rfl
theorem ty5_e : eqOK Tryd.prog 5 = true := by kernel_rfl
@[simp] theorem eqK_5 : eqK T 8 5 = some [.int .u8] := by kernel_rfl
theorem ty9_e : eqOK Tryd.prog 9 = true := by kernel_rfl
@[simp] theorem eqK_9 : eqK T 8 9 = some [.str] := by kernel_rfl
theorem ty12_e : eqOK Tryd.prog 12 = true := by kernel_rfl
@[simp] theorem eqK_12 : eqK T 8 12 = some [.int .u64] := by kernel_rfl
theorem ty21_e : eqOK Tryd.prog 21 = true := by kernel_rfl
@[simp] theorem eqK_21 : eqK T 8 21 = some [.int .i32] := by kernel_rfl
theorem eqN_22 : eqK T 8 22 = none := by kernel_rfl
theorem eqN_23 : eqK T 8 23 = none := by kernel_rfl
theorem eqN_24 : eqK T 8 24 = none := by kernel_rfl
theorem eqN_25 : eqK T 8 25 = none := by kernel_rfl
theorem eqN_26 : eqK T 8 26 = none := by kernel_rfl
theorem eqN_27 : eqK T 8 27 = none := by kernel_rfl
theorem eqN_28 : eqK T 8 28 = none := by kernel_rfl
theorem ty31_e : eqOK Tryd.prog 31 = true := by kernel_rfl
@[simp] theorem eqK_31 : eqK T 8 31 = some [.int .i64] := by kernel_rfl
theorem ty38_e : eqOK Tryd.prog 38 = true := by kernel_rfl
@[simp] theorem eqK_38 : eqK T 8 38 = some [.int .u64] := by kernel_rfl
theorem ty39_e : eqOK Tryd.prog 39 = true := by kernel_rfl
@[simp] theorem eqK_39 : eqK T 8 39 = some [.int .i64, .int .i64, .int .i64] := by kernel_rfl
theorem eqN_44 : eqK T 8 44 = none := by kernel_rfl
theorem eqN_49 : eqK T 8 49 = none := by kernel_rfl
theorem eqN_63 : eqK T 8 63 = none := by kernel_rfl
theorem eqN_64 : eqK T 8 64 = none := by kernel_rfl
theorem ty65_e : eqOK Tryd.prog 65 = true := by kernel_rfl
@[simp] theorem eqK_65 : eqK T 8 65 = some [.int .i64, .int .i64] := by kernel_rfl
theorem ty66_e : eqOK Tryd.prog 66 = true := by kernel_rfl
@[simp] theorem eqK_66 : eqK T 8 66 = some [.int .i64, .int .i64] := by kernel_rfl
theorem ty67_e : eqOK Tryd.prog 67 = true := by kernel_rfl
@[simp] theorem eqK_67 : eqK T 8 67 = some [.int .i64, .int .i64] := by kernel_rfl
theorem ty68_e : eqOK Tryd.prog 68 = true := by kernel_rfl
@[simp] theorem eqK_68 : eqK T 8 68 = some [.int .i64, .int .i64, .int .i64, .int .i64, .int .i64, .int .i64, .int .i64, .int .i64] := by kernel_rfl
theorem ty69_e : eqOK Tryd.prog 69 = true := by kernel_rfl
@[simp] theorem eqK_69 : eqK T 8 69 = some [.int .i64, .int .i64, .int .i64, .int .i64, .int .i64, .int .i64, .int .i64, .int .i64] := by kernel_rfl
theorem ty70_e : eqOK Tryd.prog 70 = true := by kernel_rfl
@[simp] theorem eqK_70 : eqK T 8 70 = some [.int .i64, .int .i64, .int .i64, .int .i64, .int .i64, .int .i64, .int .i64, .int .i64, .int .i64, .int .i64, .int .i64, .int .i64] := by kernel_rfl
theorem ty71_e : eqOK Tryd.prog 71 = true := by kernel_rfl
@[simp] theorem eqK_71 : eqK T 8 71 = some [.int .i64, .int .i64, .int .i64, .int .i64, .int .i64, .int .i64, .int .i64, .int .i64, .int .i64, .int .i64, .int .i64, .int .i64] := by kernel_rfl
theorem ty85_e : eqOK Tryd.prog 85 = true := by kernel_rfl
@[simp] theorem eqK_85 : eqK T 8 85 = some [.int .i64, .int .i64] := by kernel_rfl
theorem ty86_e : eqOK Tryd.prog 86 = true := by kernel_rfl
@[simp] theorem eqK_86 : eqK T 8 86 = some [.int .i64, .int .i64] := by kernel_rfl
theorem ty87_e : eqOK Tryd.prog 87 = true := by kernel_rfl
@[simp] theorem eqK_87 : eqK T 8 87 = some [.int .i64, .int .i64, .int .i64, .int .i64, .int .i64, .int .i64, .int .i64, .int .i64, .int .i64, .int .i64, .int .i64, .int .i64, .int .i64, .int .i64, .int .i64, .int .i64, .int .i64, .int .i64, .int .i64, .int .i64, .int .i64, .int .i64] := by kernel_rfl
theorem eqN_88 : eqK T 8 88 = none := by kernel_rfl
theorem ty89_e : eqOK Tryd.prog 89 = true := by kernel_rfl
@[simp] theorem eqK_89 : eqK T 8 89 = some [.int .i64, .int .i64, .int .i64, .int .i64, .int .i64, .int .i64, .int .i64, .int .i64, .int .i64, .int .i64, .int .i64, .int .i64, .int .i64, .int .i64, .int .i64, .int .i64, .int .i64, .int .i64, .int .i64, .int .i64, .int .i64, .int .i64, .int .i64, .int .i64, .int .i64, .int .i64] := by kernel_rfl
theorem ty90_e : eqOK Tryd.prog 90 = true := by kernel_rfl
@[simp] theorem eqK_90 : eqK T 8 90 = some [.int .i64, .int .i64, .int .i64, .int .i64, .int .i64, .int .i64] := by kernel_rfl
theorem ty92_e : eqOK Tryd.prog 92 = true := by kernel_rfl
@[simp] theorem eqK_92 : eqK T 8 92 = some [.int .i64, .int .i64, .int .i64, .int .i64, .int .i64, .int .i64, .int .i64, .int .i64] := by kernel_rfl
theorem ty93_e : eqOK Tryd.prog 93 = true := by kernel_rfl
@[simp] theorem eqK_93 : eqK T 8 93 = some [.int .i64, .int .i64, .int .i64, .int .i64, .int .i64, .int .i64, .int .i64, .int .i64, .int .i64, .int .i64, .int .i64, .int .i64, .int .i64, .int .i64, .int .i64, .int .i64, .int .i64, .int .i64, .int .i64, .int .i64, .int .i64, .int .i64, .int .i64, .int .i64, .int .i64, .int .i64, .int .i64, .int .i64, .int .i64, .int .i64, .int .i64, .int .i64, .int .i64, .int .i64, .int .i64, .int .i64, .int .i64, .int .i64, .int .i64, .int .i64, .int .i64, .int .i64, .int .i64, .int .i64, .int .i64, .int .i64, .int .i64, .int .i64, .int .i64, .int .i64, .int .i64, .int .i64, .int .i64, .int .i64, .int .i64, .int .i64, .int .i64, .int .i64, .int .i64, .int .i64, .int .i64, .int .i64, .int .i64, .int .i64] := by kernel_rfl
theorem eqN_95 : eqK T 8 95 = none := by kernel_rfl
theorem eqN_101 : eqK T 8 101 = none := by kernel_rfl
theorem ty105_e : eqOK Tryd.prog 105 = true := by kernel_rfl
@[simp] theorem eqK_105 : eqK T 8 105 = some [.int .u32] := by kernel_rfl
theorem eqN_109 : eqK T 8 109 = none := by kernel_rfl
theorem eqN_112 : eqK T 8 112 = none := by kernel_rfl
theorem tok : TOK Tryd.prog T := tok_of rfl (by
  simp only [tt, List.forall_mem_cons, List.not_mem_nil, false_imp_iff, implies_true, and_true]
  exact ⟨tokRow ty2_u ty2_i rfl (by simp [zval, Value.cells]) rfl rfl,
    tokRow ty3_u ty3_i rfl (by simp [zval, Value.cells]) rfl rfl,
    tokRow ty4_u ty4_i rfl (by simp [zval, Value.cells]) rfl rfl,
    tokRow ty5_u ty5_i rfl (by simp [zval, Value.cells]) rfl rfl,
    tokRow ty9_u ty9_i rfl (by simp [zval, Value.cells]) rfl rfl,
    tokRow ty12_u ty12_i rfl (by simp [zval, Value.cells]) rfl rfl,
    tokRow ty21_u ty21_i rfl (by simp [zval, Value.cells]) rfl rfl,
    tokRow ty22_u ty22_i rfl (by simp [zval, Value.cells]) rfl rfl,
    tokRow ty23_u ty23_i rfl (by simp [zval, Value.cells]) rfl rfl,
    tokRow ty24_u ty24_i ⟨_, rfl, rfl⟩ (by simp [zval, Value.cells]) rfl rfl,
    tokRow ty25_u ty25_i ⟨_, rfl, rfl⟩ (by simp [zval, Value.cells]) rfl rfl,
    tokRow ty26_u ty26_i ⟨_, rfl, rfl⟩ (by simp [zval, Value.cells]) rfl rfl,
    tokRow ty27_u ty27_i ⟨_, rfl, rfl⟩ (by simp [zval, Value.cells]) rfl rfl,
    tokRow ty28_u ty28_i rfl (by simp [zval, Value.cells]) rfl rfl,
    tokRow ty31_u ty31_i rfl (by simp [zval, Value.cells]) rfl rfl,
    tokRow ty38_u ty38_i rfl (by simp [zval, Value.cells]) rfl rfl,
    tokRow ty39_u ty39_i rfl (by simp [zval, Value.cells]) rfl rfl,
    tokRow ty44_u ty44_i rfl (by simp [zval, Value.cells]) rfl rfl,
    tokRow ty49_u ty49_i rfl (by simp [zval, Value.cells]) rfl rfl,
    tokRow ty63_u ty63_i ⟨_, rfl, rfl⟩ (by simp [zval, Value.cells]) rfl rfl,
    tokRow ty64_u ty64_i ⟨_, rfl, rfl⟩ (by simp [zval, Value.cells]) rfl rfl,
    tokRow ty65_u ty65_i rfl (by simp [zval, Value.cells]) rfl rfl,
    tokRow ty66_u ty66_i ⟨_, rfl, rfl⟩ (by simp [zval, Value.cells]) rfl rfl,
    tokRow ty67_u ty67_i ⟨_, rfl, rfl⟩ (by simp [zval, Value.cells]) rfl rfl,
    tokRow ty68_u ty68_i ⟨_, rfl, rfl⟩ (by simp [zval, Value.cells]) rfl rfl,
    tokRow ty69_u ty69_i ⟨_, rfl, rfl⟩ (by simp [zval, Value.cells]) rfl rfl,
    tokRow ty70_u ty70_i ⟨_, rfl, rfl⟩ (by simp [zval, Value.cells]) rfl rfl,
    tokRow ty71_u ty71_i ⟨_, rfl, rfl⟩ (by simp [zval, Value.cells]) rfl rfl,
    tokRow ty85_u ty85_i ⟨_, rfl, rfl⟩ (by simp [zval, Value.cells]) rfl rfl,
    tokRow ty86_u ty86_i ⟨_, rfl, rfl⟩ (by simp [zval, Value.cells]) rfl rfl,
    tokRow ty87_u ty87_i rfl (by simp [zval, Value.cells]) rfl rfl,
    tokRow ty88_u ty88_i rfl (by simp [zval, Value.cells]) rfl rfl,
    tokRow ty89_u ty89_i rfl (by simp [zval, Value.cells]) rfl rfl,
    tokRow ty90_u ty90_i rfl (by simp [zval, Value.cells]) rfl rfl,
    tokRow ty92_u ty92_i rfl (by simp [zval, Value.cells]) rfl rfl,
    tokRow ty93_u ty93_i rfl (by simp [zval, Value.cells]) rfl rfl,
    tokRow ty95_u ty95_i rfl (by simp [zval, Value.cells]) rfl rfl,
    tokRow ty101_u ty101_i rfl (by simp [zval, Value.cells]) rfl rfl,
    tokRow ty105_u ty105_i rfl (by simp [zval, Value.cells]) rfl rfl,
    tokRow ty109_u ty109_i trivial (by simp [zval, Value.cells]) rfl rfl,
    tokRow ty112_u ty112_i ⟨_, rfl, rfl⟩ (by simp [zval, Value.cells]) rfl rfl⟩) (by
  simp only [tt, List.forall_mem_cons, List.not_mem_nil, false_imp_iff, implies_true, and_true]
  exact ⟨fun _ => ty2_e, fun _ => ty3_e, fun _ => ty4_e, fun _ => ty5_e, fun _ => ty9_e, fun _ => ty12_e, fun _ => ty21_e, eq_not eqN_22, eq_not eqN_23, eq_not eqN_24, eq_not eqN_25, eq_not eqN_26, eq_not eqN_27, eq_not eqN_28, fun _ => ty31_e, fun _ => ty38_e, fun _ => ty39_e, eq_not eqN_44, eq_not eqN_49, eq_not eqN_63, eq_not eqN_64, fun _ => ty65_e, fun _ => ty66_e, fun _ => ty67_e, fun _ => ty68_e, fun _ => ty69_e, fun _ => ty70_e, fun _ => ty71_e, fun _ => ty85_e, fun _ => ty86_e, fun _ => ty87_e, eq_not eqN_88, fun _ => ty89_e, fun _ => ty90_e, fun _ => ty92_e, fun _ => ty93_e, eq_not eqN_95, eq_not eqN_101, fun _ => ty105_e, eq_not eqN_109, eq_not eqN_112⟩)
theorem mixed : Tryd.prog.follows .mixedOrders = true := by kernel_rfl
end Fen

namespace Fen
open Go Go.Proofs

theorem fdiv2 (n : Int) (k : Nat) : n.fdiv (2 ^ k) = n / 2 ^ k := Int.fdiv_eq_ediv_of_nonneg _ (Int.le_of_lt (Int.pow_pos (by decide)))

def checkF (n : Int) : Bool := decide (0 ≤ n) && decide (n ≤ 1114111) && (decide (n < 55296) || decide (57343 < n))
theorem checkF_iff (n : Int) : checkF n = true ↔ 0 ≤ n ∧ n ≤ 1114111 ∧ (n < 55296 ∨ 57343 < n) := by simp [checkF, and_assoc]

def I64 (n : Int) : Prop := -9223372036854775808 ≤ n ∧ n ≤ 9223372036854775807

def checkSpec : Spec := { pre := fun args => ∃ n : Int, args = [.c (.int .i64 n)], res := fun args => .one (.val (.c (.bool (checkF (args.headD default).int)))) }

set_option maxRecDepth 10000 in
theorem check_sound (gl : Gl) : Sound Tryd.prog gl 48 checkSpec := by
  refine sound_fn (N := Tryd.f48.ntmps) (rs := Tryd.f48.results.toList) mixed tok (SpecsOK.nil _ _) Tryd.func48 rfl rfl rfl rfl rfl ?_ ?_ ?_
  · rintro args ⟨n, rfl⟩; simp [Tryd.f48]
  · rintro args ⟨n, rfl⟩; simp [checkSpec, Tryd.f48]
  · rintro args ⟨n, rfl⟩ bs hgl hh hro
    simp [checkSpec, Tryd.f48, checkF]
    have e : n.fdiv (2 ^ min 11 IntKind.i64.bits) = n / 2048 := by rw [show min 11 IntKind.i64.bits = 11 from rfl, fdiv2]; rfl
    have e2 : (¬ n / 2048 = 27) ↔ (n < 55296 ∨ 57343 < n) := by constructor <;> intro h <;> omega
    have e3 : (n / 2048 != 27) = (decide (n < 55296) || decide (57343 < n)) := by rw [Bool.eq_iff_iff]; simpa using e2
    rw [e, e3]
    rfl

set_option maxRecDepth 10000 in
theorem rcheck_sound (gl : Gl) : Sound Tryd.prog gl 52 checkSpec := by
  refine sound_fn (N := Tryd.f52.ntmps) (rs := Tryd.f52.results.toList) mixed tok (SpecsOK.nil _ _) Tryd.func52 rfl rfl rfl rfl rfl ?_ ?_ ?_
  · rintro args ⟨n, rfl⟩; simp [Tryd.f52]
  · rintro args ⟨n, rfl⟩; simp [checkSpec, Tryd.f52]
  · rintro args ⟨n, rfl⟩ bs hgl hh hro
    simp [checkSpec, Tryd.f52, checkF]
    exact ⟨fun a b => ⟨⟨a, b⟩, fun c => ⟨⟨a, b⟩, c⟩⟩, rfl⟩

/-- ranges as cells -/
def spansC : List (Int × Int) → List C
  | [] => []
  | x :: l => .int .i64 x.1 :: .int .i64 x.2 :: spansC l
theorem spansC_drop : ∀ (l : List (Int × Int)) (k : Nat), (spansC l).drop (k * 2) = spansC (l.drop k)
  | _, 0 => by simp
  | [], k + 1 => by simp [spansC]
  | x :: l, k + 1 => by
    rw [show (k + 1) * 2 = k * 2 + 1 + 1 by omega]
    simp only [spansC, List.drop_succ_cons]
    exact spansC_drop l k
@[simp] theorem spansC_len (l : List (Int × Int)) : (spansC l).length = l.length * 2 := by
  induction l with
  | nil => rfl
  | cons x l ih => simp [spansC, ih]; omega

def inF (cp : Int) (l : List (Int × Int)) : Bool := l.any fun x => decide (x.1 ≤ cp) && decide (cp ≤ x.2)

def inSpec : Spec := { pre := fun args => ∃ (cp : Int) (l : List (Int × Int)), args = [.c (.int .i64 cp), .c (.sl l.length (spansC l))] ∧ l.length ≤ 1000, res := fun args => match args with
  | [.c (.int _ cp), .c (.sl _ cs)] => .one (.val (.c (.bool (inF cp (unC cs)))))
  | _ => .many [] }
where unC : List C → List (Int × Int)
  | .int _ a :: .int _ b :: l => (a, b) :: unC l
  | _ => []
@[simp] theorem unC_spansC (l : List (Int × Int)) : inSpec.unC (spansC l) = l := by
  induction l with
  | nil => rfl
  | cons x l ih => simp [spansC, inSpec.unC, ih]

def inS (cp : Int) (l : List (Int × Int)) (k : Nat) : St :=
  ⟨24, [(0, .val (.int .i64 cp)), (7, .val (.sl l.length (spansC l))), (8, .val (.int .i64 l.length)), (9, .val (.int .i64 k))], []⟩

set_option maxRecDepth 10000 in
theorem in_sound (gl : Gl) : Sound Tryd.prog gl 49 inSpec := by
  refine sound_fn (N := Tryd.f49.ntmps) (rs := Tryd.f49.results.toList) mixed tok (SpecsOK.nil _ gl) Tryd.func49 rfl rfl rfl rfl rfl ?_ ?_ ?_
  · rintro args ⟨cp, l, rfl, h0⟩; simp [Tryd.f49]
  · rintro args ⟨cp, l, rfl, h0⟩; simp [inSpec, Tryd.f49]
  · rintro args ⟨cp, l, rfl, h0⟩ bs hgl hh hro
    have hE : Env.OK ⟨Tryd.prog, T, [], bs⟩ := ⟨tok, by rw [hgl]; exact SpecsOK.nil _ gl⟩
    simp [inSpec, Tryd.f49]
    refine AWP.rounds (fun k => k ≤ l.length ∧ inF cp (l.take k) = false) (inS cp l) (fun k => l.length - k) 0 ⟨by omega, by simp [inF]⟩ ?_ ?_
    · refine Weak.keep ?_
      simp [inS]
    · rintro k ⟨hk, hf⟩
      refine wpc_ok hE mixed _ _ _ ?_
      rcases Nat.lt_or_ge k l.length with h | h
      · have w1 : IntKind.i64.wrap ((k : Int) + 1) = k + 1 := wrap64 _ (by omega) (by omega)
        have hd : (spansC l).drop (k * 2) = .int .i64 l[k].1 :: .int .i64 l[k].2 :: spansC (l.drop (k + 1)) := by
          rw [spansC_drop, List.drop_eq_getElem_cons h]; rfl
        have ht : inF cp (l.take (k + 1)) = (decide (l[k].1 ≤ cp) && decide (cp ≤ l[k].2)) := by
          rw [List.take_add_one, List.getElem?_eq_getElem h]
          unfold inF at hf ⊢
          rw [List.any_append, hf]; simp
        simp [inS, and_assoc, h, hd, w1]
        refine ⟨fun h1 h2 => ?_, fun h1 => ?_⟩
        · unfold inF
          rw [List.any_eq_true]
          exact ⟨l[k], List.getElem_mem h, by simp [h1, h2]⟩
        · refine Next.mk (k + 1) ⟨by omega, ?_⟩ (by omega) (Weak.ren [] (baseOK.nil hh) (by simp) (by simp) ?_)
          · rw [ht]; simp; omega
          · simp [inS]
      · have : k = l.length := by omega
        subst this
        rw [List.take_length] at hf
        simp [inS, hf]

def marksL : List (Int × Int) := [(0x300, 0x36f), (0x483, 0x489), (0x591, 0x5bd), (0x610, 0x61a), (0x64b, 0x65f), (0x1ab0, 0x1aff), (0x1dc0, 0x1dff), (0x200b, 0x200f), (0x20d0, 0x20ff), (0xfe00, 0xfe0f), (0xfe20, 0xfe2f)]
def widesL : List (Int × Int) := [(0x1100, 0x115f), (0x2e80, 0x303e), (0x3041, 0x4dbf), (0x4e00, 0xa4cf), (0xac00, 0xd7a3), (0xf900, 0xfaff), (0xfe30, 0xfe6f), (0xff00, 0xff60), (0xffe0, 0xffe6), (0x1f300, 0x1f64f), (0x1f680, 0x1f6ff), (0x1f900, 0x1f9ff), (0x20000, 0x3fffd)]
def glW : Gl := [(0, spansC marksL), (1, spansC widesL)]

@[simp] theorem glk_0 : glk glW 0 = .fptr (spansC marksL) := rfl
@[simp] theorem glk_1 : glk glW 1 = .fptr (spansC widesL) := rfl

def widthF (cp : Int) : Int := if checkF cp = false ∨ inF cp [(0, 31), (127, 159)] = true then -1 else if cp < 768 then 1 else if inF cp marksL then 0 else if inF cp widesL then 2 else 1

def ofSpec : Spec := { pre := fun args => ∃ cp : Int, args = [.c (.int .i64 cp)], res := fun args => .one (.val (.c (.int .i64 (widthF (args.headD default).int)))) }

def GOf : Specs := [(48, checkSpec), (49, inSpec)]
@[simp] theorem GOf_18 : GOf.find 48 = some checkSpec := rfl
@[simp] theorem GOf_19 : GOf.find 49 = some inSpec := rfl
theorem GOf_ok (gl : Gl) : SpecsOK Tryd.prog gl GOf := .cons (check_sound gl) (.cons (in_sound gl) (.nil _ _))

set_option maxRecDepth 10000 in
theorem of_sound : Sound Tryd.prog glW 41 ofSpec := by
  refine sound_fn (N := Tryd.f41.ntmps) (rs := Tryd.f41.results.toList) mixed tok (GOf_ok glW) Tryd.func41 rfl rfl rfl rfl rfl ?_ ?_ ?_
  · rintro args ⟨cp, rfl⟩; simp [Tryd.f41]
  · rintro args ⟨cp, rfl⟩; simp [ofSpec, Tryd.f41]
  · rintro args ⟨cp, rfl⟩ bs hgl hh hro
    obtain ⟨w0, own, g0, h0', gl, ro⟩ := bs
    simp only at hgl
    subst hgl
    have u0 : [C.int .i64 0, C.int .i64 31, C.int .i64 127, C.int .i64 159] = spansC [(0, 31), (127, 159)] := rfl
    have u1 : (spansC marksL).head? = some (.int .i64 768) := rfl
    have u2 : marksL.length = 11 := rfl
    have u3 : widesL.length = 13 := rfl
    simp [ofSpec, checkSpec, inSpec, Tryd.f41, and_assoc, u0, u1, u2]
    refine ⟨fun h => ⟨h, [(0, 31), (127, 159)], rfl, rfl, by decide⟩, fun h => by unfold widthF; rw [if_pos h], fun h1 h2 => ?_⟩
    refine ⟨fun h => by unfold widthF; rw [if_neg (by simp [h1, h2]), if_pos h], fun h => ?_⟩
    refine OpW.arr tok T_87 rfl T_86 (cs := spansC marksL) rfl rfl (by decide) (by simp [dstOK]) ?_
    simp [inSpec, u2]
    refine ⟨⟨cp, marksL, ⟨rfl, rfl, rfl⟩, by decide⟩, fun h3 => by unfold widthF; rw [if_neg (by simp [h1, h2]), if_neg (by omega), if_pos h3], fun h3 => ?_⟩
    refine OpW.arr tok T_89 rfl T_86 (cs := spansC widesL) rfl rfl (by decide) (by simp [dstOK]) ?_
    simp [inSpec, u3]
    refine ⟨⟨cp, widesL, ⟨rfl, rfl, rfl⟩, by decide⟩, fun h4 => by unfold widthF; rw [if_neg (by simp [h1, h2]), if_neg (by omega), if_neg (by simp [h3]), if_pos h4], fun h4 => by unfold widthF; rw [if_neg (by simp [h1, h2]), if_neg (by omega), if_neg (by simp [h3]), if_neg (by simp [h4])]⟩

def rinSpec : Spec := { pre := fun args => ∃ (cp : Int) (l : List (Int × Int)), args = [.c (.sl l.length (spansC l)), .c (.int .i64 cp)] ∧ l.length ≤ 1000, res := fun args => match args with
  | [.c (.sl _ cs), .c (.int _ cp)] => .one (.val (.c (.bool (inF cp (inSpec.unC cs)))))
  | _ => .many [] }

def rinS (cp : Int) (l : List (Int × Int)) (k : Nat) : St :=
  ⟨28, [(0, .val (.sl l.length (spansC l))), (1, .val (.int .i64 cp)), (5, .val (.int .i64 k))], []⟩

set_option maxRecDepth 10000 in
theorem rin_sound (gl : Gl) : Sound Tryd.prog gl 53 rinSpec := by
  refine sound_fn (N := Tryd.f53.ntmps) (rs := Tryd.f53.results.toList) mixed tok (SpecsOK.nil _ gl) Tryd.func53 rfl rfl rfl rfl rfl ?_ ?_ ?_
  · rintro args ⟨cp, l, rfl, h0⟩; simp [Tryd.f53]
  · rintro args ⟨cp, l, rfl, h0⟩; simp [rinSpec, Tryd.f53]
  · rintro args ⟨cp, l, rfl, h0⟩ bs hgl hh hro
    have hE : Env.OK ⟨Tryd.prog, T, [], bs⟩ := ⟨tok, by rw [hgl]; exact SpecsOK.nil _ gl⟩
    simp [rinSpec, Tryd.f53]
    refine AWP.rounds (fun k => k ≤ l.length ∧ inF cp (l.take k) = false) (rinS cp l) (fun k => l.length - k) 0 ⟨by omega, by simp [inF]⟩ ?_ ?_
    · refine Weak.keep ?_
      simp [rinS]
    · rintro k ⟨hk, hf⟩
      refine wpc_ok hE mixed _ _ _ ?_
      rcases Nat.lt_or_ge k l.length with h | h
      · have w1 : IntKind.i64.wrap ((k : Int) + 1) = k + 1 := wrap64 _ (by omega) (by omega)
        have hd : (spansC l).drop (k * 2) = .int .i64 l[k].1 :: .int .i64 l[k].2 :: spansC (l.drop (k + 1)) := by
          rw [spansC_drop, List.drop_eq_getElem_cons h]; rfl
        have ht : inF cp (l.take (k + 1)) = (decide (l[k].1 ≤ cp) && decide (cp ≤ l[k].2)) := by
          rw [List.take_add_one, List.getElem?_eq_getElem h]
          unfold inF at hf ⊢
          rw [List.any_append, hf]; simp
        simp [rinS, and_assoc, h, hd, w1]
        refine ⟨fun h1 h2 => ?_, fun h1 => ?_⟩
        · unfold inF
          rw [List.any_eq_true]
          exact ⟨l[k], List.getElem_mem h, by simp [h1, h2]⟩
        · refine Next.mk (k + 1) ⟨by omega, ?_⟩ (by omega) (Weak.keep ?_)
          · rw [ht]; simp; omega
          · simp [rinS]
      · have : k = l.length := by omega
        subst this
        rw [List.take_length] at hf
        simp [rinS, hf]

def twosL : List (Int × Int) := [(0x1100, 0x115f), (0x2e80, 0x303e), (0x3041, 0x33ff), (0x3400, 0x4dbf), (0x4e00, 0x9fff), (0xa000, 0xa4cf), (0xac00, 0xd7a3), (0xf900, 0xfaff), (0xfe30, 0xfe6f), (0xff00, 0xff60), (0xffe0, 0xffe6), (0x1f300, 0x1f64f), (0x1f680, 0x1f6ff), (0x1f900, 0x1f9ff), (0x20000, 0x3fffd)]
def zeroSpec : Spec := { pre := fun args => args = [], res := fun _ => .one (.val (.c (.sl 11 (spansC marksL)))) }
def twoSpec : Spec := { pre := fun args => args = [], res := fun _ => .one (.val (.c (.sl 15 (spansC twosL)))) }

set_option maxRecDepth 10000 in
theorem zero_sound (gl : Gl) : Sound Tryd.prog gl 54 zeroSpec := by
  refine sound_fn (N := Tryd.f54.ntmps) (rs := Tryd.f54.results.toList) mixed tok (SpecsOK.nil _ gl) Tryd.func54 rfl rfl rfl rfl rfl ?_ ?_ ?_
  · rintro args rfl; simp [Tryd.f54]
  · rintro args rfl; simp [zeroSpec, Tryd.f54]
  · rintro args rfl bs hgl hh hro
    simp [zeroSpec, Tryd.f54, spansC, marksL]

set_option maxRecDepth 10000 in
theorem two_sound (gl : Gl) : Sound Tryd.prog gl 55 twoSpec := by
  refine sound_fn (N := Tryd.f55.ntmps) (rs := Tryd.f55.results.toList) mixed tok (SpecsOK.nil _ gl) Tryd.func55 rfl rfl rfl rfl rfl ?_ ?_ ?_
  · rintro args rfl; simp [Tryd.f55]
  · rintro args rfl; simp [twoSpec, Tryd.f55]
  · rintro args rfl bs hgl hh hro
    simp [twoSpec, Tryd.f55, spansC, twosL]

/-- the two tables hold the same code points -/
theorem twos_same (cp : Int) : inF cp twosL = inF cp widesL := by
  rw [Bool.eq_iff_iff]
  simp [inF, twosL, widesL]
  omega

def rofF (cp : Int) : Int := if checkF cp = false ∨ cp < 32 ∨ (127 ≤ cp ∧ cp < 160) then -1 else if inF cp marksL then 0 else if inF cp twosL then 2 else 1

theorem of_same (cp : Int) : rofF cp = widthF cp := by
  unfold rofF widthF
  rw [twos_same]
  have e : (inF cp [(0, 31), (127, 159)] = true) ↔ ((0 ≤ cp ∧ cp ≤ 31) ∨ (127 ≤ cp ∧ cp ≤ 159)) := by simp [inF]
  cases hc : checkF cp with
  | false => simp
  | true =>
    rw [checkF_iff] at hc
    have hm : cp < 768 → inF cp marksL = false := fun h => by
      rw [Bool.eq_false_iff, Ne]; simp [inF, marksL]; omega
    have hw : cp < 768 → inF cp widesL = false := fun h => by
      rw [Bool.eq_false_iff, Ne]; simp [inF, widesL]; omega
    by_cases h1 : cp < 32 ∨ (127 ≤ cp ∧ cp < 160)
    · rw [if_pos (.inr h1), if_pos (.inr (e.2 (by omega)))]
    · have n1 : ¬ (true = false ∨ cp < 32 ∨ (127 ≤ cp ∧ cp < 160)) := by simp; omega
      have n2 : ¬ (true = false ∨ inF cp [(0, 31), (127, 159)] = true) := by rw [e]; simp; omega
      rw [if_neg n1, if_neg n2]
      by_cases h2 : cp < 768
      · rw [if_pos h2, hm h2, hw h2]; rfl
      · rw [if_neg h2]

def GRo : Specs := [(52, checkSpec), (54, zeroSpec), (55, twoSpec), (53, rinSpec)]
@[simp] theorem GRo_20 : GRo.find 52 = some checkSpec := rfl
@[simp] theorem GRo_22 : GRo.find 54 = some zeroSpec := rfl
@[simp] theorem GRo_23 : GRo.find 55 = some twoSpec := rfl
@[simp] theorem GRo_21 : GRo.find 53 = some rinSpec := rfl
theorem GRo_ok (gl : Gl) : SpecsOK Tryd.prog gl GRo := .cons (rcheck_sound gl) (.cons (zero_sound gl) (.cons (two_sound gl) (.cons (rin_sound gl) (.nil _ _))))

set_option maxRecDepth 10000 in
theorem rof_sound (gl : Gl) : Sound Tryd.prog gl 47 ofSpec := by
  refine sound_fn (N := Tryd.f47.ntmps) (rs := Tryd.f47.results.toList) mixed tok (GRo_ok gl) Tryd.func47 rfl rfl rfl rfl rfl ?_ ?_ ?_
  · rintro args ⟨cp, rfl⟩; simp [Tryd.f47]
  · rintro args ⟨cp, rfl⟩; simp [ofSpec, Tryd.f47]
  · rintro args ⟨cp, rfl⟩ bs hgl hh hro
    simp [ofSpec, checkSpec, zeroSpec, twoSpec, rinSpec, Tryd.f47, and_assoc, ← of_same]
    refine ⟨fun a b => ⟨a, b, fun c => ⟨a, b, c⟩⟩, fun h => by unfold rofF; rw [if_pos (by rcases h with (h | h) | h <;> simp [h])], fun a b c => ?_⟩
    have n0 : ¬ (checkF cp = false ∨ cp < 32 ∨ (127 ≤ cp ∧ cp < 160)) := by simp [a]; omega
    refine ⟨⟨cp, marksL, rfl, rfl, rfl, by decide⟩, fun h => by unfold rofF; rw [if_neg n0, if_pos h], fun h => ⟨⟨cp, twosL, rfl, rfl, rfl, by decide⟩, fun h2 => by unfold rofF; rw [if_neg n0, if_neg (by simp [h]), if_pos h2], fun h2 => by unfold rofF; rw [if_neg n0, if_neg (by simp [h]), if_neg (by simp [h2])]⟩⟩
end Fen

namespace Fen
open Go Go.Proofs

def limSpec : Spec := { pre := fun args => args = [], res := fun _ => .one (.val (.agg [.int .i64 0, .int .i64 255, .int .i64 16777215])) }
set_option maxRecDepth 10000 in
theorem lim_sound (gl : Gl) : Sound Tryd.prog gl 56 limSpec := by
  refine sound_fn (N := Tryd.f56.ntmps) (rs := Tryd.f56.results.toList) mixed tok (SpecsOK.nil _ _) Tryd.func56 rfl rfl rfl rfl rfl ?_ ?_ ?_
  · rintro args rfl; simp [Tryd.f56]
  · rintro args rfl; simp [limSpec, Tryd.f56]
  · rintro args rfl bs hgl hh hro
    simp [limSpec, Tryd.f56]

def colSpec : Spec := { pre := fun args => ∃ k n : Int, args = [.agg [.int .i64 k, .int .i64 n]], res := fun args => match args with
  | [.agg [.int _ k, .int _ n]] => .one (.val (.c (.int .i64 (colF k n))))
  | _ => .many [] }

def GCo : Specs := [(56, limSpec)]
@[simp] theorem GCo_56 : GCo.find 56 = some limSpec := rfl
theorem GCo_ok (gl : Gl) : SpecsOK Tryd.prog gl GCo := .cons (lim_sound gl) (.nil _ _)

set_option maxRecDepth 10000 in
theorem col_sound (gl : Gl) : Sound Tryd.prog gl 50 colSpec := by
  refine sound_fn (N := Tryd.f50.ntmps) (rs := Tryd.f50.results.toList) mixed tok (GCo_ok gl) Tryd.func50 rfl rfl rfl rfl rfl ?_ ?_ ?_
  · rintro args ⟨k, n, rfl⟩; simp [Tryd.f50]
  · rintro args ⟨k, n, rfl⟩; simp [colSpec, Tryd.f50]
  · rintro args ⟨k, n, rfl⟩ bs hgl hh hro
    by_cases hk : k < 0
    · have e : colF k n = 130 := by unfold colF; rw [if_neg (by omega)]
      have ht : k.toNat = 0 := by omega
      simp [colSpec, limSpec, Tryd.f50, hk, ht, e]
      rfl
    · by_cases hk2 : 3 ≤ k
      · have e : colF k n = 130 := by unfold colF; rw [if_neg (by omega)]
        simp [colSpec, limSpec, Tryd.f50, hk, hk2, e]
        rfl
      · have key : ∀ m : Int, (k = 0 ∧ m = 0) ∨ (k = 1 ∧ m = 255) ∨ (k = 2 ∧ m = 16777215) → colF k n = if n < 0 ∨ m < n then 130 else 0 := fun m hm => by
          unfold colF
          split <;> split <;> first | rfl | omega
        obtain rfl | rfl | rfl : k = 0 ∨ k = 1 ∨ k = 2 := by omega
        · rcases Decidable.em (n < 0) with hn | hn <;> rcases Decidable.em (0 < n) with hm | hm <;> simp [colSpec, limSpec, Tryd.f50, key 0 (by simp), hn, hm] <;> rfl
        · rcases Decidable.em (n < 0) with hn | hn <;> rcases Decidable.em (255 < n) with hm | hm <;> simp [colSpec, limSpec, Tryd.f50, key 255 (by simp), hn, hm] <;> rfl
        · rcases Decidable.em (n < 0) with hn | hn <;> rcases Decidable.em (16777215 < n) with hm | hm <;> simp [colSpec, limSpec, Tryd.f50, key 16777215 (by simp), hn, hm] <;> rfl

set_option maxRecDepth 10000 in
theorem rcol_sound (gl : Gl) : Sound Tryd.prog gl 59 colSpec := by
  refine sound_fn (N := Tryd.f59.ntmps) (rs := Tryd.f59.results.toList) mixed tok (SpecsOK.nil _ _) Tryd.func59 rfl rfl rfl rfl rfl ?_ ?_ ?_
  · rintro args ⟨k, n, rfl⟩; simp [Tryd.f59]
  · rintro args ⟨k, n, rfl⟩; simp [colSpec, Tryd.f59]
  · rintro args ⟨k, n, rfl⟩ bs hgl hh hro
    unfold colSpec colF
    by_cases h0 : k = 0
    · subst h0
      by_cases c : n = 0 <;> simp [Tryd.f59, c]
    · by_cases h1 : k = 1
      · subst h1
        by_cases c : 0 ≤ n <;> by_cases d : n ≤ 255 <;> simp [Tryd.f59, c, d]
      · by_cases h2 : k = 2
        · subst h2
          by_cases c : 0 ≤ n <;> by_cases d : n ≤ 16777215 <;> simp [Tryd.f59, c, d]
        · simp [Tryd.f59, h0, h1, h2]

def Sty.ok (s : Sty) : Prop := -9223372036854775808 ≤ s.attr ∧ s.attr ≤ 9223372036854775807
def stySpec : Spec := { pre := fun args => ∃ s : Sty, args = [styV s] ∧ s.ok, res := fun args => .one (.val (.c (.int .i64 (styF (stOf (args.headD default).cs))))) }

def GSt : Specs := [(50, colSpec)]
@[simp] theorem GSt_50 : GSt.find 50 = some colSpec := rfl
theorem GSt_ok (gl : Gl) : SpecsOK Tryd.prog gl GSt := .cons (col_sound gl) (.nil _ _)
def GSu : Specs := [(59, colSpec)]
@[simp] theorem GSu_59 : GSu.find 59 = some colSpec := rfl
theorem GSu_ok (gl : Gl) : SpecsOK Tryd.prog gl GSu := .cons (rcol_sound gl) (.nil _ _)

theorem colF_or (k n : Int) : colF k n = 0 ∨ colF k n = 130 := by unfold colF; split <;> simp

set_option maxRecDepth 10000 in
theorem sty_sound (gl : Gl) : Sound Tryd.prog gl 43 stySpec := by
  refine sound_fn (N := Tryd.f43.ntmps) (rs := Tryd.f43.results.toList) mixed tok (GSt_ok gl) Tryd.func43 rfl rfl rfl rfl rfl ?_ ?_ ?_
  · rintro args ⟨s, rfl, h⟩; simp [Tryd.f43]
  · rintro args ⟨s, rfl, h⟩; simp [stySpec, Tryd.f43]
  · rintro args ⟨s, rfl, h⟩ bs hgl hh hro
    have hE : Env.OK ⟨Tryd.prog, T, GSt, bs⟩ := ⟨tok, by rw [hgl]; exact GSt_ok gl⟩
    have ha := andNot255 h
    obtain ⟨a, u, fk, fn, bk, bn, lk, ln⟩ := s
    simp only at ha
    generalize hq : bits2 (fun _ x y => x &&& ~~~y) .i64 a 255 = q at *
    by_cases h1 : q = 0 ∧ ¬ u < 0 ∧ ¬ 5 < u
    · obtain ⟨h1, h2, h3⟩ := h1
      have e : ¬ (a < 0 ∨ 255 < a ∨ u < 0 ∨ 5 < u) := by have := ha.1 h1; omega
      simp [stySpec, Tryd.f43, styV, hq, h1, h2, h3]
      refine AWP.unroll hE mixed 4 ?_
      have c1 := colF_or fk fn
      have c2 := colF_or bk bn
      have c3 := colF_or lk ln
      unfold styF
      simp only [stOf_C, if_neg e]
      rcases c1 with c1 | c1
      · rcases c2 with c2 | c2
        · rcases c3 with c3 | c3 <;> simp [colSpec, c1, c2, c3]
        · simp [colSpec, c1, c2]
      · simp [colSpec, c1]
    · have e : styF ⟨a, u, fk, fn, bk, bn, lk, ln⟩ = 140 := by
        unfold styF
        rw [if_pos]
        show a < 0 ∨ 255 < a ∨ u < 0 ∨ 5 < u
        by_cases c : q = 0
        · have := ha.1 c; omega
        · have : ¬ (0 ≤ a ∧ a ≤ 255) := fun h => c (ha.2 h)
          omega
      by_cases c1 : q = 0
      · by_cases c2 : u < 0
        · simp [stySpec, Tryd.f43, styV, hq, c1, c2, e]
        · have c3 : 5 < u := by omega
          simp [stySpec, Tryd.f43, styV, hq, c1, c2, c3, e]
      · simp [stySpec, Tryd.f43, styV, hq, c1, e]

set_option maxRecDepth 10000 in
theorem rsty_sound (gl : Gl) : Sound Tryd.prog gl 57 stySpec := by
  refine sound_fn (N := Tryd.f57.ntmps) (rs := Tryd.f57.results.toList) mixed tok (GSu_ok gl) Tryd.func57 rfl rfl rfl rfl rfl ?_ ?_ ?_
  · rintro args ⟨s, rfl, h⟩; simp [Tryd.f57]
  · rintro args ⟨s, rfl, h⟩; simp [stySpec, Tryd.f57]
  · rintro args ⟨s, rfl, h⟩ bs hgl hh hro
    have hE : Env.OK ⟨Tryd.prog, T, GSu, bs⟩ := ⟨tok, by rw [hgl]; exact GSu_ok gl⟩
    obtain ⟨a, u, fk, fn, bk, bn, lk, ln⟩ := s
    by_cases h1 : a < 0 ∨ 255 < a ∨ u < 0 ∨ 5 < u
    · have e : styF ⟨a, u, fk, fn, bk, bn, lk, ln⟩ = 140 := by unfold styF; rw [if_pos h1]
      by_cases c1 : a < 0
      · simp [stySpec, Tryd.f57, styV, c1, e]
      · by_cases c2 : 255 < a
        · simp [stySpec, Tryd.f57, styV, c1, c2, e]
        · by_cases c3 : u < 0
          · simp [stySpec, Tryd.f57, styV, c1, c2, c3, e]
          · have c4 : 5 < u := by omega
            simp [stySpec, Tryd.f57, styV, c1, c2, c3, c4, e]
    · have h2 : ¬ a < 0 ∧ ¬ 255 < a ∧ ¬ u < 0 ∧ ¬ 5 < u := by omega
      obtain ⟨c1, c2, c3, c4⟩ := h2
      simp [stySpec, Tryd.f57, styV, c1, c2, c3, c4]
      refine AWP.unroll hE mixed 4 ?_
      have c1 := colF_or fk fn
      have c2 := colF_or bk bn
      have c3 := colF_or lk ln
      unfold styF
      simp only [stOf_C, if_neg h1]
      rcases c1 with c1 | c1
      · rcases c2 with c2 | c2
        · rcases c3 with c3 | c3 <;> simp [colSpec, c1, c2, c3]
        · simp [colSpec, c1, c2]
      · simp [colSpec, c1]

def halfSpec : Spec := { pre := fun args => ∃ c : Cel, args = [celV c], res := fun args => .one (.val (.c (.bool (halfF (celOf (args.headD default).cs))))) }

set_option maxRecDepth 10000 in
theorem half_sound (gl : Gl) : Sound Tryd.prog gl 40 halfSpec := by
  refine sound_fn (N := Tryd.f40.ntmps) (rs := Tryd.f40.results.toList) mixed tok (SpecsOK.nil _ _) Tryd.func40 rfl rfl rfl rfl rfl ?_ ?_ ?_
  · rintro args ⟨c, rfl⟩; simp [Tryd.f40]
  · rintro args ⟨c, rfl⟩; simp [halfSpec, Tryd.f40]
  · rintro args ⟨c, rfl⟩ bs hgl hh hro
    simp [halfSpec, Tryd.f40]
    unfold halfF
    congr

set_option maxRecDepth 10000 in
theorem second_sound (gl : Gl) : Sound Tryd.prog gl 58 halfSpec := by
  refine sound_fn (N := Tryd.f58.ntmps) (rs := Tryd.f58.results.toList) mixed tok (SpecsOK.nil _ _) Tryd.func58 rfl rfl rfl rfl rfl ?_ ?_ ?_
  · rintro args ⟨c, rfl⟩; simp [Tryd.f58]
  · rintro args ⟨c, rfl⟩; simp [halfSpec, Tryd.f58]
  · rintro args ⟨c, rfl⟩ bs hgl hh hro
    have e : halfF c = (decide (c.base = 0) && (decide (c.m0 = 0) && decide (c.m1 = 0)) && decide (c.wide = 2)) := by
      rw [Bool.eq_iff_iff, halfF_iff]; simp [and_assoc]
    simp [halfSpec, Tryd.f58, e]
    rfl
end Fen

namespace Fen
open Go Go.Proofs

def markedF (m0 m1 : Int) : Bool := !((decide (m0 ≠ 0) && decide (widthF m0 ≠ 0)) || (decide (m1 ≠ 0) && (decide (m0 = 0) || decide (widthF m1 ≠ 0))))
def cellF (c : Cel) : Int :=
  if styF c.st ≠ 0 then 221
  else if halfF c = true ∨ (markedF c.m0 c.m1 = true ∧ ((c.wide = 0 ∧ widthF c.base = 1) ∨ (c.wide = 1 ∧ widthF c.base = 2))) then 0 else 221

def markedSpec : Spec := { pre := fun args => ∃ a b : Int, args = [.agg [.int .i64 a, .int .i64 b]], res := fun args => match args with
  | [.agg [.int _ a, .int _ b]] => .one (.val (.c (.bool (markedF a b))))
  | _ => .many [] }

def GMa : Specs := [(41, ofSpec)]
@[simp] theorem GMa_41 : GMa.find 41 = some ofSpec := rfl
theorem GMa_ok : SpecsOK Tryd.prog glW GMa := .cons of_sound (.nil _ _)

set_option maxRecDepth 10000 in
theorem marked_sound : Sound Tryd.prog glW 42 markedSpec := by
  refine sound_fn (N := Tryd.f42.ntmps) (rs := Tryd.f42.results.toList) mixed tok GMa_ok Tryd.func42 rfl rfl rfl rfl rfl ?_ ?_ ?_
  · rintro args ⟨a, b, rfl⟩; simp [Tryd.f42]
  · rintro args ⟨a, b, rfl⟩; simp [markedSpec, Tryd.f42]
  · rintro args ⟨a, b, rfl⟩ bs hgl hh hro
    have hE : Env.OK ⟨Tryd.prog, T, GMa, bs⟩ := ⟨tok, by rw [hgl]; exact GMa_ok⟩
    simp [markedSpec, Tryd.f42]
    refine AWP.unroll hE mixed 3 ?_
    unfold markedF
    rcases Decidable.em (a = 0) with h1 | h1 <;> rcases Decidable.em (widthF a = 0) with h2 | h2 <;> rcases Decidable.em (b = 0) with h3 | h3 <;> rcases Decidable.em (widthF b = 0) with h4 | h4 <;> simp [ofSpec, h1, h2, h3, h4]

def Cel.ok (c : Cel) : Prop := c.st.ok
def cellSpec : Spec := { pre := fun args => ∃ c : Cel, args = [celV c] ∧ c.ok, res := fun args => .one (.val (.c (.int .i64 (cellF (celOf (args.headD default).cs))))) }

def GCe : Specs := [(40, halfSpec), (41, ofSpec), (42, markedSpec), (43, stySpec)]
@[simp] theorem GCe_40 : GCe.find 40 = some halfSpec := rfl
@[simp] theorem GCe_41 : GCe.find 41 = some ofSpec := rfl
@[simp] theorem GCe_42 : GCe.find 42 = some markedSpec := rfl
@[simp] theorem GCe_43 : GCe.find 43 = some stySpec := rfl
theorem GCe_ok : SpecsOK Tryd.prog glW GCe := .cons (half_sound glW) (.cons of_sound (.cons marked_sound (.cons (sty_sound glW) (.nil _ _))))

set_option maxHeartbeats 1000000 in
set_option maxRecDepth 10000 in
theorem cell_sound : Sound Tryd.prog glW 36 cellSpec := by
  refine sound_fn (N := Tryd.f36.ntmps) (rs := Tryd.f36.results.toList) mixed tok GCe_ok Tryd.func36 rfl rfl rfl rfl rfl ?_ ?_ ?_
  · rintro args ⟨c, rfl, h⟩; simp [Tryd.f36]
  · rintro args ⟨c, rfl, h⟩; simp [cellSpec, Tryd.f36]
  · rintro args ⟨c, rfl, h⟩ bs hgl hh hro
    have h : c.st.ok := h
    have w0 : IntKind.i64.wrap (0 + 1) = 1 := rfl
    have w1 : IntKind.i64.wrap (1 + 1) = 2 := rfl
    simp only [cellSpec, List.headD_cons, V.cs_cel, celOf_C]
    unfold cellF
    cases hb : halfF c with
    | true =>
      have hw : c.wide = 2 := ((halfF_iff c).1 hb).2.2.2
      rcases Decidable.em (styF c.st = 0) with h2 | h2 <;> simp [halfSpec, ofSpec, markedSpec, stySpec, Tryd.f36, celV, hb, hw, h, h2] <;> rfl
    | false =>
      rcases Decidable.em (c.wide = 0) with h3 | h3
      · rcases Decidable.em (widthF c.base = 1) with h4 | h4 <;> cases h5 : markedF c.m0 c.m1 <;> rcases Decidable.em (styF c.st = 0) with h2 | h2 <;> simp [halfSpec, ofSpec, markedSpec, stySpec, Tryd.f36, celV, hb, h3, h4, h5, h, h2] <;> rfl
      · rcases Decidable.em (c.wide = 1) with h3' | h3'
        · rcases Decidable.em (widthF c.base = 2) with h4 | h4 <;> cases h5 : markedF c.m0 c.m1 <;> rcases Decidable.em (styF c.st = 0) with h2 | h2 <;> simp [halfSpec, ofSpec, markedSpec, stySpec, Tryd.f36, celV, hb, h3', h4, h5, h, h2] <;> rfl
        · rcases Decidable.em (0 ≤ c.wide) with h6 | h6
          · have h7 : ¬ c.wide ≤ 1 := by omega
            rcases Decidable.em (styF c.st = 0) with h2 | h2 <;> simp [halfSpec, ofSpec, markedSpec, stySpec, Tryd.f36, celV, hb, h3, h3', h6, h7, h, h2] <;> rfl
          · rcases Decidable.em (styF c.st = 0) with h2 | h2 <;> simp [halfSpec, ofSpec, markedSpec, stySpec, Tryd.f36, celV, hb, h3, h3', h6, h, h2] <;> rfl

def GCr : Specs := [(47, ofSpec), (57, stySpec), (58, halfSpec)]
@[simp] theorem GCr_47 : GCr.find 47 = some ofSpec := rfl
@[simp] theorem GCr_57 : GCr.find 57 = some stySpec := rfl
@[simp] theorem GCr_58 : GCr.find 58 = some halfSpec := rfl
theorem GCr_ok (gl : Gl) : SpecsOK Tryd.prog gl GCr := .cons (rof_sound gl) (.cons (rsty_sound gl) (.cons (second_sound gl) (.nil _ _)))

set_option maxHeartbeats 1000000 in
set_option maxRecDepth 10000 in
theorem rcell_sound (gl : Gl) : Sound Tryd.prog gl 51 cellSpec := by
  refine sound_fn (N := Tryd.f51.ntmps) (rs := Tryd.f51.results.toList) mixed tok (GCr_ok gl) Tryd.func51 rfl rfl rfl rfl rfl ?_ ?_ ?_
  · rintro args ⟨c, rfl, h⟩; simp [Tryd.f51]
  · rintro args ⟨c, rfl, h⟩; simp [cellSpec, Tryd.f51]
  · rintro args ⟨c, rfl, h⟩ bs hgl hh hro
    have hE : Env.OK ⟨Tryd.prog, T, GCr, bs⟩ := ⟨tok, by rw [hgl]; exact GCr_ok gl⟩
    have h : c.st.ok := h
    simp only [cellSpec, List.headD_cons, V.cs_cel, celOf_C]
    unfold cellF
    rcases Decidable.em (styF c.st = 0) with h2 | h2
    · cases hb : halfF c with
      | true => simp [halfSpec, ofSpec, stySpec, Tryd.f51, celV, hb, h, h2]
      | false =>
        simp [halfSpec, ofSpec, stySpec, Tryd.f51, celV, hb, h, h2]
        refine AWP.unroll hE mixed 3 ?_
        unfold markedF
        rcases Decidable.em (c.m0 = 0) with a1 | a1 <;> rcases Decidable.em (widthF c.m0 = 0) with a2 | a2 <;> rcases Decidable.em (c.m1 = 0) with a3 | a3 <;> rcases Decidable.em (widthF c.m1 = 0) with a4 | a4 <;> simp [ofSpec, a1, a2, a3, a4]
        all_goals
          rcases Decidable.em (widthF c.base = 1) with b1 | b1 <;> rcases Decidable.em (widthF c.base = 2) with b2 | b2 <;> rcases Decidable.em (c.wide = 0) with b3 | b3 <;> rcases Decidable.em (c.wide = 1) with b4 | b4 <;> simp [b1, b2, b3, b4] <;> omega
    · simp [halfSpec, ofSpec, stySpec, Tryd.f51, celV, h, h2]
end Fen
