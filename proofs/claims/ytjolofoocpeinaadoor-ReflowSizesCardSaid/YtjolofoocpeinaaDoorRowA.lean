/- A part of the proof; no statement is proved here: PlA, PlB, FTypes1, FWid, FRowA, FRowB, FPastA. -/
import Derived.Test.YtjolofoocpeinaaDoorCoreE
import Derived.Test.YtjolofoocpeinaaDoorChecked
import Derived.Test.YtjolofoocpeinaaDoorCoreD
import Derived.KernelRfl

set_option linter.unusedVariables false
set_option linter.unusedSimpArgs false

namespace Fen
open Go
structure Sty where
 (attr under fk fn bk bn lk ln : Int)
 deriving DecidableEq, Inhabited
structure Cel where
 (base m0 m1 wide : Int)
 (st : Sty)
 deriving DecidableEq, Inhabited
structure Rw where
 (cells : List Cel)
 (wrapped : Bool)
 deriving DecidableEq, Inhabited
def styC (s : Sty) : List C := [.int .i64 s.attr, .int .i64 s.under, .int .i64 s.fk, .int .i64 s.fn, .int .i64 s.bk, .int .i64 s.bn, .int .i64 s.lk, .int .i64 s.ln]
def celC (c : Cel) : List C := .int .i64 c.base :: .int .i64 c.m0 :: .int .i64 c.m1 :: .int .i64 c.wide :: styC c.st
def celsC : List Cel → List C
 | [] => []
 | c :: l => celC c ++ celsC l
def rowC (r : Rw) : List C := [.sl r.cells.length (celsC r.cells), .bool r.wrapped]
def rowsC : List Rw → List C
 | [] => []
 | r :: l => rowC r ++ rowsC l
def celV (c : Cel) : V := .agg (celC c)
def styV (s : Sty) : V := .agg (styC s)
def rowV (r : Rw) : V := .agg (rowC r)
def rowsV (l : List Rw) : V := .c (.sl l.length (rowsC l))
def celsV (l : List Cel) : V := .c (.sl l.length (celsC l))
section
variable (s : Sty) (c d : Cel) (r : Rw) (l m : List Cel) (q : List Rw) (rest : List C) (n k : Nat)
@[simp] theorem styC_len : (styC s).length = 8 := rfl
@[simp] theorem celC_len : (celC c).length = 12 := rfl
@[simp] theorem rowC_len : (rowC r).length = 2 := rfl
@[simp] theorem celsC_len : (celsC l).length = l.length * 12 := by
 induction l with
 | nil => rfl
 | cons x l ih => simp [celsC, ih]; omega
@[simp] theorem rowsC_len : (rowsC q).length = q.length * 2 := by
 induction q with
 | nil => rfl
 | cons x l ih => simp [rowsC, ih]; omega
theorem celsC_app : celsC (l ++ m) = celsC l ++ celsC m := by
 induction l with
 | nil => rfl
 | cons x l ih => simp [celsC, ih]
theorem rowsC_app (q p : List Rw) : rowsC (q ++ p) = rowsC q ++ rowsC p := by
 induction q with
 | nil => rfl
 | cons x l ih => simp [rowsC, ih]
@[simp] theorem celsC_nil : celsC [] = [] := rfl
@[simp] theorem rowsC_nil : rowsC [] = [] := rfl
theorem celsC_drop : ∀ (l : List Cel) (k : Nat), (celsC l).drop (k * 12) = celsC (l.drop k)
 | _, 0 => by simp
 | [], k + 1 => by simp [celsC]
 | x :: l, k + 1 => by
   rw [celsC, List.drop_append, List.drop_of_length_le (by simp; omega), List.drop_succ_cons, celC_len, show (k + 1) * 12 - 12 = k * 12 by omega]
   simpa using celsC_drop l k
theorem rowsC_drop : ∀ (l : List Rw) (k : Nat), (rowsC l).drop (k * 2) = rowsC (l.drop k)
 | _, 0 => by simp
 | [], k + 1 => by simp [rowsC]
 | x :: l, k + 1 => by
   rw [rowsC, List.drop_append, List.drop_of_length_le (by simp; omega), List.drop_succ_cons, rowC_len, show (k + 1) * 2 - 2 = k * 2 by omega]
   simpa using rowsC_drop l k
theorem celsC_take (l : List Cel) (k : Nat) : (celsC l).take (k * 12) = celsC (l.take k) := by
 have e : celsC l = celsC (l.take k) ++ celsC (l.drop k) := by rw [← celsC_app, List.take_append_drop]
 rcases Nat.lt_or_ge k l.length with h | h
 · rw [e, List.take_left' (by rw [celsC_len, List.length_take]; congr 1; omega)]
 · rw [List.take_of_length_le (by rw [celsC_len]; exact Nat.mul_le_mul_right _ h), List.take_of_length_le h]
theorem rowsC_take (l : List Rw) (k : Nat) : (rowsC l).take (k * 2) = rowsC (l.take k) := by
 have e : rowsC l = rowsC (l.take k) ++ rowsC (l.drop k) := by rw [← rowsC_app, List.take_append_drop]
 rcases Nat.lt_or_ge k l.length with h | h
 · rw [e, List.take_left' (by rw [rowsC_len, List.length_take]; congr 1; omega)]
 · rw [List.take_of_length_le (by rw [rowsC_len]; exact Nat.mul_le_mul_right _ h), List.take_of_length_le h]
/-- the cells from one on -/
theorem celsC_at {l : List Cel} {k : Nat} (h : k < l.length) : (celsC l).drop (k * 12) = celC l[k] ++ celsC (l.drop (k + 1)) := by
 rw [celsC_drop, List.drop_eq_getElem_cons h]; rfl
theorem rowsC_at {l : List Rw} {k : Nat} (h : k < l.length) : (rowsC l).drop (k * 2) = rowC l[k] ++ rowsC (l.drop (k + 1)) := by
 rw [rowsC_drop, List.drop_eq_getElem_cons h]; rfl
theorem celsC_set {l : List Cel} {k : Nat} (h : k < l.length) (c : Cel) : (celsC l).take (k * 12) ++ (celC c ++ (celsC l).drop (k * 12 + 12)) = celsC (l.set k c) := by
 rw [List.set_eq_take_append_cons_drop, if_pos h, celsC_app, celsC_take, show k * 12 + 12 = (k + 1) * 12 by omega, celsC_drop]; rfl
theorem rowsC_set {l : List Rw} {k : Nat} (h : k < l.length) (c : Rw) : (rowsC l).take (k * 2) ++ (rowC c ++ (rowsC l).drop (k * 2 + 2)) = rowsC (l.set k c) := by
 rw [List.set_eq_take_append_cons_drop, if_pos h, rowsC_app, rowsC_take, show k * 2 + 2 = (k + 1) * 2 by omega, rowsC_drop]; rfl
@[simp] theorem take_cel : (celC c ++ rest).take 12 = celC c := by rw [List.take_left' (by simp)]
@[simp] theorem take_cel0 : (celC c).take 12 = celC c := by rw [List.take_of_length_le (by simp)]
@[simp] theorem drop_cel12 : (celC c ++ rest).drop 12 = rest := by rw [List.drop_left' (by simp)]
@[simp] theorem take_sty0 : (styC s).take 8 = styC s := by rw [List.take_of_length_le (by simp)]
@[simp] theorem take_sty : (styC s ++ rest).take 8 = styC s := by rw [List.take_left' (by simp)]
@[simp] theorem cel_st : (celC c).drop 4 = styC c.st := rfl
@[simp] theorem cel_st2 : (celC c ++ rest).drop 4 = styC c.st ++ rest := rfl
@[simp] theorem cel_d1 : (celC c).drop 1 = .int .i64 c.m0 :: .int .i64 c.m1 :: .int .i64 c.wide :: styC c.st := rfl
@[simp] theorem cel_d1' : (celC c).tail = .int .i64 c.m0 :: .int .i64 c.m1 :: .int .i64 c.wide :: styC c.st := rfl
@[simp] theorem cel_0 : (celC c).head? = some (.int .i64 c.base) := rfl
@[simp] theorem cel_00 : (celC c)[0]? = some (.int .i64 c.base) := rfl
@[simp] theorem cel_1 : (celC c)[1]? = some (.int .i64 c.m0) := rfl
@[simp] theorem cel_2 : (celC c)[2]? = some (.int .i64 c.m1) := rfl
@[simp] theorem cel_3 : (celC c)[3]? = some (.int .i64 c.wide) := rfl
@[simp] theorem cel_h : (celC c ++ rest).head? = some (.int .i64 c.base) := rfl
@[simp] theorem cel_t : (celC c ++ rest).tail = .int .i64 c.m0 :: .int .i64 c.m1 :: .int .i64 c.wide :: (styC c.st ++ rest) := rfl
@[simp] theorem cel_r1 : (celC c ++ rest).drop 1 = .int .i64 c.m0 :: .int .i64 c.m1 :: .int .i64 c.wide :: (styC c.st ++ rest) := rfl
@[simp] theorem cel_r2 : (celC c ++ rest).drop 2 = .int .i64 c.m1 :: .int .i64 c.wide :: (styC c.st ++ rest) := rfl
@[simp] theorem cel_r3 : (celC c ++ rest).drop 3 = .int .i64 c.wide :: (styC c.st ++ rest) := rfl
@[simp] theorem sty_0 : (styC s).head? = some (.int .i64 s.attr) := rfl
@[simp] theorem sty_00 : (styC s)[0]? = some (.int .i64 s.attr) := rfl
@[simp] theorem sty_1 : (styC s)[1]? = some (.int .i64 s.under) := rfl
@[simp] theorem sty_d2 : (styC s).drop 2 = [.int .i64 s.fk, .int .i64 s.fn, .int .i64 s.bk, .int .i64 s.bn, .int .i64 s.lk, .int .i64 s.ln] := rfl
@[simp] theorem sty_d4 : (styC s).drop 4 = [.int .i64 s.bk, .int .i64 s.bn, .int .i64 s.lk, .int .i64 s.ln] := rfl
@[simp] theorem sty_d6 : (styC s).drop 6 = [.int .i64 s.lk, .int .i64 s.ln] := rfl
@[simp] theorem row_0 : (rowC r).head? = some (.sl r.cells.length (celsC r.cells)) := rfl
@[simp] theorem row_00 : (rowC r)[0]? = some (.sl r.cells.length (celsC r.cells)) := rfl
@[simp] theorem row_1 : (rowC r)[1]? = some (.bool r.wrapped) := rfl
@[simp] theorem take_row : (rowC r ++ rest).take 2 = rowC r := rfl
@[simp] theorem take_row0 : (rowC r).take 2 = rowC r := rfl
@[simp] theorem row_h : (rowC r ++ rest).head? = some (.sl r.cells.length (celsC r.cells)) := rfl
@[simp] theorem row_r1 : (rowC r ++ rest).drop 1 = .bool r.wrapped :: rest := rfl
@[simp] theorem row_t : (rowC r ++ rest).tail = .bool r.wrapped :: rest := rfl
@[simp] theorem drop_row2 : (rowC r ++ rest).drop 2 = rest := rfl
theorem cellsEq_sty (a b : Sty) : cellsEq (styC a) (styC b) = decide (a = b) := by
 cases a; cases b
 rw [Bool.eq_iff_iff]
 simp [styC]
theorem cellsEq_cel (a b : Cel) : cellsEq (celC a) (celC b) = decide (a = b) := by
 obtain ⟨a0, a1, a2, a3, s⟩ := a
 obtain ⟨b0, b1, b2, b3, t⟩ := b
 rw [Bool.eq_iff_iff]
 simp [celC, cellsEq_sty]
attribute [simp] cellsEq_sty cellsEq_cel
@[simp] theorem kinds_sty : kindsOK [.int .i64, .int .i64, .int .i64, .int .i64, .int .i64, .int .i64, .int .i64, .int .i64] (styC s) = True := by simp [styC]
@[simp] theorem kinds_cel : kindsOK [.int .i64, .int .i64, .int .i64, .int .i64, .int .i64, .int .i64, .int .i64, .int .i64, .int .i64, .int .i64, .int .i64, .int .i64] (celC c) = True := by simp [celC, styC]
end
theorem celC_st (a b c d : Int) (s : Sty) : (C.int .i64 a :: .int .i64 b :: .int .i64 c :: .int .i64 d :: styC s) = celC ⟨a, b, c, d, s⟩ := rfl
attribute [simp] celC_st
@[simp] theorem celC_inj (a b : Cel) : celC a = celC b ↔ a = b := by
 refine ⟨fun h => ?_, fun h => by rw [h]⟩
 have := cellsEq_cel a b
 rw [h, cellsEq_cel] at this
 simpa using this
@[simp] theorem styC_inj (a b : Sty) : styC a = styC b ↔ a = b := by
 refine ⟨fun h => ?_, fun h => by rw [h]⟩
 have := cellsEq_sty a b
 rw [h, cellsEq_sty] at this
 simpa using this
theorem celsC_inj : ∀ {a b : List Cel}, celsC a = celsC b → a = b
 | [], [], _ => rfl
 | [], _ :: _, h => by have := congrArg List.length h; simp at this
 | _ :: _, [], h => by have := congrArg List.length h; simp at this
 | a :: la, b :: lb, h => by
   simp only [celsC] at h
   obtain ⟨h1, h2⟩ := List.append_inj h (by simp)
   rw [(celC_inj a b).1 h1, celsC_inj h2]
end Fen

namespace Fen
open Go
def V.cs : V → List C
 | .agg cs => cs
 | .c (.sl _ cs) => cs
 | _ => []
@[simp] theorem V.cs_agg (cs : List C) : V.cs (.agg cs) = cs := rfl
@[simp] theorem V.cs_sl (n : Nat) (cs : List C) : V.cs (.c (.sl n cs)) = cs := rfl
def stOf : List C → Sty
 | [.int _ a, .int _ b, .int _ c, .int _ d, .int _ e, .int _ f, .int _ g, .int _ h] => ⟨a, b, c, d, e, f, g, h⟩
 | _ => default
@[simp] theorem stOf_C (s : Sty) : stOf (styC s) = s := rfl
def celOf : List C → Cel
 | .int _ a :: .int _ b :: .int _ c :: .int _ d :: l => ⟨a, b, c, d, stOf l⟩
 | _ => default
@[simp] theorem celOf_C (c : Cel) : celOf (celC c) = c := rfl
def celsOf : List C → List Cel
 | .int _ a :: .int _ b :: .int _ c :: .int _ d :: .int _ e :: .int _ f :: .int _ g :: .int _ h :: .int _ i :: .int _ j :: .int _ k :: .int _ m :: l => ⟨a, b, c, d, ⟨e, f, g, h, i, j, k, m⟩⟩ :: celsOf l
 | _ => []
@[simp] theorem celsOf_C : ∀ l : List Cel, celsOf (celsC l) = l
 | [] => rfl
 | c :: l => by simp only [celsC, celC, styC, List.cons_append, List.nil_append, celsOf, celsOf_C l]
def rowOf : List C → Rw
 | [.sl _ cs, .bool w] => ⟨celsOf cs, w⟩
 | _ => default
@[simp] theorem rowOf_C (r : Rw) : rowOf (rowC r) = r := by simp [rowOf, rowC]
def rowsOf : List C → List Rw
 | .sl _ cs :: .bool w :: l => ⟨celsOf cs, w⟩ :: rowsOf l
 | _ => []
@[simp] theorem rowsOf_C : ∀ l : List Rw, rowsOf (rowsC l) = l
 | [] => rfl
 | r :: l => by simp [rowsC, rowC, rowsOf, rowsOf_C l]
@[simp] theorem styV_x (s : Sty) : (styV s).x = .agg (styC s) := rfl
@[simp] theorem celV_x (s : Cel) : (celV s).x = .agg (celC s) := rfl
@[simp] theorem rowV_x (s : Rw) : (rowV s).x = .agg (rowC s) := rfl
@[simp] theorem rowsV_x (l : List Rw) : (rowsV l).x = .val (.sl l.length (rowsC l)) := rfl
@[simp] theorem celsV_x (l : List Cel) : (celsV l).x = .val (.sl l.length (celsC l)) := rfl
@[simp] theorem V.cs_sty (s : Sty) : (styV s).cs = styC s := rfl
@[simp] theorem V.cs_cel (s : Cel) : (celV s).cs = celC s := rfl
@[simp] theorem V.cs_row (s : Rw) : (rowV s).cs = rowC s := rfl
@[simp] theorem V.cs_rows (l : List Rw) : (rowsV l).cs = rowsC l := rfl
@[simp] theorem V.cs_cels (l : List Cel) : (celsV l).cs = celsC l := rfl
@[simp] theorem agg_styV (cs : List C) (s : Sty) : (V.agg cs = styV s) = (cs = styC s) := by simp [styV]
@[simp] theorem agg_celV (cs : List C) (s : Cel) : (V.agg cs = celV s) = (cs = celC s) := by simp [celV]
@[simp] theorem agg_rowV (cs : List C) (s : Rw) : (V.agg cs = rowV s) = (cs = rowC s) := by simp [rowV]
theorem rowC_inj {a b : Rw} : rowC a = rowC b ↔ a = b := ⟨fun h => by rw [← rowOf_C a, h, rowOf_C], fun h => by rw [h]⟩
theorem rowsC_inj {a b : List Rw} : rowsC a = rowsC b ↔ a = b := ⟨fun h => by rw [← rowsOf_C a, h, rowsOf_C], fun h => by rw [h]⟩
theorem celsC_inj' {a b : List Cel} : celsC a = celsC b ↔ a = b := ⟨fun h => celsC_inj h, fun h => by rw [h]⟩
attribute [simp] rowC_inj rowsC_inj celsC_inj'
@[simp] theorem sl_rowsV (n : Nat) (cs : List C) (p : List Rw) : (V.c (.sl n cs) = rowsV p) = (cs = rowsC p ∧ n = p.length) := by simp [rowsV]; exact And.comm
@[simp] theorem sl_celsV (n : Nat) (cs : List C) (p : List Cel) : (V.c (.sl n cs) = celsV p) = (cs = celsC p ∧ n = p.length) := by simp [celsV]; exact And.comm
def colF (k n : Int) : Int := if (k = 0 ∧ n = 0) ∨ (k = 1 ∧ 0 ≤ n ∧ n ≤ 255) ∨ (k = 2 ∧ 0 ≤ n ∧ n ≤ 16777215) then 0 else 130
def styF (s : Sty) : Int :=
 if s.attr < 0 ∨ 255 < s.attr ∨ s.under < 0 ∨ 5 < s.under then 140
 else if colF s.fk s.fn = 0 ∧ colF s.bk s.bn = 0 ∧ colF s.lk s.ln = 0 then 0 else 130
theorem andNot255 {a : Int} (h : -9223372036854775808 ≤ a ∧ a ≤ 9223372036854775807) : (bits2 (fun _ x y => x &&& ~~~y) .i64 a 255 = 0) ↔ (0 ≤ a ∧ a ≤ 255) := by
 have e : ∀ x : BitVec 64, (x &&& ~~~(BitVec.ofInt 64 255)).toNat = 0 ↔ x.toNat < 256 := fun x => by
   have q : (BitVec.ofInt 64 255) = 255#64 := by decide
   rw [q]
   constructor
   · intro h0
     refine Nat.lt_pow_two_of_testBit (n := 8) _ fun i hi => ?_
     have h1 : (x &&& ~~~255#64).getLsbD i = false := by
       have : (x &&& ~~~255#64) = 0#64 := BitVec.eq_of_toNat_eq (by simpa using h0)
       rw [this]; simp
     rcases Nat.lt_or_ge i 64 with c | c
     · have h2 : (255#64).getLsbD i = false := by
         have : ∀ i, i < 64 → 8 ≤ i → (255#64).getLsbD i = false := by decide
         exact this i c hi
       simp only [BitVec.getLsbD_and, BitVec.getLsbD_not, h2, c] at h1
       simpa [BitVec.getLsbD] using h1
     · exact Nat.testBit_lt_two_pow (Nat.lt_of_lt_of_le x.isLt (Nat.pow_le_pow_right (by omega) c))
   · intro h0
     have : (x &&& ~~~255#64) = 0#64 := by
       apply BitVec.eq_of_getLsbD_eq
       intro i hi
       simp only [BitVec.getLsbD_and, BitVec.getLsbD_not, BitVec.getLsbD_zero]
       rcases Nat.lt_or_ge i 8 with c | c
       · have h2 : ∀ i, i < 8 → (255#64).getLsbD i = true := by decide
         rw [h2 i c]; simp
       · have : x.getLsbD i = false := by
           unfold BitVec.getLsbD
           exact Nat.testBit_lt_two_pow (Nat.lt_of_lt_of_le h0 (by
             have : (2 : Nat) ^ 8 ≤ 2 ^ i := Nat.pow_le_pow_right (by omega) c
             omega))
         rw [this]; simp
     rw [this]; rfl
 unfold bits2
 have w : ∀ n : Nat, n < 18446744073709551616 → (IntKind.i64.wrap (n : Int) = 0 ↔ n = 0) := fun n hn => by rw [IntKind.wrap_i64]; omega
 have hx := (BitVec.ofInt IntKind.i64.bits a).isLt
 rw [w _ (by
   have := ((BitVec.ofInt IntKind.i64.bits a) &&& ~~~(BitVec.ofInt IntKind.i64.bits 255)).isLt
   exact this)]
 refine (e (BitVec.ofInt 64 a)).trans ?_
 rw [BitVec.toNat_ofInt]
 omega
def halfF (c : Cel) : Bool := decide (c = ⟨0, 0, 0, 2, c.st⟩)
theorem halfF_iff (c : Cel) : halfF c = true ↔ c.base = 0 ∧ c.m0 = 0 ∧ c.m1 = 0 ∧ c.wide = 2 := by
 obtain ⟨a, b, d, e, s⟩ := c
 simp [halfF]
end Fen

/- The table of this seat's types, and that the program has it. Printed by a program of mine (gen.py) from the translation. -/
namespace Fen
open Go Go.Proofs
set_option maxRecDepth 10000
theorem ty1_u : Tryd.prog.underlying 1 = some (.func #[] #[] false) := by kernel_rfl
theorem ty1_i : (Tryd.prog.info? 1).map (fun i => (i.zero, i.size, i.bytes)) = some (some (.nilFunc), 1, 8) := by kernel_rfl
theorem ty2_u : Tryd.prog.underlying 2 = some (.int .i64) := by kernel_rfl
theorem ty2_i : (Tryd.prog.info? 2).map (fun i => (i.zero, i.size, i.bytes)) = some (some (.int .i64 0), 1, 8) := by kernel_rfl
theorem ty3_u : Tryd.prog.underlying 3 = some (.int .i64) := by kernel_rfl
theorem ty3_i : (Tryd.prog.info? 3).map (fun i => (i.zero, i.size, i.bytes)) = some (some (.int .i64 0), 1, 8) := by kernel_rfl
theorem ty4_u : Tryd.prog.underlying 4 = some (.bool) := by kernel_rfl
theorem ty4_i : (Tryd.prog.info? 4).map (fun i => (i.zero, i.size, i.bytes)) = some (some (.bool false), 1, 1) := by kernel_rfl
theorem ty5_u : Tryd.prog.underlying 5 = some (.int .u8) := by kernel_rfl
theorem ty5_i : (Tryd.prog.info? 5).map (fun i => (i.zero, i.size, i.bytes)) = some (some (.int .u8 0), 1, 1) := by kernel_rfl
theorem ty9_u : Tryd.prog.underlying 9 = some (.string) := by kernel_rfl
theorem ty9_i : (Tryd.prog.info? 9).map (fun i => (i.zero, i.size, i.bytes)) = some (some (.string ⟨#[]⟩), 1, 16) := by kernel_rfl
theorem ty12_u : Tryd.prog.underlying 12 = some (.int .u64) := by kernel_rfl
theorem ty12_i : (Tryd.prog.info? 12).map (fun i => (i.zero, i.size, i.bytes)) = some (some (.int .u64 0), 1, 8) := by kernel_rfl
theorem ty21_u : Tryd.prog.underlying 21 = some (.int .i32) := by kernel_rfl
theorem ty21_i : (Tryd.prog.info? 21).map (fun i => (i.zero, i.size, i.bytes)) = some (some (.int .i32 0), 1, 4) := by kernel_rfl
theorem ty22_u : Tryd.prog.underlying 22 = some (.slice 91) := by kernel_rfl
theorem ty22_i : (Tryd.prog.info? 22).map (fun i => (i.zero, i.size, i.bytes)) = some (some (.slice none 0 0), 1, 24) := by kernel_rfl
theorem ty23_u : Tryd.prog.underlying 23 = some (.array 2 5) := by kernel_rfl
theorem ty23_i : (Tryd.prog.info? 23).map (fun i => (i.zero, i.size, i.bytes)) = some (some (.agg #[.int .u8 0, .int .u8 0]), 2, 2) := by kernel_rfl
theorem ty24_u : Tryd.prog.underlying 24 = some (.struct #[{ name := "Cols", type := 5, offset := 0, embedded := false, tag := "", pkgPath := "", byteOffset := 0 }, { name := "Old", type := 22, offset := 1, embedded := false, tag := "", pkgPath := "", byteOffset := 8 }, { name := "Rows", type := 22, offset := 2, embedded := false, tag := "", pkgPath := "", byteOffset := 32 }, { name := "At", type := 23, offset := 3, embedded := false, tag := "", pkgPath := "", byteOffset := 56 }]) := by kernel_rfl
theorem ty24_i : (Tryd.prog.info? 24).map (fun i => (i.zero, i.size, i.bytes)) = some (some (.agg #[.int .u8 0, .slice none 0 0, .slice none 0 0, .int .u8 0, .int .u8 0]), 5, 64) := by kernel_rfl
theorem ty25_u : Tryd.prog.underlying 25 = some (.struct #[{ name := "Cols", type := 5, offset := 0, embedded := false, tag := "", pkgPath := "", byteOffset := 0 }, { name := "Old", type := 22, offset := 1, embedded := false, tag := "", pkgPath := "", byteOffset := 8 }, { name := "Rows", type := 22, offset := 2, embedded := false, tag := "", pkgPath := "", byteOffset := 32 }, { name := "At", type := 23, offset := 3, embedded := false, tag := "", pkgPath := "", byteOffset := 56 }]) := by kernel_rfl
theorem ty25_i : (Tryd.prog.info? 25).map (fun i => (i.zero, i.size, i.bytes)) = some (some (.agg #[.int .u8 0, .slice none 0 0, .slice none 0 0, .int .u8 0, .int .u8 0]), 5, 64) := by kernel_rfl
theorem ty26_u : Tryd.prog.underlying 26 = some (.struct #[{ name := "Row", type := 3, offset := 0, embedded := false, tag := "", pkgPath := "", byteOffset := 0 }, { name := "Col", type := 3, offset := 1, embedded := false, tag := "", pkgPath := "", byteOffset := 8 }]) := by kernel_rfl
theorem ty26_i : (Tryd.prog.info? 26).map (fun i => (i.zero, i.size, i.bytes)) = some (some (.agg #[.int .i64 0, .int .i64 0]), 2, 16) := by kernel_rfl
theorem ty27_u : Tryd.prog.underlying 27 = some (.struct #[{ name := "Row", type := 3, offset := 0, embedded := false, tag := "", pkgPath := "", byteOffset := 0 }, { name := "Col", type := 3, offset := 1, embedded := false, tag := "", pkgPath := "", byteOffset := 8 }]) := by kernel_rfl
theorem ty27_i : (Tryd.prog.info? 27).map (fun i => (i.zero, i.size, i.bytes)) = some (some (.agg #[.int .i64 0, .int .i64 0]), 2, 16) := by kernel_rfl
theorem ty28_u : Tryd.prog.underlying 28 = some (.slice 77) := by kernel_rfl
theorem ty28_i : (Tryd.prog.info? 28).map (fun i => (i.zero, i.size, i.bytes)) = some (some (.slice none 0 0), 1, 24) := by kernel_rfl
theorem ty29_u : Tryd.prog.underlying 29 = some (.struct #[{ name := "Cells", type := 28, offset := 0, embedded := false, tag := "", pkgPath := "", byteOffset := 0 }, { name := "Wrapped", type := 4, offset := 1, embedded := false, tag := "", pkgPath := "", byteOffset := 24 }]) := by kernel_rfl
theorem ty29_i : (Tryd.prog.info? 29).map (fun i => (i.zero, i.size, i.bytes)) = some (some (.agg #[.slice none 0 0, .bool false]), 2, 32) := by kernel_rfl
theorem ty30_u : Tryd.prog.underlying 30 = some (.struct #[{ name := "Cells", type := 28, offset := 0, embedded := false, tag := "", pkgPath := "", byteOffset := 0 }, { name := "Wrapped", type := 4, offset := 1, embedded := false, tag := "", pkgPath := "", byteOffset := 24 }]) := by kernel_rfl
theorem ty30_i : (Tryd.prog.info? 30).map (fun i => (i.zero, i.size, i.bytes)) = some (some (.agg #[.slice none 0 0, .bool false]), 2, 32) := by kernel_rfl
theorem ty31_u : Tryd.prog.underlying 31 = some (.struct #[{ name := "At", type := 27, offset := 0, embedded := false, tag := "", pkgPath := "", byteOffset := 0 }, { name := "Row", type := 30, offset := 2, embedded := false, tag := "", pkgPath := "", byteOffset := 16 }, { name := "Past", type := 4, offset := 4, embedded := false, tag := "", pkgPath := "", byteOffset := 48 }, { name := "K", type := 5, offset := 5, embedded := false, tag := "", pkgPath := "", byteOffset := 49 }]) := by kernel_rfl
theorem ty31_i : (Tryd.prog.info? 31).map (fun i => (i.zero, i.size, i.bytes)) = some (some (.agg #[.int .i64 0, .int .i64 0, .slice none 0 0, .bool false, .bool false, .int .u8 0]), 6, 56) := by kernel_rfl
theorem ty32_u : Tryd.prog.underlying 32 = some (.struct #[{ name := "At", type := 27, offset := 0, embedded := false, tag := "", pkgPath := "", byteOffset := 0 }, { name := "Row", type := 30, offset := 2, embedded := false, tag := "", pkgPath := "", byteOffset := 16 }, { name := "Past", type := 4, offset := 4, embedded := false, tag := "", pkgPath := "", byteOffset := 48 }, { name := "K", type := 5, offset := 5, embedded := false, tag := "", pkgPath := "", byteOffset := 49 }]) := by kernel_rfl
theorem ty32_i : (Tryd.prog.info? 32).map (fun i => (i.zero, i.size, i.bytes)) = some (some (.agg #[.int .i64 0, .int .i64 0, .slice none 0 0, .bool false, .bool false, .int .u8 0]), 6, 56) := by kernel_rfl
theorem ty33_u : Tryd.prog.underlying 33 = some (.slice 30) := by kernel_rfl
theorem ty33_i : (Tryd.prog.info? 33).map (fun i => (i.zero, i.size, i.bytes)) = some (some (.slice none 0 0), 1, 24) := by kernel_rfl
theorem ty34_u : Tryd.prog.underlying 34 = some (.struct #[{ name := "Past", type := 33, offset := 0, embedded := false, tag := "", pkgPath := "", byteOffset := 0 }, { name := "Rows", type := 33, offset := 1, embedded := false, tag := "", pkgPath := "", byteOffset := 24 }, { name := "At", type := 27, offset := 2, embedded := false, tag := "", pkgPath := "", byteOffset := 48 }]) := by kernel_rfl
theorem ty34_i : (Tryd.prog.info? 34).map (fun i => (i.zero, i.size, i.bytes)) = some (some (.agg #[.slice none 0 0, .slice none 0 0, .int .i64 0, .int .i64 0]), 4, 64) := by kernel_rfl
theorem ty35_u : Tryd.prog.underlying 35 = some (.struct #[{ name := "Past", type := 33, offset := 0, embedded := false, tag := "", pkgPath := "", byteOffset := 0 }, { name := "Rows", type := 33, offset := 1, embedded := false, tag := "", pkgPath := "", byteOffset := 24 }, { name := "At", type := 27, offset := 2, embedded := false, tag := "", pkgPath := "", byteOffset := 48 }]) := by kernel_rfl
theorem ty35_i : (Tryd.prog.info? 35).map (fun i => (i.zero, i.size, i.bytes)) = some (some (.agg #[.slice none 0 0, .slice none 0 0, .int .i64 0, .int .i64 0]), 4, 64) := by kernel_rfl
theorem ty36_u : Tryd.prog.underlying 36 = some (.func #[] #[35] false) := by kernel_rfl
theorem ty36_i : (Tryd.prog.info? 36).map (fun i => (i.zero, i.size, i.bytes)) = some (some (.nilFunc), 1, 8) := by kernel_rfl
theorem ty37_u : Tryd.prog.underlying 37 = some (.func #[35] #[35] false) := by kernel_rfl
theorem ty37_i : (Tryd.prog.info? 37).map (fun i => (i.zero, i.size, i.bytes)) = some (some (.nilFunc), 1, 8) := by kernel_rfl
theorem ty38_u : Tryd.prog.underlying 38 = some (.array 2 35) := by kernel_rfl
theorem ty38_i : (Tryd.prog.info? 38).map (fun i => (i.zero, i.size, i.bytes)) = some (some (.agg #[.slice none 0 0, .slice none 0 0, .int .i64 0, .int .i64 0, .slice none 0 0, .slice none 0 0, .int .i64 0, .int .i64 0]), 8, 128) := by kernel_rfl
theorem ty39_u : Tryd.prog.underlying 39 = some (.slice 28) := by kernel_rfl
theorem ty39_i : (Tryd.prog.info? 39).map (fun i => (i.zero, i.size, i.bytes)) = some (some (.slice none 0 0), 1, 24) := by kernel_rfl
theorem ty40_u : Tryd.prog.underlying 40 = some (.int .i64) := by kernel_rfl
theorem ty40_i : (Tryd.prog.info? 40).map (fun i => (i.zero, i.size, i.bytes)) = some (some (.int .i64 0), 1, 8) := by kernel_rfl
theorem ty42_u : Tryd.prog.underlying 42 = some (.func #[43] #[39, 40] false) := by kernel_rfl
theorem ty42_i : (Tryd.prog.info? 42).map (fun i => (i.zero, i.size, i.bytes)) = some (some (.nilFunc), 1, 8) := by kernel_rfl
theorem ty43_u : Tryd.prog.underlying 43 = some (.struct #[{ name := "Past", type := 33, offset := 0, embedded := false, tag := "", pkgPath := "", byteOffset := 0 }, { name := "Rows", type := 33, offset := 1, embedded := false, tag := "", pkgPath := "", byteOffset := 24 }, { name := "At", type := 27, offset := 2, embedded := false, tag := "", pkgPath := "", byteOffset := 48 }]) := by kernel_rfl
theorem ty43_i : (Tryd.prog.info? 43).map (fun i => (i.zero, i.size, i.bytes)) = some (some (.agg #[.slice none 0 0, .slice none 0 0, .int .i64 0, .int .i64 0]), 4, 64) := by kernel_rfl
theorem ty44_u : Tryd.prog.underlying 44 = some (.func #[35] #[43] false) := by kernel_rfl
theorem ty44_i : (Tryd.prog.info? 44).map (fun i => (i.zero, i.size, i.bytes)) = some (some (.nilFunc), 1, 8) := by kernel_rfl
theorem ty45_u : Tryd.prog.underlying 45 = some (.func #[35] #[4] false) := by kernel_rfl
theorem ty45_i : (Tryd.prog.info? 45).map (fun i => (i.zero, i.size, i.bytes)) = some (some (.nilFunc), 1, 8) := by kernel_rfl
theorem ty46_u : Tryd.prog.underlying 46 = some (.func #[43] #[40] false) := by kernel_rfl
theorem ty46_i : (Tryd.prog.info? 46).map (fun i => (i.zero, i.size, i.bytes)) = some (some (.nilFunc), 1, 8) := by kernel_rfl
theorem ty47_u : Tryd.prog.underlying 47 = some (.func #[35] #[39] false) := by kernel_rfl
theorem ty47_i : (Tryd.prog.info? 47).map (fun i => (i.zero, i.size, i.bytes)) = some (some (.nilFunc), 1, 8) := by kernel_rfl
theorem ty48_u : Tryd.prog.underlying 48 = some (.func #[30, 30] #[4] false) := by kernel_rfl
theorem ty48_i : (Tryd.prog.info? 48).map (fun i => (i.zero, i.size, i.bytes)) = some (some (.nilFunc), 1, 8) := by kernel_rfl
theorem ty49_u : Tryd.prog.underlying 49 = some (.func #[] #[4] false) := by kernel_rfl
theorem ty49_i : (Tryd.prog.info? 49).map (fun i => (i.zero, i.size, i.bytes)) = some (some (.nilFunc), 1, 8) := by kernel_rfl
theorem ty50_u : Tryd.prog.underlying 50 = some (.func #[25, 32] #[4] false) := by kernel_rfl
theorem ty50_i : (Tryd.prog.info? 50).map (fun i => (i.zero, i.size, i.bytes)) = some (some (.nilFunc), 1, 8) := by kernel_rfl
theorem ty51_u : Tryd.prog.underlying 51 = some (.array 2 3) := by kernel_rfl
theorem ty51_i : (Tryd.prog.info? 51).map (fun i => (i.zero, i.size, i.bytes)) = some (some (.agg #[.int .i64 0, .int .i64 0]), 2, 16) := by kernel_rfl
theorem ty52_u : Tryd.prog.underlying 52 = some (.int .u64) := by kernel_rfl
theorem ty52_i : (Tryd.prog.info? 52).map (fun i => (i.zero, i.size, i.bytes)) = some (some (.int .u64 0), 1, 8) := by kernel_rfl
theorem ty53_u : Tryd.prog.underlying 53 = some (.array 3 51) := by kernel_rfl
theorem ty53_i : (Tryd.prog.info? 53).map (fun i => (i.zero, i.size, i.bytes)) = some (some (.agg #[.int .i64 0, .int .i64 0, .int .i64 0, .int .i64 0, .int .i64 0, .int .i64 0]), 6, 48) := by kernel_rfl
theorem ty55_u : Tryd.prog.underlying 55 = some (.func #[43, 3, 3] #[43, 40] false) := by kernel_rfl
theorem ty55_i : (Tryd.prog.info? 55).map (fun i => (i.zero, i.size, i.bytes)) = some (some (.nilFunc), 1, 8) := by kernel_rfl
theorem ty56_u : Tryd.prog.underlying 56 = some (.func #[3, 3] #[4] false) := by kernel_rfl
theorem ty56_i : (Tryd.prog.info? 56).map (fun i => (i.zero, i.size, i.bytes)) = some (some (.nilFunc), 1, 8) := by kernel_rfl
theorem ty57_u : Tryd.prog.underlying 57 = some (.func #[35, 3, 3] #[35] false) := by kernel_rfl
theorem ty57_i : (Tryd.prog.info? 57).map (fun i => (i.zero, i.size, i.bytes)) = some (some (.nilFunc), 1, 8) := by kernel_rfl
theorem ty58_u : Tryd.prog.underlying 58 = some (.func #[35, 35] #[4] false) := by kernel_rfl
theorem ty58_i : (Tryd.prog.info? 58).map (fun i => (i.zero, i.size, i.bytes)) = some (some (.nilFunc), 1, 8) := by kernel_rfl
theorem ty59_u : Tryd.prog.underlying 59 = some (.func #[43] #[35] false) := by kernel_rfl
theorem ty59_i : (Tryd.prog.info? 59).map (fun i => (i.zero, i.size, i.bytes)) = some (some (.nilFunc), 1, 8) := by kernel_rfl
theorem ty60_u : Tryd.prog.underlying 60 = some (.func #[25, 32, 51, 23] #[4] false) := by kernel_rfl
theorem ty60_i : (Tryd.prog.info? 60).map (fun i => (i.zero, i.size, i.bytes)) = some (some (.nilFunc), 1, 8) := by kernel_rfl
theorem ty61_u : Tryd.prog.underlying 61 = some (.struct #[{ name := "Cols", type := 5, offset := 0, embedded := false, tag := "", pkgPath := "", byteOffset := 0 }, { name := "L", type := 22, offset := 1, embedded := false, tag := "", pkgPath := "", byteOffset := 8 }]) := by kernel_rfl
theorem ty61_i : (Tryd.prog.info? 61).map (fun i => (i.zero, i.size, i.bytes)) = some (some (.agg #[.int .u8 0, .slice none 0 0]), 2, 32) := by kernel_rfl
theorem ty62_u : Tryd.prog.underlying 62 = some (.struct #[{ name := "Cols", type := 5, offset := 0, embedded := false, tag := "", pkgPath := "", byteOffset := 0 }, { name := "L", type := 22, offset := 1, embedded := false, tag := "", pkgPath := "", byteOffset := 8 }]) := by kernel_rfl
theorem ty62_i : (Tryd.prog.info? 62).map (fun i => (i.zero, i.size, i.bytes)) = some (some (.agg #[.int .u8 0, .slice none 0 0]), 2, 32) := by kernel_rfl
theorem ty63_u : Tryd.prog.underlying 63 = some (.func #[] #[33] false) := by kernel_rfl
theorem ty63_i : (Tryd.prog.info? 63).map (fun i => (i.zero, i.size, i.bytes)) = some (some (.nilFunc), 1, 8) := by kernel_rfl
theorem ty64_u : Tryd.prog.underlying 64 = some (.array 2 33) := by kernel_rfl
theorem ty64_i : (Tryd.prog.info? 64).map (fun i => (i.zero, i.size, i.bytes)) = some (some (.agg #[.slice none 0 0, .slice none 0 0]), 2, 48) := by kernel_rfl
theorem ty66_u : Tryd.prog.underlying 66 = some (.func #[33, 3, 3] #[33, 40] false) := by kernel_rfl
theorem ty66_i : (Tryd.prog.info? 66).map (fun i => (i.zero, i.size, i.bytes)) = some (some (.nilFunc), 1, 8) := by kernel_rfl
theorem ty67_u : Tryd.prog.underlying 67 = some (.func #[33] #[4] false) := by kernel_rfl
theorem ty67_i : (Tryd.prog.info? 67).map (fun i => (i.zero, i.size, i.bytes)) = some (some (.nilFunc), 1, 8) := by kernel_rfl
theorem ty68_u : Tryd.prog.underlying 68 = some (.func #[33, 3, 3] #[33] false) := by kernel_rfl
theorem ty68_i : (Tryd.prog.info? 68).map (fun i => (i.zero, i.size, i.bytes)) = some (some (.nilFunc), 1, 8) := by kernel_rfl
theorem ty69_u : Tryd.prog.underlying 69 = some (.func #[33, 33] #[4] false) := by kernel_rfl
theorem ty69_i : (Tryd.prog.info? 69).map (fun i => (i.zero, i.size, i.bytes)) = some (some (.nilFunc), 1, 8) := by kernel_rfl
theorem ty70_u : Tryd.prog.underlying 70 = some (.func #[62, 30, 5, 51] #[4] false) := by kernel_rfl
theorem ty70_i : (Tryd.prog.info? 70).map (fun i => (i.zero, i.size, i.bytes)) = some (some (.nilFunc), 1, 8) := by kernel_rfl
theorem ty71_u : Tryd.prog.underlying 71 = some (.func #[43] #[4] false) := by kernel_rfl
theorem ty71_i : (Tryd.prog.info? 71).map (fun i => (i.zero, i.size, i.bytes)) = some (some (.nilFunc), 1, 8) := by kernel_rfl
theorem ty72_u : Tryd.prog.underlying 72 = some (.struct #[{ name := "Kind", type := 3, offset := 0, embedded := false, tag := "", pkgPath := "", byteOffset := 0 }, { name := "N", type := 3, offset := 1, embedded := false, tag := "", pkgPath := "", byteOffset := 8 }]) := by kernel_rfl
theorem ty72_i : (Tryd.prog.info? 72).map (fun i => (i.zero, i.size, i.bytes)) = some (some (.agg #[.int .i64 0, .int .i64 0]), 2, 16) := by kernel_rfl
theorem ty73_u : Tryd.prog.underlying 73 = some (.struct #[{ name := "Kind", type := 3, offset := 0, embedded := false, tag := "", pkgPath := "", byteOffset := 0 }, { name := "N", type := 3, offset := 1, embedded := false, tag := "", pkgPath := "", byteOffset := 8 }]) := by kernel_rfl
theorem ty73_i : (Tryd.prog.info? 73).map (fun i => (i.zero, i.size, i.bytes)) = some (some (.agg #[.int .i64 0, .int .i64 0]), 2, 16) := by kernel_rfl
theorem ty74_u : Tryd.prog.underlying 74 = some (.struct #[{ name := "Attr", type := 3, offset := 0, embedded := false, tag := "", pkgPath := "", byteOffset := 0 }, { name := "Under", type := 3, offset := 1, embedded := false, tag := "", pkgPath := "", byteOffset := 8 }, { name := "Fore", type := 73, offset := 2, embedded := false, tag := "", pkgPath := "", byteOffset := 16 }, { name := "Back", type := 73, offset := 4, embedded := false, tag := "", pkgPath := "", byteOffset := 32 }, { name := "Line", type := 73, offset := 6, embedded := false, tag := "", pkgPath := "", byteOffset := 48 }]) := by kernel_rfl
theorem ty74_i : (Tryd.prog.info? 74).map (fun i => (i.zero, i.size, i.bytes)) = some (some (.agg #[.int .i64 0, .int .i64 0, .int .i64 0, .int .i64 0, .int .i64 0, .int .i64 0, .int .i64 0, .int .i64 0]), 8, 64) := by kernel_rfl
theorem ty75_u : Tryd.prog.underlying 75 = some (.struct #[{ name := "Attr", type := 3, offset := 0, embedded := false, tag := "", pkgPath := "", byteOffset := 0 }, { name := "Under", type := 3, offset := 1, embedded := false, tag := "", pkgPath := "", byteOffset := 8 }, { name := "Fore", type := 73, offset := 2, embedded := false, tag := "", pkgPath := "", byteOffset := 16 }, { name := "Back", type := 73, offset := 4, embedded := false, tag := "", pkgPath := "", byteOffset := 32 }, { name := "Line", type := 73, offset := 6, embedded := false, tag := "", pkgPath := "", byteOffset := 48 }]) := by kernel_rfl
theorem ty75_i : (Tryd.prog.info? 75).map (fun i => (i.zero, i.size, i.bytes)) = some (some (.agg #[.int .i64 0, .int .i64 0, .int .i64 0, .int .i64 0, .int .i64 0, .int .i64 0, .int .i64 0, .int .i64 0]), 8, 64) := by kernel_rfl
theorem ty76_u : Tryd.prog.underlying 76 = some (.struct #[{ name := "Base", type := 3, offset := 0, embedded := false, tag := "", pkgPath := "", byteOffset := 0 }, { name := "Marks", type := 51, offset := 1, embedded := false, tag := "", pkgPath := "", byteOffset := 8 }, { name := "Wide", type := 3, offset := 3, embedded := false, tag := "", pkgPath := "", byteOffset := 24 }, { name := "Style", type := 75, offset := 4, embedded := false, tag := "", pkgPath := "", byteOffset := 32 }]) := by kernel_rfl
theorem ty76_i : (Tryd.prog.info? 76).map (fun i => (i.zero, i.size, i.bytes)) = some (some (.agg #[.int .i64 0, .int .i64 0, .int .i64 0, .int .i64 0, .int .i64 0, .int .i64 0, .int .i64 0, .int .i64 0, .int .i64 0, .int .i64 0, .int .i64 0, .int .i64 0]), 12, 96) := by kernel_rfl
theorem ty77_u : Tryd.prog.underlying 77 = some (.struct #[{ name := "Base", type := 3, offset := 0, embedded := false, tag := "", pkgPath := "", byteOffset := 0 }, { name := "Marks", type := 51, offset := 1, embedded := false, tag := "", pkgPath := "", byteOffset := 8 }, { name := "Wide", type := 3, offset := 3, embedded := false, tag := "", pkgPath := "", byteOffset := 24 }, { name := "Style", type := 75, offset := 4, embedded := false, tag := "", pkgPath := "", byteOffset := 32 }]) := by kernel_rfl
theorem ty77_i : (Tryd.prog.info? 77).map (fun i => (i.zero, i.size, i.bytes)) = some (some (.agg #[.int .i64 0, .int .i64 0, .int .i64 0, .int .i64 0, .int .i64 0, .int .i64 0, .int .i64 0, .int .i64 0, .int .i64 0, .int .i64 0, .int .i64 0, .int .i64 0]), 12, 96) := by kernel_rfl
theorem ty78_u : Tryd.prog.underlying 78 = some (.func #[43] #[77] false) := by kernel_rfl
theorem ty78_i : (Tryd.prog.info? 78).map (fun i => (i.zero, i.size, i.bytes)) = some (some (.nilFunc), 1, 8) := by kernel_rfl
theorem ty79_u : Tryd.prog.underlying 79 = some (.func #[39] #[39] false) := by kernel_rfl
theorem ty79_i : (Tryd.prog.info? 79).map (fun i => (i.zero, i.size, i.bytes)) = some (some (.nilFunc), 1, 8) := by kernel_rfl
theorem ty80_u : Tryd.prog.underlying 80 = some (.func #[28, 28] #[4] false) := by kernel_rfl
theorem ty80_i : (Tryd.prog.info? 80).map (fun i => (i.zero, i.size, i.bytes)) = some (some (.nilFunc), 1, 8) := by kernel_rfl
theorem ty81_u : Tryd.prog.underlying 81 = some (.func #[25, 23] #[4] false) := by kernel_rfl
theorem ty81_i : (Tryd.prog.info? 81).map (fun i => (i.zero, i.size, i.bytes)) = some (some (.nilFunc), 1, 8) := by kernel_rfl
theorem ty82_u : Tryd.prog.underlying 82 = some (.func #[25, 5] #[4] false) := by kernel_rfl
theorem ty82_i : (Tryd.prog.info? 82).map (fun i => (i.zero, i.size, i.bytes)) = some (some (.nilFunc), 1, 8) := by kernel_rfl
theorem ty83_u : Tryd.prog.underlying 83 = some (.func #[33] #[40] false) := by kernel_rfl
theorem ty83_i : (Tryd.prog.info? 83).map (fun i => (i.zero, i.size, i.bytes)) = some (some (.nilFunc), 1, 8) := by kernel_rfl
theorem ty84_u : Tryd.prog.underlying 84 = some (.func #[62, 23] #[4] false) := by kernel_rfl
theorem ty84_i : (Tryd.prog.info? 84).map (fun i => (i.zero, i.size, i.bytes)) = some (some (.nilFunc), 1, 8) := by kernel_rfl
theorem ty85_u : Tryd.prog.underlying 85 = some (.func #[3, 87] #[33] true) := by kernel_rfl
theorem ty85_i : (Tryd.prog.info? 85).map (fun i => (i.zero, i.size, i.bytes)) = some (some (.nilFunc), 1, 8) := by kernel_rfl
theorem ty86_u : Tryd.prog.underlying 86 = some (.func #[43, 40, 3, 87, 87, 3, 3] #[4] false) := by kernel_rfl
theorem ty86_i : (Tryd.prog.info? 86).map (fun i => (i.zero, i.size, i.bytes)) = some (some (.nilFunc), 1, 8) := by kernel_rfl
theorem ty87_u : Tryd.prog.underlying 87 = some (.slice 9) := by kernel_rfl
theorem ty87_i : (Tryd.prog.info? 87).map (fun i => (i.zero, i.size, i.bytes)) = some (some (.slice none 0 0), 1, 24) := by kernel_rfl
theorem ty88_u : Tryd.prog.underlying 88 = some (.slice 43) := by kernel_rfl
theorem ty88_i : (Tryd.prog.info? 88).map (fun i => (i.zero, i.size, i.bytes)) = some (some (.slice none 0 0), 1, 24) := by kernel_rfl
theorem ty89_u : Tryd.prog.underlying 89 = some (.slice 5) := by kernel_rfl
theorem ty89_i : (Tryd.prog.info? 89).map (fun i => (i.zero, i.size, i.bytes)) = some (some (.slice none 0 0), 1, 24) := by kernel_rfl
theorem ty90_u : Tryd.prog.underlying 90 = some (.struct #[{ name := "Cols", type := 5, offset := 0, embedded := false, tag := "", pkgPath := "", byteOffset := 0 }, { name := "B", type := 89, offset := 1, embedded := false, tag := "", pkgPath := "", byteOffset := 8 }, { name := "Wrapped", type := 4, offset := 2, embedded := false, tag := "", pkgPath := "", byteOffset := 32 }]) := by kernel_rfl
theorem ty90_i : (Tryd.prog.info? 90).map (fun i => (i.zero, i.size, i.bytes)) = some (some (.agg #[.int .u8 0, .slice none 0 0, .bool false]), 3, 40) := by kernel_rfl
theorem ty91_u : Tryd.prog.underlying 91 = some (.struct #[{ name := "Cols", type := 5, offset := 0, embedded := false, tag := "", pkgPath := "", byteOffset := 0 }, { name := "B", type := 89, offset := 1, embedded := false, tag := "", pkgPath := "", byteOffset := 8 }, { name := "Wrapped", type := 4, offset := 2, embedded := false, tag := "", pkgPath := "", byteOffset := 32 }]) := by kernel_rfl
theorem ty91_i : (Tryd.prog.info? 91).map (fun i => (i.zero, i.size, i.bytes)) = some (some (.agg #[.int .u8 0, .slice none 0 0, .bool false]), 3, 40) := by kernel_rfl
theorem ty92_u : Tryd.prog.underlying 92 = some (.func #[] #[30] false) := by kernel_rfl
theorem ty92_i : (Tryd.prog.info? 92).map (fun i => (i.zero, i.size, i.bytes)) = some (some (.nilFunc), 1, 8) := by kernel_rfl
theorem ty93_u : Tryd.prog.underlying 93 = some (.func #[121] #[] false) := by kernel_rfl
theorem ty93_i : (Tryd.prog.info? 93).map (fun i => (i.zero, i.size, i.bytes)) = some (some (.nilFunc), 1, 8) := by kernel_rfl
theorem ty94_u : Tryd.prog.underlying 94 = some (.func #[121] #[] false) := by kernel_rfl
theorem ty94_i : (Tryd.prog.info? 94).map (fun i => (i.zero, i.size, i.bytes)) = some (some (.nilFunc), 1, 8) := by kernel_rfl
theorem ty95_u : Tryd.prog.underlying 95 = some (.func #[] #[94] false) := by kernel_rfl
theorem ty95_i : (Tryd.prog.info? 95).map (fun i => (i.zero, i.size, i.bytes)) = some (some (.nilFunc), 1, 8) := by kernel_rfl
theorem ty96_u : Tryd.prog.underlying 96 = some (.struct #[{ name := "cells", type := 28, offset := 0, embedded := false, tag := "", pkgPath := "fenestra/reflow", byteOffset := 0 }, { name := "open", type := 4, offset := 1, embedded := false, tag := "", pkgPath := "fenestra/reflow", byteOffset := 24 }, { name := "at", type := 3, offset := 2, embedded := false, tag := "", pkgPath := "fenestra/reflow", byteOffset := 32 }, { name := "first", type := 3, offset := 3, embedded := false, tag := "", pkgPath := "fenestra/reflow", byteOffset := 40 }]) := by kernel_rfl
theorem ty96_i : (Tryd.prog.info? 96).map (fun i => (i.zero, i.size, i.bytes)) = some (some (.agg #[.slice none 0 0, .bool false, .int .i64 0, .int .i64 0]), 4, 48) := by kernel_rfl
theorem ty97_u : Tryd.prog.underlying 97 = some (.struct #[{ name := "cells", type := 28, offset := 0, embedded := false, tag := "", pkgPath := "fenestra/reflow", byteOffset := 0 }, { name := "open", type := 4, offset := 1, embedded := false, tag := "", pkgPath := "fenestra/reflow", byteOffset := 24 }, { name := "at", type := 3, offset := 2, embedded := false, tag := "", pkgPath := "fenestra/reflow", byteOffset := 32 }, { name := "first", type := 3, offset := 3, embedded := false, tag := "", pkgPath := "fenestra/reflow", byteOffset := 40 }]) := by kernel_rfl
theorem ty97_i : (Tryd.prog.info? 97).map (fun i => (i.zero, i.size, i.bytes)) = some (some (.agg #[.slice none 0 0, .bool false, .int .i64 0, .int .i64 0]), 4, 48) := by kernel_rfl
theorem ty98_u : Tryd.prog.underlying 98 = some (.func #[30] #[3] false) := by kernel_rfl
theorem ty98_i : (Tryd.prog.info? 98).map (fun i => (i.zero, i.size, i.bytes)) = some (some (.nilFunc), 1, 8) := by kernel_rfl
theorem ty99_u : Tryd.prog.underlying 99 = some (.func #[3, 33] #[4] false) := by kernel_rfl
theorem ty99_i : (Tryd.prog.info? 99).map (fun i => (i.zero, i.size, i.bytes)) = some (some (.nilFunc), 1, 8) := by kernel_rfl
theorem ty100_u : Tryd.prog.underlying 100 = some (.func #[3, 33] #[40] false) := by kernel_rfl
theorem ty100_i : (Tryd.prog.info? 100).map (fun i => (i.zero, i.size, i.bytes)) = some (some (.nilFunc), 1, 8) := by kernel_rfl
theorem ty101_u : Tryd.prog.underlying 101 = some (.func #[] #[3] false) := by kernel_rfl
theorem ty101_i : (Tryd.prog.info? 101).map (fun i => (i.zero, i.size, i.bytes)) = some (some (.nilFunc), 1, 8) := by kernel_rfl
theorem ty102_u : Tryd.prog.underlying 102 = some (.slice 105) := by kernel_rfl
theorem ty102_i : (Tryd.prog.info? 102).map (fun i => (i.zero, i.size, i.bytes)) = some (some (.slice none 0 0), 1, 24) := by kernel_rfl
theorem ty103_u : Tryd.prog.underlying 103 = some (.func #[] #[102] false) := by kernel_rfl
theorem ty103_i : (Tryd.prog.info? 103).map (fun i => (i.zero, i.size, i.bytes)) = some (some (.nilFunc), 1, 8) := by kernel_rfl
theorem ty104_u : Tryd.prog.underlying 104 = some (.struct #[{ name := "Cells", type := 28, offset := 0, embedded := false, tag := "", pkgPath := "", byteOffset := 0 }, { name := "Open", type := 4, offset := 1, embedded := false, tag := "", pkgPath := "", byteOffset := 24 }, { name := "At", type := 3, offset := 2, embedded := false, tag := "", pkgPath := "", byteOffset := 32 }, { name := "First", type := 3, offset := 3, embedded := false, tag := "", pkgPath := "", byteOffset := 40 }]) := by kernel_rfl
theorem ty104_i : (Tryd.prog.info? 104).map (fun i => (i.zero, i.size, i.bytes)) = some (some (.agg #[.slice none 0 0, .bool false, .int .i64 0, .int .i64 0]), 4, 48) := by kernel_rfl
theorem ty105_u : Tryd.prog.underlying 105 = some (.struct #[{ name := "Cells", type := 28, offset := 0, embedded := false, tag := "", pkgPath := "", byteOffset := 0 }, { name := "Open", type := 4, offset := 1, embedded := false, tag := "", pkgPath := "", byteOffset := 24 }, { name := "At", type := 3, offset := 2, embedded := false, tag := "", pkgPath := "", byteOffset := 32 }, { name := "First", type := 3, offset := 3, embedded := false, tag := "", pkgPath := "", byteOffset := 40 }]) := by kernel_rfl
theorem ty105_i : (Tryd.prog.info? 105).map (fun i => (i.zero, i.size, i.bytes)) = some (some (.agg #[.slice none 0 0, .bool false, .int .i64 0, .int .i64 0]), 4, 48) := by kernel_rfl
theorem ty106_u : Tryd.prog.underlying 106 = some (.struct #[{ name := "rows", type := 33, offset := 0, embedded := false, tag := "", pkgPath := "fenestra/reflow", byteOffset := 0 }, { name := "border", type := 3, offset := 1, embedded := false, tag := "", pkgPath := "fenestra/reflow", byteOffset := 24 }, { name := "at", type := 27, offset := 2, embedded := false, tag := "", pkgPath := "fenestra/reflow", byteOffset := 32 }]) := by kernel_rfl
theorem ty106_i : (Tryd.prog.info? 106).map (fun i => (i.zero, i.size, i.bytes)) = some (some (.agg #[.slice none 0 0, .int .i64 0, .int .i64 0, .int .i64 0]), 4, 48) := by kernel_rfl
theorem ty107_u : Tryd.prog.underlying 107 = some (.struct #[{ name := "rows", type := 33, offset := 0, embedded := false, tag := "", pkgPath := "fenestra/reflow", byteOffset := 0 }, { name := "border", type := 3, offset := 1, embedded := false, tag := "", pkgPath := "fenestra/reflow", byteOffset := 24 }, { name := "at", type := 27, offset := 2, embedded := false, tag := "", pkgPath := "fenestra/reflow", byteOffset := 32 }]) := by kernel_rfl
theorem ty107_i : (Tryd.prog.info? 107).map (fun i => (i.zero, i.size, i.bytes)) = some (some (.agg #[.slice none 0 0, .int .i64 0, .int .i64 0, .int .i64 0]), 4, 48) := by kernel_rfl
theorem ty108_u : Tryd.prog.underlying 108 = some (.func #[3] #[107] false) := by kernel_rfl
theorem ty108_i : (Tryd.prog.info? 108).map (fun i => (i.zero, i.size, i.bytes)) = some (some (.nilFunc), 1, 8) := by kernel_rfl
theorem ty110_u : Tryd.prog.underlying 110 = some (.func #[3, 75] #[30, 40] false) := by kernel_rfl
theorem ty110_i : (Tryd.prog.info? 110).map (fun i => (i.zero, i.size, i.bytes)) = some (some (.nilFunc), 1, 8) := by kernel_rfl
theorem ty112_u : Tryd.prog.underlying 112 = some (.func #[35, 3] #[33, 3, 27] false) := by kernel_rfl
theorem ty112_i : (Tryd.prog.info? 112).map (fun i => (i.zero, i.size, i.bytes)) = some (some (.nilFunc), 1, 8) := by kernel_rfl
theorem ty113_u : Tryd.prog.underlying 113 = some (.func #[30] #[4] false) := by kernel_rfl
theorem ty113_i : (Tryd.prog.info? 113).map (fun i => (i.zero, i.size, i.bytes)) = some (some (.nilFunc), 1, 8) := by kernel_rfl
theorem ty114_u : Tryd.prog.underlying 114 = some (.func #[3, 3, 75] #[33] false) := by kernel_rfl
theorem ty114_i : (Tryd.prog.info? 114).map (fun i => (i.zero, i.size, i.bytes)) = some (some (.nilFunc), 1, 8) := by kernel_rfl
theorem ty115_u : Tryd.prog.underlying 115 = some (.func #[3, 3, 75] #[33, 40] false) := by kernel_rfl
theorem ty115_i : (Tryd.prog.info? 115).map (fun i => (i.zero, i.size, i.bytes)) = some (some (.nilFunc), 1, 8) := by kernel_rfl
theorem ty116_u : Tryd.prog.underlying 116 = some (.func #[] #[77] false) := by kernel_rfl
theorem ty116_i : (Tryd.prog.info? 116).map (fun i => (i.zero, i.size, i.bytes)) = some (some (.nilFunc), 1, 8) := by kernel_rfl
theorem ty117_u : Tryd.prog.underlying 117 = some (.func #[30] #[40] false) := by kernel_rfl
theorem ty117_i : (Tryd.prog.info? 117).map (fun i => (i.zero, i.size, i.bytes)) = some (some (.nilFunc), 1, 8) := by kernel_rfl
theorem ty118_u : Tryd.prog.underlying 118 = some (.func #[33] #[3] false) := by kernel_rfl
theorem ty118_i : (Tryd.prog.info? 118).map (fun i => (i.zero, i.size, i.bytes)) = some (some (.nilFunc), 1, 8) := by kernel_rfl
theorem ty119_u : Tryd.prog.underlying 119 = some (.func #[75] #[77] false) := by kernel_rfl
theorem ty119_i : (Tryd.prog.info? 119).map (fun i => (i.zero, i.size, i.bytes)) = some (some (.nilFunc), 1, 8) := by kernel_rfl
theorem ty120_u : Tryd.prog.underlying 120 = some (.func #[5, 5] #[77] false) := by kernel_rfl
theorem ty120_i : (Tryd.prog.info? 120).map (fun i => (i.zero, i.size, i.bytes)) = some (some (.nilFunc), 1, 8) := by kernel_rfl
theorem ty121_u : Tryd.prog.underlying 121 = some (.func #[97] #[4] false) := by kernel_rfl
theorem ty121_i : (Tryd.prog.info? 121).map (fun i => (i.zero, i.size, i.bytes)) = some (some (.nilFunc), 1, 8) := by kernel_rfl
theorem ty122_u : Tryd.prog.underlying 122 = some (.func #[140] #[33] true) := by kernel_rfl
theorem ty122_i : (Tryd.prog.info? 122).map (fun i => (i.zero, i.size, i.bytes)) = some (some (.nilFunc), 1, 8) := by kernel_rfl
theorem ty123_u : Tryd.prog.underlying 123 = some (.func #[33, 3] #[3] false) := by kernel_rfl
theorem ty123_i : (Tryd.prog.info? 123).map (fun i => (i.zero, i.size, i.bytes)) = some (some (.nilFunc), 1, 8) := by kernel_rfl
theorem ty124_u : Tryd.prog.underlying 124 = some (.pointer 127) := by kernel_rfl
theorem ty124_i : (Tryd.prog.info? 124).map (fun i => (i.zero, i.size, i.bytes)) = some (some (.pointer none), 1, 8) := by kernel_rfl
theorem ty125_u : Tryd.prog.underlying 125 = some (.func #[30] #[] false) := by kernel_rfl
theorem ty125_i : (Tryd.prog.info? 125).map (fun i => (i.zero, i.size, i.bytes)) = some (some (.nilFunc), 1, 8) := by kernel_rfl
theorem ty126_u : Tryd.prog.underlying 126 = some (.struct #[{ name := "Row", type := 30, offset := 0, embedded := true, tag := "", pkgPath := "", byteOffset := 0 }, { name := "cols", type := 3, offset := 2, embedded := false, tag := "", pkgPath := "fenestra/reflow", byteOffset := 32 }, { name := "full", type := 125, offset := 3, embedded := false, tag := "", pkgPath := "fenestra/reflow", byteOffset := 40 }]) := by kernel_rfl
theorem ty126_i : (Tryd.prog.info? 126).map (fun i => (i.zero, i.size, i.bytes)) = some (some (.agg #[.slice none 0 0, .bool false, .int .i64 0, .nilFunc]), 4, 48) := by kernel_rfl
theorem ty127_u : Tryd.prog.underlying 127 = some (.struct #[{ name := "Row", type := 30, offset := 0, embedded := true, tag := "", pkgPath := "", byteOffset := 0 }, { name := "cols", type := 3, offset := 2, embedded := false, tag := "", pkgPath := "fenestra/reflow", byteOffset := 32 }, { name := "full", type := 125, offset := 3, embedded := false, tag := "", pkgPath := "fenestra/reflow", byteOffset := 40 }]) := by kernel_rfl
theorem ty127_i : (Tryd.prog.info? 127).map (fun i => (i.zero, i.size, i.bytes)) = some (some (.agg #[.slice none 0 0, .bool false, .int .i64 0, .nilFunc]), 4, 48) := by kernel_rfl
theorem ty128_u : Tryd.prog.underlying 128 = some (.func #[77] #[] false) := by kernel_rfl
theorem ty128_i : (Tryd.prog.info? 128).map (fun i => (i.zero, i.size, i.bytes)) = some (some (.nilFunc), 1, 8) := by kernel_rfl
theorem ty129_u : Tryd.prog.underlying 129 = some (.func #[4] #[] false) := by kernel_rfl
theorem ty129_i : (Tryd.prog.info? 129).map (fun i => (i.zero, i.size, i.bytes)) = some (some (.nilFunc), 1, 8) := by kernel_rfl
theorem ty130_u : Tryd.prog.underlying 130 = some (.func #[75] #[40] false) := by kernel_rfl
theorem ty130_i : (Tryd.prog.info? 130).map (fun i => (i.zero, i.size, i.bytes)) = some (some (.nilFunc), 1, 8) := by kernel_rfl
theorem ty131_u : Tryd.prog.underlying 131 = some (.func #[28, 3] #[28] false) := by kernel_rfl
theorem ty131_i : (Tryd.prog.info? 131).map (fun i => (i.zero, i.size, i.bytes)) = some (some (.nilFunc), 1, 8) := by kernel_rfl
theorem ty132_u : Tryd.prog.underlying 132 = some (.slice 27) := by kernel_rfl
theorem ty132_i : (Tryd.prog.info? 132).map (fun i => (i.zero, i.size, i.bytes)) = some (some (.slice none 0 0), 1, 24) := by kernel_rfl
theorem ty134_u : Tryd.prog.underlying 134 = some (.func #[105, 3] #[33, 132] false) := by kernel_rfl
theorem ty134_i : (Tryd.prog.info? 134).map (fun i => (i.zero, i.size, i.bytes)) = some (some (.nilFunc), 1, 8) := by kernel_rfl
theorem ty135_u : Tryd.prog.underlying 135 = some (.func #[3, 75] #[28] false) := by kernel_rfl
theorem ty135_i : (Tryd.prog.info? 135).map (fun i => (i.zero, i.size, i.bytes)) = some (some (.nilFunc), 1, 8) := by kernel_rfl
theorem ty136_u : Tryd.prog.underlying 136 = some (.func #[77] #[40] false) := by kernel_rfl
theorem ty136_i : (Tryd.prog.info? 136).map (fun i => (i.zero, i.size, i.bytes)) = some (some (.nilFunc), 1, 8) := by kernel_rfl
theorem ty137_u : Tryd.prog.underlying 137 = some (.func #[5] #[3] false) := by kernel_rfl
theorem ty137_i : (Tryd.prog.info? 137).map (fun i => (i.zero, i.size, i.bytes)) = some (some (.nilFunc), 1, 8) := by kernel_rfl
theorem ty138_u : Tryd.prog.underlying 138 = some (.func #[5] #[75] false) := by kernel_rfl
theorem ty138_i : (Tryd.prog.info? 138).map (fun i => (i.zero, i.size, i.bytes)) = some (some (.nilFunc), 1, 8) := by kernel_rfl
theorem ty139_u : Tryd.prog.underlying 139 = some (.func #[3] #[3] false) := by kernel_rfl
theorem ty139_i : (Tryd.prog.info? 139).map (fun i => (i.zero, i.size, i.bytes)) = some (some (.nilFunc), 1, 8) := by kernel_rfl
theorem ty140_u : Tryd.prog.underlying 140 = some (.slice 33) := by kernel_rfl
theorem ty140_i : (Tryd.prog.info? 140).map (fun i => (i.zero, i.size, i.bytes)) = some (some (.slice none 0 0), 1, 24) := by kernel_rfl
theorem ty141_u : Tryd.prog.underlying 141 = some (.func #[33, 3] #[33] false) := by kernel_rfl
theorem ty141_i : (Tryd.prog.info? 141).map (fun i => (i.zero, i.size, i.bytes)) = some (some (.nilFunc), 1, 8) := by kernel_rfl
theorem ty142_u : Tryd.prog.underlying 142 = some (.array 3 73) := by kernel_rfl
theorem ty142_i : (Tryd.prog.info? 142).map (fun i => (i.zero, i.size, i.bytes)) = some (some (.agg #[.int .i64 0, .int .i64 0, .int .i64 0, .int .i64 0, .int .i64 0, .int .i64 0]), 6, 48) := by kernel_rfl
theorem ty143_u : Tryd.prog.underlying 143 = some (.func #[73] #[40] false) := by kernel_rfl
theorem ty143_i : (Tryd.prog.info? 143).map (fun i => (i.zero, i.size, i.bytes)) = some (some (.nilFunc), 1, 8) := by kernel_rfl
theorem ty145_u : Tryd.prog.underlying 145 = some (.func #[52, 52] #[52, 52] false) := by kernel_rfl
theorem ty145_i : (Tryd.prog.info? 145).map (fun i => (i.zero, i.size, i.bytes)) = some (some (.nilFunc), 1, 8) := by kernel_rfl
theorem ty146_u : Tryd.prog.underlying 146 = some (.func #[77] #[4] false) := by kernel_rfl
theorem ty146_i : (Tryd.prog.info? 146).map (fun i => (i.zero, i.size, i.bytes)) = some (some (.nilFunc), 1, 8) := by kernel_rfl
theorem ty147_u : Tryd.prog.underlying 147 = some (.func #[51] #[4] false) := by kernel_rfl
theorem ty147_i : (Tryd.prog.info? 147).map (fun i => (i.zero, i.size, i.bytes)) = some (some (.nilFunc), 1, 8) := by kernel_rfl
theorem ty148_u : Tryd.prog.underlying 148 = some (.array 8 3) := by kernel_rfl
theorem ty148_i : (Tryd.prog.info? 148).map (fun i => (i.zero, i.size, i.bytes)) = some (some (.agg #[.int .i64 0, .int .i64 0, .int .i64 0, .int .i64 0, .int .i64 0, .int .i64 0, .int .i64 0, .int .i64 0]), 8, 64) := by kernel_rfl
theorem ty149_u : Tryd.prog.underlying 149 = some (.array 8 75) := by kernel_rfl
theorem ty149_i : (Tryd.prog.info? 149).map (fun i => (i.zero, i.size, i.bytes)) = some (some (.agg #[.int .i64 0, .int .i64 0, .int .i64 0, .int .i64 0, .int .i64 0, .int .i64 0, .int .i64 0, .int .i64 0, .int .i64 0, .int .i64 0, .int .i64 0, .int .i64 0, .int .i64 0, .int .i64 0, .int .i64 0, .int .i64 0, .int .i64 0, .int .i64 0, .int .i64 0, .int .i64 0, .int .i64 0, .int .i64 0, .int .i64 0, .int .i64 0, .int .i64 0, .int .i64 0, .int .i64 0, .int .i64 0, .int .i64 0, .int .i64 0, .int .i64 0, .int .i64 0, .int .i64 0, .int .i64 0, .int .i64 0, .int .i64 0, .int .i64 0, .int .i64 0, .int .i64 0, .int .i64 0, .int .i64 0, .int .i64 0, .int .i64 0, .int .i64 0, .int .i64 0, .int .i64 0, .int .i64 0, .int .i64 0, .int .i64 0, .int .i64 0, .int .i64 0, .int .i64 0, .int .i64 0, .int .i64 0, .int .i64 0, .int .i64 0, .int .i64 0, .int .i64 0, .int .i64 0, .int .i64 0, .int .i64 0, .int .i64 0, .int .i64 0, .int .i64 0]), 64, 512) := by kernel_rfl
theorem ty150_u : Tryd.prog.underlying 150 = some (.func #[3] #[4] false) := by kernel_rfl
theorem ty150_i : (Tryd.prog.info? 150).map (fun i => (i.zero, i.size, i.bytes)) = some (some (.nilFunc), 1, 8) := by kernel_rfl
theorem ty151_u : Tryd.prog.underlying 151 = some (.func #[152, 3] #[4] false) := by kernel_rfl
theorem ty151_i : (Tryd.prog.info? 151).map (fun i => (i.zero, i.size, i.bytes)) = some (some (.nilFunc), 1, 8) := by kernel_rfl
theorem ty152_u : Tryd.prog.underlying 152 = some (.slice 51) := by kernel_rfl
theorem ty152_i : (Tryd.prog.info? 152).map (fun i => (i.zero, i.size, i.bytes)) = some (some (.slice none 0 0), 1, 24) := by kernel_rfl
theorem ty153_u : Tryd.prog.underlying 153 = some (.func #[] #[152] false) := by kernel_rfl
theorem ty153_i : (Tryd.prog.info? 153).map (fun i => (i.zero, i.size, i.bytes)) = some (some (.nilFunc), 1, 8) := by kernel_rfl
theorem ty154_u : Tryd.prog.underlying 154 = some (.array 3 3) := by kernel_rfl
theorem ty154_i : (Tryd.prog.info? 154).map (fun i => (i.zero, i.size, i.bytes)) = some (some (.agg #[.int .i64 0, .int .i64 0, .int .i64 0]), 3, 24) := by kernel_rfl
theorem ty155_u : Tryd.prog.underlying 155 = some (.func #[] #[154] false) := by kernel_rfl
theorem ty155_i : (Tryd.prog.info? 155).map (fun i => (i.zero, i.size, i.bytes)) = some (some (.nilFunc), 1, 8) := by kernel_rfl
theorem ty156_u : Tryd.prog.underlying 156 = some (.int .u32) := by kernel_rfl
theorem ty156_i : (Tryd.prog.info? 156).map (fun i => (i.zero, i.size, i.bytes)) = some (some (.int .u32 0), 1, 4) := by kernel_rfl
theorem ty158_u : Tryd.prog.underlying 158 = some (.func #[156, 156] #[156, 156] false) := by kernel_rfl
theorem ty158_i : (Tryd.prog.info? 158).map (fun i => (i.zero, i.size, i.bytes)) = some (some (.nilFunc), 1, 8) := by kernel_rfl
theorem ty159_u : Tryd.prog.underlying 159 = some (.int .u64) := by kernel_rfl
theorem ty159_i : (Tryd.prog.info? 159).map (fun i => (i.zero, i.size, i.bytes)) = some (some (.int .u64 0), 1, 8) := by kernel_rfl
theorem ty161_u : Tryd.prog.underlying 161 = some (.func #[159, 159] #[159, 159] false) := by kernel_rfl
theorem ty161_i : (Tryd.prog.info? 161).map (fun i => (i.zero, i.size, i.bytes)) = some (some (.nilFunc), 1, 8) := by kernel_rfl
theorem ty162_u : Tryd.prog.underlying 162 = some (.func #[3, 166] #[4] true) := by kernel_rfl
theorem ty162_i : (Tryd.prog.info? 162).map (fun i => (i.zero, i.size, i.bytes)) = some (some (.nilFunc), 1, 8) := by kernel_rfl
theorem ty163_u : Tryd.prog.underlying 163 = some (.struct #[{ name := "from", type := 3, offset := 0, embedded := false, tag := "", pkgPath := "fenestra/width", byteOffset := 0 }, { name := "to", type := 3, offset := 1, embedded := false, tag := "", pkgPath := "fenestra/width", byteOffset := 8 }]) := by kernel_rfl
theorem ty163_i : (Tryd.prog.info? 163).map (fun i => (i.zero, i.size, i.bytes)) = some (some (.agg #[.int .i64 0, .int .i64 0]), 2, 16) := by kernel_rfl
theorem ty164_u : Tryd.prog.underlying 164 = some (.struct #[{ name := "from", type := 3, offset := 0, embedded := false, tag := "", pkgPath := "fenestra/width", byteOffset := 0 }, { name := "to", type := 3, offset := 1, embedded := false, tag := "", pkgPath := "fenestra/width", byteOffset := 8 }]) := by kernel_rfl
theorem ty164_i : (Tryd.prog.info? 164).map (fun i => (i.zero, i.size, i.bytes)) = some (some (.agg #[.int .i64 0, .int .i64 0]), 2, 16) := by kernel_rfl
theorem ty165_u : Tryd.prog.underlying 165 = some (.array 11 164) := by kernel_rfl
theorem ty165_i : (Tryd.prog.info? 165).map (fun i => (i.zero, i.size, i.bytes)) = some (some (.agg #[.int .i64 0, .int .i64 0, .int .i64 0, .int .i64 0, .int .i64 0, .int .i64 0, .int .i64 0, .int .i64 0, .int .i64 0, .int .i64 0, .int .i64 0, .int .i64 0, .int .i64 0, .int .i64 0, .int .i64 0, .int .i64 0, .int .i64 0, .int .i64 0, .int .i64 0, .int .i64 0, .int .i64 0, .int .i64 0]), 22, 176) := by kernel_rfl
theorem ty166_u : Tryd.prog.underlying 166 = some (.slice 164) := by kernel_rfl
theorem ty166_i : (Tryd.prog.info? 166).map (fun i => (i.zero, i.size, i.bytes)) = some (some (.slice none 0 0), 1, 24) := by kernel_rfl
theorem ty167_u : Tryd.prog.underlying 167 = some (.array 13 164) := by kernel_rfl
theorem ty167_i : (Tryd.prog.info? 167).map (fun i => (i.zero, i.size, i.bytes)) = some (some (.agg #[.int .i64 0, .int .i64 0, .int .i64 0, .int .i64 0, .int .i64 0, .int .i64 0, .int .i64 0, .int .i64 0, .int .i64 0, .int .i64 0, .int .i64 0, .int .i64 0, .int .i64 0, .int .i64 0, .int .i64 0, .int .i64 0, .int .i64 0, .int .i64 0, .int .i64 0, .int .i64 0, .int .i64 0, .int .i64 0, .int .i64 0, .int .i64 0, .int .i64 0, .int .i64 0]), 26, 208) := by kernel_rfl
theorem ty168_u : Tryd.prog.underlying 168 = some (.func #[] #[9] false) := by kernel_rfl
theorem ty168_i : (Tryd.prog.info? 168).map (fun i => (i.zero, i.size, i.bytes)) = some (some (.nilFunc), 1, 8) := by kernel_rfl
theorem ty171_u : Tryd.prog.underlying 171 = some (.array 0 16) := by kernel_rfl
theorem ty171_i : (Tryd.prog.info? 171).map (fun i => (i.zero, i.size, i.bytes)) = some (some (.agg #[]), 0, 0) := by kernel_rfl
theorem ty176_u : Tryd.prog.underlying 176 = some (.func #[182, 182] #[4] false) := by kernel_rfl
theorem ty176_i : (Tryd.prog.info? 176).map (fun i => (i.zero, i.size, i.bytes)) = some (some (.nilFunc), 1, 8) := by kernel_rfl
theorem ty177_u : Tryd.prog.underlying 177 = some (.pointer 5) := by kernel_rfl
theorem ty177_i : (Tryd.prog.info? 177).map (fun i => (i.zero, i.size, i.bytes)) = some (some (.pointer none), 1, 8) := by kernel_rfl
theorem ty180_u : Tryd.prog.underlying 180 = some (.struct #[{ name := "Size_", type := 12, offset := 0, embedded := false, tag := "", pkgPath := "", byteOffset := 0 }, { name := "PtrBytes", type := 12, offset := 1, embedded := false, tag := "", pkgPath := "", byteOffset := 8 }, { name := "Hash", type := 156, offset := 2, embedded := false, tag := "", pkgPath := "", byteOffset := 16 }, { name := "TFlag", type := 174, offset := 3, embedded := false, tag := "", pkgPath := "", byteOffset := 20 }, { name := "Align_", type := 5, offset := 4, embedded := false, tag := "", pkgPath := "", byteOffset := 21 }, { name := "FieldAlign_", type := 5, offset := 5, embedded := false, tag := "", pkgPath := "", byteOffset := 22 }, { name := "Kind_", type := 175, offset := 6, embedded := false, tag := "", pkgPath := "", byteOffset := 23 }, { name := "Equal", type := 176, offset := 7, embedded := false, tag := "", pkgPath := "", byteOffset := 24 }, { name := "GCData", type := 177, offset := 8, embedded := false, tag := "", pkgPath := "", byteOffset := 32 }, { name := "Str", type := 178, offset := 9, embedded := false, tag := "", pkgPath := "", byteOffset := 40 }, { name := "PtrToThis", type := 179, offset := 10, embedded := false, tag := "", pkgPath := "", byteOffset := 44 }]) := by kernel_rfl
theorem ty180_i : (Tryd.prog.info? 180).map (fun i => (i.zero, i.size, i.bytes)) = some (some (.agg #[.int .u64 0, .int .u64 0, .int .u32 0, .int .u8 0, .int .u8 0, .int .u8 0, .int .u8 0, .nilFunc, .pointer none, .int .i32 0, .int .i32 0]), 11, 48) := by kernel_rfl
def tt : List (Nat × TI) := [(1, ⟨.other, 1, 8, [.val .nilf]⟩),
 (2, ⟨.int .i64, 1, 8, [.val (.int .i64 0)]⟩),
 (3, ⟨.int .i64, 1, 8, [.val (.int .i64 0)]⟩),
 (4, ⟨.bool, 1, 1, [.val (.bool false)]⟩),
 (5, ⟨.int .u8, 1, 1, [.val (.int .u8 0)]⟩),
 (9, ⟨.str, 1, 16, [.val (.str [])]⟩),
 (12, ⟨.int .u64, 1, 8, [.val (.int .u64 0)]⟩),
 (21, ⟨.int .i32, 1, 4, [.val (.int .i32 0)]⟩),
 (22, ⟨.slice 91, 1, 24, [.nil]⟩),
 (23, ⟨.array 2 5, 2, 2, [.val (.int .u8 0), .val (.int .u8 0)]⟩),
 (24, ⟨.struct [(0, 5), (1, 22), (2, 22), (3, 23)], 5, 64, [.val (.int .u8 0), .nil, .nil, .val (.int .u8 0), .val (.int .u8 0)]⟩),
 (25, ⟨.struct [(0, 5), (1, 22), (2, 22), (3, 23)], 5, 64, [.val (.int .u8 0), .nil, .nil, .val (.int .u8 0), .val (.int .u8 0)]⟩),
 (26, ⟨.struct [(0, 3), (1, 3)], 2, 16, [.val (.int .i64 0), .val (.int .i64 0)]⟩),
 (27, ⟨.struct [(0, 3), (1, 3)], 2, 16, [.val (.int .i64 0), .val (.int .i64 0)]⟩),
 (28, ⟨.slice 77, 1, 24, [.nil]⟩),
 (29, ⟨.struct [(0, 28), (1, 4)], 2, 32, [.nil, .val (.bool false)]⟩),
 (30, ⟨.struct [(0, 28), (1, 4)], 2, 32, [.nil, .val (.bool false)]⟩),
 (31, ⟨.struct [(0, 27), (2, 30), (4, 4), (5, 5)], 6, 56, [.val (.int .i64 0), .val (.int .i64 0), .nil, .val (.bool false), .val (.bool false), .val (.int .u8 0)]⟩),
 (32, ⟨.struct [(0, 27), (2, 30), (4, 4), (5, 5)], 6, 56, [.val (.int .i64 0), .val (.int .i64 0), .nil, .val (.bool false), .val (.bool false), .val (.int .u8 0)]⟩),
 (33, ⟨.slice 30, 1, 24, [.nil]⟩),
 (34, ⟨.struct [(0, 33), (1, 33), (2, 27)], 4, 64, [.nil, .nil, .val (.int .i64 0), .val (.int .i64 0)]⟩),
 (35, ⟨.struct [(0, 33), (1, 33), (2, 27)], 4, 64, [.nil, .nil, .val (.int .i64 0), .val (.int .i64 0)]⟩),
 (36, ⟨.other, 1, 8, [.val .nilf]⟩),
 (37, ⟨.other, 1, 8, [.val .nilf]⟩),
 (38, ⟨.array 2 35, 8, 128, [.nil, .nil, .val (.int .i64 0), .val (.int .i64 0), .nil, .nil, .val (.int .i64 0), .val (.int .i64 0)]⟩),
 (39, ⟨.slice 28, 1, 24, [.nil]⟩),
 (40, ⟨.int .i64, 1, 8, [.val (.int .i64 0)]⟩),
 (42, ⟨.other, 1, 8, [.val .nilf]⟩),
 (43, ⟨.struct [(0, 33), (1, 33), (2, 27)], 4, 64, [.nil, .nil, .val (.int .i64 0), .val (.int .i64 0)]⟩),
 (44, ⟨.other, 1, 8, [.val .nilf]⟩),
 (45, ⟨.other, 1, 8, [.val .nilf]⟩),
 (46, ⟨.other, 1, 8, [.val .nilf]⟩),
 (47, ⟨.other, 1, 8, [.val .nilf]⟩),
 (48, ⟨.other, 1, 8, [.val .nilf]⟩),
 (49, ⟨.other, 1, 8, [.val .nilf]⟩),
 (50, ⟨.other, 1, 8, [.val .nilf]⟩),
 (51, ⟨.array 2 3, 2, 16, [.val (.int .i64 0), .val (.int .i64 0)]⟩),
 (52, ⟨.int .u64, 1, 8, [.val (.int .u64 0)]⟩),
 (53, ⟨.array 3 51, 6, 48, [.val (.int .i64 0), .val (.int .i64 0), .val (.int .i64 0), .val (.int .i64 0), .val (.int .i64 0), .val (.int .i64 0)]⟩),
 (55, ⟨.other, 1, 8, [.val .nilf]⟩),
 (56, ⟨.other, 1, 8, [.val .nilf]⟩),
 (57, ⟨.other, 1, 8, [.val .nilf]⟩),
 (58, ⟨.other, 1, 8, [.val .nilf]⟩),
 (59, ⟨.other, 1, 8, [.val .nilf]⟩),
 (60, ⟨.other, 1, 8, [.val .nilf]⟩),
 (61, ⟨.struct [(0, 5), (1, 22)], 2, 32, [.val (.int .u8 0), .nil]⟩),
 (62, ⟨.struct [(0, 5), (1, 22)], 2, 32, [.val (.int .u8 0), .nil]⟩),
 (63, ⟨.other, 1, 8, [.val .nilf]⟩),
 (64, ⟨.array 2 33, 2, 48, [.nil, .nil]⟩),
 (66, ⟨.other, 1, 8, [.val .nilf]⟩),
 (67, ⟨.other, 1, 8, [.val .nilf]⟩),
 (68, ⟨.other, 1, 8, [.val .nilf]⟩),
 (69, ⟨.other, 1, 8, [.val .nilf]⟩),
 (70, ⟨.other, 1, 8, [.val .nilf]⟩),
 (71, ⟨.other, 1, 8, [.val .nilf]⟩),
 (72, ⟨.struct [(0, 3), (1, 3)], 2, 16, [.val (.int .i64 0), .val (.int .i64 0)]⟩),
 (73, ⟨.struct [(0, 3), (1, 3)], 2, 16, [.val (.int .i64 0), .val (.int .i64 0)]⟩),
 (74, ⟨.struct [(0, 3), (1, 3), (2, 73), (4, 73), (6, 73)], 8, 64, [.val (.int .i64 0), .val (.int .i64 0), .val (.int .i64 0), .val (.int .i64 0), .val (.int .i64 0), .val (.int .i64 0), .val (.int .i64 0), .val (.int .i64 0)]⟩),
 (75, ⟨.struct [(0, 3), (1, 3), (2, 73), (4, 73), (6, 73)], 8, 64, [.val (.int .i64 0), .val (.int .i64 0), .val (.int .i64 0), .val (.int .i64 0), .val (.int .i64 0), .val (.int .i64 0), .val (.int .i64 0), .val (.int .i64 0)]⟩),
 (76, ⟨.struct [(0, 3), (1, 51), (3, 3), (4, 75)], 12, 96, [.val (.int .i64 0), .val (.int .i64 0), .val (.int .i64 0), .val (.int .i64 0), .val (.int .i64 0), .val (.int .i64 0), .val (.int .i64 0), .val (.int .i64 0), .val (.int .i64 0), .val (.int .i64 0), .val (.int .i64 0), .val (.int .i64 0)]⟩),
 (77, ⟨.struct [(0, 3), (1, 51), (3, 3), (4, 75)], 12, 96, [.val (.int .i64 0), .val (.int .i64 0), .val (.int .i64 0), .val (.int .i64 0), .val (.int .i64 0), .val (.int .i64 0), .val (.int .i64 0), .val (.int .i64 0), .val (.int .i64 0), .val (.int .i64 0), .val (.int .i64 0), .val (.int .i64 0)]⟩),
 (78, ⟨.other, 1, 8, [.val .nilf]⟩),
 (79, ⟨.other, 1, 8, [.val .nilf]⟩),
 (80, ⟨.other, 1, 8, [.val .nilf]⟩),
 (81, ⟨.other, 1, 8, [.val .nilf]⟩),
 (82, ⟨.other, 1, 8, [.val .nilf]⟩),
 (83, ⟨.other, 1, 8, [.val .nilf]⟩),
 (84, ⟨.other, 1, 8, [.val .nilf]⟩),
 (85, ⟨.other, 1, 8, [.val .nilf]⟩),
 (86, ⟨.other, 1, 8, [.val .nilf]⟩),
 (87, ⟨.slice 9, 1, 24, [.nil]⟩),
 (88, ⟨.slice 43, 1, 24, [.nil]⟩),
 (89, ⟨.slice 5, 1, 24, [.nil]⟩),
 (90, ⟨.struct [(0, 5), (1, 89), (2, 4)], 3, 40, [.val (.int .u8 0), .nil, .val (.bool false)]⟩),
 (91, ⟨.struct [(0, 5), (1, 89), (2, 4)], 3, 40, [.val (.int .u8 0), .nil, .val (.bool false)]⟩),
 (92, ⟨.other, 1, 8, [.val .nilf]⟩),
 (93, ⟨.other, 1, 8, [.val .nilf]⟩),
 (94, ⟨.other, 1, 8, [.val .nilf]⟩),
 (95, ⟨.other, 1, 8, [.val .nilf]⟩),
 (96, ⟨.struct [(0, 28), (1, 4), (2, 3), (3, 3)], 4, 48, [.nil, .val (.bool false), .val (.int .i64 0), .val (.int .i64 0)]⟩),
 (97, ⟨.struct [(0, 28), (1, 4), (2, 3), (3, 3)], 4, 48, [.nil, .val (.bool false), .val (.int .i64 0), .val (.int .i64 0)]⟩),
 (98, ⟨.other, 1, 8, [.val .nilf]⟩),
 (99, ⟨.other, 1, 8, [.val .nilf]⟩),
 (100, ⟨.other, 1, 8, [.val .nilf]⟩),
 (101, ⟨.other, 1, 8, [.val .nilf]⟩),
 (102, ⟨.slice 105, 1, 24, [.nil]⟩),
 (103, ⟨.other, 1, 8, [.val .nilf]⟩),
 (104, ⟨.struct [(0, 28), (1, 4), (2, 3), (3, 3)], 4, 48, [.nil, .val (.bool false), .val (.int .i64 0), .val (.int .i64 0)]⟩),
 (105, ⟨.struct [(0, 28), (1, 4), (2, 3), (3, 3)], 4, 48, [.nil, .val (.bool false), .val (.int .i64 0), .val (.int .i64 0)]⟩),
 (106, ⟨.struct [(0, 33), (1, 3), (2, 27)], 4, 48, [.nil, .val (.int .i64 0), .val (.int .i64 0), .val (.int .i64 0)]⟩),
 (107, ⟨.struct [(0, 33), (1, 3), (2, 27)], 4, 48, [.nil, .val (.int .i64 0), .val (.int .i64 0), .val (.int .i64 0)]⟩),
 (108, ⟨.other, 1, 8, [.val .nilf]⟩),
 (110, ⟨.other, 1, 8, [.val .nilf]⟩),
 (112, ⟨.other, 1, 8, [.val .nilf]⟩),
 (113, ⟨.other, 1, 8, [.val .nilf]⟩),
 (114, ⟨.other, 1, 8, [.val .nilf]⟩),
 (115, ⟨.other, 1, 8, [.val .nilf]⟩),
 (116, ⟨.other, 1, 8, [.val .nilf]⟩),
 (117, ⟨.other, 1, 8, [.val .nilf]⟩),
 (118, ⟨.other, 1, 8, [.val .nilf]⟩),
 (119, ⟨.other, 1, 8, [.val .nilf]⟩),
 (120, ⟨.other, 1, 8, [.val .nilf]⟩),
 (121, ⟨.other, 1, 8, [.val .nilf]⟩),
 (122, ⟨.other, 1, 8, [.val .nilf]⟩),
 (123, ⟨.other, 1, 8, [.val .nilf]⟩),
 (124, ⟨.other, 1, 8, [.val .nilp]⟩),
 (125, ⟨.other, 1, 8, [.val .nilf]⟩),
 (126, ⟨.struct [(0, 30), (2, 3), (3, 125)], 4, 48, [.nil, .val (.bool false), .val (.int .i64 0), .val .nilf]⟩),
 (127, ⟨.struct [(0, 30), (2, 3), (3, 125)], 4, 48, [.nil, .val (.bool false), .val (.int .i64 0), .val .nilf]⟩),
 (128, ⟨.other, 1, 8, [.val .nilf]⟩),
 (129, ⟨.other, 1, 8, [.val .nilf]⟩),
 (130, ⟨.other, 1, 8, [.val .nilf]⟩),
 (131, ⟨.other, 1, 8, [.val .nilf]⟩),
 (132, ⟨.slice 27, 1, 24, [.nil]⟩),
 (134, ⟨.other, 1, 8, [.val .nilf]⟩),
 (135, ⟨.other, 1, 8, [.val .nilf]⟩),
 (136, ⟨.other, 1, 8, [.val .nilf]⟩),
 (137, ⟨.other, 1, 8, [.val .nilf]⟩),
 (138, ⟨.other, 1, 8, [.val .nilf]⟩),
 (139, ⟨.other, 1, 8, [.val .nilf]⟩),
 (140, ⟨.slice 33, 1, 24, [.nil]⟩),
 (141, ⟨.other, 1, 8, [.val .nilf]⟩),
 (142, ⟨.array 3 73, 6, 48, [.val (.int .i64 0), .val (.int .i64 0), .val (.int .i64 0), .val (.int .i64 0), .val (.int .i64 0), .val (.int .i64 0)]⟩),
 (143, ⟨.other, 1, 8, [.val .nilf]⟩),
 (145, ⟨.other, 1, 8, [.val .nilf]⟩),
 (146, ⟨.other, 1, 8, [.val .nilf]⟩),
 (147, ⟨.other, 1, 8, [.val .nilf]⟩),
 (148, ⟨.array 8 3, 8, 64, [.val (.int .i64 0), .val (.int .i64 0), .val (.int .i64 0), .val (.int .i64 0), .val (.int .i64 0), .val (.int .i64 0), .val (.int .i64 0), .val (.int .i64 0)]⟩),
 (149, ⟨.array 8 75, 64, 512, [.val (.int .i64 0), .val (.int .i64 0), .val (.int .i64 0), .val (.int .i64 0), .val (.int .i64 0), .val (.int .i64 0), .val (.int .i64 0), .val (.int .i64 0), .val (.int .i64 0), .val (.int .i64 0), .val (.int .i64 0), .val (.int .i64 0), .val (.int .i64 0), .val (.int .i64 0), .val (.int .i64 0), .val (.int .i64 0), .val (.int .i64 0), .val (.int .i64 0), .val (.int .i64 0), .val (.int .i64 0), .val (.int .i64 0), .val (.int .i64 0), .val (.int .i64 0), .val (.int .i64 0), .val (.int .i64 0), .val (.int .i64 0), .val (.int .i64 0), .val (.int .i64 0), .val (.int .i64 0), .val (.int .i64 0), .val (.int .i64 0), .val (.int .i64 0), .val (.int .i64 0), .val (.int .i64 0), .val (.int .i64 0), .val (.int .i64 0), .val (.int .i64 0), .val (.int .i64 0), .val (.int .i64 0), .val (.int .i64 0), .val (.int .i64 0), .val (.int .i64 0), .val (.int .i64 0), .val (.int .i64 0), .val (.int .i64 0), .val (.int .i64 0), .val (.int .i64 0), .val (.int .i64 0), .val (.int .i64 0), .val (.int .i64 0), .val (.int .i64 0), .val (.int .i64 0), .val (.int .i64 0), .val (.int .i64 0), .val (.int .i64 0), .val (.int .i64 0), .val (.int .i64 0), .val (.int .i64 0), .val (.int .i64 0), .val (.int .i64 0), .val (.int .i64 0), .val (.int .i64 0), .val (.int .i64 0), .val (.int .i64 0)]⟩),
 (150, ⟨.other, 1, 8, [.val .nilf]⟩),
 (151, ⟨.other, 1, 8, [.val .nilf]⟩),
 (152, ⟨.slice 51, 1, 24, [.nil]⟩),
 (153, ⟨.other, 1, 8, [.val .nilf]⟩),
 (154, ⟨.array 3 3, 3, 24, [.val (.int .i64 0), .val (.int .i64 0), .val (.int .i64 0)]⟩),
 (155, ⟨.other, 1, 8, [.val .nilf]⟩),
 (156, ⟨.int .u32, 1, 4, [.val (.int .u32 0)]⟩),
 (158, ⟨.other, 1, 8, [.val .nilf]⟩),
 (159, ⟨.int .u64, 1, 8, [.val (.int .u64 0)]⟩),
 (161, ⟨.other, 1, 8, [.val .nilf]⟩),
 (162, ⟨.other, 1, 8, [.val .nilf]⟩),
 (163, ⟨.struct [(0, 3), (1, 3)], 2, 16, [.val (.int .i64 0), .val (.int .i64 0)]⟩),
 (164, ⟨.struct [(0, 3), (1, 3)], 2, 16, [.val (.int .i64 0), .val (.int .i64 0)]⟩),
 (165, ⟨.array 11 164, 22, 176, [.val (.int .i64 0), .val (.int .i64 0), .val (.int .i64 0), .val (.int .i64 0), .val (.int .i64 0), .val (.int .i64 0), .val (.int .i64 0), .val (.int .i64 0), .val (.int .i64 0), .val (.int .i64 0), .val (.int .i64 0), .val (.int .i64 0), .val (.int .i64 0), .val (.int .i64 0), .val (.int .i64 0), .val (.int .i64 0), .val (.int .i64 0), .val (.int .i64 0), .val (.int .i64 0), .val (.int .i64 0), .val (.int .i64 0), .val (.int .i64 0)]⟩),
 (166, ⟨.slice 164, 1, 24, [.nil]⟩),
 (167, ⟨.array 13 164, 26, 208, [.val (.int .i64 0), .val (.int .i64 0), .val (.int .i64 0), .val (.int .i64 0), .val (.int .i64 0), .val (.int .i64 0), .val (.int .i64 0), .val (.int .i64 0), .val (.int .i64 0), .val (.int .i64 0), .val (.int .i64 0), .val (.int .i64 0), .val (.int .i64 0), .val (.int .i64 0), .val (.int .i64 0), .val (.int .i64 0), .val (.int .i64 0), .val (.int .i64 0), .val (.int .i64 0), .val (.int .i64 0), .val (.int .i64 0), .val (.int .i64 0), .val (.int .i64 0), .val (.int .i64 0), .val (.int .i64 0), .val (.int .i64 0)]⟩),
 (168, ⟨.other, 1, 8, [.val .nilf]⟩),
 (171, ⟨.array 0 16, 0, 0, []⟩),
 (176, ⟨.other, 1, 8, [.val .nilf]⟩),
 (177, ⟨.other, 1, 8, [.val .nilp]⟩),
 (180, ⟨.struct [(0, 12), (1, 12), (2, 156), (3, 174), (4, 5), (5, 5), (6, 175), (7, 176), (8, 177), (9, 178), (10, 179)], 11, 48, [.val (.int .u64 0), .val (.int .u64 0), .val (.int .u32 0), .val (.int .u8 0), .val (.int .u8 0), .val (.int .u8 0), .val (.int .u8 0), .val .nilf, .val .nilp, .val (.int .i32 0), .val (.int .i32 0)]⟩)]
def T : TT := ttFind tt
@[simp] theorem T_1 : T 1 = some ⟨.other, 1, 8, [.val .nilf]⟩ := rfl
@[simp] theorem T_2 : T 2 = some ⟨.int .i64, 1, 8, [.val (.int .i64 0)]⟩ := rfl
@[simp] theorem T_3 : T 3 = some ⟨.int .i64, 1, 8, [.val (.int .i64 0)]⟩ := rfl
@[simp] theorem T_4 : T 4 = some ⟨.bool, 1, 1, [.val (.bool false)]⟩ := rfl
@[simp] theorem T_5 : T 5 = some ⟨.int .u8, 1, 1, [.val (.int .u8 0)]⟩ := rfl
@[simp] theorem T_9 : T 9 = some ⟨.str, 1, 16, [.val (.str [])]⟩ := rfl
@[simp] theorem T_12 : T 12 = some ⟨.int .u64, 1, 8, [.val (.int .u64 0)]⟩ := rfl
@[simp] theorem T_21 : T 21 = some ⟨.int .i32, 1, 4, [.val (.int .i32 0)]⟩ := rfl
@[simp] theorem T_22 : T 22 = some ⟨.slice 91, 1, 24, [.nil]⟩ := rfl
@[simp] theorem T_23 : T 23 = some ⟨.array 2 5, 2, 2, [.val (.int .u8 0), .val (.int .u8 0)]⟩ := rfl
@[simp] theorem T_24 : T 24 = some ⟨.struct [(0, 5), (1, 22), (2, 22), (3, 23)], 5, 64, [.val (.int .u8 0), .nil, .nil, .val (.int .u8 0), .val (.int .u8 0)]⟩ := rfl
@[simp] theorem T_25 : T 25 = some ⟨.struct [(0, 5), (1, 22), (2, 22), (3, 23)], 5, 64, [.val (.int .u8 0), .nil, .nil, .val (.int .u8 0), .val (.int .u8 0)]⟩ := rfl
@[simp] theorem T_26 : T 26 = some ⟨.struct [(0, 3), (1, 3)], 2, 16, [.val (.int .i64 0), .val (.int .i64 0)]⟩ := rfl
@[simp] theorem T_27 : T 27 = some ⟨.struct [(0, 3), (1, 3)], 2, 16, [.val (.int .i64 0), .val (.int .i64 0)]⟩ := rfl
@[simp] theorem T_28 : T 28 = some ⟨.slice 77, 1, 24, [.nil]⟩ := rfl
@[simp] theorem T_29 : T 29 = some ⟨.struct [(0, 28), (1, 4)], 2, 32, [.nil, .val (.bool false)]⟩ := rfl
@[simp] theorem T_30 : T 30 = some ⟨.struct [(0, 28), (1, 4)], 2, 32, [.nil, .val (.bool false)]⟩ := rfl
@[simp] theorem T_31 : T 31 = some ⟨.struct [(0, 27), (2, 30), (4, 4), (5, 5)], 6, 56, [.val (.int .i64 0), .val (.int .i64 0), .nil, .val (.bool false), .val (.bool false), .val (.int .u8 0)]⟩ := rfl
@[simp] theorem T_32 : T 32 = some ⟨.struct [(0, 27), (2, 30), (4, 4), (5, 5)], 6, 56, [.val (.int .i64 0), .val (.int .i64 0), .nil, .val (.bool false), .val (.bool false), .val (.int .u8 0)]⟩ := rfl
@[simp] theorem T_33 : T 33 = some ⟨.slice 30, 1, 24, [.nil]⟩ := rfl
@[simp] theorem T_34 : T 34 = some ⟨.struct [(0, 33), (1, 33), (2, 27)], 4, 64, [.nil, .nil, .val (.int .i64 0), .val (.int .i64 0)]⟩ := rfl
@[simp] theorem T_35 : T 35 = some ⟨.struct [(0, 33), (1, 33), (2, 27)], 4, 64, [.nil, .nil, .val (.int .i64 0), .val (.int .i64 0)]⟩ := rfl
@[simp] theorem T_36 : T 36 = some ⟨.other, 1, 8, [.val .nilf]⟩ := rfl
@[simp] theorem T_37 : T 37 = some ⟨.other, 1, 8, [.val .nilf]⟩ := rfl
@[simp] theorem T_38 : T 38 = some ⟨.array 2 35, 8, 128, [.nil, .nil, .val (.int .i64 0), .val (.int .i64 0), .nil, .nil, .val (.int .i64 0), .val (.int .i64 0)]⟩ := rfl
@[simp] theorem T_39 : T 39 = some ⟨.slice 28, 1, 24, [.nil]⟩ := rfl
@[simp] theorem T_40 : T 40 = some ⟨.int .i64, 1, 8, [.val (.int .i64 0)]⟩ := rfl
@[simp] theorem T_42 : T 42 = some ⟨.other, 1, 8, [.val .nilf]⟩ := rfl
@[simp] theorem T_43 : T 43 = some ⟨.struct [(0, 33), (1, 33), (2, 27)], 4, 64, [.nil, .nil, .val (.int .i64 0), .val (.int .i64 0)]⟩ := rfl
@[simp] theorem T_44 : T 44 = some ⟨.other, 1, 8, [.val .nilf]⟩ := rfl
@[simp] theorem T_45 : T 45 = some ⟨.other, 1, 8, [.val .nilf]⟩ := rfl
@[simp] theorem T_46 : T 46 = some ⟨.other, 1, 8, [.val .nilf]⟩ := rfl
@[simp] theorem T_47 : T 47 = some ⟨.other, 1, 8, [.val .nilf]⟩ := rfl
@[simp] theorem T_48 : T 48 = some ⟨.other, 1, 8, [.val .nilf]⟩ := rfl
@[simp] theorem T_49 : T 49 = some ⟨.other, 1, 8, [.val .nilf]⟩ := rfl
@[simp] theorem T_50 : T 50 = some ⟨.other, 1, 8, [.val .nilf]⟩ := rfl
@[simp] theorem T_51 : T 51 = some ⟨.array 2 3, 2, 16, [.val (.int .i64 0), .val (.int .i64 0)]⟩ := rfl
@[simp] theorem T_52 : T 52 = some ⟨.int .u64, 1, 8, [.val (.int .u64 0)]⟩ := rfl
@[simp] theorem T_53 : T 53 = some ⟨.array 3 51, 6, 48, [.val (.int .i64 0), .val (.int .i64 0), .val (.int .i64 0), .val (.int .i64 0), .val (.int .i64 0), .val (.int .i64 0)]⟩ := rfl
@[simp] theorem T_55 : T 55 = some ⟨.other, 1, 8, [.val .nilf]⟩ := rfl
@[simp] theorem T_56 : T 56 = some ⟨.other, 1, 8, [.val .nilf]⟩ := rfl
@[simp] theorem T_57 : T 57 = some ⟨.other, 1, 8, [.val .nilf]⟩ := rfl
@[simp] theorem T_58 : T 58 = some ⟨.other, 1, 8, [.val .nilf]⟩ := rfl
@[simp] theorem T_59 : T 59 = some ⟨.other, 1, 8, [.val .nilf]⟩ := rfl
@[simp] theorem T_60 : T 60 = some ⟨.other, 1, 8, [.val .nilf]⟩ := rfl
@[simp] theorem T_61 : T 61 = some ⟨.struct [(0, 5), (1, 22)], 2, 32, [.val (.int .u8 0), .nil]⟩ := rfl
@[simp] theorem T_62 : T 62 = some ⟨.struct [(0, 5), (1, 22)], 2, 32, [.val (.int .u8 0), .nil]⟩ := rfl
@[simp] theorem T_63 : T 63 = some ⟨.other, 1, 8, [.val .nilf]⟩ := rfl
@[simp] theorem T_64 : T 64 = some ⟨.array 2 33, 2, 48, [.nil, .nil]⟩ := rfl
@[simp] theorem T_66 : T 66 = some ⟨.other, 1, 8, [.val .nilf]⟩ := rfl
@[simp] theorem T_67 : T 67 = some ⟨.other, 1, 8, [.val .nilf]⟩ := rfl
@[simp] theorem T_68 : T 68 = some ⟨.other, 1, 8, [.val .nilf]⟩ := rfl
@[simp] theorem T_69 : T 69 = some ⟨.other, 1, 8, [.val .nilf]⟩ := rfl
@[simp] theorem T_70 : T 70 = some ⟨.other, 1, 8, [.val .nilf]⟩ := rfl
@[simp] theorem T_71 : T 71 = some ⟨.other, 1, 8, [.val .nilf]⟩ := rfl
@[simp] theorem T_72 : T 72 = some ⟨.struct [(0, 3), (1, 3)], 2, 16, [.val (.int .i64 0), .val (.int .i64 0)]⟩ := rfl
@[simp] theorem T_73 : T 73 = some ⟨.struct [(0, 3), (1, 3)], 2, 16, [.val (.int .i64 0), .val (.int .i64 0)]⟩ := rfl
@[simp] theorem T_74 : T 74 = some ⟨.struct [(0, 3), (1, 3), (2, 73), (4, 73), (6, 73)], 8, 64, [.val (.int .i64 0), .val (.int .i64 0), .val (.int .i64 0), .val (.int .i64 0), .val (.int .i64 0), .val (.int .i64 0), .val (.int .i64 0), .val (.int .i64 0)]⟩ := rfl
@[simp] theorem T_75 : T 75 = some ⟨.struct [(0, 3), (1, 3), (2, 73), (4, 73), (6, 73)], 8, 64, [.val (.int .i64 0), .val (.int .i64 0), .val (.int .i64 0), .val (.int .i64 0), .val (.int .i64 0), .val (.int .i64 0), .val (.int .i64 0), .val (.int .i64 0)]⟩ := rfl
@[simp] theorem T_76 : T 76 = some ⟨.struct [(0, 3), (1, 51), (3, 3), (4, 75)], 12, 96, [.val (.int .i64 0), .val (.int .i64 0), .val (.int .i64 0), .val (.int .i64 0), .val (.int .i64 0), .val (.int .i64 0), .val (.int .i64 0), .val (.int .i64 0), .val (.int .i64 0), .val (.int .i64 0), .val (.int .i64 0), .val (.int .i64 0)]⟩ := rfl
@[simp] theorem T_77 : T 77 = some ⟨.struct [(0, 3), (1, 51), (3, 3), (4, 75)], 12, 96, [.val (.int .i64 0), .val (.int .i64 0), .val (.int .i64 0), .val (.int .i64 0), .val (.int .i64 0), .val (.int .i64 0), .val (.int .i64 0), .val (.int .i64 0), .val (.int .i64 0), .val (.int .i64 0), .val (.int .i64 0), .val (.int .i64 0)]⟩ := rfl
@[simp] theorem T_78 : T 78 = some ⟨.other, 1, 8, [.val .nilf]⟩ := rfl
@[simp] theorem T_79 : T 79 = some ⟨.other, 1, 8, [.val .nilf]⟩ := rfl
@[simp] theorem T_80 : T 80 = some ⟨.other, 1, 8, [.val .nilf]⟩ := rfl
@[simp] theorem T_81 : T 81 = some ⟨.other, 1, 8, [.val .nilf]⟩ := rfl
@[simp] theorem T_82 : T 82 = some ⟨.other, 1, 8, [.val .nilf]⟩ := rfl
@[simp] theorem T_83 : T 83 = some ⟨.other, 1, 8, [.val .nilf]⟩ := rfl
@[simp] theorem T_84 : T 84 = some ⟨.other, 1, 8, [.val .nilf]⟩ := rfl
@[simp] theorem T_85 : T 85 = some ⟨.other, 1, 8, [.val .nilf]⟩ := rfl
@[simp] theorem T_86 : T 86 = some ⟨.other, 1, 8, [.val .nilf]⟩ := rfl
@[simp] theorem T_87 : T 87 = some ⟨.slice 9, 1, 24, [.nil]⟩ := rfl
@[simp] theorem T_88 : T 88 = some ⟨.slice 43, 1, 24, [.nil]⟩ := rfl
@[simp] theorem T_89 : T 89 = some ⟨.slice 5, 1, 24, [.nil]⟩ := rfl
@[simp] theorem T_90 : T 90 = some ⟨.struct [(0, 5), (1, 89), (2, 4)], 3, 40, [.val (.int .u8 0), .nil, .val (.bool false)]⟩ := rfl
@[simp] theorem T_91 : T 91 = some ⟨.struct [(0, 5), (1, 89), (2, 4)], 3, 40, [.val (.int .u8 0), .nil, .val (.bool false)]⟩ := rfl
@[simp] theorem T_92 : T 92 = some ⟨.other, 1, 8, [.val .nilf]⟩ := rfl
@[simp] theorem T_93 : T 93 = some ⟨.other, 1, 8, [.val .nilf]⟩ := rfl
@[simp] theorem T_94 : T 94 = some ⟨.other, 1, 8, [.val .nilf]⟩ := rfl
@[simp] theorem T_95 : T 95 = some ⟨.other, 1, 8, [.val .nilf]⟩ := rfl
@[simp] theorem T_96 : T 96 = some ⟨.struct [(0, 28), (1, 4), (2, 3), (3, 3)], 4, 48, [.nil, .val (.bool false), .val (.int .i64 0), .val (.int .i64 0)]⟩ := rfl
@[simp] theorem T_97 : T 97 = some ⟨.struct [(0, 28), (1, 4), (2, 3), (3, 3)], 4, 48, [.nil, .val (.bool false), .val (.int .i64 0), .val (.int .i64 0)]⟩ := rfl
@[simp] theorem T_98 : T 98 = some ⟨.other, 1, 8, [.val .nilf]⟩ := rfl
@[simp] theorem T_99 : T 99 = some ⟨.other, 1, 8, [.val .nilf]⟩ := rfl
@[simp] theorem T_100 : T 100 = some ⟨.other, 1, 8, [.val .nilf]⟩ := rfl
@[simp] theorem T_101 : T 101 = some ⟨.other, 1, 8, [.val .nilf]⟩ := rfl
@[simp] theorem T_102 : T 102 = some ⟨.slice 105, 1, 24, [.nil]⟩ := rfl
@[simp] theorem T_103 : T 103 = some ⟨.other, 1, 8, [.val .nilf]⟩ := rfl
@[simp] theorem T_104 : T 104 = some ⟨.struct [(0, 28), (1, 4), (2, 3), (3, 3)], 4, 48, [.nil, .val (.bool false), .val (.int .i64 0), .val (.int .i64 0)]⟩ := rfl
@[simp] theorem T_105 : T 105 = some ⟨.struct [(0, 28), (1, 4), (2, 3), (3, 3)], 4, 48, [.nil, .val (.bool false), .val (.int .i64 0), .val (.int .i64 0)]⟩ := rfl
@[simp] theorem T_106 : T 106 = some ⟨.struct [(0, 33), (1, 3), (2, 27)], 4, 48, [.nil, .val (.int .i64 0), .val (.int .i64 0), .val (.int .i64 0)]⟩ := rfl
@[simp] theorem T_107 : T 107 = some ⟨.struct [(0, 33), (1, 3), (2, 27)], 4, 48, [.nil, .val (.int .i64 0), .val (.int .i64 0), .val (.int .i64 0)]⟩ := rfl
@[simp] theorem T_108 : T 108 = some ⟨.other, 1, 8, [.val .nilf]⟩ := rfl
@[simp] theorem T_110 : T 110 = some ⟨.other, 1, 8, [.val .nilf]⟩ := rfl
@[simp] theorem T_112 : T 112 = some ⟨.other, 1, 8, [.val .nilf]⟩ := rfl
@[simp] theorem T_113 : T 113 = some ⟨.other, 1, 8, [.val .nilf]⟩ := rfl
@[simp] theorem T_114 : T 114 = some ⟨.other, 1, 8, [.val .nilf]⟩ := rfl
@[simp] theorem T_115 : T 115 = some ⟨.other, 1, 8, [.val .nilf]⟩ := rfl
@[simp] theorem T_116 : T 116 = some ⟨.other, 1, 8, [.val .nilf]⟩ := rfl
@[simp] theorem T_117 : T 117 = some ⟨.other, 1, 8, [.val .nilf]⟩ := rfl
@[simp] theorem T_118 : T 118 = some ⟨.other, 1, 8, [.val .nilf]⟩ := rfl
@[simp] theorem T_119 : T 119 = some ⟨.other, 1, 8, [.val .nilf]⟩ := rfl
@[simp] theorem T_120 : T 120 = some ⟨.other, 1, 8, [.val .nilf]⟩ := rfl
@[simp] theorem T_121 : T 121 = some ⟨.other, 1, 8, [.val .nilf]⟩ := rfl
@[simp] theorem T_122 : T 122 = some ⟨.other, 1, 8, [.val .nilf]⟩ := rfl
@[simp] theorem T_123 : T 123 = some ⟨.other, 1, 8, [.val .nilf]⟩ := rfl
@[simp] theorem T_124 : T 124 = some ⟨.other, 1, 8, [.val .nilp]⟩ := rfl
@[simp] theorem T_125 : T 125 = some ⟨.other, 1, 8, [.val .nilf]⟩ := rfl
@[simp] theorem T_126 : T 126 = some ⟨.struct [(0, 30), (2, 3), (3, 125)], 4, 48, [.nil, .val (.bool false), .val (.int .i64 0), .val .nilf]⟩ := rfl
@[simp] theorem T_127 : T 127 = some ⟨.struct [(0, 30), (2, 3), (3, 125)], 4, 48, [.nil, .val (.bool false), .val (.int .i64 0), .val .nilf]⟩ := rfl
@[simp] theorem T_128 : T 128 = some ⟨.other, 1, 8, [.val .nilf]⟩ := rfl
@[simp] theorem T_129 : T 129 = some ⟨.other, 1, 8, [.val .nilf]⟩ := rfl
@[simp] theorem T_130 : T 130 = some ⟨.other, 1, 8, [.val .nilf]⟩ := rfl
@[simp] theorem T_131 : T 131 = some ⟨.other, 1, 8, [.val .nilf]⟩ := rfl
@[simp] theorem T_132 : T 132 = some ⟨.slice 27, 1, 24, [.nil]⟩ := rfl
@[simp] theorem T_134 : T 134 = some ⟨.other, 1, 8, [.val .nilf]⟩ := rfl
@[simp] theorem T_135 : T 135 = some ⟨.other, 1, 8, [.val .nilf]⟩ := rfl
@[simp] theorem T_136 : T 136 = some ⟨.other, 1, 8, [.val .nilf]⟩ := rfl
@[simp] theorem T_137 : T 137 = some ⟨.other, 1, 8, [.val .nilf]⟩ := rfl
@[simp] theorem T_138 : T 138 = some ⟨.other, 1, 8, [.val .nilf]⟩ := rfl
@[simp] theorem T_139 : T 139 = some ⟨.other, 1, 8, [.val .nilf]⟩ := rfl
@[simp] theorem T_140 : T 140 = some ⟨.slice 33, 1, 24, [.nil]⟩ := rfl
@[simp] theorem T_141 : T 141 = some ⟨.other, 1, 8, [.val .nilf]⟩ := rfl
@[simp] theorem T_142 : T 142 = some ⟨.array 3 73, 6, 48, [.val (.int .i64 0), .val (.int .i64 0), .val (.int .i64 0), .val (.int .i64 0), .val (.int .i64 0), .val (.int .i64 0)]⟩ := rfl
@[simp] theorem T_143 : T 143 = some ⟨.other, 1, 8, [.val .nilf]⟩ := rfl
@[simp] theorem T_145 : T 145 = some ⟨.other, 1, 8, [.val .nilf]⟩ := rfl
@[simp] theorem T_146 : T 146 = some ⟨.other, 1, 8, [.val .nilf]⟩ := rfl
@[simp] theorem T_147 : T 147 = some ⟨.other, 1, 8, [.val .nilf]⟩ := rfl
@[simp] theorem T_148 : T 148 = some ⟨.array 8 3, 8, 64, [.val (.int .i64 0), .val (.int .i64 0), .val (.int .i64 0), .val (.int .i64 0), .val (.int .i64 0), .val (.int .i64 0), .val (.int .i64 0), .val (.int .i64 0)]⟩ := rfl
@[simp] theorem T_149 : T 149 = some ⟨.array 8 75, 64, 512, [.val (.int .i64 0), .val (.int .i64 0), .val (.int .i64 0), .val (.int .i64 0), .val (.int .i64 0), .val (.int .i64 0), .val (.int .i64 0), .val (.int .i64 0), .val (.int .i64 0), .val (.int .i64 0), .val (.int .i64 0), .val (.int .i64 0), .val (.int .i64 0), .val (.int .i64 0), .val (.int .i64 0), .val (.int .i64 0), .val (.int .i64 0), .val (.int .i64 0), .val (.int .i64 0), .val (.int .i64 0), .val (.int .i64 0), .val (.int .i64 0), .val (.int .i64 0), .val (.int .i64 0), .val (.int .i64 0), .val (.int .i64 0), .val (.int .i64 0), .val (.int .i64 0), .val (.int .i64 0), .val (.int .i64 0), .val (.int .i64 0), .val (.int .i64 0), .val (.int .i64 0), .val (.int .i64 0), .val (.int .i64 0), .val (.int .i64 0), .val (.int .i64 0), .val (.int .i64 0), .val (.int .i64 0), .val (.int .i64 0), .val (.int .i64 0), .val (.int .i64 0), .val (.int .i64 0), .val (.int .i64 0), .val (.int .i64 0), .val (.int .i64 0), .val (.int .i64 0), .val (.int .i64 0), .val (.int .i64 0), .val (.int .i64 0), .val (.int .i64 0), .val (.int .i64 0), .val (.int .i64 0), .val (.int .i64 0), .val (.int .i64 0), .val (.int .i64 0), .val (.int .i64 0), .val (.int .i64 0), .val (.int .i64 0), .val (.int .i64 0), .val (.int .i64 0), .val (.int .i64 0), .val (.int .i64 0), .val (.int .i64 0)]⟩ := rfl
@[simp] theorem T_150 : T 150 = some ⟨.other, 1, 8, [.val .nilf]⟩ := rfl
@[simp] theorem T_151 : T 151 = some ⟨.other, 1, 8, [.val .nilf]⟩ := rfl
@[simp] theorem T_152 : T 152 = some ⟨.slice 51, 1, 24, [.nil]⟩ := rfl
@[simp] theorem T_153 : T 153 = some ⟨.other, 1, 8, [.val .nilf]⟩ := rfl
@[simp] theorem T_154 : T 154 = some ⟨.array 3 3, 3, 24, [.val (.int .i64 0), .val (.int .i64 0), .val (.int .i64 0)]⟩ := rfl
@[simp] theorem T_155 : T 155 = some ⟨.other, 1, 8, [.val .nilf]⟩ := rfl
@[simp] theorem T_156 : T 156 = some ⟨.int .u32, 1, 4, [.val (.int .u32 0)]⟩ := rfl
@[simp] theorem T_158 : T 158 = some ⟨.other, 1, 8, [.val .nilf]⟩ := rfl
@[simp] theorem T_159 : T 159 = some ⟨.int .u64, 1, 8, [.val (.int .u64 0)]⟩ := rfl
@[simp] theorem T_161 : T 161 = some ⟨.other, 1, 8, [.val .nilf]⟩ := rfl
@[simp] theorem T_162 : T 162 = some ⟨.other, 1, 8, [.val .nilf]⟩ := rfl
@[simp] theorem T_163 : T 163 = some ⟨.struct [(0, 3), (1, 3)], 2, 16, [.val (.int .i64 0), .val (.int .i64 0)]⟩ := rfl
@[simp] theorem T_164 : T 164 = some ⟨.struct [(0, 3), (1, 3)], 2, 16, [.val (.int .i64 0), .val (.int .i64 0)]⟩ := rfl
@[simp] theorem T_165 : T 165 = some ⟨.array 11 164, 22, 176, [.val (.int .i64 0), .val (.int .i64 0), .val (.int .i64 0), .val (.int .i64 0), .val (.int .i64 0), .val (.int .i64 0), .val (.int .i64 0), .val (.int .i64 0), .val (.int .i64 0), .val (.int .i64 0), .val (.int .i64 0), .val (.int .i64 0), .val (.int .i64 0), .val (.int .i64 0), .val (.int .i64 0), .val (.int .i64 0), .val (.int .i64 0), .val (.int .i64 0), .val (.int .i64 0), .val (.int .i64 0), .val (.int .i64 0), .val (.int .i64 0)]⟩ := rfl
@[simp] theorem T_166 : T 166 = some ⟨.slice 164, 1, 24, [.nil]⟩ := rfl
@[simp] theorem T_167 : T 167 = some ⟨.array 13 164, 26, 208, [.val (.int .i64 0), .val (.int .i64 0), .val (.int .i64 0), .val (.int .i64 0), .val (.int .i64 0), .val (.int .i64 0), .val (.int .i64 0), .val (.int .i64 0), .val (.int .i64 0), .val (.int .i64 0), .val (.int .i64 0), .val (.int .i64 0), .val (.int .i64 0), .val (.int .i64 0), .val (.int .i64 0), .val (.int .i64 0), .val (.int .i64 0), .val (.int .i64 0), .val (.int .i64 0), .val (.int .i64 0), .val (.int .i64 0), .val (.int .i64 0), .val (.int .i64 0), .val (.int .i64 0), .val (.int .i64 0), .val (.int .i64 0)]⟩ := rfl
@[simp] theorem T_168 : T 168 = some ⟨.other, 1, 8, [.val .nilf]⟩ := rfl
@[simp] theorem T_171 : T 171 = some ⟨.array 0 16, 0, 0, []⟩ := rfl
@[simp] theorem T_176 : T 176 = some ⟨.other, 1, 8, [.val .nilf]⟩ := rfl
@[simp] theorem T_177 : T 177 = some ⟨.other, 1, 8, [.val .nilp]⟩ := rfl
@[simp] theorem T_180 : T 180 = some ⟨.struct [(0, 12), (1, 12), (2, 156), (3, 174), (4, 5), (5, 5), (6, 175), (7, 176), (8, 177), (9, 178), (10, 179)], 11, 48, [.val (.int .u64 0), .val (.int .u64 0), .val (.int .u32 0), .val (.int .u8 0), .val (.int .u8 0), .val (.int .u8 0), .val (.int .u8 0), .val .nilf, .val .nilp, .val (.int .i32 0), .val (.int .i32 0)]⟩ := rfl
theorem eqN_1 : eqK T 8 1 = none := by kernel_rfl
theorem ty2_e : eqOK Tryd.prog 2 = true := by kernel_rfl
@[simp] theorem eqK_2 : eqK T 8 2 = some [.int .i64] := by kernel_rfl
theorem ty3_e : eqOK Tryd.prog 3 = true := by kernel_rfl
@[simp] theorem eqK_3 : eqK T 8 3 = some [.int .i64] := by kernel_rfl
theorem ty4_e : eqOK Tryd.prog 4 = true := by kernel_rfl
@[simp] theorem eqK_4 : eqK T 8 4 = some [.bool] := by kernel_rfl
theorem ty5_e : eqOK Tryd.prog 5 = true := by kernel_rfl
@[simp] theorem eqK_5 : eqK T 8 5 = some [.int .u8] := by kernel_rfl
theorem ty9_e : eqOK Tryd.prog 9 = true := by kernel_rfl
@[simp] theorem eqK_9 : eqK T 8 9 = some [.str] := by kernel_rfl
theorem ty12_e : eqOK Tryd.prog 12 = true := by kernel_rfl
@[simp] theorem eqK_12 : eqK T 8 12 = some [.int .u64] := by kernel_rfl
theorem ty21_e : eqOK Tryd.prog 21 = true := by kernel_rfl
@[simp] theorem eqK_21 : eqK T 8 21 = some [.int .i32] := by kernel_rfl
theorem eqN_22 : eqK T 8 22 = none := by kernel_rfl
theorem ty23_e : eqOK Tryd.prog 23 = true := by kernel_rfl
@[simp] theorem eqK_23 : eqK T 8 23 = some [.int .u8, .int .u8] := by kernel_rfl
theorem eqN_24 : eqK T 8 24 = none := by kernel_rfl
theorem eqN_25 : eqK T 8 25 = none := by kernel_rfl
theorem ty26_e : eqOK Tryd.prog 26 = true := by kernel_rfl
@[simp] theorem eqK_26 : eqK T 8 26 = some [.int .i64, .int .i64] := by kernel_rfl
theorem ty27_e : eqOK Tryd.prog 27 = true := by kernel_rfl
@[simp] theorem eqK_27 : eqK T 8 27 = some [.int .i64, .int .i64] := by kernel_rfl
theorem eqN_28 : eqK T 8 28 = none := by kernel_rfl
theorem eqN_29 : eqK T 8 29 = none := by kernel_rfl
theorem eqN_30 : eqK T 8 30 = none := by kernel_rfl
theorem eqN_31 : eqK T 8 31 = none := by kernel_rfl
theorem eqN_32 : eqK T 8 32 = none := by kernel_rfl
theorem eqN_33 : eqK T 8 33 = none := by kernel_rfl
theorem eqN_34 : eqK T 8 34 = none := by kernel_rfl
theorem eqN_35 : eqK T 8 35 = none := by kernel_rfl
theorem eqN_36 : eqK T 8 36 = none := by kernel_rfl
theorem eqN_37 : eqK T 8 37 = none := by kernel_rfl
theorem eqN_38 : eqK T 8 38 = none := by kernel_rfl
theorem eqN_39 : eqK T 8 39 = none := by kernel_rfl
theorem ty40_e : eqOK Tryd.prog 40 = true := by kernel_rfl
@[simp] theorem eqK_40 : eqK T 8 40 = some [.int .i64] := by kernel_rfl
theorem eqN_42 : eqK T 8 42 = none := by kernel_rfl
theorem eqN_43 : eqK T 8 43 = none := by kernel_rfl
theorem eqN_44 : eqK T 8 44 = none := by kernel_rfl
theorem eqN_45 : eqK T 8 45 = none := by kernel_rfl
theorem eqN_46 : eqK T 8 46 = none := by kernel_rfl
theorem eqN_47 : eqK T 8 47 = none := by kernel_rfl
theorem eqN_48 : eqK T 8 48 = none := by kernel_rfl
theorem eqN_49 : eqK T 8 49 = none := by kernel_rfl
theorem eqN_50 : eqK T 8 50 = none := by kernel_rfl
theorem ty51_e : eqOK Tryd.prog 51 = true := by kernel_rfl
@[simp] theorem eqK_51 : eqK T 8 51 = some [.int .i64, .int .i64] := by kernel_rfl
theorem ty52_e : eqOK Tryd.prog 52 = true := by kernel_rfl
@[simp] theorem eqK_52 : eqK T 8 52 = some [.int .u64] := by kernel_rfl
theorem ty53_e : eqOK Tryd.prog 53 = true := by kernel_rfl
@[simp] theorem eqK_53 : eqK T 8 53 = some [.int .i64, .int .i64, .int .i64, .int .i64, .int .i64, .int .i64] := by kernel_rfl
theorem eqN_55 : eqK T 8 55 = none := by kernel_rfl
theorem eqN_56 : eqK T 8 56 = none := by kernel_rfl
theorem eqN_57 : eqK T 8 57 = none := by kernel_rfl
theorem eqN_58 : eqK T 8 58 = none := by kernel_rfl
theorem eqN_59 : eqK T 8 59 = none := by kernel_rfl
theorem eqN_60 : eqK T 8 60 = none := by kernel_rfl
theorem eqN_61 : eqK T 8 61 = none := by kernel_rfl
theorem eqN_62 : eqK T 8 62 = none := by kernel_rfl
theorem eqN_63 : eqK T 8 63 = none := by kernel_rfl
theorem eqN_64 : eqK T 8 64 = none := by kernel_rfl
theorem eqN_66 : eqK T 8 66 = none := by kernel_rfl
theorem eqN_67 : eqK T 8 67 = none := by kernel_rfl
theorem eqN_68 : eqK T 8 68 = none := by kernel_rfl
theorem eqN_69 : eqK T 8 69 = none := by kernel_rfl
theorem eqN_70 : eqK T 8 70 = none := by kernel_rfl
theorem eqN_71 : eqK T 8 71 = none := by kernel_rfl
theorem ty72_e : eqOK Tryd.prog 72 = true := by kernel_rfl
@[simp] theorem eqK_72 : eqK T 8 72 = some [.int .i64, .int .i64] := by kernel_rfl
theorem ty73_e : eqOK Tryd.prog 73 = true := by kernel_rfl
@[simp] theorem eqK_73 : eqK T 8 73 = some [.int .i64, .int .i64] := by kernel_rfl
theorem ty74_e : eqOK Tryd.prog 74 = true := by kernel_rfl
@[simp] theorem eqK_74 : eqK T 8 74 = some [.int .i64, .int .i64, .int .i64, .int .i64, .int .i64, .int .i64, .int .i64, .int .i64] := by kernel_rfl
theorem ty75_e : eqOK Tryd.prog 75 = true := by kernel_rfl
@[simp] theorem eqK_75 : eqK T 8 75 = some [.int .i64, .int .i64, .int .i64, .int .i64, .int .i64, .int .i64, .int .i64, .int .i64] := by kernel_rfl
theorem ty76_e : eqOK Tryd.prog 76 = true := by kernel_rfl
@[simp] theorem eqK_76 : eqK T 8 76 = some [.int .i64, .int .i64, .int .i64, .int .i64, .int .i64, .int .i64, .int .i64, .int .i64, .int .i64, .int .i64, .int .i64, .int .i64] := by kernel_rfl
theorem ty77_e : eqOK Tryd.prog 77 = true := by kernel_rfl
@[simp] theorem eqK_77 : eqK T 8 77 = some [.int .i64, .int .i64, .int .i64, .int .i64, .int .i64, .int .i64, .int .i64, .int .i64, .int .i64, .int .i64, .int .i64, .int .i64] := by kernel_rfl
theorem eqN_78 : eqK T 8 78 = none := by kernel_rfl
theorem eqN_79 : eqK T 8 79 = none := by kernel_rfl
theorem eqN_80 : eqK T 8 80 = none := by kernel_rfl
theorem eqN_81 : eqK T 8 81 = none := by kernel_rfl
theorem eqN_82 : eqK T 8 82 = none := by kernel_rfl
theorem eqN_83 : eqK T 8 83 = none := by kernel_rfl
theorem eqN_84 : eqK T 8 84 = none := by kernel_rfl
theorem eqN_85 : eqK T 8 85 = none := by kernel_rfl
theorem eqN_86 : eqK T 8 86 = none := by kernel_rfl
theorem eqN_87 : eqK T 8 87 = none := by kernel_rfl
theorem eqN_88 : eqK T 8 88 = none := by kernel_rfl
theorem eqN_89 : eqK T 8 89 = none := by kernel_rfl
theorem eqN_90 : eqK T 8 90 = none := by kernel_rfl
theorem eqN_91 : eqK T 8 91 = none := by kernel_rfl
theorem eqN_92 : eqK T 8 92 = none := by kernel_rfl
theorem eqN_93 : eqK T 8 93 = none := by kernel_rfl
theorem eqN_94 : eqK T 8 94 = none := by kernel_rfl
theorem eqN_95 : eqK T 8 95 = none := by kernel_rfl
theorem eqN_96 : eqK T 8 96 = none := by kernel_rfl
theorem eqN_97 : eqK T 8 97 = none := by kernel_rfl
theorem eqN_98 : eqK T 8 98 = none := by kernel_rfl
theorem eqN_99 : eqK T 8 99 = none := by kernel_rfl
theorem eqN_100 : eqK T 8 100 = none := by kernel_rfl
theorem eqN_101 : eqK T 8 101 = none := by kernel_rfl
theorem eqN_102 : eqK T 8 102 = none := by kernel_rfl
theorem eqN_103 : eqK T 8 103 = none := by kernel_rfl
theorem eqN_104 : eqK T 8 104 = none := by kernel_rfl
theorem eqN_105 : eqK T 8 105 = none := by kernel_rfl
theorem eqN_106 : eqK T 8 106 = none := by kernel_rfl
theorem eqN_107 : eqK T 8 107 = none := by kernel_rfl
theorem eqN_108 : eqK T 8 108 = none := by kernel_rfl
theorem eqN_110 : eqK T 8 110 = none := by kernel_rfl
theorem eqN_112 : eqK T 8 112 = none := by kernel_rfl
theorem eqN_113 : eqK T 8 113 = none := by kernel_rfl
theorem eqN_114 : eqK T 8 114 = none := by kernel_rfl
theorem eqN_115 : eqK T 8 115 = none := by kernel_rfl
theorem eqN_116 : eqK T 8 116 = none := by kernel_rfl
theorem eqN_117 : eqK T 8 117 = none := by kernel_rfl
theorem eqN_118 : eqK T 8 118 = none := by kernel_rfl
theorem eqN_119 : eqK T 8 119 = none := by kernel_rfl
theorem eqN_120 : eqK T 8 120 = none := by kernel_rfl
theorem eqN_121 : eqK T 8 121 = none := by kernel_rfl
theorem eqN_122 : eqK T 8 122 = none := by kernel_rfl
theorem eqN_123 : eqK T 8 123 = none := by kernel_rfl
theorem eqN_124 : eqK T 8 124 = none := by kernel_rfl
theorem eqN_125 : eqK T 8 125 = none := by kernel_rfl
theorem eqN_126 : eqK T 8 126 = none := by kernel_rfl
theorem eqN_127 : eqK T 8 127 = none := by kernel_rfl
theorem eqN_128 : eqK T 8 128 = none := by kernel_rfl
theorem eqN_129 : eqK T 8 129 = none := by kernel_rfl
theorem eqN_130 : eqK T 8 130 = none := by kernel_rfl
theorem eqN_131 : eqK T 8 131 = none := by kernel_rfl
theorem eqN_132 : eqK T 8 132 = none := by kernel_rfl
theorem eqN_134 : eqK T 8 134 = none := by kernel_rfl
theorem eqN_135 : eqK T 8 135 = none := by kernel_rfl
theorem eqN_136 : eqK T 8 136 = none := by kernel_rfl
theorem eqN_137 : eqK T 8 137 = none := by kernel_rfl
theorem eqN_138 : eqK T 8 138 = none := by kernel_rfl
theorem eqN_139 : eqK T 8 139 = none := by kernel_rfl
theorem eqN_140 : eqK T 8 140 = none := by kernel_rfl
theorem eqN_141 : eqK T 8 141 = none := by kernel_rfl
theorem ty142_e : eqOK Tryd.prog 142 = true := by kernel_rfl
@[simp] theorem eqK_142 : eqK T 8 142 = some [.int .i64, .int .i64, .int .i64, .int .i64, .int .i64, .int .i64] := by kernel_rfl
theorem eqN_143 : eqK T 8 143 = none := by kernel_rfl
theorem eqN_145 : eqK T 8 145 = none := by kernel_rfl
theorem eqN_146 : eqK T 8 146 = none := by kernel_rfl
theorem eqN_147 : eqK T 8 147 = none := by kernel_rfl
theorem ty148_e : eqOK Tryd.prog 148 = true := by kernel_rfl
@[simp] theorem eqK_148 : eqK T 8 148 = some [.int .i64, .int .i64, .int .i64, .int .i64, .int .i64, .int .i64, .int .i64, .int .i64] := by kernel_rfl
theorem ty149_e : eqOK Tryd.prog 149 = true := by kernel_rfl
@[simp] theorem eqK_149 : eqK T 8 149 = some [.int .i64, .int .i64, .int .i64, .int .i64, .int .i64, .int .i64, .int .i64, .int .i64, .int .i64, .int .i64, .int .i64, .int .i64, .int .i64, .int .i64, .int .i64, .int .i64, .int .i64, .int .i64, .int .i64, .int .i64, .int .i64, .int .i64, .int .i64, .int .i64, .int .i64, .int .i64, .int .i64, .int .i64, .int .i64, .int .i64, .int .i64, .int .i64, .int .i64, .int .i64, .int .i64, .int .i64, .int .i64, .int .i64, .int .i64, .int .i64, .int .i64, .int .i64, .int .i64, .int .i64, .int .i64, .int .i64, .int .i64, .int .i64, .int .i64, .int .i64, .int .i64, .int .i64, .int .i64, .int .i64, .int .i64, .int .i64, .int .i64, .int .i64, .int .i64, .int .i64, .int .i64, .int .i64, .int .i64, .int .i64] := by kernel_rfl
theorem eqN_150 : eqK T 8 150 = none := by kernel_rfl
theorem eqN_151 : eqK T 8 151 = none := by kernel_rfl
theorem eqN_152 : eqK T 8 152 = none := by kernel_rfl
theorem eqN_153 : eqK T 8 153 = none := by kernel_rfl
theorem ty154_e : eqOK Tryd.prog 154 = true := by kernel_rfl
@[simp] theorem eqK_154 : eqK T 8 154 = some [.int .i64, .int .i64, .int .i64] := by kernel_rfl
theorem eqN_155 : eqK T 8 155 = none := by kernel_rfl
theorem ty156_e : eqOK Tryd.prog 156 = true := by kernel_rfl
@[simp] theorem eqK_156 : eqK T 8 156 = some [.int .u32] := by kernel_rfl
theorem eqN_158 : eqK T 8 158 = none := by kernel_rfl
theorem ty159_e : eqOK Tryd.prog 159 = true := by kernel_rfl
@[simp] theorem eqK_159 : eqK T 8 159 = some [.int .u64] := by kernel_rfl
theorem eqN_161 : eqK T 8 161 = none := by kernel_rfl
theorem eqN_162 : eqK T 8 162 = none := by kernel_rfl
theorem ty163_e : eqOK Tryd.prog 163 = true := by kernel_rfl
@[simp] theorem eqK_163 : eqK T 8 163 = some [.int .i64, .int .i64] := by kernel_rfl
theorem ty164_e : eqOK Tryd.prog 164 = true := by kernel_rfl
@[simp] theorem eqK_164 : eqK T 8 164 = some [.int .i64, .int .i64] := by kernel_rfl
theorem ty165_e : eqOK Tryd.prog 165 = true := by kernel_rfl
@[simp] theorem eqK_165 : eqK T 8 165 = some [.int .i64, .int .i64, .int .i64, .int .i64, .int .i64, .int .i64, .int .i64, .int .i64, .int .i64, .int .i64, .int .i64, .int .i64, .int .i64, .int .i64, .int .i64, .int .i64, .int .i64, .int .i64, .int .i64, .int .i64, .int .i64, .int .i64] := by kernel_rfl
theorem eqN_166 : eqK T 8 166 = none := by kernel_rfl
theorem ty167_e : eqOK Tryd.prog 167 = true := by kernel_rfl
@[simp] theorem eqK_167 : eqK T 8 167 = some [.int .i64, .int .i64, .int .i64, .int .i64, .int .i64, .int .i64, .int .i64, .int .i64, .int .i64, .int .i64, .int .i64, .int .i64, .int .i64, .int .i64, .int .i64, .int .i64, .int .i64, .int .i64, .int .i64, .int .i64, .int .i64, .int .i64, .int .i64, .int .i64, .int .i64, .int .i64] := by kernel_rfl
theorem eqN_168 : eqK T 8 168 = none := by kernel_rfl
theorem eqN_171 : eqK T 8 171 = none := by kernel_rfl
theorem eqN_176 : eqK T 8 176 = none := by kernel_rfl
theorem eqN_177 : eqK T 8 177 = none := by kernel_rfl
theorem eqN_180 : eqK T 8 180 = none := by kernel_rfl
theorem tok : TOK Tryd.prog T := tok_of rfl (by
 simp only [tt, List.forall_mem_cons, List.not_mem_nil, false_imp_iff, implies_true, and_true]
 exact ⟨tokRow ty1_u ty1_i trivial (by simp [zval, Value.cells]) rfl rfl,
   tokRow ty2_u ty2_i rfl (by simp [zval, Value.cells]) rfl rfl,
   tokRow ty3_u ty3_i rfl (by simp [zval, Value.cells]) rfl rfl,
   tokRow ty4_u ty4_i rfl (by simp [zval, Value.cells]) rfl rfl,
   tokRow ty5_u ty5_i rfl (by simp [zval, Value.cells]) rfl rfl,
   tokRow ty9_u ty9_i rfl (by simp [zval, Value.cells]) rfl rfl,
   tokRow ty12_u ty12_i rfl (by simp [zval, Value.cells]) rfl rfl,
   tokRow ty21_u ty21_i rfl (by simp [zval, Value.cells]) rfl rfl,
   tokRow ty22_u ty22_i rfl (by simp [zval, Value.cells]) rfl rfl,
   tokRow ty23_u ty23_i rfl (by simp [zval, Value.cells]) rfl rfl,
   tokRow ty24_u ty24_i ⟨_, rfl, rfl⟩ (by simp [zval, Value.cells]) rfl rfl,
   tokRow ty25_u ty25_i ⟨_, rfl, rfl⟩ (by simp [zval, Value.cells]) rfl rfl,
   tokRow ty26_u ty26_i ⟨_, rfl, rfl⟩ (by simp [zval, Value.cells]) rfl rfl,
   tokRow ty27_u ty27_i ⟨_, rfl, rfl⟩ (by simp [zval, Value.cells]) rfl rfl,
   tokRow ty28_u ty28_i rfl (by simp [zval, Value.cells]) rfl rfl,
   tokRow ty29_u ty29_i ⟨_, rfl, rfl⟩ (by simp [zval, Value.cells]) rfl rfl,
   tokRow ty30_u ty30_i ⟨_, rfl, rfl⟩ (by simp [zval, Value.cells]) rfl rfl,
   tokRow ty31_u ty31_i ⟨_, rfl, rfl⟩ (by simp [zval, Value.cells]) rfl rfl,
   tokRow ty32_u ty32_i ⟨_, rfl, rfl⟩ (by simp [zval, Value.cells]) rfl rfl,
   tokRow ty33_u ty33_i rfl (by simp [zval, Value.cells]) rfl rfl,
   tokRow ty34_u ty34_i ⟨_, rfl, rfl⟩ (by simp [zval, Value.cells]) rfl rfl,
   tokRow ty35_u ty35_i ⟨_, rfl, rfl⟩ (by simp [zval, Value.cells]) rfl rfl,
   tokRow ty36_u ty36_i trivial (by simp [zval, Value.cells]) rfl rfl,
   tokRow ty37_u ty37_i trivial (by simp [zval, Value.cells]) rfl rfl,
   tokRow ty38_u ty38_i rfl (by simp [zval, Value.cells]) rfl rfl,
   tokRow ty39_u ty39_i rfl (by simp [zval, Value.cells]) rfl rfl,
   tokRow ty40_u ty40_i rfl (by simp [zval, Value.cells]) rfl rfl,
   tokRow ty42_u ty42_i trivial (by simp [zval, Value.cells]) rfl rfl,
   tokRow ty43_u ty43_i ⟨_, rfl, rfl⟩ (by simp [zval, Value.cells]) rfl rfl,
   tokRow ty44_u ty44_i trivial (by simp [zval, Value.cells]) rfl rfl,
   tokRow ty45_u ty45_i trivial (by simp [zval, Value.cells]) rfl rfl,
   tokRow ty46_u ty46_i trivial (by simp [zval, Value.cells]) rfl rfl,
   tokRow ty47_u ty47_i trivial (by simp [zval, Value.cells]) rfl rfl,
   tokRow ty48_u ty48_i trivial (by simp [zval, Value.cells]) rfl rfl,
   tokRow ty49_u ty49_i trivial (by simp [zval, Value.cells]) rfl rfl,
   tokRow ty50_u ty50_i trivial (by simp [zval, Value.cells]) rfl rfl,
   tokRow ty51_u ty51_i rfl (by simp [zval, Value.cells]) rfl rfl,
   tokRow ty52_u ty52_i rfl (by simp [zval, Value.cells]) rfl rfl,
   tokRow ty53_u ty53_i rfl (by simp [zval, Value.cells]) rfl rfl,
   tokRow ty55_u ty55_i trivial (by simp [zval, Value.cells]) rfl rfl,
   tokRow ty56_u ty56_i trivial (by simp [zval, Value.cells]) rfl rfl,
   tokRow ty57_u ty57_i trivial (by simp [zval, Value.cells]) rfl rfl,
   tokRow ty58_u ty58_i trivial (by simp [zval, Value.cells]) rfl rfl,
   tokRow ty59_u ty59_i trivial (by simp [zval, Value.cells]) rfl rfl,
   tokRow ty60_u ty60_i trivial (by simp [zval, Value.cells]) rfl rfl,
   tokRow ty61_u ty61_i ⟨_, rfl, rfl⟩ (by simp [zval, Value.cells]) rfl rfl,
   tokRow ty62_u ty62_i ⟨_, rfl, rfl⟩ (by simp [zval, Value.cells]) rfl rfl,
   tokRow ty63_u ty63_i trivial (by simp [zval, Value.cells]) rfl rfl,
   tokRow ty64_u ty64_i rfl (by simp [zval, Value.cells]) rfl rfl,
   tokRow ty66_u ty66_i trivial (by simp [zval, Value.cells]) rfl rfl,
   tokRow ty67_u ty67_i trivial (by simp [zval, Value.cells]) rfl rfl,
   tokRow ty68_u ty68_i trivial (by simp [zval, Value.cells]) rfl rfl,
   tokRow ty69_u ty69_i trivial (by simp [zval, Value.cells]) rfl rfl,
   tokRow ty70_u ty70_i trivial (by simp [zval, Value.cells]) rfl rfl,
   tokRow ty71_u ty71_i trivial (by simp [zval, Value.cells]) rfl rfl,
   tokRow ty72_u ty72_i ⟨_, rfl, rfl⟩ (by simp [zval, Value.cells]) rfl rfl,
   tokRow ty73_u ty73_i ⟨_, rfl, rfl⟩ (by simp [zval, Value.cells]) rfl rfl,
   tokRow ty74_u ty74_i ⟨_, rfl, rfl⟩ (by simp [zval, Value.cells]) rfl rfl,
   tokRow ty75_u ty75_i ⟨_, rfl, rfl⟩ (by simp [zval, Value.cells]) rfl rfl,
   tokRow ty76_u ty76_i ⟨_, rfl, rfl⟩ (by simp [zval, Value.cells]) rfl rfl,
   tokRow ty77_u ty77_i ⟨_, rfl, rfl⟩ (by simp [zval, Value.cells]) rfl rfl,
   tokRow ty78_u ty78_i trivial (by simp [zval, Value.cells]) rfl rfl,
   tokRow ty79_u ty79_i trivial (by simp [zval, Value.cells]) rfl rfl,
   tokRow ty80_u ty80_i trivial (by simp [zval, Value.cells]) rfl rfl,
   tokRow ty81_u ty81_i trivial (by simp [zval, Value.cells]) rfl rfl,
   tokRow ty82_u ty82_i trivial (by simp [zval, Value.cells]) rfl rfl,
   tokRow ty83_u ty83_i trivial (by simp [zval, Value.cells]) rfl rfl,
   tokRow ty84_u ty84_i trivial (by simp [zval, Value.cells]) rfl rfl,
   tokRow ty85_u ty85_i trivial (by simp [zval, Value.cells]) rfl rfl,
   tokRow ty86_u ty86_i trivial (by simp [zval, Value.cells]) rfl rfl,
   tokRow ty87_u ty87_i rfl (by simp [zval, Value.cells]) rfl rfl,
   tokRow ty88_u ty88_i rfl (by simp [zval, Value.cells]) rfl rfl,
   tokRow ty89_u ty89_i rfl (by simp [zval, Value.cells]) rfl rfl,
   tokRow ty90_u ty90_i ⟨_, rfl, rfl⟩ (by simp [zval, Value.cells]) rfl rfl,
   tokRow ty91_u ty91_i ⟨_, rfl, rfl⟩ (by simp [zval, Value.cells]) rfl rfl,
   tokRow ty92_u ty92_i trivial (by simp [zval, Value.cells]) rfl rfl,
   tokRow ty93_u ty93_i trivial (by simp [zval, Value.cells]) rfl rfl,
   tokRow ty94_u ty94_i trivial (by simp [zval, Value.cells]) rfl rfl,
   tokRow ty95_u ty95_i trivial (by simp [zval, Value.cells]) rfl rfl,
   tokRow ty96_u ty96_i ⟨_, rfl, rfl⟩ (by simp [zval, Value.cells]) rfl rfl,
   tokRow ty97_u ty97_i ⟨_, rfl, rfl⟩ (by simp [zval, Value.cells]) rfl rfl,
   tokRow ty98_u ty98_i trivial (by simp [zval, Value.cells]) rfl rfl,
   tokRow ty99_u ty99_i trivial (by simp [zval, Value.cells]) rfl rfl,
   tokRow ty100_u ty100_i trivial (by simp [zval, Value.cells]) rfl rfl,
   tokRow ty101_u ty101_i trivial (by simp [zval, Value.cells]) rfl rfl,
   tokRow ty102_u ty102_i rfl (by simp [zval, Value.cells]) rfl rfl,
   tokRow ty103_u ty103_i trivial (by simp [zval, Value.cells]) rfl rfl,
   tokRow ty104_u ty104_i ⟨_, rfl, rfl⟩ (by simp [zval, Value.cells]) rfl rfl,
   tokRow ty105_u ty105_i ⟨_, rfl, rfl⟩ (by simp [zval, Value.cells]) rfl rfl,
   tokRow ty106_u ty106_i ⟨_, rfl, rfl⟩ (by simp [zval, Value.cells]) rfl rfl,
   tokRow ty107_u ty107_i ⟨_, rfl, rfl⟩ (by simp [zval, Value.cells]) rfl rfl,
   tokRow ty108_u ty108_i trivial (by simp [zval, Value.cells]) rfl rfl,
   tokRow ty110_u ty110_i trivial (by simp [zval, Value.cells]) rfl rfl,
   tokRow ty112_u ty112_i trivial (by simp [zval, Value.cells]) rfl rfl,
   tokRow ty113_u ty113_i trivial (by simp [zval, Value.cells]) rfl rfl,
   tokRow ty114_u ty114_i trivial (by simp [zval, Value.cells]) rfl rfl,
   tokRow ty115_u ty115_i trivial (by simp [zval, Value.cells]) rfl rfl,
   tokRow ty116_u ty116_i trivial (by simp [zval, Value.cells]) rfl rfl,
   tokRow ty117_u ty117_i trivial (by simp [zval, Value.cells]) rfl rfl,
   tokRow ty118_u ty118_i trivial (by simp [zval, Value.cells]) rfl rfl,
   tokRow ty119_u ty119_i trivial (by simp [zval, Value.cells]) rfl rfl,
   tokRow ty120_u ty120_i trivial (by simp [zval, Value.cells]) rfl rfl,
   tokRow ty121_u ty121_i trivial (by simp [zval, Value.cells]) rfl rfl,
   tokRow ty122_u ty122_i trivial (by simp [zval, Value.cells]) rfl rfl,
   tokRow ty123_u ty123_i trivial (by simp [zval, Value.cells]) rfl rfl,
   tokRow ty124_u ty124_i trivial (by simp [zval, Value.cells]) rfl rfl,
   tokRow ty125_u ty125_i trivial (by simp [zval, Value.cells]) rfl rfl,
   tokRow ty126_u ty126_i ⟨_, rfl, rfl⟩ (by simp [zval, Value.cells]) rfl rfl,
   tokRow ty127_u ty127_i ⟨_, rfl, rfl⟩ (by simp [zval, Value.cells]) rfl rfl,
   tokRow ty128_u ty128_i trivial (by simp [zval, Value.cells]) rfl rfl,
   tokRow ty129_u ty129_i trivial (by simp [zval, Value.cells]) rfl rfl,
   tokRow ty130_u ty130_i trivial (by simp [zval, Value.cells]) rfl rfl,
   tokRow ty131_u ty131_i trivial (by simp [zval, Value.cells]) rfl rfl,
   tokRow ty132_u ty132_i rfl (by simp [zval, Value.cells]) rfl rfl,
   tokRow ty134_u ty134_i trivial (by simp [zval, Value.cells]) rfl rfl,
   tokRow ty135_u ty135_i trivial (by simp [zval, Value.cells]) rfl rfl,
   tokRow ty136_u ty136_i trivial (by simp [zval, Value.cells]) rfl rfl,
   tokRow ty137_u ty137_i trivial (by simp [zval, Value.cells]) rfl rfl,
   tokRow ty138_u ty138_i trivial (by simp [zval, Value.cells]) rfl rfl,
   tokRow ty139_u ty139_i trivial (by simp [zval, Value.cells]) rfl rfl,
   tokRow ty140_u ty140_i rfl (by simp [zval, Value.cells]) rfl rfl,
   tokRow ty141_u ty141_i trivial (by simp [zval, Value.cells]) rfl rfl,
   tokRow ty142_u ty142_i rfl (by simp [zval, Value.cells]) rfl rfl,
   tokRow ty143_u ty143_i trivial (by simp [zval, Value.cells]) rfl rfl,
   tokRow ty145_u ty145_i trivial (by simp [zval, Value.cells]) rfl rfl,
   tokRow ty146_u ty146_i trivial (by simp [zval, Value.cells]) rfl rfl,
   tokRow ty147_u ty147_i trivial (by simp [zval, Value.cells]) rfl rfl,
   tokRow ty148_u ty148_i rfl (by simp [zval, Value.cells]) rfl rfl,
   tokRow ty149_u ty149_i rfl (by simp [zval, Value.cells]) rfl rfl,
   tokRow ty150_u ty150_i trivial (by simp [zval, Value.cells]) rfl rfl,
   tokRow ty151_u ty151_i trivial (by simp [zval, Value.cells]) rfl rfl,
   tokRow ty152_u ty152_i rfl (by simp [zval, Value.cells]) rfl rfl,
   tokRow ty153_u ty153_i trivial (by simp [zval, Value.cells]) rfl rfl,
   tokRow ty154_u ty154_i rfl (by simp [zval, Value.cells]) rfl rfl,
   tokRow ty155_u ty155_i trivial (by simp [zval, Value.cells]) rfl rfl,
   tokRow ty156_u ty156_i rfl (by simp [zval, Value.cells]) rfl rfl,
   tokRow ty158_u ty158_i trivial (by simp [zval, Value.cells]) rfl rfl,
   tokRow ty159_u ty159_i rfl (by simp [zval, Value.cells]) rfl rfl,
   tokRow ty161_u ty161_i trivial (by simp [zval, Value.cells]) rfl rfl,
   tokRow ty162_u ty162_i trivial (by simp [zval, Value.cells]) rfl rfl,
   tokRow ty163_u ty163_i ⟨_, rfl, rfl⟩ (by simp [zval, Value.cells]) rfl rfl,
   tokRow ty164_u ty164_i ⟨_, rfl, rfl⟩ (by simp [zval, Value.cells]) rfl rfl,
   tokRow ty165_u ty165_i rfl (by simp [zval, Value.cells]) rfl rfl,
   tokRow ty166_u ty166_i rfl (by simp [zval, Value.cells]) rfl rfl,
   tokRow ty167_u ty167_i rfl (by simp [zval, Value.cells]) rfl rfl,
   tokRow ty168_u ty168_i trivial (by simp [zval, Value.cells]) rfl rfl,
   tokRow ty171_u ty171_i rfl (by simp [zval, Value.cells]) rfl rfl,
   tokRow ty176_u ty176_i trivial (by simp [zval, Value.cells]) rfl rfl,
   tokRow ty177_u ty177_i trivial (by simp [zval, Value.cells]) rfl rfl,
   tokRow ty180_u ty180_i ⟨_, rfl, rfl⟩ (by simp [zval, Value.cells]) rfl rfl⟩) (by
 simp only [tt, List.forall_mem_cons, List.not_mem_nil, false_imp_iff, implies_true, and_true]
 exact ⟨eq_not eqN_1, fun _ => ty2_e, fun _ => ty3_e, fun _ => ty4_e, fun _ => ty5_e, fun _ => ty9_e, fun _ => ty12_e, fun _ => ty21_e, eq_not eqN_22, fun _ => ty23_e, eq_not eqN_24, eq_not eqN_25, fun _ => ty26_e, fun _ => ty27_e, eq_not eqN_28, eq_not eqN_29, eq_not eqN_30, eq_not eqN_31, eq_not eqN_32, eq_not eqN_33, eq_not eqN_34, eq_not eqN_35, eq_not eqN_36, eq_not eqN_37, eq_not eqN_38, eq_not eqN_39, fun _ => ty40_e, eq_not eqN_42, eq_not eqN_43, eq_not eqN_44, eq_not eqN_45, eq_not eqN_46, eq_not eqN_47, eq_not eqN_48, eq_not eqN_49, eq_not eqN_50, fun _ => ty51_e, fun _ => ty52_e, fun _ => ty53_e, eq_not eqN_55, eq_not eqN_56, eq_not eqN_57, eq_not eqN_58, eq_not eqN_59, eq_not eqN_60, eq_not eqN_61, eq_not eqN_62, eq_not eqN_63, eq_not eqN_64, eq_not eqN_66, eq_not eqN_67, eq_not eqN_68, eq_not eqN_69, eq_not eqN_70, eq_not eqN_71, fun _ => ty72_e, fun _ => ty73_e, fun _ => ty74_e, fun _ => ty75_e, fun _ => ty76_e, fun _ => ty77_e, eq_not eqN_78, eq_not eqN_79, eq_not eqN_80, eq_not eqN_81, eq_not eqN_82, eq_not eqN_83, eq_not eqN_84, eq_not eqN_85, eq_not eqN_86, eq_not eqN_87, eq_not eqN_88, eq_not eqN_89, eq_not eqN_90, eq_not eqN_91, eq_not eqN_92, eq_not eqN_93, eq_not eqN_94, eq_not eqN_95, eq_not eqN_96, eq_not eqN_97, eq_not eqN_98, eq_not eqN_99, eq_not eqN_100, eq_not eqN_101, eq_not eqN_102, eq_not eqN_103, eq_not eqN_104, eq_not eqN_105, eq_not eqN_106, eq_not eqN_107, eq_not eqN_108, eq_not eqN_110, eq_not eqN_112, eq_not eqN_113, eq_not eqN_114, eq_not eqN_115, eq_not eqN_116, eq_not eqN_117, eq_not eqN_118, eq_not eqN_119, eq_not eqN_120, eq_not eqN_121, eq_not eqN_122, eq_not eqN_123, eq_not eqN_124, eq_not eqN_125, eq_not eqN_126, eq_not eqN_127, eq_not eqN_128, eq_not eqN_129, eq_not eqN_130, eq_not eqN_131, eq_not eqN_132, eq_not eqN_134, eq_not eqN_135, eq_not eqN_136, eq_not eqN_137, eq_not eqN_138, eq_not eqN_139, eq_not eqN_140, eq_not eqN_141, fun _ => ty142_e, eq_not eqN_143, eq_not eqN_145, eq_not eqN_146, eq_not eqN_147, fun _ => ty148_e, fun _ => ty149_e, eq_not eqN_150, eq_not eqN_151, eq_not eqN_152, eq_not eqN_153, fun _ => ty154_e, eq_not eqN_155, fun _ => ty156_e, eq_not eqN_158, fun _ => ty159_e, eq_not eqN_161, eq_not eqN_162, fun _ => ty163_e, fun _ => ty164_e, fun _ => ty165_e, eq_not eqN_166, fun _ => ty167_e, eq_not eqN_168, eq_not eqN_171, eq_not eqN_176, eq_not eqN_177, eq_not eqN_180⟩)
theorem mixed : Tryd.prog.follows .mixedOrders = true := by kernel_rfl
end Fen

namespace Fen
open Go Go.Proofs
theorem fdiv2 (n : Int) (k : Nat) : n.fdiv (2 ^ k) = n / 2 ^ k := Int.fdiv_eq_ediv_of_nonneg _ (Int.le_of_lt (Int.pow_pos (by decide)))
def checkF (n : Int) : Bool := decide (0 ≤ n) && decide (n ≤ 1114111) && (decide (n < 55296) || decide (57343 < n))
theorem checkF_iff (n : Int) : checkF n = true ↔ 0 ≤ n ∧ n ≤ 1114111 ∧ (n < 55296 ∨ 57343 < n) := by simp [checkF, and_assoc]
def I64 (n : Int) : Prop := -9223372036854775808 ≤ n ∧ n ≤ 9223372036854775807
def checkSpec : Spec := { pre := fun args => ∃ n : Int, args = [.c (.int .i64 n)], res := fun args => .one (.val (.c (.bool (checkF (args.headD default).int)))) }
set_option maxRecDepth 10000 in
theorem check_sound (gl : Gl) : Sound Tryd.prog gl 93 checkSpec := by
 refine sound_fn (N := Tryd.f93.ntmps) (rs := Tryd.f93.results.toList) mixed tok (SpecsOK.nil _ _) Tryd.func93 rfl rfl rfl rfl rfl ?_ ?_ ?_
 · rintro args ⟨n, rfl⟩; simp [Tryd.f93]
 · rintro args ⟨n, rfl⟩; simp [checkSpec, Tryd.f93]
 · rintro args ⟨n, rfl⟩ bs hgl hh hro
   simp [checkSpec, Tryd.f93, checkF]
   have e : n.fdiv (2 ^ min 11 IntKind.i64.bits) = n / 2048 := by rw [show min 11 IntKind.i64.bits = 11 from rfl, fdiv2]; rfl
   have e2 : (¬ n / 2048 = 27) ↔ (n < 55296 ∨ 57343 < n) := by constructor <;> intro h <;> omega
   have e3 : (n / 2048 != 27) = (decide (n < 55296) || decide (57343 < n)) := by rw [Bool.eq_iff_iff]; simpa using e2
   rw [e, e3]
   rfl
set_option maxRecDepth 10000 in
theorem rcheck_sound (gl : Gl) : Sound Tryd.prog gl 84 checkSpec := by
 refine sound_fn (N := Tryd.f84.ntmps) (rs := Tryd.f84.results.toList) mixed tok (SpecsOK.nil _ _) Tryd.func84 rfl rfl rfl rfl rfl ?_ ?_ ?_
 · rintro args ⟨n, rfl⟩; simp [Tryd.f84]
 · rintro args ⟨n, rfl⟩; simp [checkSpec, Tryd.f84]
 · rintro args ⟨n, rfl⟩ bs hgl hh hro
   simp [checkSpec, Tryd.f84, checkF]
   exact ⟨fun a b => ⟨⟨a, b⟩, fun c => ⟨⟨a, b⟩, c⟩⟩, rfl⟩
/-- ranges as cells -/
def spansC : List (Int × Int) → List C
 | [] => []
 | x :: l => .int .i64 x.1 :: .int .i64 x.2 :: spansC l
theorem spansC_drop : ∀ (l : List (Int × Int)) (k : Nat), (spansC l).drop (k * 2) = spansC (l.drop k)
 | _, 0 => by simp
 | [], k + 1 => by simp [spansC]
 | x :: l, k + 1 => by
   rw [show (k + 1) * 2 = k * 2 + 1 + 1 by omega]
   simp only [spansC, List.drop_succ_cons]
   exact spansC_drop l k
@[simp] theorem spansC_len (l : List (Int × Int)) : (spansC l).length = l.length * 2 := by
 induction l with
 | nil => rfl
 | cons x l ih => simp [spansC, ih]; omega
def inF (cp : Int) (l : List (Int × Int)) : Bool := l.any fun x => decide (x.1 ≤ cp) && decide (cp ≤ x.2)
def inSpec : Spec := { pre := fun args => ∃ (cp : Int) (l : List (Int × Int)), args = [.c (.int .i64 cp), .c (.sl l.length (spansC l))] ∧ l.length ≤ 1000, res := fun args => match args with
 | [.c (.int _ cp), .c (.sl _ cs)] => .one (.val (.c (.bool (inF cp (unC cs)))))
 | _ => .many [] }
where unC : List C → List (Int × Int)
 | .int _ a :: .int _ b :: l => (a, b) :: unC l
 | _ => []
@[simp] theorem unC_spansC (l : List (Int × Int)) : inSpec.unC (spansC l) = l := by
 induction l with
 | nil => rfl
 | cons x l ih => simp [spansC, inSpec.unC, ih]
def inS (cp : Int) (l : List (Int × Int)) (k : Nat) : St :=
 ⟨24, [(0, .val (.int .i64 cp)), (7, .val (.sl l.length (spansC l))), (8, .val (.int .i64 l.length)), (9, .val (.int .i64 k))], []⟩
set_option maxRecDepth 10000 in
theorem in_sound (gl : Gl) : Sound Tryd.prog gl 94 inSpec := by
 refine sound_fn (N := Tryd.f94.ntmps) (rs := Tryd.f94.results.toList) mixed tok (SpecsOK.nil _ gl) Tryd.func94 rfl rfl rfl rfl rfl ?_ ?_ ?_
 · rintro args ⟨cp, l, rfl, h0⟩; simp [Tryd.f94]
 · rintro args ⟨cp, l, rfl, h0⟩; simp [inSpec, Tryd.f94]
 · rintro args ⟨cp, l, rfl, h0⟩ bs hgl hh hro
   have hE : Env.OK ⟨Tryd.prog, T, [], bs⟩ := ⟨tok, by rw [hgl]; exact SpecsOK.nil _ gl⟩
   simp [inSpec, Tryd.f94]
   refine AWP.rounds (fun k => k ≤ l.length ∧ inF cp (l.take k) = false) (inS cp l) (fun k => l.length - k) 0 ⟨by omega, by simp [inF]⟩ ?_ ?_
   · refine Weak.keep ?_
     simp [inS]
   · rintro k ⟨hk, hf⟩
     refine wpc_ok hE mixed _ _ _ ?_
     rcases Nat.lt_or_ge k l.length with h | h
     · have w1 : IntKind.i64.wrap ((k : Int) + 1) = k + 1 := wrap64 _ (by omega) (by omega)
       have hd : (spansC l).drop (k * 2) = .int .i64 l[k].1 :: .int .i64 l[k].2 :: spansC (l.drop (k + 1)) := by
         rw [spansC_drop, List.drop_eq_getElem_cons h]; rfl
       have ht : inF cp (l.take (k + 1)) = (decide (l[k].1 ≤ cp) && decide (cp ≤ l[k].2)) := by
         rw [List.take_add_one, List.getElem?_eq_getElem h]
         unfold inF at hf ⊢
         rw [List.any_append, hf]; simp
       simp [inS, and_assoc, h, hd, w1]
       refine ⟨fun h1 h2 => ?_, fun h1 => ?_⟩
       · unfold inF
         rw [List.any_eq_true]
         exact ⟨l[k], List.getElem_mem h, by simp [h1, h2]⟩
       · refine Next.mk (k + 1) ⟨by omega, ?_⟩ (by omega) (Weak.ren [] (baseOK.nil hh) (by simp) (by simp) ?_)
         · rw [ht]; simp; omega
         · simp [inS]
     · have : k = l.length := by omega
       subst this
       rw [List.take_length] at hf
       simp [inS, hf]
def marksL : List (Int × Int) := [(0x300, 0x36f), (0x483, 0x489), (0x591, 0x5bd), (0x610, 0x61a), (0x64b, 0x65f), (0x1ab0, 0x1aff), (0x1dc0, 0x1dff), (0x200b, 0x200f), (0x20d0, 0x20ff), (0xfe00, 0xfe0f), (0xfe20, 0xfe2f)]
def widesL : List (Int × Int) := [(0x1100, 0x115f), (0x2e80, 0x303e), (0x3041, 0x4dbf), (0x4e00, 0xa4cf), (0xac00, 0xd7a3), (0xf900, 0xfaff), (0xfe30, 0xfe6f), (0xff00, 0xff60), (0xffe0, 0xffe6), (0x1f300, 0x1f64f), (0x1f680, 0x1f6ff), (0x1f900, 0x1f9ff), (0x20000, 0x3fffd)]
def glW : Gl := [(0, spansC marksL), (1, spansC widesL)]
@[simp] theorem glk_0 : glk glW 0 = .fptr (spansC marksL) := rfl
@[simp] theorem glk_1 : glk glW 1 = .fptr (spansC widesL) := rfl
def widthF (cp : Int) : Int := if checkF cp = false ∨ inF cp [(0, 31), (127, 159)] = true then -1 else if cp < 768 then 1 else if inF cp marksL then 0 else if inF cp widesL then 2 else 1
def ofSpec : Spec := { pre := fun args => ∃ cp : Int, args = [.c (.int .i64 cp)], res := fun args => .one (.val (.c (.int .i64 (widthF (args.headD default).int)))) }
def GOf : Specs := [(93, checkSpec), (94, inSpec)]
@[simp] theorem GOf_live : Specs.live GOf = false := rfl
@[simp] theorem GOf_nils : Specs.nils GOf = false := rfl
@[simp] theorem GOf_18 : GOf.find 93 = some checkSpec := rfl
@[simp] theorem GOf_19 : GOf.find 94 = some inSpec := rfl
theorem GOf_ok (gl : Gl) : SpecsOK Tryd.prog gl GOf := .cons (check_sound gl) (.cons (in_sound gl) (.nil _ _))
set_option maxRecDepth 10000 in
theorem of_sound : Sound Tryd.prog glW 82 ofSpec := by
 refine sound_fn (N := Tryd.f82.ntmps) (rs := Tryd.f82.results.toList) mixed tok (GOf_ok glW) Tryd.func82 rfl rfl rfl rfl rfl ?_ ?_ ?_
 · rintro args ⟨cp, rfl⟩; simp [Tryd.f82]
 · rintro args ⟨cp, rfl⟩; simp [ofSpec, Tryd.f82]
 · rintro args ⟨cp, rfl⟩ bs hgl hh hro
   obtain ⟨w0, own, g0, h0', gl, ro⟩ := bs
   simp only at hgl
   subst hgl
   have u0 : [C.int .i64 0, C.int .i64 31, C.int .i64 127, C.int .i64 159] = spansC [(0, 31), (127, 159)] := rfl
   have u1 : (spansC marksL).head? = some (.int .i64 768) := rfl
   have u2 : marksL.length = 11 := rfl
   have u3 : widesL.length = 13 := rfl
   simp [ofSpec, checkSpec, inSpec, Tryd.f82, and_assoc, u0, u1, u2]
   refine ⟨fun h => ⟨h, [(0, 31), (127, 159)], rfl, rfl, by decide⟩, fun h => by unfold widthF; rw [if_pos h], fun h1 h2 => ?_⟩
   refine ⟨fun h => by unfold widthF; rw [if_neg (by simp [h1, h2]), if_pos h], fun h => ?_⟩
   refine OpW.arr tok T_165 rfl T_164 (cs := spansC marksL) rfl rfl (by decide) (by simp [dstOK]) ?_
   simp [inSpec, u2]
   refine ⟨⟨cp, marksL, ⟨rfl, rfl, rfl⟩, by decide⟩, fun h3 => by unfold widthF; rw [if_neg (by simp [h1, h2]), if_neg (by omega), if_pos h3], fun h3 => ?_⟩
   refine OpW.arr tok T_167 rfl T_164 (cs := spansC widesL) rfl rfl (by decide) (by simp [dstOK]) ?_
   simp [inSpec, u3]
   refine ⟨⟨cp, widesL, ⟨rfl, rfl, rfl⟩, by decide⟩, fun h4 => by unfold widthF; rw [if_neg (by simp [h1, h2]), if_neg (by omega), if_neg (by simp [h3]), if_pos h4], fun h4 => by unfold widthF; rw [if_neg (by simp [h1, h2]), if_neg (by omega), if_neg (by simp [h3]), if_neg (by simp [h4])]⟩
def rinSpec : Spec := { pre := fun args => ∃ (cp : Int) (l : List (Int × Int)), args = [.c (.sl l.length (spansC l)), .c (.int .i64 cp)] ∧ l.length ≤ 1000, res := fun args => match args with
 | [.c (.sl _ cs), .c (.int _ cp)] => .one (.val (.c (.bool (inF cp (inSpec.unC cs)))))
 | _ => .many [] }
def rinS (cp : Int) (l : List (Int × Int)) (k : Nat) : St :=
 ⟨28, [(0, .val (.sl l.length (spansC l))), (1, .val (.int .i64 cp)), (5, .val (.int .i64 k))], []⟩
set_option maxRecDepth 10000 in
theorem rin_sound (gl : Gl) : Sound Tryd.prog gl 85 rinSpec := by
 refine sound_fn (N := Tryd.f85.ntmps) (rs := Tryd.f85.results.toList) mixed tok (SpecsOK.nil _ gl) Tryd.func85 rfl rfl rfl rfl rfl ?_ ?_ ?_
 · rintro args ⟨cp, l, rfl, h0⟩; simp [Tryd.f85]
 · rintro args ⟨cp, l, rfl, h0⟩; simp [rinSpec, Tryd.f85]
 · rintro args ⟨cp, l, rfl, h0⟩ bs hgl hh hro
   have hE : Env.OK ⟨Tryd.prog, T, [], bs⟩ := ⟨tok, by rw [hgl]; exact SpecsOK.nil _ gl⟩
   simp [rinSpec, Tryd.f85]
   refine AWP.rounds (fun k => k ≤ l.length ∧ inF cp (l.take k) = false) (rinS cp l) (fun k => l.length - k) 0 ⟨by omega, by simp [inF]⟩ ?_ ?_
   · refine Weak.keep ?_
     simp [rinS]
   · rintro k ⟨hk, hf⟩
     refine wpc_ok hE mixed _ _ _ ?_
     rcases Nat.lt_or_ge k l.length with h | h
     · have w1 : IntKind.i64.wrap ((k : Int) + 1) = k + 1 := wrap64 _ (by omega) (by omega)
       have hd : (spansC l).drop (k * 2) = .int .i64 l[k].1 :: .int .i64 l[k].2 :: spansC (l.drop (k + 1)) := by
         rw [spansC_drop, List.drop_eq_getElem_cons h]; rfl
       have ht : inF cp (l.take (k + 1)) = (decide (l[k].1 ≤ cp) && decide (cp ≤ l[k].2)) := by
         rw [List.take_add_one, List.getElem?_eq_getElem h]
         unfold inF at hf ⊢
         rw [List.any_append, hf]; simp
       simp [rinS, and_assoc, h, hd, w1]
       refine ⟨fun h1 h2 => ?_, fun h1 => ?_⟩
       · unfold inF
         rw [List.any_eq_true]
         exact ⟨l[k], List.getElem_mem h, by simp [h1, h2]⟩
       · refine Next.mk (k + 1) ⟨by omega, ?_⟩ (by omega) (Weak.keep ?_)
         · rw [ht]; simp; omega
         · simp [rinS]
     · have : k = l.length := by omega
       subst this
       rw [List.take_length] at hf
       simp [rinS, hf]
def twosL : List (Int × Int) := [(0x1100, 0x115f), (0x2e80, 0x303e), (0x3041, 0x33ff), (0x3400, 0x4dbf), (0x4e00, 0x9fff), (0xa000, 0xa4cf), (0xac00, 0xd7a3), (0xf900, 0xfaff), (0xfe30, 0xfe6f), (0xff00, 0xff60), (0xffe0, 0xffe6), (0x1f300, 0x1f64f), (0x1f680, 0x1f6ff), (0x1f900, 0x1f9ff), (0x20000, 0x3fffd)]
def zeroSpec : Spec := { pre := fun args => args = [], res := fun _ => .one (.val (.c (.sl 11 (spansC marksL)))) }
def twoSpec : Spec := { pre := fun args => args = [], res := fun _ => .one (.val (.c (.sl 15 (spansC twosL)))) }
set_option maxRecDepth 10000 in
theorem zero_sound (gl : Gl) : Sound Tryd.prog gl 86 zeroSpec := by
 refine sound_fn (N := Tryd.f86.ntmps) (rs := Tryd.f86.results.toList) mixed tok (SpecsOK.nil _ gl) Tryd.func86 rfl rfl rfl rfl rfl ?_ ?_ ?_
 · rintro args rfl; simp [Tryd.f86]
 · rintro args rfl; simp [zeroSpec, Tryd.f86]
 · rintro args rfl bs hgl hh hro
   simp [zeroSpec, Tryd.f86, spansC, marksL]
set_option maxRecDepth 10000 in
theorem two_sound (gl : Gl) : Sound Tryd.prog gl 87 twoSpec := by
 refine sound_fn (N := Tryd.f87.ntmps) (rs := Tryd.f87.results.toList) mixed tok (SpecsOK.nil _ gl) Tryd.func87 rfl rfl rfl rfl rfl ?_ ?_ ?_
 · rintro args rfl; simp [Tryd.f87]
 · rintro args rfl; simp [twoSpec, Tryd.f87]
 · rintro args rfl bs hgl hh hro
   simp [twoSpec, Tryd.f87, spansC, twosL]
/-- the two tables hold the same code points -/
theorem twos_same (cp : Int) : inF cp twosL = inF cp widesL := by
 rw [Bool.eq_iff_iff]
 simp [inF, twosL, widesL]
 omega
def rofF (cp : Int) : Int := if checkF cp = false ∨ cp < 32 ∨ (127 ≤ cp ∧ cp < 160) then -1 else if inF cp marksL then 0 else if inF cp twosL then 2 else 1
theorem of_same (cp : Int) : rofF cp = widthF cp := by
 unfold rofF widthF
 rw [twos_same]
 have e : (inF cp [(0, 31), (127, 159)] = true) ↔ ((0 ≤ cp ∧ cp ≤ 31) ∨ (127 ≤ cp ∧ cp ≤ 159)) := by simp [inF]
 cases hc : checkF cp with
 | false => simp
 | true =>
   rw [checkF_iff] at hc
   have hm : cp < 768 → inF cp marksL = false := fun h => by
     rw [Bool.eq_false_iff, Ne]; simp [inF, marksL]; omega
   have hw : cp < 768 → inF cp widesL = false := fun h => by
     rw [Bool.eq_false_iff, Ne]; simp [inF, widesL]; omega
   by_cases h1 : cp < 32 ∨ (127 ≤ cp ∧ cp < 160)
   · rw [if_pos (.inr h1), if_pos (.inr (e.2 (by omega)))]
   · have n1 : ¬ (true = false ∨ cp < 32 ∨ (127 ≤ cp ∧ cp < 160)) := by simp; omega
     have n2 : ¬ (true = false ∨ inF cp [(0, 31), (127, 159)] = true) := by rw [e]; simp; omega
     rw [if_neg n1, if_neg n2]
     by_cases h2 : cp < 768
     · rw [if_pos h2, hm h2, hw h2]; rfl
     · rw [if_neg h2]
def GRo : Specs := [(84, checkSpec), (86, zeroSpec), (87, twoSpec), (85, rinSpec)]
@[simp] theorem GRo_live : Specs.live GRo = false := rfl
@[simp] theorem GRo_nils : Specs.nils GRo = false := rfl
@[simp] theorem GRo_20 : GRo.find 84 = some checkSpec := rfl
@[simp] theorem GRo_22 : GRo.find 86 = some zeroSpec := rfl
@[simp] theorem GRo_23 : GRo.find 87 = some twoSpec := rfl
@[simp] theorem GRo_21 : GRo.find 85 = some rinSpec := rfl
theorem GRo_ok (gl : Gl) : SpecsOK Tryd.prog gl GRo := .cons (rcheck_sound gl) (.cons (zero_sound gl) (.cons (two_sound gl) (.cons (rin_sound gl) (.nil _ _))))
set_option maxRecDepth 10000 in
theorem rof_sound (gl : Gl) : Sound Tryd.prog gl 76 ofSpec := by
 refine sound_fn (N := Tryd.f76.ntmps) (rs := Tryd.f76.results.toList) mixed tok (GRo_ok gl) Tryd.func76 rfl rfl rfl rfl rfl ?_ ?_ ?_
 · rintro args ⟨cp, rfl⟩; simp [Tryd.f76]
 · rintro args ⟨cp, rfl⟩; simp [ofSpec, Tryd.f76]
 · rintro args ⟨cp, rfl⟩ bs hgl hh hro
   simp [ofSpec, checkSpec, zeroSpec, twoSpec, rinSpec, Tryd.f76, and_assoc, ← of_same]
   refine ⟨fun a b => ⟨a, b, fun c => ⟨a, b, c⟩⟩, fun h => by unfold rofF; rw [if_pos (by rcases h with (h | h) | h <;> simp [h])], fun a b c => ?_⟩
   have n0 : ¬ (checkF cp = false ∨ cp < 32 ∨ (127 ≤ cp ∧ cp < 160)) := by simp [a]; omega
   refine ⟨⟨cp, marksL, rfl, rfl, rfl, by decide⟩, fun h => by unfold rofF; rw [if_neg n0, if_pos h], fun h => ⟨⟨cp, twosL, rfl, rfl, rfl, by decide⟩, fun h2 => by unfold rofF; rw [if_neg n0, if_neg (by simp [h]), if_pos h2], fun h2 => by unfold rofF; rw [if_neg n0, if_neg (by simp [h]), if_neg (by simp [h2])]⟩⟩
end Fen

namespace Fen
open Go Go.Proofs
def limSpec : Spec := { pre := fun args => args = [], res := fun _ => .one (.val (.agg [.int .i64 0, .int .i64 255, .int .i64 16777215])) }
set_option maxRecDepth 10000 in
theorem lim_sound (gl : Gl) : Sound Tryd.prog gl 88 limSpec := by
 refine sound_fn (N := Tryd.f88.ntmps) (rs := Tryd.f88.results.toList) mixed tok (SpecsOK.nil _ _) Tryd.func88 rfl rfl rfl rfl rfl ?_ ?_ ?_
 · rintro args rfl; simp [Tryd.f88]
 · rintro args rfl; simp [limSpec, Tryd.f88]
 · rintro args rfl bs hgl hh hro
   simp [limSpec, Tryd.f88]
def colSpec : Spec := { pre := fun args => ∃ k n : Int, args = [.agg [.int .i64 k, .int .i64 n]], res := fun args => match args with
 | [.agg [.int _ k, .int _ n]] => .one (.val (.c (.int .i64 (colF k n))))
 | _ => .many [] }
def GCo : Specs := [(88, limSpec)]
@[simp] theorem GCo_live : Specs.live GCo = false := rfl
@[simp] theorem GCo_nils : Specs.nils GCo = false := rfl
@[simp] theorem GCo_56 : GCo.find 88 = some limSpec := rfl
theorem GCo_ok (gl : Gl) : SpecsOK Tryd.prog gl GCo := .cons (lim_sound gl) (.nil _ _)
set_option maxRecDepth 10000 in
theorem col_sound (gl : Gl) : Sound Tryd.prog gl 78 colSpec := by
 refine sound_fn (N := Tryd.f78.ntmps) (rs := Tryd.f78.results.toList) mixed tok (GCo_ok gl) Tryd.func78 rfl rfl rfl rfl rfl ?_ ?_ ?_
 · rintro args ⟨k, n, rfl⟩; simp [Tryd.f78]
 · rintro args ⟨k, n, rfl⟩; simp [colSpec, Tryd.f78]
 · rintro args ⟨k, n, rfl⟩ bs hgl hh hro
   by_cases hk : k < 0
   · have e : colF k n = 130 := by unfold colF; rw [if_neg (by omega)]
     have ht : k.toNat = 0 := by omega
     simp [colSpec, limSpec, Tryd.f78, hk, ht, e]
     rfl
   · by_cases hk2 : 3 ≤ k
     · have e : colF k n = 130 := by unfold colF; rw [if_neg (by omega)]
       simp [colSpec, limSpec, Tryd.f78, hk, hk2, e]
       rfl
     · have key : ∀ m : Int, (k = 0 ∧ m = 0) ∨ (k = 1 ∧ m = 255) ∨ (k = 2 ∧ m = 16777215) → colF k n = if n < 0 ∨ m < n then 130 else 0 := fun m hm => by
         unfold colF
         split <;> split <;> first | rfl | omega
       obtain rfl | rfl | rfl : k = 0 ∨ k = 1 ∨ k = 2 := by omega
       · rcases Decidable.em (n < 0) with hn | hn <;> rcases Decidable.em (0 < n) with hm | hm <;> simp [colSpec, limSpec, Tryd.f78, key 0 (by simp), hn, hm] <;> rfl
       · rcases Decidable.em (n < 0) with hn | hn <;> rcases Decidable.em (255 < n) with hm | hm <;> simp [colSpec, limSpec, Tryd.f78, key 255 (by simp), hn, hm] <;> rfl
       · rcases Decidable.em (n < 0) with hn | hn <;> rcases Decidable.em (16777215 < n) with hm | hm <;> simp [colSpec, limSpec, Tryd.f78, key 16777215 (by simp), hn, hm] <;> rfl
set_option maxRecDepth 10000 in
theorem rcol_sound (gl : Gl) : Sound Tryd.prog gl 95 colSpec := by
 refine sound_fn (N := Tryd.f95.ntmps) (rs := Tryd.f95.results.toList) mixed tok (SpecsOK.nil _ _) Tryd.func95 rfl rfl rfl rfl rfl ?_ ?_ ?_
 · rintro args ⟨k, n, rfl⟩; simp [Tryd.f95]
 · rintro args ⟨k, n, rfl⟩; simp [colSpec, Tryd.f95]
 · rintro args ⟨k, n, rfl⟩ bs hgl hh hro
   unfold colSpec colF
   by_cases h0 : k = 0
   · subst h0
     by_cases c : n = 0 <;> simp [Tryd.f95, c]
   · by_cases h1 : k = 1
     · subst h1
       by_cases c : 0 ≤ n <;> by_cases d : n ≤ 255 <;> simp [Tryd.f95, c, d]
     · by_cases h2 : k = 2
       · subst h2
         by_cases c : 0 ≤ n <;> by_cases d : n ≤ 16777215 <;> simp [Tryd.f95, c, d]
       · simp [Tryd.f95, h0, h1, h2]
def Sty.ok (s : Sty) : Prop := -9223372036854775808 ≤ s.attr ∧ s.attr ≤ 9223372036854775807
def stySpec : Spec := { pre := fun args => ∃ s : Sty, args = [styV s] ∧ s.ok, res := fun args => .one (.val (.c (.int .i64 (styF (stOf (args.headD default).cs))))) }
def GSt : Specs := [(78, colSpec)]
@[simp] theorem GSt_live : Specs.live GSt = false := rfl
@[simp] theorem GSt_nils : Specs.nils GSt = false := rfl
@[simp] theorem GSt_50 : GSt.find 78 = some colSpec := rfl
theorem GSt_ok (gl : Gl) : SpecsOK Tryd.prog gl GSt := .cons (col_sound gl) (.nil _ _)
def GSu : Specs := [(95, colSpec)]
@[simp] theorem GSu_live : Specs.live GSu = false := rfl
@[simp] theorem GSu_nils : Specs.nils GSu = false := rfl
@[simp] theorem GSu_59 : GSu.find 95 = some colSpec := rfl
theorem GSu_ok (gl : Gl) : SpecsOK Tryd.prog gl GSu := .cons (rcol_sound gl) (.nil _ _)
theorem colF_or (k n : Int) : colF k n = 0 ∨ colF k n = 130 := by unfold colF; split <;> simp
set_option maxRecDepth 10000 in
theorem sty_sound (gl : Gl) : Sound Tryd.prog gl 67 stySpec := by
 refine sound_fn (N := Tryd.f67.ntmps) (rs := Tryd.f67.results.toList) mixed tok (GSt_ok gl) Tryd.func67 rfl rfl rfl rfl rfl ?_ ?_ ?_
 · rintro args ⟨s, rfl, h⟩; simp [Tryd.f67]
 · rintro args ⟨s, rfl, h⟩; simp [stySpec, Tryd.f67]
 · rintro args ⟨s, rfl, h⟩ bs hgl hh hro
   have hE : Env.OK ⟨Tryd.prog, T, GSt, bs⟩ := ⟨tok, by rw [hgl]; exact GSt_ok gl⟩
   have ha := andNot255 h
   obtain ⟨a, u, fk, fn, bk, bn, lk, ln⟩ := s
   simp only at ha
   generalize hq : bits2 (fun _ x y => x &&& ~~~y) .i64 a 255 = q at *
   by_cases h1 : q = 0 ∧ ¬ u < 0 ∧ ¬ 5 < u
   · obtain ⟨h1, h2, h3⟩ := h1
     have e : ¬ (a < 0 ∨ 255 < a ∨ u < 0 ∨ 5 < u) := by have := ha.1 h1; omega
     simp [stySpec, Tryd.f67, styV, hq, h1, h2, h3]
     refine AWP.unroll hE mixed 4 ?_
     have c1 := colF_or fk fn
     have c2 := colF_or bk bn
     have c3 := colF_or lk ln
     unfold styF
     simp only [stOf_C, if_neg e]
     rcases c1 with c1 | c1
     · rcases c2 with c2 | c2
       · rcases c3 with c3 | c3 <;> simp [colSpec, c1, c2, c3]
       · simp [colSpec, c1, c2]
     · simp [colSpec, c1]
   · have e : styF ⟨a, u, fk, fn, bk, bn, lk, ln⟩ = 140 := by
       unfold styF
       rw [if_pos]
       show a < 0 ∨ 255 < a ∨ u < 0 ∨ 5 < u
       by_cases c : q = 0
       · have := ha.1 c; omega
       · have : ¬ (0 ≤ a ∧ a ≤ 255) := fun h => c (ha.2 h)
         omega
     by_cases c1 : q = 0
     · by_cases c2 : u < 0
       · simp [stySpec, Tryd.f67, styV, hq, c1, c2, e]
       · have c3 : 5 < u := by omega
         simp [stySpec, Tryd.f67, styV, hq, c1, c2, c3, e]
     · simp [stySpec, Tryd.f67, styV, hq, c1, e]
set_option maxRecDepth 10000 in
theorem rsty_sound (gl : Gl) : Sound Tryd.prog gl 91 stySpec := by
 refine sound_fn (N := Tryd.f91.ntmps) (rs := Tryd.f91.results.toList) mixed tok (GSu_ok gl) Tryd.func91 rfl rfl rfl rfl rfl ?_ ?_ ?_
 · rintro args ⟨s, rfl, h⟩; simp [Tryd.f91]
 · rintro args ⟨s, rfl, h⟩; simp [stySpec, Tryd.f91]
 · rintro args ⟨s, rfl, h⟩ bs hgl hh hro
   have hE : Env.OK ⟨Tryd.prog, T, GSu, bs⟩ := ⟨tok, by rw [hgl]; exact GSu_ok gl⟩
   obtain ⟨a, u, fk, fn, bk, bn, lk, ln⟩ := s
   by_cases h1 : a < 0 ∨ 255 < a ∨ u < 0 ∨ 5 < u
   · have e : styF ⟨a, u, fk, fn, bk, bn, lk, ln⟩ = 140 := by unfold styF; rw [if_pos h1]
     by_cases c1 : a < 0
     · simp [stySpec, Tryd.f91, styV, c1, e]
     · by_cases c2 : 255 < a
       · simp [stySpec, Tryd.f91, styV, c1, c2, e]
       · by_cases c3 : u < 0
         · simp [stySpec, Tryd.f91, styV, c1, c2, c3, e]
         · have c4 : 5 < u := by omega
           simp [stySpec, Tryd.f91, styV, c1, c2, c3, c4, e]
   · have h2 : ¬ a < 0 ∧ ¬ 255 < a ∧ ¬ u < 0 ∧ ¬ 5 < u := by omega
     obtain ⟨c1, c2, c3, c4⟩ := h2
     simp [stySpec, Tryd.f91, styV, c1, c2, c3, c4]
     refine AWP.unroll hE mixed 4 ?_
     have c1 := colF_or fk fn
     have c2 := colF_or bk bn
     have c3 := colF_or lk ln
     unfold styF
     simp only [stOf_C, if_neg h1]
     rcases c1 with c1 | c1
     · rcases c2 with c2 | c2
       · rcases c3 with c3 | c3 <;> simp [colSpec, c1, c2, c3]
       · simp [colSpec, c1, c2]
     · simp [colSpec, c1]
def halfSpec : Spec := { pre := fun args => ∃ c : Cel, args = [celV c], res := fun args => .one (.val (.c (.bool (halfF (celOf (args.headD default).cs))))) }
set_option maxRecDepth 10000 in
theorem half_sound (gl : Gl) : Sound Tryd.prog gl 81 halfSpec := by
 refine sound_fn (N := Tryd.f81.ntmps) (rs := Tryd.f81.results.toList) mixed tok (SpecsOK.nil _ _) Tryd.func81 rfl rfl rfl rfl rfl ?_ ?_ ?_
 · rintro args ⟨c, rfl⟩; simp [Tryd.f81]
 · rintro args ⟨c, rfl⟩; simp [halfSpec, Tryd.f81]
 · rintro args ⟨c, rfl⟩ bs hgl hh hro
   simp [halfSpec, Tryd.f81]
   unfold halfF
   congr
set_option maxRecDepth 10000 in
theorem second_sound (gl : Gl) : Sound Tryd.prog gl 92 halfSpec := by
 refine sound_fn (N := Tryd.f92.ntmps) (rs := Tryd.f92.results.toList) mixed tok (SpecsOK.nil _ _) Tryd.func92 rfl rfl rfl rfl rfl ?_ ?_ ?_
 · rintro args ⟨c, rfl⟩; simp [Tryd.f92]
 · rintro args ⟨c, rfl⟩; simp [halfSpec, Tryd.f92]
 · rintro args ⟨c, rfl⟩ bs hgl hh hro
   have e : halfF c = (decide (c.base = 0) && (decide (c.m0 = 0) && decide (c.m1 = 0)) && decide (c.wide = 2)) := by
     rw [Bool.eq_iff_iff, halfF_iff]; simp [and_assoc]
   simp [halfSpec, Tryd.f92, e]
   rfl
end Fen

namespace Fen
open Go Go.Proofs
def markedF (m0 m1 : Int) : Bool := !((decide (m0 ≠ 0) && decide (widthF m0 ≠ 0)) || (decide (m1 ≠ 0) && (decide (m0 = 0) || decide (widthF m1 ≠ 0))))
def cellF (c : Cel) : Int :=
 if styF c.st ≠ 0 then 221
 else if halfF c = true ∨ (markedF c.m0 c.m1 = true ∧ ((c.wide = 0 ∧ widthF c.base = 1) ∨ (c.wide = 1 ∧ widthF c.base = 2))) then 0 else 221
def markedSpec : Spec := { pre := fun args => ∃ a b : Int, args = [.agg [.int .i64 a, .int .i64 b]], res := fun args => match args with
 | [.agg [.int _ a, .int _ b]] => .one (.val (.c (.bool (markedF a b))))
 | _ => .many [] }
def GMa : Specs := [(82, ofSpec)]
@[simp] theorem GMa_live : Specs.live GMa = false := rfl
@[simp] theorem GMa_nils : Specs.nils GMa = false := rfl
@[simp] theorem GMa_41 : GMa.find 82 = some ofSpec := rfl
theorem GMa_ok : SpecsOK Tryd.prog glW GMa := .cons of_sound (.nil _ _)
set_option maxRecDepth 10000 in
theorem marked_sound : Sound Tryd.prog glW 83 markedSpec := by
 refine sound_fn (N := Tryd.f83.ntmps) (rs := Tryd.f83.results.toList) mixed tok GMa_ok Tryd.func83 rfl rfl rfl rfl rfl ?_ ?_ ?_
 · rintro args ⟨a, b, rfl⟩; simp [Tryd.f83]
 · rintro args ⟨a, b, rfl⟩; simp [markedSpec, Tryd.f83]
 · rintro args ⟨a, b, rfl⟩ bs hgl hh hro
   have hE : Env.OK ⟨Tryd.prog, T, GMa, bs⟩ := ⟨tok, by rw [hgl]; exact GMa_ok⟩
   simp [markedSpec, Tryd.f83]
   refine AWP.unroll hE mixed 3 ?_
   unfold markedF
   rcases Decidable.em (a = 0) with h1 | h1 <;> rcases Decidable.em (widthF a = 0) with h2 | h2 <;> rcases Decidable.em (b = 0) with h3 | h3 <;> rcases Decidable.em (widthF b = 0) with h4 | h4 <;> simp [ofSpec, h1, h2, h3, h4]
def Cel.ok (c : Cel) : Prop := c.st.ok
def cellSpec : Spec := { pre := fun args => ∃ c : Cel, args = [celV c] ∧ c.ok, res := fun args => .one (.val (.c (.int .i64 (cellF (celOf (args.headD default).cs))))) }
def GCe : Specs := [(81, halfSpec), (82, ofSpec), (83, markedSpec), (67, stySpec)]
@[simp] theorem GCe_live : Specs.live GCe = false := rfl
@[simp] theorem GCe_nils : Specs.nils GCe = false := rfl
@[simp] theorem GCe_40 : GCe.find 81 = some halfSpec := rfl
@[simp] theorem GCe_41 : GCe.find 82 = some ofSpec := rfl
@[simp] theorem GCe_42 : GCe.find 83 = some markedSpec := rfl
@[simp] theorem GCe_43 : GCe.find 67 = some stySpec := rfl
theorem GCe_ok : SpecsOK Tryd.prog glW GCe := .cons (half_sound glW) (.cons of_sound (.cons marked_sound (.cons (sty_sound glW) (.nil _ _))))
set_option maxHeartbeats 1000000 in
set_option maxRecDepth 10000 in
theorem cell_sound : Sound Tryd.prog glW 73 cellSpec := by
 refine sound_fn (N := Tryd.f73.ntmps) (rs := Tryd.f73.results.toList) mixed tok GCe_ok Tryd.func73 rfl rfl rfl rfl rfl ?_ ?_ ?_
 · rintro args ⟨c, rfl, h⟩; simp [Tryd.f73]
 · rintro args ⟨c, rfl, h⟩; simp [cellSpec, Tryd.f73]
 · rintro args ⟨c, rfl, h⟩ bs hgl hh hro
   have h : c.st.ok := h
   have w0 : IntKind.i64.wrap (0 + 1) = 1 := rfl
   have w1 : IntKind.i64.wrap (1 + 1) = 2 := rfl
   simp only [cellSpec, List.headD_cons, V.cs_cel, celOf_C]
   unfold cellF
   cases hb : halfF c with
   | true =>
     have hw : c.wide = 2 := ((halfF_iff c).1 hb).2.2.2
     rcases Decidable.em (styF c.st = 0) with h2 | h2 <;> simp [halfSpec, ofSpec, markedSpec, stySpec, Tryd.f73, celV, hb, hw, h, h2] <;> rfl
   | false =>
     rcases Decidable.em (c.wide = 0) with h3 | h3
     · rcases Decidable.em (widthF c.base = 1) with h4 | h4 <;> cases h5 : markedF c.m0 c.m1 <;> rcases Decidable.em (styF c.st = 0) with h2 | h2 <;> simp [halfSpec, ofSpec, markedSpec, stySpec, Tryd.f73, celV, hb, h3, h4, h5, h, h2] <;> rfl
     · rcases Decidable.em (c.wide = 1) with h3' | h3'
       · rcases Decidable.em (widthF c.base = 2) with h4 | h4 <;> cases h5 : markedF c.m0 c.m1 <;> rcases Decidable.em (styF c.st = 0) with h2 | h2 <;> simp [halfSpec, ofSpec, markedSpec, stySpec, Tryd.f73, celV, hb, h3', h4, h5, h, h2] <;> rfl
       · rcases Decidable.em (0 ≤ c.wide) with h6 | h6
         · have h7 : ¬ c.wide ≤ 1 := by omega
           rcases Decidable.em (styF c.st = 0) with h2 | h2 <;> simp [halfSpec, ofSpec, markedSpec, stySpec, Tryd.f73, celV, hb, h3, h3', h6, h7, h, h2] <;> rfl
         · rcases Decidable.em (styF c.st = 0) with h2 | h2 <;> simp [halfSpec, ofSpec, markedSpec, stySpec, Tryd.f73, celV, hb, h3, h3', h6, h, h2] <;> rfl
def GCr : Specs := [(76, ofSpec), (91, stySpec), (92, halfSpec)]
@[simp] theorem GCr_live : Specs.live GCr = false := rfl
@[simp] theorem GCr_nils : Specs.nils GCr = false := rfl
@[simp] theorem GCr_47 : GCr.find 76 = some ofSpec := rfl
@[simp] theorem GCr_57 : GCr.find 91 = some stySpec := rfl
@[simp] theorem GCr_58 : GCr.find 92 = some halfSpec := rfl
theorem GCr_ok (gl : Gl) : SpecsOK Tryd.prog gl GCr := .cons (rof_sound gl) (.cons (rsty_sound gl) (.cons (second_sound gl) (.nil _ _)))
set_option maxHeartbeats 1000000 in
set_option maxRecDepth 10000 in
theorem rcell_sound (gl : Gl) : Sound Tryd.prog gl 80 cellSpec := by
 refine sound_fn (N := Tryd.f80.ntmps) (rs := Tryd.f80.results.toList) mixed tok (GCr_ok gl) Tryd.func80 rfl rfl rfl rfl rfl ?_ ?_ ?_
 · rintro args ⟨c, rfl, h⟩; simp [Tryd.f80]
 · rintro args ⟨c, rfl, h⟩; simp [cellSpec, Tryd.f80]
 · rintro args ⟨c, rfl, h⟩ bs hgl hh hro
   have hE : Env.OK ⟨Tryd.prog, T, GCr, bs⟩ := ⟨tok, by rw [hgl]; exact GCr_ok gl⟩
   have h : c.st.ok := h
   simp only [cellSpec, List.headD_cons, V.cs_cel, celOf_C]
   unfold cellF
   rcases Decidable.em (styF c.st = 0) with h2 | h2
   · cases hb : halfF c with
     | true => simp [halfSpec, ofSpec, stySpec, Tryd.f80, celV, hb, h, h2]
     | false =>
       simp [halfSpec, ofSpec, stySpec, Tryd.f80, celV, hb, h, h2]
       refine AWP.unroll hE mixed 3 ?_
       unfold markedF
       rcases Decidable.em (c.m0 = 0) with a1 | a1 <;> rcases Decidable.em (widthF c.m0 = 0) with a2 | a2 <;> rcases Decidable.em (c.m1 = 0) with a3 | a3 <;> rcases Decidable.em (widthF c.m1 = 0) with a4 | a4 <;> simp [ofSpec, a1, a2, a3, a4]
       all_goals
         rcases Decidable.em (widthF c.base = 1) with b1 | b1 <;> rcases Decidable.em (widthF c.base = 2) with b2 | b2 <;> rcases Decidable.em (c.wide = 0) with b3 | b3 <;> rcases Decidable.em (c.wide = 1) with b4 | b4 <;> simp [b1, b2, b3, b4] <;> omega
   · simp [halfSpec, ofSpec, stySpec, Tryd.f80, celV, h, h2]
end Fen

namespace Fen
open Go
def sty0 : Sty := ⟨0, 0, 0, 0, 0, 0, 0, 0⟩
def cel0 : Cel := ⟨0, 0, 0, 0, sty0⟩
def blankF (s : Sty) : Cel := ⟨32, 0, 0, 0, s⟩
def secondF (s : Sty) : Cel := ⟨0, 0, 0, 2, s⟩
/-- is the next cell wrong, behind that one -/
def offF (last c : Cel) : Bool := decide (cellF c ≠ 0) || (decide (last.wide = 1) != decide (c.wide = 2)) || (decide (c.wide = 2) && decide (c.st ≠ last.st))
def chainF (last : Cel) : List Cel → Bool
 | [] => decide (last.wide ≠ 1)
 | c :: l => !offF last c && chainF c l
def rowF (r : Rw) : Int := if 2 ≤ r.cells.length ∧ r.cells.length ≤ 80 ∧ chainF cel0 r.cells = true then 0 else 220
def okRows (cols : Int) (p : List Rw) : Bool := p.all fun r => decide ((r.cells.length : Int) = cols) && decide (rowF r = 0)
def pastF (cols : Int) (p : List Rw) : Int := if cols < 2 ∨ 80 < cols then 2 else if p.length ≤ 100 ∧ okRows cols p = true then 0 else 280
def styleF (b : Int) : Sty :=
 if b % 8 = 0 then sty0 else if b % 8 = 1 then sty0 else if b % 8 = 2 then ⟨1, 0, 0, 0, 0, 0, 0, 0⟩ else if b % 8 = 3 then ⟨0, 0, 0, 0, 1, 4, 0, 0⟩
 else if b % 8 = 4 then ⟨17, 0, 2, 1056816, 0, 0, 0, 0⟩ else if b % 8 = 5 then ⟨0, 3, 0, 0, 0, 0, 1, 200⟩ else if b % 8 = 6 then ⟨2, 0, 0, 0, 2, 16777215, 0, 0⟩ else ⟨255, 5, 0, 0, 0, 0, 0, 0⟩
def codeF (b : Int) : Int :=
 if b % 8 = 0 then 32 else if b % 8 = 1 then 97 else if b % 8 = 2 then 122 else if b % 8 = 3 then 233
 else if b % 8 = 4 then 20013 else if b % 8 = 5 then 128512 else if b % 8 = 6 then 65533 else 69
def marksF (b : Int) : Int × Int := if b / 8 % 8 = 5 then (768, 8400) else if b / 8 % 4 = 1 then (769, 0) else (0, 0)
def signF (b s : Int) : Cel := ⟨codeF b, (marksF b).1, (marksF b).2, widthF (codeF b) - 1, styleF s⟩
/-- the sign that comes next in a row of so many cells -/
def nextF (cols : Nat) (B : List Int) (n : Nat) : Cel :=
 match B with
 | [] => blankF sty0
 | b :: _ => if (signF b (b / 32)).wide = 1 ∧ n + 1 = cols then blankF (signF b (b / 32)).st else signF b (b / 32)
def drawF (cols : Nat) : Nat → List Int → List Cel → List Cel
 | 0, _, l => l
 | k + 1, B, l =>
   if l.length < cols then
     drawF cols k (B.drop 1) (if (nextF cols B l.length).wide = 1 then l ++ [nextF cols B l.length, secondF (nextF cols B l.length).st] else l ++ [nextF cols B l.length])
   else l
/-- a draft's row: cols, B, wrapped -/
def draftF (c : Int) (B : List Int) (w : Bool) : Rw := ⟨drawF (2 + c.toNat % 79) 80 B [], w⟩
theorem styF_style (b : Int) : styF (styleF b) = 0 := by
 unfold styleF
 (repeat' split) <;> rfl
theorem widthF_code (b : Int) : widthF (codeF b) = 1 ∨ widthF (codeF b) = 2 := by
 unfold codeF
 (repeat' split) <;> first | (left; decide +kernel) | (right; decide +kernel)
theorem markedF_marks (b : Int) : markedF (marksF b).1 (marksF b).2 = true := by
 unfold marksF
 (repeat' split) <;> decide +kernel
theorem cellF_sign (b s : Int) : cellF (signF b s) = 0 := by
 have h1 : styF (signF b s).st = 0 := styF_style s
 have h2 := widthF_code b
 have h3 : markedF (signF b s).m0 (signF b s).m1 = true := markedF_marks b
 unfold cellF
 rw [if_neg (by simpa using h1), if_pos]
 refine .inr ⟨h3, ?_⟩
 rcases h2 with h | h
 · exact .inl ⟨by simp [signF, h], by simp [signF, h]⟩
 · exact .inr ⟨by simp [signF, h], by simp [signF, h]⟩
theorem wide_sign (b s : Int) : (signF b s).wide = 0 ∨ (signF b s).wide = 1 := by
 rcases widthF_code b with h | h <;> simp [signF, h]
theorem cellF_blank {s : Sty} (h : styF s = 0) : cellF (blankF s) = 0 := by
 have h3 : markedF 0 0 = true := by decide +kernel
 have h4 : widthF 32 = 1 := by decide +kernel
 unfold cellF
 rw [if_neg (by simpa [blankF] using h), if_pos]
 exact .inr ⟨h3, .inl ⟨rfl, h4⟩⟩
theorem cellF_second {s : Sty} (h : styF s = 0) : cellF (secondF s) = 0 := by
 unfold cellF
 rw [if_neg (by simpa [secondF] using h), if_pos]
 exact .inl ((halfF_iff _).2 ⟨rfl, rfl, rfl, rfl⟩)
theorem next_ok (cols : Nat) (B : List Int) (n : Nat) : cellF (nextF cols B n) = 0 ∧ styF (nextF cols B n).st = 0 ∧ ((nextF cols B n).wide = 0 ∨ ((nextF cols B n).wide = 1 ∧ n + 1 ≠ cols)) := by
 unfold nextF
 split
 · exact ⟨cellF_blank rfl, rfl, .inl rfl⟩
 · rename_i b _
   have hs : styF (signF b (b / 32)).st = 0 := styF_style _
   split
   · exact ⟨cellF_blank hs, hs, .inl rfl⟩
   · rename_i h
     refine ⟨cellF_sign _ _, hs, ?_⟩
     rcases wide_sign b (b / 32) with q | q
     · exact .inl q
     · exact .inr ⟨q, fun e => h ⟨q, e⟩⟩
/-- how far it goes: the last cell, if all went well -/
def linkF (last : Cel) : List Cel → Option Cel
 | [] => some last
 | c :: l => if offF last c = true then none else linkF c l
theorem chain_link : ∀ (l : List Cel) (a : Cel), chainF a l = match linkF a l with | some q => decide (q.wide ≠ 1) | none => false
 | [], a => rfl
 | c :: l, a => by
   cases h : offF a c
   · simp only [chainF, linkF, h, Bool.not_false, Bool.true_and, Bool.false_eq_true, if_false]; exact chain_link l c
   · simp [chainF, linkF, h]
theorem link_app : ∀ (l m : List Cel) (a q : Cel), linkF a l = some q → linkF a (l ++ m) = linkF q m
 | [], m, a, q, h => by simp only [linkF, Option.some.injEq] at h; subst h; rfl
 | c :: l, m, a, q, h => by
   simp only [linkF, List.cons_append] at h ⊢
   split at h
   · cases h
   · rename_i h1; rw [if_neg h1]; exact link_app l m c q h
theorem draw_ok (cols : Nat) : ∀ (k : Nat) (B : List Int) (l : List Cel), (∃ q, linkF cel0 l = some q ∧ q.wide ≠ 1) → l.length ≤ cols → cols ≤ l.length + k →
   (drawF cols k B l).length = cols ∧ chainF cel0 (drawF cols k B l) = true
 | 0, B, l, ⟨q, h1, h2⟩, h3, h4 => ⟨by simp only [drawF]; omega, by simp only [drawF]; rw [chain_link, h1]; simpa using h2⟩
 | k + 1, B, l, ⟨q, h1, h2⟩, h3, h4 => by
   unfold drawF
   split
   · rename_i hlt
     obtain ⟨c1, c2, c3⟩ := next_ok cols B l.length
     generalize nextF cols B l.length = c at *
     have hoff : c.wide ≠ 2 → offF q c = false := fun h => by simp [offF, c1, h2, h]
     rcases c3 with c3 | ⟨c3, c4⟩
     · rw [if_neg (by omega)]
       refine draw_ok cols k _ _ ⟨c, ?_, by omega⟩ (by simp; omega) (by simp; omega)
       rw [link_app l [c] _ _ h1]
       simp [linkF, hoff (by omega)]
     · rw [if_pos c3]
       refine draw_ok cols k _ _ ⟨secondF c.st, ?_, by simp [secondF]⟩ (by simp; omega) (by simp; omega)
       rw [link_app l _ _ _ h1]
       have h5 : offF c (secondF c.st) = false := by simp only [offF, cellF_second c2, c3]; simp [secondF]
       simp [linkF, hoff (by omega), h5]
   · exact ⟨by omega, by rw [chain_link, h1]; simpa using h2⟩
theorem draft_len (c : Int) (B : List Int) (w : Bool) : (draftF c B w).cells.length = 2 + c.toNat % 79 :=
 (draw_ok _ 80 B [] ⟨cel0, rfl, by decide⟩ (by simp) (by simp; omega)).1
theorem draft_ok (c : Int) (B : List Int) (w : Bool) : rowF (draftF c B w) = 0 := by
 have h := draw_ok (2 + c.toNat % 79) 80 B [] ⟨cel0, rfl, by decide⟩ (by simp) (by simp; omega)
 unfold rowF
 rw [if_pos]
 refine ⟨?_, ?_, h.2⟩
 · rw [draft_len]; omega
 · rw [draft_len]; omega
end Fen
