/- A part of the proof; no statement is proved here: GRowS, GRowT, GRowU, GRowV, GRowW, GRowZ, GRowZb, GTypA. -/
import Derived.Test.YtefciljolljgmaaDoorRowC

set_option linter.unusedVariables false
set_option linter.unusedSimpArgs false

namespace Fen
open Go Go.Proofs

/-! ### Insert, Delete -/
def insF (l : List Cel) (col n : Nat) : List Cel := (partF (partF l col) ((l.length - n : Nat) : Int)).take (col + n) ++ ((partF (partF l col) ((l.length - n : Nat) : Int)).drop col).take (l.length - (col + n))
def delF (l : List Cel) (col n : Nat) : List Cel := (partF (partF l col) ((col + n : Nat) : Int)).take col ++ (partF (partF l col) ((col + n : Nat) : Int)).drop (col + n) ++ (partF (partF l col) ((col + n : Nat) : Int)).drop (l.length - n)
theorem ins_len {l : List Cel} {col n : Nat} (h : col + n ≤ l.length) : (insF l col n).length = l.length := by simp [insF]; omega
theorem del_len {l : List Cel} {col n : Nat} (h : col + n ≤ l.length) : (delF l col n).length = l.length := by simp [delF]; omega
def ins1HS : HS := { wr := true, eff := fun xs h => match xs with
  | [.ref id v, .val (.int q1 n), .fptr [.int q2 a]] =>
    ((∃ (l : List Cel) (a' n' : Nat), h[id]? = some (.sl 67 v true 12 l.length (celsC l)) ∧ a = a' ∧ n = n' ∧ q1 = .i64 ∧ q2 = .i64 ∧ a' + n' ≤ l.length ∧ l.length ≤ 1000), .view id v (a.toNat * 12) n.toNat,
      match h[id]? with | some (.sl ty v' p sz m cs) => h.set id (.sl ty v' p sz m (celsC (insF (celsOf cs) a.toNat n.toNat))) | _ => h)
  | _ => (False, .dead, h) }
def del1HS : HS := { wr := true, eff := fun xs h => match xs with
  | [.ref id v, .val (.int q1 n), .fptr [.int q2 a]] =>
    ((∃ (l : List Cel) (a' n' : Nat), h[id]? = some (.sl 67 v true 12 l.length (celsC l)) ∧ a = a' ∧ n = n' ∧ q1 = .i64 ∧ q2 = .i64 ∧ a' + n' ≤ l.length ∧ l.length ≤ 1000),
      .view id v (match h[id]? with | some (.sl _ _ _ _ m _) => (m - n.toNat) * 12 | _ => 0) n.toNat,
      match h[id]? with | some (.sl ty v' p sz m cs) => h.set id (.sl ty v' p sz m (celsC (delF (celsOf cs) a.toNat n.toNat))) | _ => h)
  | _ => (False, .dead, h) }
end Fen

namespace Fen
open Go Go.Proofs

def shF (ins : Bool) (l : List Cel) (col n : Nat) (s : Sty) : List Cel := if ins = true then eraseF (insF l col n) col (col + n) s else eraseF (delF l col n) (l.length - n) l.length s
theorem sh_len (ins : Bool) {l : List Cel} {col n : Nat} (s : Sty) (h : col + n ≤ l.length) : (shF ins l col n s).length = l.length := by
  unfold shF
  split
  · rw [erase_len s (by omega) (by rw [ins_len h]; exact h), ins_len h]
  · rw [erase_len s (by omega) (by rw [del_len h]; exact Nat.le_refl _), del_len h]
def sh1HS : HS := { wr := true, eff := fun xs h => match xs with
  | [.ref id v, .fptr [.fn k [.ptr [.int q1 a]]], .fptr [.int q2 n], .fptr s] =>
    ((∃ (l : List Cel) (st : Sty) (a' n' : Nat), h[id]? = some (.sl 67 v true 12 l.length (celsC l)) ∧ s = styC st ∧ a = a' ∧ n = n' ∧ q1 = .i64 ∧ q2 = .i64 ∧ (k = 999999 ∨ k = 999999) ∧ a' + n' ≤ l.length ∧ l.length ≤ 1000), .tup [],
      match h[id]? with | some (.sl ty v' p sz m cs) => h.set id (.sl ty v' p sz m (celsC (shF (k == 999999) (celsOf cs) a.toNat n.toNat (stOf s)))) | _ => h)
  | _ => (False, .dead, h) }
def sh1S (id v : Nat) (M : List Cel) (st : Sty) (o n : Nat) (h : List Blk) (i : Nat) : St :=
  ⟨22, [(0, .ref id v), (3, .fptr (styC st)), (5, .view id v (o * 12) n), (12, .val (.int .i64 n)), (13, .val (.int .i64 i))], h.set id (.sl 67 v true 12 M.length (celsC (eraseF M o (o + i) st)))⟩
theorem sh_set (E : List Cel) (o i : Nat) (c : Cel) (h : o + i < E.length) : List.take (o * 12 + i * 12) (celsC E) ++ (celC c ++ List.drop (o * 12 + i * 12 + 12) (celsC E)) = celsC (E.set (o + i) c) := by
  rw [← Nat.add_mul]; exact celsC_set h c
end Fen

namespace Fen
open Go Go.Proofs

def chShSpec : Spec := { pre := fun args => ∃ (r : Rw) (k : Nat) (a n : Nat) (st : Sty), args = [rowV r, .c (.fn 999999 [.ptr [.fn k [.ptr [.int .i64 a]]], .ptr [.int .i64 n], .ptr (styC st)])] ∧ (k = 999999 ∨ k = 999999) ∧ a + n ≤ r.cells.length ∧ r.cells.length ≤ 1000, res := fun args => match args with
  | [.agg r, .c (.fn _ [.ptr [.fn k [.ptr [.int _ a]]], .ptr [.int _ n], .ptr s])] => .one (.val (rowV ⟨shF (k == 999999) (rowOf r).cells a.toNat n.toNat (stOf s), (rowOf r).wrapped⟩))
  | _ => .many [] }
def shiftRowF (ins : Bool) (r : Rw) (col n : Int) (s : Sty) : Rw × Int :=
  if wrongF r col ≠ 0 then (nilR, wrongF r col) else if n < 0 then (nilR, 2) else if styF s ≠ 0 then (nilR, styF s) else if n = 0 then (r, 0) else
  (⟨shF ins r.cells col.toNat (min n.toNat (r.cells.length - col.toNat)) s, r.wrapped⟩, 0)
def shiftSpec : Spec := { pre := fun args => ∃ (r : Rw) (col n : Int) (s : Sty) (k : Nat), args = [rowV r, .c (.int .i64 col), .c (.int .i64 n), styV s, .c (.fn k [.ptr [.int .i64 col]])] ∧ (k = 999999 ∨ k = 999999) ∧ r.ok ∧ s.ok, res := fun args => match args with
  | [.agg r, .c (.int _ a), .c (.int _ n), .agg s, .c (.fn k _)] => .many [.val (rowV (shiftRowF (k == 999999) (rowOf r) a n (stOf s)).1), .val (.c (.int .i64 (shiftRowF (k == 999999) (rowOf r) a n (stOf s)).2))]
  | _ => .many [] }
def moveSpec (ins : Bool) : Spec := { pre := fun args => ∃ (r : Rw) (col n : Int) (s : Sty), args = [rowV r, .c (.int .i64 col), .c (.int .i64 n), styV s] ∧ r.ok ∧ s.ok, res := fun args => match args with
  | [.agg r, .c (.int _ a), .c (.int _ n), .agg s] => .many [.val (rowV (shiftRowF ins (rowOf r) a n (stOf s)).1), .val (.c (.int .i64 (shiftRowF ins (rowOf r) a n (stOf s)).2))]
  | _ => .many [] }
def insertSpec : Spec := moveSpec true
def deleteSpec : Spec := moveSpec false
end Fen

namespace Fen
open Go Go.Proofs

/-! ### the law's own helpers -/
def wideF : Cel := ⟨20013, 0, 0, 1, sty0⟩
def lwideSpec : Spec := { pre := fun args => args = [], res := fun _ => .one (.val (celV wideF)) }
def shortF (r : Rw) : Rw := ⟨r.cells.take 90, r.wrapped⟩
def shortSpec : Spec := { pre := fun args => ∃ r : Rw, args = [rowV r], res := fun args => match args with
  | [.agg r] => .one (.val (rowV (shortF (rowOf r))))
  | _ => .many [] }
def likeSpec : Spec := { pre := fun args => ∃ (a b : Rw) (e f : Int), args = [rowV a, .c (.int .i64 e), rowV b, .c (.int .i64 f)] ∧ a.cells.length ≤ 1000, res := fun args => match args with
  | [.agg a, .c (.int _ e), .agg b, .c (.int _ f)] => .one (.val (.c (.bool (decide (e = f) && decide (rowOf a = rowOf b)))))
  | _ => .many [] }
/-- rows written as letters -/
def letF (b : UInt8) : List Cel := if b = 87 then [wideF, ⟨0, 0, 0, 2, sty0⟩] else if b = 46 then [⟨32, 0, 0, 0, sty0⟩] else if b = 66 then [⟨32, 0, 0, 0, ⟨1, 0, 0, 0, 0, 0, 0, 0⟩⟩] else [⟨b.toNat, 0, 0, 0, sty0⟩]
def lofR (s : List UInt8) : List Cel := s.flatMap letF
def lofRSpec : Spec := { pre := fun args => ∃ s : List UInt8, args = [.c (.str s)] ∧ s.length ≤ 100, res := fun args => .one (.val (rowV ⟨lofR (args.headD default).str, false⟩)) }
def lofS (s : List UInt8) (h0 : List Blk) (i : Nat) : St :=
  ⟨44, [(0, .val (.str s)), (2, .ptr h0.length 0 0), (3, if i = 0 then .nil else .ref (h0.length + 1) (i - 1)), (4, .val (.int .i64 i))],
    h0 ++ (.box 27 [.nil, .val (.bool false)] :: if i = 0 then [] else [.sl 67 (i - 1) true 12 (lofR (s.take i)).length (celsC (lofR (s.take i)))])⟩
theorem letF_len (b : UInt8) : (letF b).length ≤ 2 := by
  unfold letF
  split
  · exact Nat.le_refl _
  · split
    · simp
    · split <;> simp
theorem lofR_step {s : List UInt8} {i : Nat} (h : i < s.length) : lofR (s.take (i + 1)) = lofR (s.take i) ++ letF s[i] := by
  rw [List.take_add_one, List.getElem?_eq_getElem h]; simp only [lofR, List.flatMap_append, Option.toList_some, List.flatMap_cons, List.flatMap_nil, List.append_nil]
theorem lofR_len (s : List UInt8) : (lofR s).length ≤ 2 * s.length := by
  induction s with
  | nil => simp [lofR]
  | cons b s ih => have := letF_len b; simp only [lofR, List.flatMap_cons, List.length_append, List.length_cons] at ih ⊢; omega
theorem d24 (a b : Cel) : List.drop 24 (celC a ++ celC b) = [] := rfl
theorem bC : C.int .i64 32 :: C.int .i64 0 :: C.int .i64 0 :: C.int .i64 0 :: C.int .i64 1 :: (styC sty0).tail = celC ⟨32, 0, 0, 0, ⟨1, 0, 0, 0, 0, 0, 0, 0⟩⟩ := rfl
end Fen

namespace Fen
open Go Go.Proofs

theorem sh_ins (l : List Cel) {a m : Nat} (s : Sty) (h : a + m ≤ l.length) {P : List Cel} (hP : partF (partF l a) ((l.length - m : Nat) : Int) = P) : shF true l a m s = P.take a ++ (List.replicate m (blankF s) ++ (P.drop a).take (l.length - m - a)) := by
  have hPl : P.length = l.length := by rw [← hP]; simp
  unfold shF eraseF insF
  rw [if_pos rfl, hP]
  have e1 : (P.take (a + m) ++ (P.drop a).take (l.length - (a + m))).take a = P.take a := by
    rw [List.take_append_of_le_length (by simp; omega), List.take_take, Nat.min_eq_left (by omega)]
  have e2 : (P.take (a + m) ++ (P.drop a).take (l.length - (a + m))).drop (a + m) = (P.drop a).take (l.length - (a + m)) := by
    rw [List.drop_left' (by simp; omega)]
  rw [e1, e2, List.append_assoc, show a + m - a = m by omega, show l.length - (a + m) = l.length - m - a by omega]
theorem sh_del (l : List Cel) {a m : Nat} (s : Sty) (h : a + m ≤ l.length) {P : List Cel} (hP : partF (partF l a) ((a + m : Nat) : Int) = P) : shF false l a m s = P.take a ++ (P.drop (a + m) ++ List.replicate m (blankF s)) := by
  have hPl : P.length = l.length := by rw [← hP]; simp
  unfold shF eraseF delF
  rw [if_neg (by decide), hP]
  have e1 : (P.take a ++ P.drop (a + m) ++ P.drop (l.length - m)).take (l.length - m) = P.take a ++ P.drop (a + m) := by
    rw [List.take_left' (by simp; omega)]
  have e2 : (P.take a ++ P.drop (a + m) ++ P.drop (l.length - m)).drop l.length = [] := List.drop_eq_nil_of_le (by simp; omega)
  rw [e1, e2, List.append_nil, List.append_assoc, show l.length - (l.length - m) = m by omega]

def rshiftSpec : Spec := { pre := fun args => ∃ (r : Rw) (col n : Int) (s : Sty) (ins : Bool), args = [rowV r, .c (.int .i64 col), .c (.int .i64 n), styV s, .c (.bool ins)] ∧ r.ok ∧ s.ok, res := fun args => match args with
  | [.agg r, .c (.int _ a), .c (.int _ n), .agg s, .c (.bool ins)] => .many [.val (rowV (shiftRowF ins (rowOf r) a n (stOf s)).1), .val (.c (.int .i64 (shiftRowF ins (rowOf r) a n (stOf s)).2))]
  | _ => .many [] }
end Fen

namespace Fen
open Go Go.Proofs

/-! ### valid rows, put together and taken apart -/
theorem off_wide {a c : Cel} (h : a.wide ≠ 1) : offF a c = offF cel0 c := by
  rw [Bool.eq_iff_iff]
  simp only [offF, Bool.or_eq_true, decide_eq_true_eq, bne_iff_ne, ne_eq, Bool.and_eq_true]
  have h2 : cel0.wide ≠ 1 := by decide
  simp only [h, h2, decide_false]
  by_cases q : c.wide = 2 <;> simp [q]
theorem chain_wide {a : Cel} (h : a.wide ≠ 1) : ∀ l, chainF a l = chainF cel0 l
  | [] => by simp [chainF, h, cel0]
  | c :: l => by simp only [chainF, off_wide h]
abbrev VL (l : List Cel) : Prop := chainF cel0 l = true
theorem VL.nil : VL [] := rfl
theorem chain_app : ∀ (a b : List Cel) (x : Cel), chainF x a = true → VL b → chainF x (a ++ b) = true
  | [], b, x, h, hb => by
    have : x.wide ≠ 1 := by simpa [chainF] using h
    simpa [chain_wide this] using hb
  | c :: a, b, x, h, hb => by
    simp only [chainF, Bool.and_eq_true, List.cons_append] at h ⊢
    exact ⟨h.1, chain_app a b c h.2 hb⟩
theorem VL.app {a b : List Cel} (ha : VL a) (hb : VL b) : VL (a ++ b) := chain_app a b cel0 ha hb
theorem chain_split : ∀ (a b : List Cel) (x : Cel), chainF x (a ++ b) = true → (cat b 0).wide ≠ 2 → chainF x a = true ∧ VL b
  | [], [], x, h, hb => ⟨h, rfl⟩
  | [], c :: b, x, h, hb => by
    have hc : c.wide ≠ 2 := by simpa [cat] using hb
    simp only [List.nil_append, chainF, Bool.and_eq_true, Bool.not_eq_true'] at h
    have h3 := ((offF_iff _ _).1 h.1).2.1
    have hx : x.wide ≠ 1 := by
      intro q
      rw [q] at h3
      simp at h3
      exact hc h3
    refine ⟨by simpa [chainF] using hx, ?_⟩
    simp only [VL, chainF, Bool.and_eq_true, Bool.not_eq_true']
    exact ⟨by rw [← off_wide hx]; exact h.1, h.2⟩
  | c :: a, b, x, h, hb => by
    simp only [chainF, Bool.and_eq_true, List.cons_append] at h ⊢
    obtain ⟨k1, k2⟩ := chain_split a b c h.2 hb
    exact ⟨⟨h.1, k1⟩, k2⟩
theorem cat_out {l : List Cel} {k : Nat} (h : l.length ≤ k) : cat l k = cel0 := by simp [cat, h]
theorem cat_drop (l : List Cel) (k i : Nat) : cat (l.drop k) i = cat l (k + i) := by simp [cat]
theorem cat_take {l : List Cel} {k i : Nat} (h : i < k) : cat (l.take k) i = cat l i := by simp [cat, List.getElem?_take, h]
theorem half_wide {c : Cel} (h : halfF c = true) : c.wide = 2 := ((halfF_iff _).1 h).2.2.2
theorem VL.half {l : List Cel} (h : VL l) {k : Nat} (hk : ¬ halfF (cat l k) = true) : (cat l k).wide ≠ 2 := by
  rcases Nat.lt_or_ge k l.length with c | c
  · exact fun q => hk (((chain_val h).half k c).2 q)
  · rw [cat_out c]; decide
theorem VL.take {l : List Cel} (h : VL l) {k : Nat} (hk : ¬ halfF (cat l k) = true) : VL (l.take k) :=
  (chain_split (l.take k) (l.drop k) cel0 (by rw [List.take_append_drop]; exact h) (by rw [cat_drop]; exact h.half hk)).1
theorem VL.drop {l : List Cel} (h : VL l) {k : Nat} (hk : ¬ halfF (cat l k) = true) : VL (l.drop k) :=
  (chain_split (l.take k) (l.drop k) cel0 (by rw [List.take_append_drop]; exact h) (by rw [cat_drop]; exact h.half hk)).2
theorem VL.one {c : Cel} (h : cellF c = 0) (hw : c.wide = 0) : VL [c] := by
  have : offF cel0 c = false := (offF_iff _ _).2 ⟨h, by rw [hw]; rfl, by intro q; cases q⟩
  simp [VL, chainF, this, hw]
theorem VL.two {c : Cel} (h : cellF c = 0) (hw : c.wide = 1) (hs : styF c.st = 0) : VL [c, secondF c.st] := by
  have h1 : offF cel0 c = false := (offF_iff _ _).2 ⟨h, by rw [hw]; rfl, by intro q; cases q⟩
  have h2 : offF c (secondF c.st) = false := (offF_iff _ _).2 ⟨cellF_second hs, by rw [hw]; rfl, fun _ => rfl⟩
  show (!offF cel0 c && (!offF c (secondF c.st) && decide ((secondF c.st).wide ≠ 1))) = true
  rw [h1, h2]; rfl
theorem VL.rep {c : Cel} (h : VL [c]) : ∀ n, VL (List.replicate n c)
  | 0 => rfl
  | n + 1 => by rw [List.replicate_succ]; exact VL.app (a := [c]) h (VL.rep h n)
theorem VL.blanks {s : Sty} (h : styF s = 0) (n : Nat) : VL (List.replicate n (blankF s)) := VL.rep (VL.one (cellF_blank h) rfl) n
theorem half_blank (s : Sty) : ¬ halfF (blankF s) = true := by simp [halfF_iff, blankF]
theorem half_rem (c : Cel) : ¬ halfF (remF c) = true := half_blank _

/-! a style that is good has a good Back -/
theorem styF_parts {s : Sty} (h : styF s = 0) : colF s.bk s.bn = 0 := by
  unfold styF at h
  split at h
  · cases h
  · split at h
    · rename_i q; exact q.2.1
    · cases h
theorem styF_back {s : Sty} (h : styF s = 0) : styF ⟨0, 0, 0, 0, s.bk, s.bn, 0, 0⟩ = 0 := by
  have h2 := styF_parts h
  have h0 : colF 0 0 = 0 := rfl
  unfold styF
  simp [h2, h0]
theorem cell_sty {c : Cel} (h : cellF c = 0) : styF c.st = 0 := by
  unfold cellF at h
  split at h
  · cases h
  · rename_i q; simpa using q
theorem VL.cell {l : List Cel} (h : VL l) {i : Nat} (hi : i < l.length) : cellF (cat l i) = 0 := (chain_val h).ok i hi

/-! parting -/
theorem part_yes {l : List Cel} {k : Nat} (h : VL l) (hh : halfF (cat l k) = true) : 1 ≤ k ∧ k < l.length ∧ partF l k = l.take (k - 1) ++ [remF (cat l (k - 1)), remF (cat l k)] ++ l.drop (k + 1) := by
  have hk : k < l.length := by
    rcases Nat.lt_or_ge k l.length with c | c
    · exact c
    · rw [cat_out c] at hh; exact absurd hh (by decide)
  have h1 := ((chain_val h).down k hk (half_wide hh)).1
  refine ⟨h1, hk, ?_⟩
  unfold partF
  rw [if_pos ⟨by omega, by omega, by simpa using hh⟩]
  obtain ⟨j, rfl⟩ : ∃ j, k = j + 1 := ⟨k - 1, by omega⟩
  simp only [Int.toNat_natCast, Nat.add_sub_cancel]
  apply List.ext_getElem?
  intro i
  simp only [List.getElem?_set, List.getElem?_append, List.length_append, List.length_take, List.length_set, List.length_cons, List.length_nil, List.getElem?_take, List.getElem?_drop]
  have e1 : min j l.length = j := by omega
  simp only [e1]
  rcases Nat.lt_trichotomy i j with c | c | c
  · simp [show ¬ j + 1 = i by omega, show ¬ j = i by omega, show i < j + (0 + 1 + 1) by omega, c]
  · subst c; simp; omega
  · rcases Nat.eq_or_lt_of_le c with c | c
    · have : i = j + 1 := by omega
      subst this; simp [hk]; intro q; omega
    · have e2 : j + 1 + 1 + (i - (j + (0 + 1 + 1))) = i := by omega
      simp [show ¬ j + 1 = i by omega, show ¬ j = i by omega, show ¬ i < j + (0 + 1 + 1) by omega, e2]
theorem part_no {l : List Cel} {k : Nat} (hh : ¬ halfF (cat l k) = true) : partF l k = l := by
  unfold partF; rw [if_neg (by simp [hh])]
theorem wide_take {l : List Cel} (h : VL l) {k : Nat} (hh : halfF (cat l k) = true) : (cat l (k - 1)).wide = 1 ∧ ¬ halfF (cat l (k - 1)) = true ∧ (cat l k).st = (cat l (k - 1)).st := by
  obtain ⟨h1, hk, _⟩ := part_yes h hh
  have q := ((chain_val h).down k hk (half_wide hh)).2
  exact ⟨q, fun c => (by rw [half_wide c] at q; cases q), (chain_val h).sty k hk (half_wide hh)⟩
theorem cat_set_eq {l : List Cel} {i : Nat} (c : Cel) (h : i < l.length) : cat (l.set i c) i = c := by simp [cat, List.getD_eq_getElem?_getD, List.getElem?_set, h]
theorem part_cat {l : List Cel} (h : VL l) (k i : Nat) : cat (partF l k) i = if halfF (cat l k) = true ∧ (i + 1 = k ∨ i = k) then remF (cat l i) else cat l i := by
  by_cases hh : halfF (cat l k) = true
  · obtain ⟨h1, hk, e⟩ := part_yes h hh
    obtain ⟨j, rfl⟩ : ∃ j, k = j + 1 := ⟨k - 1, by omega⟩
    unfold partF
    rw [if_pos ⟨by omega, by omega, by simpa using hh⟩]
    simp only [Int.toNat_natCast, Nat.add_sub_cancel, hh, true_and]
    rcases Nat.lt_trichotomy i j with c | c | c
    · rw [if_neg (by omega), cat_set_ne _ (by omega), cat_set_ne _ (by omega)]
    · subst c
      rw [if_pos (by omega), cat_set_ne _ (by omega), cat_set_eq _ (by omega)]
    · rcases Nat.eq_or_lt_of_le c with c | c
      · have : i = j + 1 := by omega
        subst this
        rw [if_pos (by omega), cat_set_eq _ (by simp; omega)]
      · rw [if_neg (by omega), cat_set_ne _ (by omega), cat_set_ne _ (by omega)]
  · rw [part_no hh, if_neg (by simp [hh])]
theorem part_half {l : List Cel} (h : VL l) (k i : Nat) (q : halfF (cat (partF l k) i) = true) : halfF (cat l i) = true ∧ i ≠ k := by
  rw [part_cat h] at q
  split at q
  · exact absurd q (half_rem _)
  · rename_i c
    refine ⟨q, fun e => ?_⟩
    subst e
    exact c ⟨q, .inr rfl⟩
theorem VL.part {l : List Cel} (h : VL l) (k : Nat) : VL (partF l k) := by
  by_cases hh : halfF (cat l k) = true
  · obtain ⟨h1, hk, e⟩ := part_yes h hh
    obtain ⟨q1, q2, q3⟩ := wide_take h hh
    rw [e]
    have b1 : cellF (remF (cat l (k - 1))) = 0 := cellF_blank (styF_back (cell_sty (h.cell (by omega))))
    have b2 : cellF (remF (cat l k)) = 0 := cellF_blank (styF_back (cell_sty (h.cell hk)))
    refine VL.app (VL.app (h.take q2) (VL.app (a := [_]) (VL.one b1 rfl) (VL.one b2 rfl))) (h.drop ?_)
    intro c
    have hk1 : k + 1 < l.length := by
      rcases Nat.lt_or_ge (k + 1) l.length with c' | c'
      · exact c'
      · rw [cat_out c'] at c; exact absurd c (by decide)
    have := ((chain_val h).down (k + 1) hk1 (half_wide c)).2
    rw [Nat.add_sub_cancel, half_wide hh] at this
    cases this
  · rw [part_no hh]; exact h

/-! ### the operations keep a row valid -/
theorem VL.erase {l : List Cel} (h : VL l) {a b : Nat} {s : Sty} (hab : a < b) (hb : b ≤ l.length) (hs : styF s = 0) : VL (eraseF l (loF l a) (hiF l b) s) := by
  unfold eraseF
  refine VL.app (VL.app (h.take ?_) (VL.blanks hs _)) (h.drop ?_)
  · unfold loF
    split
    · rename_i q; exact (wide_take h q).2.1
    · assumption
  · unfold hiF
    split
    · rename_i q
      intro c
      have hk1 : b + 1 < l.length := by
        rcases Nat.lt_or_ge (b + 1) l.length with c' | c'
        · exact c'
        · rw [cat_out c'] at c; exact absurd c (by decide)
      have := ((chain_val h).down (b + 1) hk1 (half_wide c)).2
      rw [Nat.add_sub_cancel, half_wide q.2] at this
      cases this
    · rename_i q
      intro c
      rcases Nat.lt_or_ge b l.length with c' | c'
      · exact q ⟨c', c⟩
      · rw [cat_out c'] at c; exact absurd c (by decide)
theorem put_eq (l : List Cel) (k : Nat) (c : Cel) (hw : c.wide = 0 ∨ c.wide = 1) (hk : k + c.wide.toNat < l.length) :
    putF l k c = (partF (partF l k) ((k + 1 + c.wide.toNat : Nat) : Int)).take k ++ (if c.wide = 1 then [c, secondF c.st] else [c]) ++ (partF (partF l k) ((k + 1 + c.wide.toNat : Nat) : Int)).drop (k + 1 + c.wide.toNat) := by
  unfold putF
  rcases hw with hw | hw
  · rw [if_neg (by omega), if_neg (by omega)]
    have e : ((k : Int) + 1 + c.wide) = ((k + 1 + c.wide.toNat : Nat) : Int) := by omega
    rw [e]
    have hl : (partF (partF l k) ((k + 1 + c.wide.toNat : Nat) : Int)).length = l.length := by simp
    generalize partF (partF l k) ((k + 1 + c.wide.toNat : Nat) : Int) = P at hl ⊢
    rw [List.set_eq_take_append_cons_drop, if_pos (by omega)]
    simp [hw]
  · rw [if_pos hw, if_pos hw]
    have e : ((k : Int) + 1 + c.wide) = ((k + 1 + c.wide.toNat : Nat) : Int) := by omega
    rw [e]
    have hl : (partF (partF l k) ((k + 1 + c.wide.toNat : Nat) : Int)).length = l.length := by simp
    generalize partF (partF l k) ((k + 1 + c.wide.toNat : Nat) : Int) = P at hl ⊢
    have hk2 : k + 1 < P.length := by rw [hl]; have : c.wide.toNat = 1 := by omega
                                      omega
    rw [hw]
    apply List.ext_getElem?
    intro i
    simp only [List.getElem?_set, List.getElem?_append, List.length_append, List.length_take, List.length_set, List.length_cons, List.length_nil, List.getElem?_take, List.getElem?_drop]
    have e1 : min k P.length = k := by omega
    simp only [e1]
    rcases Nat.lt_trichotomy i k with c' | c' | c'
    · simp [show ¬ k + 1 = i by omega, show ¬ k = i by omega, show i < k + (0 + 1 + 1) by omega, c']
    · subst c'; simp; omega
    · rcases Nat.eq_or_lt_of_le c' with c' | c'
      · have : i = k + 1 := by omega
        subst this; simp [hk2]; intro q; omega
      · have e2 : k + 1 + 1 + (i - (k + (0 + 1 + 1))) = i := by omega
        simp [show ¬ k + 1 = i by omega, show ¬ k = i by omega, show ¬ i < k + (0 + 1 + 1) by omega, e2]
theorem VL.put {l : List Cel} (h : VL l) {k : Nat} {c : Cel} (hc : cellF c = 0) (hw : c.wide = 0 ∨ c.wide = 1) (hk : k + c.wide.toNat < l.length) : VL (putF l k c) := by
  rw [put_eq l k c hw hk]
  have h1 := h.part k
  have h2 := h1.part (k + 1 + c.wide.toNat)
  refine VL.app (VL.app (h2.take ?_) ?_) (h2.drop ?_)
  · intro q
    exact (part_half h k k (part_half h1 _ k q).1).2 rfl
  · split
    · rename_i q; exact VL.two hc q (cell_sty hc)
    · rename_i q; exact VL.one hc (hw.resolve_right q)
  · intro q
    exact (part_half h1 _ _ q).2 rfl
theorem VL.shift {l : List Cel} (h : VL l) (ins : Bool) {a n : Nat} {s : Sty} (hs : styF s = 0) (hl : a + n ≤ l.length) : VL (shF ins l a n s) := by
  cases ins
  · rw [sh_del l s hl rfl]
    have h1 := h.part a
    have h2 := h1.part (a + n)
    refine VL.app (h2.take ?_) (VL.app (h2.drop ?_) (VL.blanks hs _))
    · intro q; exact (part_half h a a (part_half h1 _ a q).1).2 rfl
    · intro q; exact (part_half h1 _ _ q).2 rfl
  · rw [sh_ins l s hl rfl]
    have h1 := h.part a
    have h2 := h1.part (l.length - n)
    have na : ¬ halfF (cat (partF (partF l a) ((l.length - n : Nat) : Int)) a) = true := fun q => (part_half h a a (part_half h1 _ a q).1).2 rfl
    refine VL.app (h2.take na) (VL.app (VL.blanks hs _) ((h2.drop na).take ?_))
    rw [cat_drop]
    intro q
    rw [show a + (l.length - n - a) = l.length - n by omega] at q
    exact (part_half h1 _ _ q).2 rfl
theorem cell_mark {c : Cel} {m : Int} (h : cellF c = 0) (hh : ¬ halfF c = true) (hm : widthF m = 0) : cellF (markF c m) = 0 ∧ (markF c m).wide = c.wide ∧ (markF c m).st = c.st := by
  have e2 : (markF c m).wide = c.wide := by unfold markF; (repeat' split) <;> rfl
  have e3 : (markF c m).st = c.st := by unfold markF; (repeat' split) <;> rfl
  refine ⟨?_, e2, e3⟩
  have eb : (markF c m).base = c.base := by unfold markF; (repeat' split) <;> rfl
  unfold cellF at h ⊢
  rw [e2, e3, eb]
  split at h
  · cases h
  · rename_i q1
    rw [if_neg q1]
    split at h
    · rename_i q2
      rcases q2 with q2 | ⟨q2, q3⟩
      · exact absurd q2 hh
      · rw [if_pos]
        refine .inr ⟨?_, q3⟩
        simp only [markedF, Bool.not_eq_true', Bool.or_eq_false_iff, Bool.and_eq_false_iff, decide_eq_false_iff_not] at q2 ⊢
        unfold markF
        by_cases c0 : c.m0 = 0
        · have c1 : c.m1 = 0 := by
            rcases q2.2 with q | q
            · simpa using q
            · exact absurd c0 q.1
          simp [c0, c1, hm]
        · by_cases c1 : c.m1 = 0
          · have := q2.1; simp [c0, c1] at this ⊢; simp [this, hm, c0]
          · simp only [c0, c1, if_false] at q2 ⊢; first | exact q2 | (simp at q2 ⊢; exact q2)
    · cases h
theorem chain_set : ∀ (l : List Cel) (a : Cel) (i : Nat) (c : Cel), chainF a l = true → cellF c = 0 → c.wide = (cat l i).wide → c.st = (cat l i).st → chainF a (l.set i c) = true
  | [], a, i, c, h, _, _, _ => by simpa using h
  | x :: l, a, 0, c, h, h1, h2, h3 => by
    simp only [cat, List.getD_cons_zero] at h2 h3
    simp only [List.set_cons_zero, chainF, Bool.and_eq_true, Bool.not_eq_true'] at h ⊢
    obtain ⟨k1, k2⟩ := h
    obtain ⟨o1, o2, o3⟩ := (offF_iff _ _).1 k1
    refine ⟨(offF_iff _ _).2 ⟨h1, by rw [h2]; exact o2, by rw [h3]; exact o3⟩, ?_⟩
    cases l with
    | nil => simp only [chainF] at k2 ⊢; rw [h2]; exact k2
    | cons y l =>
      simp only [chainF, Bool.and_eq_true, Bool.not_eq_true'] at k2 ⊢
      obtain ⟨o1, o2, o3⟩ := (offF_iff _ _).1 k2.1
      exact ⟨(offF_iff _ _).2 ⟨o1, by rw [h2]; exact o2, by rw [h2, h3]; exact o3⟩, k2.2⟩
  | x :: l, a, i + 1, c, h, h1, h2, h3 => by
    simp only [List.set_cons_succ, chainF, Bool.and_eq_true] at h ⊢
    exact ⟨h.1, chain_set l x i c h.2 h1 (by simpa [cat] using h2) (by simpa [cat] using h3)⟩
end Fen

namespace Fen
open Go Go.Proofs

/-! ### what stands where -/
theorem cat_app (a b : List Cel) (i : Nat) : cat (a ++ b) i = if i < a.length then cat a i else cat b (i - a.length) := by
  unfold cat
  simp only [List.getD_eq_getElem?_getD, List.getElem?_append]
  split <;> rfl
theorem cat_rep {n i : Nat} (c : Cel) (h : i < n) : cat (List.replicate n c) i = c := by simp [cat, List.getElem?_replicate, h]
theorem put_cat {l : List Cel} (h : VL l) {k : Nat} {c : Cel} (hw : c.wide = 0 ∨ c.wide = 1) (hk : k + c.wide.toNat < l.length) (i : Nat) :
    cat (putF l k c) i = if i = k then c else if c.wide = 1 ∧ i = k + 1 then secondF c.st
      else if (i + 1 = k ∧ (cat l k).wide = 2) ∨ (i = k + 1 + c.wide.toNat ∧ (cat l i).wide = 2) then remF (cat l i) else cat l i := by
  have hv := chain_val h
  have half_iff : ∀ j, halfF (cat l j) = true ↔ (cat l j).wide = 2 := fun j => by
    rcases Nat.lt_or_ge j l.length with q | q
    · exact hv.half j q
    · rw [cat_out q]; decide
  have hP : ∀ j, (j < k ∨ k + 1 + c.wide.toNat ≤ j) → cat (partF (partF l k) ((k + 1 + c.wide.toNat : Nat) : Int)) j =
      if (j + 1 = k ∧ (cat l k).wide = 2) ∨ (j = k + 1 + c.wide.toNat ∧ (cat l j).wide = 2) then remF (cat l j) else cat l j := fun j hj => by
    rw [part_cat (h.part k), part_cat h, part_cat h]
    have e1 : ¬ (halfF (cat l k) = true ∧ (k + 1 + c.wide.toNat + 1 = k ∨ k + 1 + c.wide.toNat = k)) := by omega
    rw [if_neg e1]
    simp only [half_iff]
    by_cases q1 : j = k + 1 + c.wide.toNat
    · subst q1
      have e2 : ¬ ((cat l k).wide = 2 ∧ (k + 1 + c.wide.toNat + 1 = k ∨ k + 1 + c.wide.toNat = k)) := by omega
      rw [if_neg e2]
      by_cases q2 : (cat l (k + 1 + c.wide.toNat)).wide = 2
      · rw [if_pos ⟨q2, .inr rfl⟩, if_pos (.inr ⟨rfl, q2⟩)]
      · rw [if_neg (fun q => q2 q.1), if_neg (by rintro (q | q); omega; exact q2 q.2)]
    · rw [if_neg (by omega)]
      by_cases q2 : j + 1 = k ∧ (cat l k).wide = 2
      · rw [if_pos ⟨q2.2, .inl q2.1⟩, if_pos (.inl q2)]
      · rw [if_neg (by rintro ⟨a, b⟩; omega), if_neg (by rintro (q | q); exact q2 q; exact q1 q.1)]
  rw [put_eq l k c hw hk]
  have hl : (partF (partF l k) ((k + 1 + c.wide.toNat : Nat) : Int)).length = l.length := by simp
  generalize partF (partF l k) ((k + 1 + c.wide.toNat : Nat) : Int) = P at hl hP ⊢
  have hm : (if c.wide = 1 then [c, secondF c.st] else [c]).length = 1 + c.wide.toNat := by rcases hw with q | q <;> simp [q]
  rw [cat_app, cat_app]
  simp only [List.length_append, hm, List.length_take, show min k P.length = k by omega]
  rcases Nat.lt_trichotomy i k with q | q | q
  · rw [if_pos (by omega), if_pos q, cat_take q, hP i (.inl q), if_neg (show ¬ i = k by omega), if_neg (show ¬ (c.wide = 1 ∧ i = k + 1) by omega)]
  · subst q
    rw [if_pos (by omega), if_neg (by omega), if_pos rfl, Nat.sub_self]
    split <;> rfl
  · by_cases q1 : c.wide = 1 ∧ i = k + 1
    · obtain ⟨q1, rfl⟩ := q1
      rw [if_pos (show k + 1 < k + (1 + c.wide.toNat) by omega), if_neg (show ¬ k + 1 < k by omega), if_pos q1, if_neg (show ¬ k + 1 = k by omega), if_pos (show c.wide = 1 ∧ k + 1 = k + 1 from ⟨q1, rfl⟩), show k + 1 - k = 1 by omega]
      rfl
    · have : k + 1 + c.wide.toNat ≤ i := by rcases hw with w | w <;> omega
      rw [if_neg (by omega), cat_drop, show k + 1 + c.wide.toNat + (i - (k + (1 + c.wide.toNat))) = i by omega, hP i (.inr this), if_neg (show ¬ i = k by omega), if_neg q1]
theorem erase_cat {l : List Cel} {a b : Nat} (s : Sty) (ha : a ≤ b) (hb : b ≤ l.length) (i : Nat) : cat (eraseF l a b s) i = if a ≤ i ∧ i < b then blankF s else cat l i := by
  unfold eraseF
  rw [cat_app, cat_app]
  simp only [List.length_append, List.length_take, List.length_replicate, show min a l.length = a by omega]
  rcases Nat.lt_or_ge i a with q | q
  · rw [if_pos (by omega), if_pos q, cat_take q, if_neg (by omega)]
  · rcases Nat.lt_or_ge i b with q2 | q2
    · rw [if_pos (by omega), if_neg (by omega), cat_rep _ (by omega), if_pos ⟨q, q2⟩]
    · rw [if_neg (by omega), cat_drop, if_neg (by omega)]; congr 1; omega
theorem ins_cat {l : List Cel} {a n : Nat} (s : Sty) (h : a + n ≤ l.length) {i : Nat} (hi : i < l.length) :
    cat (shF true l a n s) i = if i < a then cat (partF (partF l a) ((l.length - n : Nat) : Int)) i else if i < a + n then blankF s else cat (partF (partF l a) ((l.length - n : Nat) : Int)) (i - n) := by
  rw [sh_ins l s h rfl]
  have hl : (partF (partF l a) ((l.length - n : Nat) : Int)).length = l.length := by simp
  generalize partF (partF l a) ((l.length - n : Nat) : Int) = P at hl ⊢
  rw [cat_app, cat_app]
  simp only [List.length_take, List.length_replicate, show min a P.length = a by omega]
  rcases Nat.lt_or_ge i a with q | q
  · rw [if_pos q, if_pos q, cat_take q]
  · rw [if_neg (show ¬ i < a by omega), if_neg (show ¬ i < a by omega)]
    rcases Nat.lt_or_ge i (a + n) with q2 | q2
    · rw [if_pos (show i - a < n by omega), if_pos q2, cat_rep _ (by omega)]
    · rw [if_neg (show ¬ i - a < n by omega), if_neg (show ¬ i < a + n by omega), cat_take (by omega), cat_drop]; congr 1; omega
theorem del_cat {l : List Cel} {a n : Nat} (s : Sty) (h : a + n ≤ l.length) {i : Nat} (hi : i < l.length) :
    cat (shF false l a n s) i = if i < a then cat (partF (partF l a) ((a + n : Nat) : Int)) i else if i < l.length - n then cat (partF (partF l a) ((a + n : Nat) : Int)) (i + n) else blankF s := by
  rw [sh_del l s h rfl]
  have hl : (partF (partF l a) ((a + n : Nat) : Int)).length = l.length := by simp
  generalize partF (partF l a) ((a + n : Nat) : Int) = P at hl ⊢
  rw [cat_app, cat_app]
  simp only [List.length_take, List.length_drop, show min a P.length = a by omega]
  rcases Nat.lt_or_ge i a with q | q
  · rw [if_pos q, if_pos q, cat_take q]
  · rw [if_neg (show ¬ i < a by omega), if_neg (show ¬ i < a by omega)]
    rcases Nat.lt_or_ge i (l.length - n) with q2 | q2
    · rw [if_pos (show i - a < P.length - (a + n) by omega), if_pos q2, cat_drop]; congr 1; omega
    · rw [if_neg (show ¬ i - a < P.length - (a + n) by omega), if_neg (show ¬ i < l.length - n by omega), cat_rep _ (by omega)]
/-- what came has gone again -/
theorem back_cat {l : List Cel} (h : VL l) {a n : Nat} (s t : Sty) (hs : styF s = 0) (ha : a < l.length) (hn : 0 < n) (hl : a + n ≤ l.length) {i : Nat} (hi : i < l.length - n) :
    cat (shF false (shF true l a n s) a n t) i = cat (partF (partF l a) ((l.length - n : Nat) : Int)) i := by
  have xl : (shF true l a n s).length = l.length := sh_len true s hl
  have hv : VL (shF true l a n s) := h.shift true hs hl
  have xa : cat (shF true l a n s) a = blankF s := by rw [ins_cat s hl ha, if_neg (by omega), if_pos (by omega)]
  have n1 : partF (shF true l a n s) a = shF true l a n s := part_no (by rw [xa]; exact half_blank s)
  have n2 : partF (shF true l a n s) ((a + n : Nat) : Int) = shF true l a n s := part_no (by
    rcases Nat.lt_or_ge (a + n) l.length with q | q
    · rw [ins_cat s hl q, if_neg (by omega), if_neg (by omega), show a + n - n = a by omega]
      exact fun c => (part_half h a a (part_half (h.part a) _ a c).1).2 rfl
    · rw [cat_out (by omega)]; decide)
  rw [del_cat t (by rw [xl]; exact hl) (by rw [xl]; omega), n1, n2, xl]
  rcases Nat.lt_or_ge i a with q | q
  · rw [if_pos q, ins_cat s hl (by omega), if_pos q]
  · rw [if_neg (by omega), if_pos (by omega), ins_cat s hl (by omega), if_neg (by omega), if_neg (by omega), Nat.add_sub_cancel]
theorem back_same {l : List Cel} (h : VL l) {a n i : Nat} (hn : 0 < n) (hl : a + n ≤ l.length) (hi : i < l.length - n) (h1 : ¬ ((cat l a).wide = 2 ∧ (i + 1 = a ∨ i = a))) (h2 : ¬ (i + 1 = l.length - n ∧ (cat l i).wide = 1)) :
    cat (partF (partF l a) ((l.length - n : Nat) : Int)) i = cat l i := by
  rw [part_cat (h.part a), part_cat h a i]
  have k1 : ¬ (halfF (cat l a) = true ∧ (i + 1 = a ∨ i = a)) := fun q => h1 ⟨half_wide q.1, q.2⟩
  rw [if_neg k1, if_neg]
  rintro ⟨q1, q2 | q2⟩
  · have q3 := (part_half h a _ q1).1
    have q4 := ((chain_val h).down (l.length - n) (by omega) (half_wide q3)).2
    rw [show l.length - n - 1 = i by omega] at q4
    exact h2 ⟨q2, q4⟩
  · omega
end Fen

namespace Fen
open Go Go.Proofs

theorem celsC_flatMap (l : List Cel) : l.flatMap celC = celsC l := by
  induction l with
  | nil => rfl
  | cons c l ih => rw [List.flatMap_cons, ih]; rfl
theorem typed_i64 {d : Nat} {p : List C} (h : Typed T d 3 p) : ∃ n, p = [.int .i64 n] ∧ I64 n := by
  obtain ⟨n, rfl, q⟩ := typed_int T_3 h
  exact ⟨n, rfl, i64_of q⟩
theorem typed_u8 {d : Nat} {p : List C} (h : Typed T d 5 p) : ∃ n, p = [.int .u8 n] ∧ 0 ≤ n ∧ n < 256 := by
  obtain ⟨n, rfl, q⟩ := typed_int T_5 h
  exact ⟨n, rfl, u8_of q⟩
theorem typed_color {d : Nat} {p : List C} (h : Typed T d 30 p) : ∃ a b : Int, p = [.int .i64 a, .int .i64 b] := by
  obtain ⟨d', parts, rfl, hk⟩ := typed_struct T_30 h
  match parts, hk with
  | [p0, p1], ⟨h0, h1, _⟩ =>
    obtain ⟨a, rfl, _⟩ := typed_i64 h0
    obtain ⟨b, rfl, _⟩ := typed_i64 h1
    exact ⟨a, b, rfl⟩
theorem typed_sty {d : Nat} {p : List C} (h : Typed T d 32 p) : ∃ s : Sty, p = styC s ∧ s.ok := by
  obtain ⟨d', parts, rfl, hk⟩ := typed_struct T_32 h
  match parts, hk with
  | [p0, p1, p2, p3, p4], ⟨h0, h1, h2, h3, h4, _⟩ =>
    obtain ⟨a, rfl, qa⟩ := typed_i64 h0
    obtain ⟨b, rfl, _⟩ := typed_i64 h1
    obtain ⟨c0, c1, rfl⟩ := typed_color h2
    obtain ⟨d0, d1, rfl⟩ := typed_color h3
    obtain ⟨e0, e1, rfl⟩ := typed_color h4
    exact ⟨⟨a, b, c0, c1, d0, d1, e0, e1⟩, rfl, qa⟩
theorem typed_marks {d : Nat} {p : List C} (h : Typed T d 65 p) : ∃ a b : Int, p = [.int .i64 a, .int .i64 b] := by
  obtain ⟨d', parts, rfl, hl, hk⟩ := typed_array T_65 h
  match parts, hl with
  | [p0, p1], _ =>
    obtain ⟨a, rfl, _⟩ := typed_i64 (hk p0 (by simp))
    obtain ⟨b, rfl, _⟩ := typed_i64 (hk p1 (by simp))
    exact ⟨a, b, rfl⟩
theorem typed_cel {d : Nat} {p : List C} (h : Typed T d 67 p) : ∃ c : Cel, p = celC c ∧ c.ok := by
  obtain ⟨d', parts, rfl, hk⟩ := typed_struct T_67 h
  match parts, hk with
  | [p0, p1, p2, p3], ⟨h0, h1, h2, h3, _⟩ =>
    obtain ⟨a, rfl, _⟩ := typed_i64 h0
    obtain ⟨m0, m1, rfl⟩ := typed_marks h1
    obtain ⟨w, rfl, _⟩ := typed_i64 h2
    obtain ⟨s, rfl, qs⟩ := typed_sty h3
    exact ⟨⟨a, m0, m1, w, s⟩, by simp, qs⟩
theorem typed_row {d : Nat} {p : List C} (h : Typed T d 27 p) : ∃ r : Rw, p = rowC r ∧ r.ok ∧ r.cells.length ≤ maxLen := by
  obtain ⟨d', parts, rfl, hk⟩ := typed_struct T_27 h
  match parts, hk with
  | [p0, p1], ⟨h0, h1, _⟩ =>
    obtain ⟨l, rfl, hl, ql⟩ := typed_slice_of T_25 (fun d p h => typed_cel h) h0
    obtain ⟨w, rfl⟩ := typed_bool T_4 h1
    exact ⟨⟨l, w⟩, by simp [rowC, celsC_flatMap], ql, hl⟩
theorem typed_bytes {d : Nat} {p : List C} (h : Typed T d 71 p) : ∃ l : List Int, p = [.sl l.length (ints .u8 l)] ∧ l.length ≤ maxLen ∧ Bytes l := by
  obtain ⟨l, rfl, hl, ql⟩ := typed_slice_of (en := fun n : Int => [C.int .u8 n]) T_71 (fun d p h => typed_u8 h) h
  exact ⟨l, by rw [flatMap_ints], hl, ql⟩
theorem typed_draft {d : Nat} {p : List C} (h : Typed T d 73 p) : ∃ (c : Int) (B : List Int) (w : Bool), p = [.int .u8 c, .sl B.length (ints .u8 B), .bool w] ∧ 0 ≤ c ∧ c < 256 ∧ Bytes B := by
  obtain ⟨d', parts, rfl, hk⟩ := typed_struct T_73 h
  match parts, hk with
  | [p0, p1, p2], ⟨h0, h1, h2, _⟩ =>
    obtain ⟨a, rfl, qa, qb⟩ := typed_u8 h0
    obtain ⟨b, rfl, _, hb⟩ := typed_bytes h1
    obtain ⟨w, rfl⟩ := typed_bool T_4 h2
    exact ⟨a, b, w, rfl, qa, qb, hb⟩
theorem arg_draft {A : V} (h : TypedV T 73 A) : ∃ (c : Int) (B : List Int) (w : Bool), A = .agg [.int .u8 c, .sl B.length (ints .u8 B), .bool w] ∧ 0 ≤ c ∧ c < 256 ∧ Bytes B := by
  obtain ⟨d, ks, rfl, hk⟩ := arg_agg T_73 rfl h
  obtain ⟨c, B, w, rfl, hc⟩ := typed_draft hk
  exact ⟨c, B, w, rfl, hc⟩
theorem arg_row {A : V} (h : TypedV T 27 A) : ∃ r : Rw, A = rowV r ∧ r.ok := by
  obtain ⟨d, ks, rfl, hk⟩ := arg_agg T_27 rfl h
  obtain ⟨c, rfl, hc, _⟩ := typed_row hk
  exact ⟨c, rfl, hc⟩
theorem arg_cel {A : V} (h : TypedV T 67 A) : ∃ c : Cel, A = celV c ∧ c.ok := by
  obtain ⟨d, ks, rfl, hk⟩ := arg_agg T_67 rfl h
  obtain ⟨c, rfl, hc⟩ := typed_cel hk
  exact ⟨c, rfl, hc⟩
theorem arg_sty {A : V} (h : TypedV T 32 A) : ∃ s : Sty, A = styV s ∧ s.ok := by
  obtain ⟨d, ks, rfl, hk⟩ := arg_agg T_32 rfl h
  obtain ⟨c, rfl, hc⟩ := typed_sty hk
  exact ⟨c, rfl, hc⟩
theorem arg_i64 {A : V} (h : TypedV T 3 A) : ∃ n : Int, A = .c (.int .i64 n) ∧ I64 n := by
  obtain ⟨n, rfl, hn⟩ := arg_int T_3 h
  exact ⟨n, rfl, i64_of hn⟩
theorem arg_u8 {A : V} (h : TypedV T 5 A) : ∃ n : Int, A = .c (.int .u8 n) ∧ 0 ≤ n ∧ n < 256 := by
  obtain ⟨n, rfl, hn⟩ := arg_int T_5 h
  exact ⟨n, rfl, (u8_of hn).1, (u8_of hn).2⟩
theorem typed_i64x2 {d : Nat} {p : List C} (h : Typed T d 65 p) : ∃ a b : Int, p = [.int .i64 a, .int .i64 b] ∧ I64 a ∧ I64 b := by
  obtain ⟨d', parts, rfl, hl, hk⟩ := typed_array T_65 h
  match parts, hl with
  | [p0, p1], _ =>
    obtain ⟨a, rfl, h1⟩ := typed_i64 (hk p0 (by simp))
    obtain ⟨b, rfl, h2⟩ := typed_i64 (hk p1 (by simp))
    exact ⟨a, b, rfl, h1, h2⟩
theorem arg_i64x2 {A : V} (h : TypedV T 65 A) : ∃ a b : Int, A = .agg [.int .i64 a, .int .i64 b] ∧ I64 a ∧ I64 b := by
  obtain ⟨d, ks, rfl, hk⟩ := arg_agg T_65 rfl h
  obtain ⟨a, b, rfl, hc⟩ := typed_i64x2 hk
  exact ⟨a, b, rfl, hc⟩
end Fen
