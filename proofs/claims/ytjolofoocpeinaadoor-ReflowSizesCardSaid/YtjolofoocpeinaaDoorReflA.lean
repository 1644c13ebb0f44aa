/- A part of the proof; no statement is proved here: FReflA, FReflF, FReflV, FReflK, FReflL, FReflM, FReflN, FReflS. -/
import Derived.Test.YtjolofoocpeinaaDoorGridA

set_option linter.unusedVariables false
set_option linter.unusedSimpArgs false

namespace Fen
structure Hd where
 (past rows : List Rw)
 (ar ac : Int)
 deriving DecidableEq, Inhabited
/-- reflow.Check -/
def heldF (h : Hd) : Int :=
 if gridF h.rows = 0 ∧ pastF (colsG h.rows) h.past = 0 ∧ 0 ≤ h.ar ∧ h.ar < h.rows.length ∧ 0 ≤ h.ac ∧ h.ac < colsG h.rows then 0 else 290
structure Ln where
 (cells : List Cel)
 (opn : Bool)
 (at' fst : Int)
 deriving DecidableEq, Inhabited
def ln0 : Ln := ⟨[], false, -1, -1⟩
/-- is the next row's first cell a wide one -/
def wideQ (q : Option Rw) : Bool := match q with
 | some x => decide ((cat x.cells 0).wide = 1)
 | none => false
/-- how many cells a row gives; the next row, if there is one; is the position in it; where -/
def giveF (r : Rw) (q : Option Rw) (here : Bool) (col : Nat) : Nat :=
 if r.wrapped = true then (if wideQ q = true ∧ cat r.cells (r.cells.length - 1) = blankF sty0 then r.cells.length - 1 else r.cells.length)
 else if here = true then max (longF r.cells) (col + 1) else longF r.cells
def addF (P a col : Nat) (k : Nat) (r : Rw) (q : Option Rw) (l : Ln) : Ln :=
 ⟨l.cells ++ r.cells.take (giveF r q (decide (k = a)) col), r.wrapped,
   if k = a then ((l.cells.length + min col (giveF r q (decide (k = a)) col) : Nat) : Int) else l.at', if k = P then (l.cells.length : Int) else l.fst⟩
def runF (P a col : Nat) : List Rw → Nat → Ln → List Ln
 | [], _, _ => []
 | r :: rs, k, l => if r.wrapped = true ∧ rs ≠ [] then runF P a col rs (k + 1) (addF P a col k r rs.head? l) else addF P a col k r rs.head? l :: runF P a col rs (k + 1) ln0
def allH (h : Hd) : List Rw := h.past ++ h.rows
def linesH (h : Hd) : List Ln := runF h.past.length (h.past.length + h.ar.toNat) h.ac.toNat (allH h) 0 ln0
def textH (h : Hd) : List (List Cel) := (linesH h).map fun l => l.cells.take (longF l.cells)
theorem run_at {P a col : Nat} {all : List Rw} {k : Nat} (l : Ln) (h : k < all.length) :
   runF P a col (all.drop k) k l = if all[k].wrapped = true ∧ k + 1 < all.length then runF P a col (all.drop (k + 1)) (k + 1) (addF P a col k all[k] all[k + 1]? l)
     else addF P a col k all[k] all[k + 1]? l :: runF P a col (all.drop (k + 1)) (k + 1) ln0 := by
 rw [List.drop_eq_getElem_cons h, runF]
 have e : (all.drop (k + 1)).head? = all[k + 1]? := by simp
 have e2 : (all.drop (k + 1) ≠ []) ↔ k + 1 < all.length := by rw [Ne, List.drop_eq_nil_iff]; omega
 rw [e]
 simp only [e2]
theorem long_pos {l : List Cel} {i : Nat} (h : i < l.length) (hw : cat l i ≠ blankF sty0) : i < longF l := by
 have key : ∀ n, n ≤ l.length → i < n → i < longF (l.take n) := by
   intro n
   induction n with
   | zero => intro _ h; omega
   | succ n ih =>
     intro hn hi
     rw [long_step (by omega)]
     split
     · rename_i e
       rcases Nat.lt_or_ge i n with q | q
       · exact ih (by omega) q
       · obtain rfl : i = n := by omega
         exact absurd (by simp [cat, h, e]) hw
     · omega
 have := key l.length (Nat.le_refl _) h
 rwa [List.take_length] at this
theorem give_le {r : Rw} {q : Option Rw} {here : Bool} {col : Nat} (h : here = true → col < r.cells.length) : giveF r q here col ≤ r.cells.length := by
 unfold giveF
 have := long_le r.cells
 split
 · split <;> omega
 · split
   · rename_i c; have := h c; omega
   · omega
theorem add_len {P a col k : Nat} {r : Rw} {q : Option Rw} {l : Ln} : (addF P a col k r q l).cells.length ≤ l.cells.length + r.cells.length := by
 simp [addF]; omega
/-- a run's lines are not longer than its rows -/
theorem run_len {P a col : Nat} {w : Nat} : ∀ (rs : List Rw) (k : Nat) (l : Ln), (∀ r ∈ rs, r.cells.length ≤ w) → ∀ x ∈ runF P a col rs k l, x.cells.length ≤ l.cells.length + w * rs.length
 | [], _, _, _, x, hx => by simp [runF] at hx
 | r :: rs, k, l, h, x, hx => by
   have h1 := h r (List.mem_cons_self ..)
   have h2 := add_len (P := P) (a := a) (col := col) (k := k) (r := r) (q := rs.head?) (l := l)
   have hrs : ∀ r ∈ rs, r.cells.length ≤ w := fun y hy => h y (List.mem_cons_of_mem _ hy)
   have e : w * (r :: rs).length = w * rs.length + w := by rw [List.length_cons, Nat.mul_succ]
   rw [runF] at hx
   split at hx
   · have := run_len rs _ _ hrs x hx
     omega
   · rcases List.mem_cons.1 hx with rfl | hx
     · omega
     · have := run_len rs _ _ hrs x hx
       simp [ln0] at this
       omega
theorem run_count {P a col : Nat} : ∀ (rs : List Rw) (k : Nat) (l : Ln), (runF P a col rs k l).length ≤ rs.length
 | [], _, _ => by simp [runF]
 | r :: rs, k, l => by
   rw [runF]
   split
   · have := run_count (P := P) (a := a) (col := col) rs (k + 1) (addF P a col k r rs.head? l); simp; omega
   · have := run_count (P := P) (a := a) (col := col) rs (k + 1) ln0; simp; omega
/-- with one row more the position stands in its line, or before a wide cell that comes -/
theorem add_in {P a col w k : Nat} {r : Rw} {rs : List Rw} {l : Ln} (hcol : col < w) (h1 : r.cells.length = w) (h2 : 2 ≤ w)
   (hl : l.at' < l.cells.length ∨ (l.at' = l.cells.length ∧ wideQ (r :: rs).head? = true)) :
   (addF P a col k r rs.head? l).at' < (addF P a col k r rs.head? l).cells.length ∨
     ((addF P a col k r rs.head? l).at' = (addF P a col k r rs.head? l).cells.length ∧ wideQ rs.head? = true) ∧ r.wrapped = true := by
 have hg := give_le (r := r) (q := rs.head?) (here := decide (k = a)) (col := col) (fun _ => by omega)
 simp only [addF, List.length_append, List.length_take, Nat.min_eq_left hg]
 split
 · rename_i e
   subst e
   simp only [giveF, decide_true]
   split
   · rename_i hw
     split
     · rename_i q
       rcases Nat.lt_or_ge col (r.cells.length - 1) with c | c
       · left; omega
       · right; exact ⟨⟨by omega, q.1⟩, hw⟩
     · left; omega
   · left; simp; omega
 · rcases hl with hl | ⟨hl, hq⟩
   · left; omega
   · left
     have pos : 0 < giveF r rs.head? (decide (k = a)) col := by
       simp only [List.head?_cons, wideQ, decide_eq_true_eq] at hq
       have : 0 < longF r.cells := long_pos (by omega) (fun e => by rw [e] at hq; simp [blankF] at hq)
       unfold giveF
       split
       · split <;> omega
       · split <;> omega
     omega
/-- the position stands in its line -/
theorem runs_in {P a col w : Nat} (hcol : col < w) : ∀ (rs : List Rw) (k : Nat) (l : Ln), (∀ r ∈ rs, r.cells.length = w ∧ 2 ≤ w) →
   (l.at' < l.cells.length ∨ (l.at' = l.cells.length ∧ wideQ rs.head? = true)) → ∀ x ∈ runF P a col rs k l, x.at' < x.cells.length
 | [], _, _, _, _, x, hx => by simp [runF] at hx
 | r :: rs, k, l, h, hl, x, hx => by
   obtain ⟨h1, h2⟩ := h r (List.mem_cons_self ..)
   have hrs : ∀ r ∈ rs, r.cells.length = w ∧ 2 ≤ w := fun y hy => h y (List.mem_cons_of_mem _ hy)
   have hin := add_in (P := P) (a := a) (k := k) hcol h1 h2 hl
   have hin0 : ln0.at' < ln0.cells.length ∨ (ln0.at' = ln0.cells.length ∧ wideQ rs.head? = true) := .inl (by simp [ln0])
   rw [runF] at hx
   split at hx
   · rename_i c
     refine runs_in hcol rs _ _ hrs ?_ x hx
     rcases hin with q | q
     · exact .inl q
     · exact .inr q.1
   · rename_i c
     rcases List.mem_cons.1 hx with rfl | hx
     · rcases hin with q | ⟨⟨q1, q2⟩, q3⟩
       · exact q
       · exact absurd ⟨q3, fun e => by subst e; simp [wideQ] at q2⟩ c
     · exact runs_in hcol rs _ _ hrs hin0 x hx
def wideN (x : Cel) : Nat := if x.wide = 1 then 2 else 1
def padF (cols : Nat) (l : List Cel) : List Cel := l ++ List.replicate (cols - l.length) (blankF sty0)
def putC (cols : Nat) (c : List Rw × List Cel) (x : Cel) : List Rw × List Cel :=
 if cols < c.2.length + wideN x then (c.1 ++ [⟨padF cols c.2, true⟩], [x]) else (c.1, c.2 ++ [x])
def cutF (cols : Nat) (l : List Cel) : List Rw × List Cel := l.foldl (putC cols) ([], [])
def wrapL (cols : Nat) (l : List Cel) (o : Bool) : List Rw := (cutF cols l).1 ++ [⟨padF cols (cutF cols l).2, o⟩]
/-- where a cell stands -/
def spotC (cols : Nat) (l : List Cel) (i : Nat) : Nat × Nat := ((cutF cols (l.take (i + 1))).1.length, (cutF cols (l.take (i + 1))).2.length - 1)
theorem cut_nil (cols : Nat) : cutF cols [] = ([], []) := rfl
theorem cut_snoc (cols : Nat) (l : List Cel) (x : Cel) : cutF cols (l ++ [x]) = putC cols (cutF cols l) x := by simp [cutF]
theorem cut_step (cols : Nat) {l : List Cel} {k : Nat} (h : k < l.length) : cutF cols (l.take (k + 1)) = putC cols (cutF cols (l.take k)) l[k] := by
 rw [List.take_succ_eq_append_getElem h, cut_snoc]
theorem wideN_le (x : Cel) : 1 ≤ wideN x ∧ wideN x ≤ 2 := by unfold wideN; split <;> omega
theorem put_le {cols : Nat} (h2 : 2 ≤ cols) (c : List Rw × List Cel) (x : Cel) (hc : c.2.length ≤ cols) :
   (putC cols c x).2.length ≤ cols ∧ 1 ≤ (putC cols c x).2.length ∧ (putC cols c x).1.length ≤ c.1.length + 1 := by
 have := wideN_le x
 unfold putC
 split
 · simp; omega
 · simp; omega
theorem cut_le {cols : Nat} (h2 : 2 ≤ cols) (l : List Cel) : (cutF cols l).2.length ≤ cols ∧ (cutF cols l).1.length ≤ l.length ∧ (0 < l.length → 1 ≤ (cutF cols l).2.length) := by
 have key : ∀ n, n ≤ l.length → (cutF cols (l.take n)).2.length ≤ cols ∧ (cutF cols (l.take n)).1.length ≤ n ∧ (0 < n → 1 ≤ (cutF cols (l.take n)).2.length) := by
   intro n
   induction n with
   | zero => intro _; simp [cut_nil]
   | succ n ih =>
     intro hn
     obtain ⟨i1, i2, i3⟩ := ih (by omega)
     obtain ⟨p1, p2, p3⟩ := put_le h2 (cutF cols (l.take n)) l[n] i1
     rw [cut_step cols (by omega)]
     exact ⟨p1, by omega, fun _ => p2⟩
 have := key l.length (Nat.le_refl _)
 rwa [List.take_length] at this
theorem pad_len {cols : Nat} {l : List Cel} (h : l.length ≤ cols) : (padF cols l).length = cols := by simp [padF]; omega
theorem cut_rows {cols : Nat} (h2 : 2 ≤ cols) (l : List Cel) : ∀ r ∈ (cutF cols l).1, r.cells.length = cols ∧ r.wrapped = true := by
 have key : ∀ n, n ≤ l.length → ∀ r ∈ (cutF cols (l.take n)).1, r.cells.length = cols ∧ r.wrapped = true := by
   intro n
   induction n with
   | zero => intro _ r hr; simp [cut_nil] at hr
   | succ n ih =>
     intro hn r hr
     rw [cut_step cols (by omega)] at hr
     have hl := (cut_le h2 (l.take n)).1
     unfold putC at hr
     split at hr
     · simp only [List.mem_append, List.mem_singleton] at hr
       rcases hr with hr | rfl
       · exact ih (by omega) r hr
       · exact ⟨pad_len hl, rfl⟩
     · exact ih (by omega) r hr
 have := key l.length (Nat.le_refl _)
 rwa [List.take_length] at this
theorem wrap_rows {cols : Nat} (h2 : 2 ≤ cols) (l : List Cel) (o : Bool) : ∀ r ∈ wrapL cols l o, r.cells.length = cols := by
 intro r hr
 simp only [wrapL, List.mem_append, List.mem_singleton] at hr
 rcases hr with hr | rfl
 · exact (cut_rows h2 l r hr).1
 · exact pad_len (cut_le h2 l).1
theorem wrap_count {cols : Nat} (h2 : 2 ≤ cols) (l : List Cel) (o : Bool) : (wrapL cols l o).length ≤ l.length + 1 := by
 have := (cut_le h2 l).2.1
 simp [wrapL]; omega
structure Wh where
 (rows : List Rw)
 (border ar ac : Nat)
 deriving DecidableEq, Inhabited
def wh0 : Wh := ⟨[], 0, 0, 0⟩
/-- after so many of a line's cells: border, position -/
def bordF (cols : Nat) (w : Wh) (l : Ln) (k : Nat) : Nat :=
 if 0 ≤ l.fst then (if l.fst < k then w.rows.length + (spotC cols l.cells l.fst.toNat).1 else w.rows.length) else w.border
def atF (cols : Nat) (w : Wh) (l : Ln) (k : Nat) : Nat × Nat :=
 if 0 ≤ l.at' ∧ l.at' < k then (w.rows.length + (spotC cols l.cells l.at'.toNat).1, (spotC cols l.cells l.at'.toNat).2) else (w.ar, w.ac)
def lineW (cols : Nat) (w : Wh) (l : Ln) : Wh :=
 ⟨w.rows ++ wrapL cols l.cells l.opn,
   if 0 ≤ l.fst ∧ (l.cells.length : Int) ≤ l.fst ∧ 0 < l.cells.length then w.rows.length + (wrapL cols l.cells l.opn).length else bordF cols w l l.cells.length,
   (atF cols w l l.cells.length).1, (atF cols w l l.cells.length).2⟩
def anewF (h : Hd) (cols : Nat) : Wh :=
 if cols = colsG h.rows then ⟨allH h, h.past.length, h.past.length + h.ar.toNat, h.ac.toNat⟩ else (linesH h).foldl (lineW cols) wh0
def blankR (r : Rw) : Bool := !r.wrapped && decide (longF r.cells = 0)
def goesF (l : List Rw) (b a : Nat) : Bool := (decide (a + 1 < l.length) && blankR (l.getD (l.length - 1) ⟨[], false⟩)) || decide (a ≤ b)
def dropG (n a : Nat) : Nat → List Rw → Nat → List Rw × Nat
 | 0, l, b => (l, b)
 | k + 1, l, b => if n < l.length - b then (if goesF l b a = true then dropG n a k (l.take (l.length - 1)) b else dropG n a k l (b + 1)) else (l, b)
def dropsF (n a : Nat) (l : List Rw) (b : Nat) : List Rw × Nat := dropG n a (l.length - b) l b
theorem drops_stop {n a : Nat} {l : List Rw} {b : Nat} (h : l.length - b ≤ n) : dropsF n a l b = (l, b) := by
 unfold dropsF
 cases e : l.length - b with
 | zero => rfl
 | succ k => rw [dropG, if_neg (by omega)]
theorem drops_goes {n a : Nat} {l : List Rw} {b : Nat} (h : n < l.length - b) (g : goesF l b a = true) : dropsF n a l b = dropsF n a (l.take (l.length - 1)) b := by
 unfold dropsF
 rw [show l.length - b = (l.length - 1 - b) + 1 by omega, dropG, if_pos h, if_pos g, List.length_take, Nat.min_eq_left (by omega)]
theorem drops_down {n a : Nat} {l : List Rw} {b : Nat} (h : n < l.length - b) (g : goesF l b a = false) : dropsF n a l b = dropsF n a l (b + 1) := by
 unfold dropsF
 rw [show l.length - b = (l.length - (b + 1)) + 1 by omega, dropG, if_pos h, if_neg (by simp [g])]
def sizeOK (cols rows : Int) : Bool := decide (2 ≤ cols) && decide (cols ≤ 80) && decide (1 ≤ rows) && decide (rows ≤ 40)
/-- the border goes up, blank rows come -/
def liftF (n : Nat) (l : List Rw) (b : Nat) : Nat := b - min b (n - (l.length - b))
def growF (cols n : Nat) (l : List Rw) (b : Nat) : List Rw := l ++ List.replicate (n - (l.length - b)) (blankRow cols sty0)
def hd0 : Hd := ⟨[], [], 0, 0⟩
def endF (w : Wh) (l : List Rw) (b : Nat) : Hd := ⟨(l.take b).drop (b - 100), l.drop b, (w.ar : Int) - b, w.ac⟩
def tallF (cols n : Nat) (w : Wh) (d : List Rw × Nat) : Hd := endF w (growF cols n d.1 (liftF n d.1 d.2)) (liftF n d.1 d.2)
def sizedF (h : Hd) (cols rows : Nat) : Hd := tallF cols rows (anewF h cols) (dropsF rows (anewF h cols).ar (anewF h cols).rows (anewF h cols).border)
def mainF (h : Hd) (cols rows : Int) : Hd × Int := if heldF h ≠ 0 then (hd0, 290) else if sizeOK cols rows = false then (hd0, 2) else (sizedF h cols.toNat rows.toNat, 0)
def saidF (h : Hd) : List (List Cel) × Int := if heldF h ≠ 0 then ([], 290) else (textH h, 0)
def altK (l : List Cel) (cols k : Nat) : Cel := if (cat l k).wide = 1 ∧ k + 1 = cols then blankF sty0 else l.getD k (blankF sty0)
def altR (g : List Rw) (cols i : Nat) : Rw := ⟨(List.range cols).map (altK (g.getD i ⟨[], false⟩).cells cols), (g.getD i ⟨[], false⟩).wrapped && decide ((g.getD i ⟨[], false⟩).cells.length = cols)⟩
def altG (g : List Rw) (cols rows : Nat) : List Rw := (List.range rows).map (altR g cols)
def altF (g : List Rw) (cols rows : Int) : List Rw × Int := if gridF g ≠ 0 then ([], 230) else if sizeOK cols rows = false then ([], 2) else (altG g cols.toNat rows.toNat, 0)
end Fen

namespace Fen
theorem cut_mono {cols : Nat} (l : List Cel) : ∀ (i j : Nat), i ≤ j → j ≤ l.length → (cutF cols (l.take i)).1.length ≤ (cutF cols (l.take j)).1.length := by
 intro i j hij
 induction j with
 | zero => intro _; rw [show i = 0 by omega]; exact Nat.le_refl _
 | succ j ih =>
   intro hj
   rcases Nat.lt_or_ge i (j + 1) with h | h
   · refine Nat.le_trans (ih (by omega) (by omega)) ?_
     rw [cut_step cols (by omega)]
     unfold putC
     split
     · simp
     · exact Nat.le_refl _
   · rw [show i = j + 1 by omega]; exact Nat.le_refl _
theorem place_lt {cols : Nat} (h2 : 2 ≤ cols) {l : List Cel} {i : Nat} (h : i < l.length) : (spotC cols l i).1 ≤ (cutF cols l).1.length ∧ (spotC cols l i).2 < cols := by
 constructor
 · have := cut_mono (cols := cols) l (i + 1) l.length (by omega) (Nat.le_refl _)
   rw [List.take_length] at this
   exact this
 · have := (cut_le h2 (l.take (i + 1))).1
   simp only [spotC]
   omega
theorem place_mono {cols : Nat} {l : List Cel} {i j : Nat} (hij : i ≤ j) (h : j < l.length) : (spotC cols l i).1 ≤ (spotC cols l j).1 := cut_mono l _ _ (by omega) (by omega)
theorem wrap_len {cols : Nat} (l : List Cel) (o : Bool) : (wrapL cols l o).length = (cutF cols l).1.length + 1 := by simp [wrapL]
/-- border and position as they should be -/
structure WhIn (cols : Nat) (w : Wh) : Prop where
 b : w.border ≤ w.ar
 r : w.ar < w.rows.length
 c : w.ac < cols
theorem lineW_no {cols : Nat} {w : Wh} {l : Ln} (h1 : l.at' < 0) (h2 : l.fst < 0) : lineW cols w l = ⟨w.rows ++ wrapL cols l.cells l.opn, w.border, w.ar, w.ac⟩ := by
 simp only [lineW, bordF, atF]
 rw [if_neg (by omega), if_neg (by omega), if_neg (by omega)]
theorem WhIn.line {cols : Nat} {w : Wh} {l : Ln} (h : WhIn cols w) (h1 : l.at' < 0) (h2 : l.fst < 0) : WhIn cols (lineW cols w l) := by
 rw [lineW_no h1 h2]
 exact ⟨h.b, by have := h.r; simp; omega, h.c⟩
/-- the border lies not behind all rows -/
theorem bord_le {cols : Nat} {w : Wh} {l : Ln} (hb : 0 ≤ l.fst ∨ w.border ≤ w.rows.length) : (lineW cols w l).border ≤ (lineW cols w l).rows.length := by
 simp only [lineW, bordF, List.length_append]
 split
 · exact Nat.le_refl _
 · split
   · split
     · rename_i q1 q2
       have := cut_mono (cols := cols) l.cells (l.fst.toNat + 1) l.cells.length (by omega) (Nat.le_refl _)
       rw [List.take_length] at this
       simp only [spotC, wrap_len]
       omega
     · omega
   · have : w.border ≤ w.rows.length := by omega
     omega
/-- a line with the position -/
theorem WhIn.here {cols : Nat} (hc : 2 ≤ cols) {w : Wh} {l : Ln} (h0 : 0 ≤ l.at') (h1 : l.at' < l.cells.length) (h2 : l.fst ≤ l.at') (hb : 0 ≤ l.fst ∨ w.border ≤ w.rows.length) : WhIn cols (lineW cols w l) := by
 obtain ⟨p1, p2⟩ := place_lt hc (l := l.cells) (i := l.at'.toNat) (by omega)
 have e : atF cols w l l.cells.length = (w.rows.length + (spotC cols l.cells l.at'.toNat).1, (spotC cols l.cells l.at'.toNat).2) := by unfold atF; rw [if_pos ⟨h0, h1⟩]
 have hbo : (lineW cols w l).border ≤ w.rows.length + (spotC cols l.cells l.at'.toNat).1 := by
   simp only [lineW]
   rw [if_neg (by omega)]
   simp only [bordF]
   split
   · split
     · have := place_mono (cols := cols) (l := l.cells) (i := l.fst.toNat) (j := l.at'.toNat) (by omega) (by omega)
       omega
     · omega
   · omega
 constructor
 · show (lineW cols w l).border ≤ (atF cols w l l.cells.length).1
   rw [e]; exact hbo
 · show (atF cols w l l.cells.length).1 < (w.rows ++ wrapL cols l.cells l.opn).length
   rw [e, List.length_append, wrap_len]; simp only; omega
 · show (atF cols w l l.cells.length).2 < cols
   rw [e]; exact p2
/-- what is known before row k, of the line that is begun, and of the rows that are there -/
def Jin (cols P a k : Nat) (l : Ln) (w : Wh) : Prop :=
 (k ≤ P → l.fst < 0 ∧ l.at' < 0) ∧
 (P < k → k ≤ a → l.at' < 0 ∧ l.fst ≤ l.cells.length ∧ (0 ≤ l.fst ∨ w.border ≤ w.rows.length)) ∧
 (a < k → (0 ≤ l.at' ∧ l.fst ≤ l.at' ∧ (0 ≤ l.fst ∨ w.border ≤ w.rows.length)) ∨ (l.at' < 0 ∧ l.fst < 0 ∧ WhIn cols w))
theorem fold_in {cols P a col wd : Nat} (hc : 2 ≤ cols) (hcol : col < wd) (hPa : P ≤ a) : ∀ (rs : List Rw) (k : Nat) (l : Ln) (w : Wh), (∀ r ∈ rs, r.cells.length = wd ∧ 2 ≤ wd) →
   (l.at' < l.cells.length ∨ (l.at' = l.cells.length ∧ wideQ rs.head? = true)) → Jin cols P a k l w → (rs = [] → l = ln0) → a < k + rs.length → WhIn cols ((runF P a col rs k l).foldl (lineW cols) w)
 | [], k, l, w, _, _, hJ, hl, hk => by
   subst_vars
   have := hl rfl
   subst this
   rcases hJ.2.2 (by simpa using hk) with q | q
   · simp [ln0] at q
   · exact q.2.2
 | r :: rs, k, l, w, h, hl, hJ, _, hk => by
   obtain ⟨h1, h2⟩ := h r (List.mem_cons_self ..)
   have hrs : ∀ r ∈ rs, r.cells.length = wd ∧ 2 ≤ wd := fun y hy => h y (List.mem_cons_of_mem _ hy)
   have hg := give_le (r := r) (q := rs.head?) (here := decide (k = a)) (col := col) (fun _ => by omega)
   have hin := add_in (P := P) (a := a) (k := k) hcol h1 h2 hl
   obtain ⟨J1, J2, J3⟩ := hJ
   have hlen : (addF P a col k r rs.head? l).cells.length = l.cells.length + giveF r rs.head? (decide (k = a)) col := by simp [addF]; omega
   -- what is known of the line with this row
   have K1 : k < P → (addF P a col k r rs.head? l).fst < 0 ∧ (addF P a col k r rs.head? l).at' < 0 := fun q => by
     have := J1 (by omega)
     simp only [addF]
     rw [if_neg (by omega), if_neg (by omega)]
     exact this
   have K2 : P ≤ k → k < a → (addF P a col k r rs.head? l).at' < 0 ∧ (addF P a col k r rs.head? l).fst ≤ (addF P a col k r rs.head? l).cells.length ∧ (0 ≤ (addF P a col k r rs.head? l).fst ∨ w.border ≤ w.rows.length) := fun q1 q2 => by
     rw [hlen]
     simp only [addF]
     rw [if_neg (by omega)]
     rcases Nat.lt_or_ge P k with c | c
     · have := J2 c (by omega)
       rw [if_neg (by omega)]
       exact ⟨this.1, by omega, this.2.2⟩
     · have := J1 (by omega)
       rw [if_pos (by omega)]
       exact ⟨this.2, by omega, .inl (by omega)⟩
   have K3 : a ≤ k → (0 ≤ (addF P a col k r rs.head? l).at' ∧ (addF P a col k r rs.head? l).fst ≤ (addF P a col k r rs.head? l).at' ∧ (0 ≤ (addF P a col k r rs.head? l).fst ∨ w.border ≤ w.rows.length)) ∨
       ((addF P a col k r rs.head? l).at' < 0 ∧ (addF P a col k r rs.head? l).fst < 0 ∧ WhIn cols w) := fun q => by
     simp only [addF]
     rcases Nat.lt_or_ge a k with c | c
     · rw [if_neg (by omega), if_neg (by omega)]
       exact J3 c
     · rw [if_pos (by omega)]
       left
       refine ⟨by omega, ?_, ?_⟩
       · split
         · omega
         · have := J2 (by omega) (by omega); omega
       · split
         · exact .inl (by omega)
         · exact (J2 (by omega) (by omega)).2.2
   rw [runF]
   split
   · rename_i c
     refine fold_in hc hcol hPa rs (k + 1) _ w hrs ?_ ⟨fun q => K1 (by omega), fun q1 q2 => K2 (by omega) (by omega), fun q => K3 (by omega)⟩ (fun e => absurd e c.2) (by simp at hk; omega)
     rcases hin with q | q
     · exact .inl q
     · exact .inr q.1
   · rename_i c
     rw [List.foldl_cons]
     have hlt : (addF P a col k r rs.head? l).at' < (addF P a col k r rs.head? l).cells.length := by
       rcases hin with q | ⟨⟨q1, q2⟩, q3⟩
       · exact q
       · exact absurd ⟨q3, fun e => by subst e; simp [wideQ] at q2⟩ c
     refine fold_in hc hcol hPa rs (k + 1) ln0 _ hrs (.inl (by simp [ln0])) ⟨fun _ => by simp [ln0], fun q1 q2 => ?_, fun q => ?_⟩ (fun _ => rfl) (by simp at hk; omega)
     · obtain ⟨a1, a2, a3⟩ := K2 (by omega) (by omega)
       exact ⟨by simp [ln0], by simp [ln0], .inr (bord_le a3)⟩
     · right
       refine ⟨by simp [ln0], by simp [ln0], ?_⟩
       rcases K3 (by omega) with ⟨a1, a2, a3⟩ | ⟨a1, a2, a3⟩
       · exact WhIn.here hc a1 hlt a2 a3
       · exact a3.line a1 a2
end Fen

namespace Fen
theorem styF0 : styF sty0 = 0 := rfl
theorem VL.cut {l : List Cel} (h : VL l) {k : Nat} (hk : (cat l k).wide ≠ 2) : VL (l.take k) :=
 (chain_split (l.take k) (l.drop k) cel0 (by rw [List.take_append_drop]; exact h) (by rw [cat_drop]; exact hk)).1
theorem long_after {l : List Cel} {i : Nat} (h : longF l ≤ i) (hi : i < l.length) : cat l i = blankF sty0 := by
 rcases Decidable.em (cat l i = blankF sty0) with e | e
 · exact e
 · have := long_pos hi e; omega
theorem give_VL {r : Rw} {q : Option Rw} {here : Bool} {col : Nat} (h : VL r.cells) : VL (r.cells.take (giveF r q here col)) := by
 have key : ∀ k, longF r.cells ≤ k → VL (r.cells.take k) := fun k hk => by
   rcases Nat.lt_or_ge k r.cells.length with c | c
   · exact h.cut (by rw [long_after hk c]; simp [blankF])
   · rw [List.take_of_length_le c]; exact h
 unfold giveF
 split
 · split
   · rename_i q
     exact h.cut (by rw [q.2]; simp [blankF])
   · rw [List.take_length]; exact h
 · split
   · exact key _ (by omega)
   · exact key _ (Nat.le_refl _)
theorem run_VL {P a col : Nat} : ∀ (rs : List Rw) (k : Nat) (l : Ln), (∀ r ∈ rs, VL r.cells) → VL l.cells → ∀ x ∈ runF P a col rs k l, VL x.cells
 | [], _, _, _, _, x, hx => by simp [runF] at hx
 | r :: rs, k, l, h, hl, x, hx => by
   have h1 := h r (List.mem_cons_self ..)
   have hrs : ∀ r ∈ rs, VL r.cells := fun y hy => h y (List.mem_cons_of_mem _ hy)
   have ha : VL (addF P a col k r rs.head? l).cells := hl.app (give_VL h1)
   rw [runF] at hx
   split at hx
   · exact run_VL rs _ _ hrs ha x hx
   · rcases List.mem_cons.1 hx with rfl | hx
     · exact ha
     · exact run_VL rs _ _ hrs rfl x hx
theorem pad_VL {cols : Nat} {l : List Cel} (h : VL l) : VL (padF cols l) := h.app (VL.blanks styF0 _)
/-- behind a cell that is no first half comes no second one -/
theorem wide_two {a l : List Cel} {x : Cel} (h : VL (a ++ x :: l)) (ha : 0 < a.length) (h1 : (cat a (a.length - 1)).wide ≠ 1) : x.wide ≠ 2 := by
 have := (chain_val h).down a.length (by simp)
 intro q
 have hx : cat (a ++ x :: l) a.length = x := by simp [cat]
 have hp : cat (a ++ x :: l) (a.length - 1) = cat a (a.length - 1) := by rw [cat_app, if_pos (by omega)]
 rw [hx, hp] at this
 exact h1 (this q).2
theorem last_snoc (l : List Cel) (x : Cel) : cat (l ++ [x]) l.length = x := by simp [cat]
/-- the machine over a valid line: what it holds goes on validly, and a first half has room for its second -/
theorem cut_VL {cols : Nat} (h2 : 2 ≤ cols) : ∀ (l : List Cel) (c : List Rw × List Cel), VL (c.2 ++ l) → (∀ r ∈ c.1, VL r.cells) → c.2.length ≤ cols →
   ((cat c.2 (c.2.length - 1)).wide = 1 → c.2.length < cols) → (∀ r ∈ (l.foldl (putC cols) c).1, VL r.cells) ∧ VL (l.foldl (putC cols) c).2
 | [], c, hv, hr, _, _ => ⟨hr, by simpa using hv⟩
 | x :: l, c, hv, hr, hl, hw => by
   rw [List.foldl_cons]
   by_cases hc : cols < c.2.length + wideN x
   · have e : putC cols c x = (c.1 ++ [⟨padF cols c.2, true⟩], [x]) := by rw [putC, if_pos hc]
     have hx : x.wide ≠ 2 := by
       intro q
       have n1 : wideN x = 1 := by simp [wideN, q]
       have hf : c.2.length = cols := by omega
       have lw := fun p => hw p
       have : (cat c.2 (c.2.length - 1)).wide = 1 := by
         rcases Decidable.em ((cat c.2 (c.2.length - 1)).wide = 1) with p | p
         · exact p
         · exfalso
           exact wide_two hv (by omega) p q
       have := lw this
       omega
     obtain ⟨v1, v2⟩ := chain_split c.2 (x :: l) cel0 hv (by simpa [cat] using hx)
     rw [e]
     refine cut_VL h2 l _ (by simpa using v2) (fun r q => ?_) (by simp; omega) (fun _ => by simp; omega)
     simp only [List.mem_append, List.mem_singleton] at q
     rcases q with q | rfl
     · exact hr r q
     · exact pad_VL v1
   · have e : putC cols c x = (c.1, c.2 ++ [x]) := by rw [putC, if_neg hc]
     rw [e]
     refine cut_VL h2 l _ (by simpa using hv) hr (by have := wideN_le x; simp; omega) (fun q => ?_)
     have e2 : (c.2 ++ [x]).length - 1 = c.2.length := by simp
     have q' : (cat (c.2 ++ [x]) ((c.2 ++ [x]).length - 1)).wide = 1 := q
     rw [e2, last_snoc] at q'
     simp [wideN, q'] at hc
     simp; omega
theorem wrap_VL {cols : Nat} (h2 : 2 ≤ cols) {l : List Cel} (h : VL l) (o : Bool) : ∀ r ∈ wrapL cols l o, VL r.cells := by
 obtain ⟨k1, k2⟩ := cut_VL h2 l ([], []) (by simpa using h) (by simp) (by simp) (fun _ => by simp; omega)
 intro r hr
 simp only [wrapL, List.mem_append, List.mem_singleton] at hr
 rcases hr with hr | rfl
 · exact k1 r hr
 · exact pad_VL k2
/-- rows that may be, of so many columns -/
def RowsV (cols : Nat) (l : List Rw) : Prop := ∀ r ∈ l, rowF r = 0 ∧ r.cells.length = cols
theorem RowsV.app {cols : Nat} {a b : List Rw} (ha : RowsV cols a) (hb : RowsV cols b) : RowsV cols (a ++ b) := fun r hr => by
 rcases List.mem_append.1 hr with q | q
 · exact ha r q
 · exact hb r q
theorem RowsV.take {cols : Nat} {a : List Rw} (ha : RowsV cols a) (k : Nat) : RowsV cols (a.take k) := fun r hr => ha r (List.mem_of_mem_take hr)
theorem RowsV.drop {cols : Nat} {a : List Rw} (ha : RowsV cols a) (k : Nat) : RowsV cols (a.drop k) := fun r hr => ha r (List.mem_of_mem_drop hr)
theorem RowsV.blank {cols : Nat} (h : 2 ≤ cols ∧ cols ≤ 80) (n : Nat) : RowsV cols (List.replicate n (blankRow cols sty0)) := fun r hr => by
 rw [List.eq_of_mem_replicate hr]
 exact ⟨rowF_of (by simp; omega) (by simp; omega) (VL.blanks styF0 cols), by simp [blankRow]⟩
theorem wrap_ok {cols : Nat} (h : 2 ≤ cols ∧ cols ≤ 80) {l : List Cel} (hl : VL l) (o : Bool) : RowsV cols (wrapL cols l o) := fun r hr => by
 have h1 := wrap_rows h.1 l o r hr
 exact ⟨rowF_of (by omega) (by omega) (wrap_VL h.1 hl o r hr), h1⟩
theorem fold_ok {cols : Nat} (h : 2 ≤ cols ∧ cols ≤ 80) : ∀ (L : List Ln) (w : Wh), (∀ x ∈ L, VL x.cells) → RowsV cols w.rows → RowsV cols (L.foldl (lineW cols) w).rows
 | [], w, _, hw => hw
 | x :: L, w, hL, hw => by
   rw [List.foldl_cons]
   exact fold_ok h L _ (fun y hy => hL y (List.mem_cons_of_mem _ hy)) (hw.app (wrap_ok h (hL x (List.mem_cons_self ..)) _))
/-- a valid held state -/
structure HV (w n : Nat) (h : Hd) : Prop where
 grid : GV w n h.rows
 pl : h.past.length ≤ 100
 past : RowsV w h.past
 r0 : 0 ≤ h.ar
 r1 : h.ar < n
 c0 : 0 ≤ h.ac
 c1 : h.ac < w
theorem HV.of {h : Hd} (e : heldF h = 0) : HV (colsG h.rows) h.rows.length h := by
 unfold heldF at e
 split at e
 · rename_i q
   obtain ⟨q1, q2, q3, q4, q5, q6⟩ := q
   have g := GV.of q1
   have w2 := g.w2
   unfold pastF at q2
   rw [if_neg (by omega)] at q2
   split at q2
   · rename_i p
     exact ⟨g, p.1, fun r hr => by have := okRows_RowsOK p.2 r hr; exact ⟨this.1, by omega⟩, q3, q4, q5, q6⟩
   · cases q2
 · cases e
theorem HV.valid {w n : Nat} {h : Hd} (v : HV w n h) : heldF h = 0 := by
 have w2 := v.grid.w2
 unfold heldF
 rw [if_pos]
 refine ⟨v.grid.valid, ?_, v.r0, by rw [v.grid.len]; exact v.r1, v.c0, by rw [v.grid.cols]; exact v.c1⟩
 rw [v.grid.cols]
 unfold pastF
 rw [if_neg (by omega), if_pos]
 refine ⟨v.pl, ?_⟩
 simp only [okRows, List.all_eq_true, Bool.and_eq_true, decide_eq_true_eq]
 intro r hr
 have := v.past r hr
 exact ⟨by omega, this.1⟩
theorem HV.all {w n : Nat} {h : Hd} (v : HV w n h) : RowsV w (allH h) := v.past.app v.grid.rows
theorem HV.len {w n : Nat} {h : Hd} (v : HV w n h) : (allH h).length = h.past.length + n := by simp [allH, v.grid.len]
theorem HV.lines_VL {w n : Nat} {h : Hd} (v : HV w n h) : ∀ x ∈ linesH h, VL x.cells := run_VL _ _ _ (fun r hr => (row_len (v.all r hr).1).2.2) rfl
theorem HV.lines_in {w n : Nat} {h : Hd} (v : HV w n h) : ∀ x ∈ linesH h, x.at' < x.cells.length :=
 runs_in (w := w) (by have := v.c0; have := v.c1; omega) _ _ _ (fun r hr => ⟨(v.all r hr).2, v.grid.w2.1⟩) (.inl (by simp [ln0]))
theorem HV.lines_len {w n : Nat} {h : Hd} (v : HV w n h) : ∀ x ∈ linesH h, x.cells.length ≤ 11200 := fun x hx => by
 have := run_len (w := w) _ _ _ (fun r hr => Nat.le_of_eq (v.all r hr).2) x hx
 have h1 := v.len
 have h2 := v.grid.n40
 have h3 := v.pl
 have h4 := v.grid.w2
 rw [h1] at this
 have : w * (h.past.length + n) ≤ 80 * 140 := Nat.mul_le_mul (by omega) (by omega)
 simp [ln0] at *
 omega
theorem HV.lines_count {w n : Nat} {h : Hd} (v : HV w n h) : (linesH h).length ≤ 140 := by
 have := run_count (P := h.past.length) (a := h.past.length + h.ar.toNat) (col := h.ac.toNat) (allH h) 0 ln0
 have h1 := v.len
 have h2 := v.grid.n40
 have h3 := v.pl
 unfold linesH
 omega
/-- all rows anew: valid, with border and position in them -/
structure WV (cols : Nat) (w : Wh) : Prop where
 rows : RowsV cols w.rows
 inn : WhIn cols w
theorem HV.anew {w n cols : Nat} {h : Hd} (v : HV w n h) (hc : 2 ≤ cols ∧ cols ≤ 80) : WV cols (anewF h cols) := by
 have h1 := v.len
 have r0 := v.r0
 have r1 := v.r1
 have c0 := v.c0
 have c1 := v.c1
 unfold anewF
 split
 · rename_i e
   rw [v.grid.cols] at e
   subst e
   exact ⟨v.all, by simp only; omega, by simp only; omega, by simp only; omega⟩
 · refine ⟨fold_ok hc _ _ v.lines_VL (fun r hr => by simp [wh0] at hr), ?_⟩
   refine fold_in (wd := w) hc.1 (by omega) (by omega) _ _ _ _ (fun r hr => ⟨(v.all r hr).2, v.grid.w2.1⟩) (.inl (by simp [ln0])) ⟨fun _ => by simp [ln0], fun q => by omega, fun q => by omega⟩ (fun e => rfl) ?_
   omega
theorem fold_count {cols : Nat} (h2 : 2 ≤ cols) : ∀ (L : List Ln) (w : Wh) (m : Nat), (∀ x ∈ L, x.cells.length ≤ m) → (L.foldl (lineW cols) w).rows.length ≤ w.rows.length + L.length * (m + 1)
 | [], w, m, _ => by simp
 | x :: L, w, m, hL => by
   rw [List.foldl_cons]
   have h1 := fold_count h2 L (lineW cols w x) m (fun y hy => hL y (List.mem_cons_of_mem _ hy))
   have h3 := wrap_count h2 x.cells x.opn
   have h4 := hL x (List.mem_cons_self ..)
   have h5 : (lineW cols w x).rows.length = w.rows.length + (wrapL cols x.cells x.opn).length := by simp [lineW]
   rw [List.length_cons, Nat.succ_mul]
   omega
theorem HV.anew_len {w n cols : Nat} {h : Hd} (v : HV w n h) (hc : 2 ≤ cols) : (anewF h cols).rows.length ≤ 2000000 := by
 unfold anewF
 split
 · have h1 := v.len
   have h2 := v.grid.n40
   have h3 := v.pl
   show (allH h).length ≤ _
   omega
 · have h1 := fold_count hc (linesH h) wh0 11200 v.lines_len
   have h2 := v.lines_count
   have : (linesH h).length * 11201 ≤ 140 * 11201 := Nat.mul_le_mul h2 (Nat.le_refl _)
   have : wh0.rows.length = 0 := rfl
   omega
structure DropOK (n a : Nat) (l : List Rw) (b : Nat) (d : List Rw × Nat) : Prop where
 pre : d.1 = l.take d.1.length
 le : d.1.length ≤ l.length
 lo : b ≤ d.2
 hi : d.2 ≤ a
 inn : a < d.1.length
 fit : d.1.length - d.2 ≤ n
 full : n < l.length - b → d.1.length - d.2 = n
theorem drops_ok {n a : Nat} (hn : 1 ≤ n) : ∀ (m : Nat) (l : List Rw) (b : Nat), l.length - b ≤ m → b ≤ a → a < l.length → DropOK n a l b (dropsF n a l b) := by
 intro m
 induction m with
 | zero => intro l b hm hb ha; omega
 | succ m ih =>
   intro l b hm hb ha
   rcases Nat.lt_or_ge n (l.length - b) with h | h
   · cases g : goesF l b a
     · rw [drops_down h g]
       have hlt : b < a := by
         simp only [goesF, Bool.or_eq_false_iff, decide_eq_false_iff_not] at g
         omega
       obtain ⟨p1, p2, p3, p4, p5, p6, p7⟩ := ih l (b + 1) (by omega) (by omega) ha
       exact ⟨p1, p2, by omega, p4, p5, p6, fun _ => by
         rcases Nat.lt_or_ge n (l.length - (b + 1)) with q | q
         · exact p7 q
         · have e := drops_stop (a := a) q
           rw [e]; simp only; omega⟩
     · rw [drops_goes h g]
       have hl : (l.take (l.length - 1)).length = l.length - 1 := by simp
       have ha' : a < l.length - 1 := by
         simp only [goesF, Bool.or_eq_true, Bool.and_eq_true, decide_eq_true_eq] at g
         omega
       obtain ⟨p1, p2, p3, p4, p5, p6, p7⟩ := ih (l.take (l.length - 1)) b (by omega) hb (by omega)
       refine ⟨?_, by omega, p3, p4, p5, p6, fun _ => ?_⟩
       · rw [List.take_take, Nat.min_eq_left (by omega)] at p1
         exact p1
       · rcases Nat.lt_or_ge n ((l.take (l.length - 1)).length - b) with q | q
         · exact p7 q
         · have e := drops_stop (a := a) q
           rw [e]; simp only; omega
   · rw [drops_stop h]
     exact ⟨by simp, Nat.le_refl _, Nat.le_refl _, hb, ha, h, fun q => by omega⟩
theorem HV.sized {w n cols rows : Nat} {h : Hd} (v : HV w n h) (hc : 2 ≤ cols ∧ cols ≤ 80) (hr : 1 ≤ rows ∧ rows ≤ 40) : HV cols rows (sizedF h cols rows) := by
 obtain ⟨vr, b1, b2, b3⟩ := v.anew hc
 unfold sizedF tallF
 generalize hW : anewF h cols = W at *
 have d := drops_ok hr.1 _ W.rows W.border (Nat.le_refl _) b1 b2
 generalize dropsF rows W.ar W.rows W.border = D at *
 obtain ⟨l, b⟩ := D
 obtain ⟨p1, p2, p3, p4, p5, p6, p7⟩ := d
 simp only at *
 have vl : RowsV cols l := by rw [p1]; exact vr.take _
 have hL : RowsV cols (growF cols rows l (liftF rows l b)) := vl.app (RowsV.blank hc _)
 have hb : liftF rows l b ≤ b := by unfold liftF; omega
 have hlen : (growF cols rows l (liftF rows l b)).length = liftF rows l b + rows := by
   simp only [growF, List.length_append, List.length_replicate]
   unfold liftF
   omega
 generalize growF cols rows l (liftF rows l b) = L at *
 have har : W.ar < liftF rows l b + rows := by unfold liftF; omega
 generalize liftF rows l b = B at *
 refine ⟨⟨by simp [endF, hlen], hr.1, hr.2, hL.drop _⟩, ?_, (hL.take _).drop _, ?_, ?_, ?_, ?_⟩
 · simp [endF]; omega
 · simp only [endF]; omega
 · simp only [endF]; omega
 · simp only [endF]; omega
 · simp only [endF]; omega
end Fen

namespace Fen
end Fen

namespace Fen
/-- no plain blank directly before a wide cell -/
def NB (l : List Cel) : Prop := ∀ i, i + 1 < l.length → (cat l (i + 1)).wide = 1 → cat l i ≠ blankF sty0
theorem NB.edge {a b : List Cel} {x : Cel} (h : NB (a ++ x :: b)) (ha : 0 < a.length) (hw : x.wide = 1) : cat a (a.length - 1) ≠ blankF sty0 := by
 have := h (a.length - 1) (by simp; omega)
 rw [show a.length - 1 + 1 = a.length by omega] at this
 have e1 : cat (a ++ x :: b) a.length = x := by simp [cat]
 have e2 : cat (a ++ x :: b) (a.length - 1) = cat a (a.length - 1) := by rw [cat_app, if_pos (by omega)]
 rw [e1, e2] at this
 exact this hw
/-- fenestralaw19.open, of one row -/
def openR (r : Rw) : Prop := (∃ i, i + 1 < r.cells.length ∧ (cat r.cells (i + 1)).wide = 1 ∧ cat r.cells i = blankF sty0) ∨ (r.wrapped = true ∧ cat r.cells (r.cells.length - 1) = blankF sty0)
theorem NB.of {r : Rw} (h : ¬ openR r) : NB r.cells := fun i hi hw e => h (.inl ⟨i, hi, hw, e⟩)
theorem NB.take {l : List Cel} (h : NB l) (k : Nat) : NB (l.take k) := by
 intro i hi hw
 simp only [List.length_take] at hi
 rw [cat_take (by omega)] at hw ⊢
 exact h i (by omega) hw
theorem NB.app {a b : List Cel} (ha : NB a) (hb : NB b) (hm : 0 < a.length → 0 < b.length → cat a (a.length - 1) ≠ blankF sty0 ∨ (cat b 0).wide ≠ 1) : NB (a ++ b) := by
 intro i hi hw
 simp only [List.length_append] at hi
 rw [cat_app] at hw ⊢
 rcases Nat.lt_or_ge (i + 1) a.length with c | c
 · rw [if_pos c] at hw
   rw [if_pos (by omega)]
   exact ha i c hw
 · rw [if_neg (by omega)] at hw
   rcases Nat.lt_or_ge i a.length with d | d
   · rw [if_pos d]
     have e : i = a.length - 1 := by omega
     rw [show i + 1 - a.length = 0 by omega] at hw
     rcases hm (by omega) (by omega) with q | q
     · rw [e]; exact q
     · exact absurd hw q
   · rw [if_neg (by omega)]
     rw [show i + 1 - a.length = (i - a.length) + 1 by omega] at hw
     exact hb _ (by omega) hw
end Fen

namespace Fen
def cellAt (rs : List Rw) (i k : Nat) : Cel := cat (rs.getD i ⟨[], false⟩).cells k
end Fen

namespace Fen
end Fen

namespace Fen
theorem anew_self {w n : Nat} {h : Hd} (v : HV w n h) : anewF h w = ⟨allH h, h.past.length, h.past.length + h.ar.toNat, h.ac.toNat⟩ := by
 unfold anewF; rw [if_pos v.grid.cols.symm]
def keepN (cols : Nat) (l : List Cel) : Nat := if cols ≤ l.length ∧ (cat l (cols - 1)).wide = 1 then cols - 1 else min cols l.length
theorem keepN_le (cols : Nat) (l : List Cel) : keepN cols l ≤ cols ∧ keepN cols l ≤ l.length := by unfold keepN; split <;> omega
theorem altR_eq {g : List Rw} {cols i : Nat} (hc : 1 ≤ cols) : (altR g cols i).cells = (g.getD i ⟨[], false⟩).cells.take (keepN cols (g.getD i ⟨[], false⟩).cells) ++ List.replicate (cols - keepN cols (g.getD i ⟨[], false⟩).cells) (blankF sty0) := by
 simp only [altR]
 generalize (g.getD i ⟨[], false⟩).cells = l
 have hk := keepN_le cols l
 apply List.ext_getElem
 · simp; omega
 · intro k h1 h2
   simp only [List.length_map, List.length_range] at h1
   rw [List.getElem_map, List.getElem_range, List.getElem_append]
   split
   · rename_i q
     unfold altK
     rw [List.length_take] at q
     rw [List.getElem_take]
     have hl : k < l.length := by omega
     rw [if_neg, List.getD_eq_getElem?_getD, List.getElem?_eq_getElem hl]; rfl
     rintro ⟨q1, q2⟩
     unfold keepN at q
     have e : cols - 1 = k := by omega
     rw [e, if_pos ⟨by omega, q1⟩] at q
     omega
   · rename_i q
     unfold altK
     simp only [List.length_take] at q
     rw [List.getElem_replicate]
     split
     · rfl
     · rename_i c
       have : l.length ≤ k := by
         unfold keepN at q
         split at q
         · rename_i p
           exfalso
           refine c ⟨?_, by omega⟩
           rw [show k = cols - 1 by omega]; exact p.2
         · omega
       simp [this]
theorem alt_VL {l : List Cel} (h : VL l) {cols : Nat} : VL (l.take (keepN cols l)) := by
 unfold keepN
 split
 · rename_i q
   exact h.cut (by rw [q.2]; decide)
 · rename_i q
   rcases Nat.lt_or_ge cols l.length with c | c
   · rw [Nat.min_eq_left (by omega)]
     refine h.cut (fun e => ?_)
     have := ((chain_val h).down cols c e).2
     exact q ⟨by omega, this⟩
   · rw [Nat.min_eq_right c, List.take_length]; exact h
theorem altR_ok {g : List Rw} {cols i : Nat} (hc : 2 ≤ cols ∧ cols ≤ 80) (hg : VL (g.getD i ⟨[], false⟩).cells) : rowF (altR g cols i) = 0 ∧ (altR g cols i).cells.length = cols := by
 have e := altR_eq (g := g) (cols := cols) (i := i) (by omega)
 have hl : (altR g cols i).cells.length = cols := by simp [altR]
 refine ⟨?_, hl⟩
 have : VL (altR g cols i).cells := by rw [e]; exact (alt_VL hg).app (VL.blanks styF0 _)
 unfold rowF
 rw [if_pos ⟨by omega, by omega, this⟩]
theorem getD_VL {w n : Nat} {g : List Rw} (v : GV w n g) (i : Nat) : VL (g.getD i ⟨[], false⟩).cells := by
 rcases Nat.lt_or_ge i g.length with c | c
 · rw [List.getD_eq_getElem?_getD, List.getElem?_eq_getElem c]
   exact (row_len (v.rows _ (List.getElem_mem c)).1).2.2
 · simp [c]; rfl
theorem GV.alt {w n cols rows : Nat} {g : List Rw} (v : GV w n g) (hc : 2 ≤ cols ∧ cols ≤ 80) (hr : 1 ≤ rows ∧ rows ≤ 40) : GV cols rows (altG g cols rows) :=
 ⟨by simp [altG], hr.1, hr.2, fun r h => by
   simp only [altG, List.mem_map] at h
   obtain ⟨i, _, rfl⟩ := h
   exact altR_ok hc (getD_VL v i)⟩
theorem alt_at {g : List Rw} {cols rows i : Nat} (h : i < rows) : (altG g cols rows).getD i ⟨[], false⟩ = altR g cols i := by
 simp [altG, List.getD_eq_getElem?_getD, h]
theorem alt_out {g : List Rw} {cols rows i : Nat} (h : rows ≤ i) : (altG g cols rows).getD i ⟨[], false⟩ = ⟨[], false⟩ := by
 simp [altG, List.getD_eq_getElem?_getD, h]
theorem altR_at {g : List Rw} {cols i k : Nat} (h : k < cols) : (altR g cols i).cells.getD k (blankF sty0) = altK (g.getD i ⟨[], false⟩).cells cols k := by
 simp [altR, List.getD_eq_getElem?_getD, h]
/-- the last cell of a valid row is no first half -/
theorem last_wide {w n : Nat} {g : List Rw} (v : GV w n g) {i : Nat} (hi : i < n) {k : Nat} (hk : k + 1 = w) : (cat (g.getD i ⟨[], false⟩).cells k).wide ≠ 1 := by
 have h1 := v.len
 have hm : (g.getD i ⟨[], false⟩) ∈ g := by
   rw [List.getD_eq_getElem?_getD, List.getElem?_eq_getElem (by omega)]; exact List.getElem_mem _
 obtain ⟨r1, r2⟩ := v.rows _ hm
 intro q
 have := ((chain_val (row_len r1).2.2).up k (by omega) q).1
 omega
theorem alt_self {w n : Nat} {g : List Rw} (v : GV w n g) : altG g w n = g := by
 have h1 := v.len
 apply List.ext_getElem
 · simp [altG, h1]
 · intro i h2 h3
   have hi : i < n := by omega
   simp only [altG, List.getElem_map, List.getElem_range]
   have lw := fun k q => last_wide v hi (k := k) q
   have e : g.getD i ⟨[], false⟩ = g[i] := by simp [List.getD_eq_getElem?_getD, h3]
   have hr := v.rows _ (List.getElem_mem h3)
   rw [← e] at hr ⊢
   simp only [altR]
   generalize g.getD i ⟨[], false⟩ = r at *
   obtain ⟨l, b⟩ := r
   simp only at hr lw ⊢
   have hlen := hr.2
   congr 1
   · apply List.ext_getElem
     · simp [hlen]
     · intro k k1 k2
       rw [List.getElem_map, List.getElem_range]
       unfold altK
       rw [if_neg (fun q => lw k q.2 q.1)]
       simp [List.getD_eq_getElem?_getD, k2]
   · simp [hlen]
/-- back again: what both sizes have, except wide characters that are cut -/
def wantF (g : List Rw) (cols rows i k : Nat) : Cel :=
 if i < rows ∧ k < cols ∧ ¬ (k + 1 = cols ∧ (cellAt g i k).wide = 1) then cellAt g i k else blankF sty0
theorem fills {w n cols rows : Nat} {g : List Rw} (v : GV w n g) {i k : Nat} (hi : i < n) (hk : k < w) :
   cellAt (altG (altG g cols rows) w n) i k = wantF g cols rows i k := by
 have h1 := v.len
 have hm : (g.getD i ⟨[], false⟩) ∈ g := by
   rw [List.getD_eq_getElem?_getD, List.getElem?_eq_getElem (by omega)]; exact List.getElem_mem _
 have hlen := (v.rows _ hm).2
 have lw := fun q => last_wide v hi (k := k) q
 have e0 : cellAt (altG (altG g cols rows) w n) i k = altK ((altG g cols rows).getD i ⟨[], false⟩).cells w k := by
   unfold cellAt
   rw [alt_at hi, ← altR_at hk]
   simp [cat, altR, List.getD_eq_getElem?_getD, hk]
 rw [e0]
 rcases Nat.lt_or_ge i rows with c | c
 · rw [alt_at c]
   rcases Nat.lt_or_ge k cols with d | d
   · have e1 : cat (altR g cols i).cells k = altK (g.getD i ⟨[], false⟩).cells cols k := by
       simp [cat, altR, List.getD_eq_getElem?_getD, d]
     have e2 : (g.getD i ⟨[], false⟩).cells.getD k (blankF sty0) = cat (g.getD i ⟨[], false⟩).cells k := by
       rw [cat_eq (by omega), List.getD_eq_getElem?_getD, List.getElem?_eq_getElem (by omega)]; rfl
     have e3 : altK (g.getD i ⟨[], false⟩).cells cols k = wantF g cols rows i k := by
       unfold altK wantF cellAt
       rw [e2]
       by_cases q : (cat (g.getD i ⟨[], false⟩).cells k).wide = 1 ∧ k + 1 = cols
       · rw [if_pos q, if_neg]; exact fun p => p.2.2 ⟨q.2, q.1⟩
       · rw [if_neg q, if_pos]; exact ⟨c, d, fun p => q ⟨p.2, p.1⟩⟩
     have e4 : ¬ ((wantF g cols rows i k).wide = 1 ∧ k + 1 = w) := by
       rintro ⟨p1, p2⟩
       unfold wantF cellAt at p1
       split at p1
       · exact lw p2 p1
       · cases p1
     rw [← e3, ← e1] at e4
     rw [← e3, ← altR_at d]
     unfold altK
     rw [if_neg e4]
   · have e1 : (altR g cols i).cells.getD k (blankF sty0) = blankF sty0 := by simp [altR, List.getD_eq_getElem?_getD, d]
     have e5 : wantF g cols rows i k = blankF sty0 := by unfold wantF; rw [if_neg]; omega
     unfold altK
     rw [e1, ite_self, e5]
 · have e5 : wantF g cols rows i k = blankF sty0 := by unfold wantF; rw [if_neg]; omega
   have : (⟨[], false⟩ : Rw).cells.getD k (blankF sty0) = blankF sty0 := rfl
   rw [alt_out c, e5]
   unfold altK
   rw [this, ite_self]
end Fen
