/- A part of the proof; no statement is proved here: GGridM, GGridN, GGridU, GGridLe. -/
import Derived.Test.YtefciljolljgmaaDoorGridB

set_option linter.unusedVariables false
set_option linter.unusedSimpArgs false

namespace Fen
open Go Go.Proofs

/-! ### valid grids stay valid -/
structure Kept (r x : Rw) : Prop where
  ok : rowF x = 0
  len : x.cells.length = r.cells.length
  wr : x.wrapped = true → r.wrapped = true
theorem Kept.self {r : Rw} (h : rowF r = 0) : Kept r r := ⟨h, rfl, id⟩
theorem Kept.of {r : Rw} {l : List Cel} {w : Bool} (h : rowF r = 0) (hl : l.length = r.cells.length) (hv : VL l) (hw : w = true → r.wrapped = true) : Kept r ⟨l, w⟩ := by
  obtain ⟨h2, h8, _⟩ := row_len h
  exact ⟨rowF_of (by omega) (by omega) hv, hl, hw⟩
theorem kept_erase {r : Rw} {a b : Int} {s : Sty} (h : rowF r = 0) (h0 : 0 ≤ a) (h1 : a ≤ b) (h2 : b ≤ r.cells.length) (hs : styF s = 0) : (eraseRowF r a b s).2 = 0 ∧ Kept r (eraseRowF r a b s).1 := by
  rw [eraseRow_ok h h0 h1 h2 hs]
  split
  · exact ⟨rfl, Kept.self h⟩
  · have hv := (row_len h).2.2
    obtain ⟨k1, k2, k3, _⟩ := lo_hi (chain_val hv) (a := a.toNat) (b := b.toNat) (by omega) (by omega)
    exact ⟨rfl, Kept.of h (erase_len s (by omega) k3) (VL.erase hv (by omega) (by omega) hs) (fun q => by simp at q; exact q.1)⟩

/-- a valid grid of n rows of w cells -/
structure GV (w n : Nat) (g : List Rw) : Prop where
  len : g.length = n
  n1 : 1 ≤ n
  n40 : n ≤ 40
  rows : ∀ r ∈ g, rowF r = 0 ∧ r.cells.length = w
section
variable {w n : Nat} {g : List Rw}
theorem GV.ne (h : GV w n g) : g ≠ [] := by
  rintro rfl
  have h1 := h.len
  have h2 := h.n1
  simp at h1
  omega
theorem GV.cols (h : GV w n g) : colsG g = w := by
  have h1 := h.ne
  match g, h1 with
  | [], h1 => exact absurd rfl h1
  | r :: g, _ => exact (h.rows r (List.mem_cons_self ..)).2
theorem GV.valid (h : GV w n g) : gridF g = 0 := by
  unfold gridF
  have h1 := h.len
  have h2 := h.n1
  have h3 := h.n40
  rw [if_neg (by omega), if_pos]
  rw [h.cols]
  simp only [okRows, List.all_eq_true, Bool.and_eq_true, decide_eq_true_eq]
  intro r hr
  have := h.rows r hr
  exact ⟨by omega, this.1⟩
theorem GV.of (h : gridF g = 0) : GV (colsG g) g.length g := by
  obtain ⟨h1, h2, h3⟩ := gridF_ok h
  exact ⟨rfl, h1, h2, fun r hr => by have := okRows_RowsOK h3 r hr; exact ⟨this.1, by omega⟩⟩
theorem GV.grid (c : Int) (L : List Dr) : GV (2 + c.toNat % 79) (manyG L) (gridD c L) :=
  ⟨grid_len c L, (many_le L).1, by have := (many_le L).2; omega, fun r hr => by
    simp only [gridD, List.mem_map] at hr
    obtain ⟨i, _, rfl⟩ := hr
    exact ⟨draft_ok _ _ _, draft_len _ _ _⟩⟩
theorem GV.w2 (h : GV w n g) : 2 ≤ w ∧ w ≤ 80 := by
  have h1 := h.ne
  match g, h1 with
  | [], h1 => exact absurd rfl h1
  | r :: g, _ =>
    obtain ⟨q1, q2⟩ := h.rows r (List.mem_cons_self ..)
    have := row_len q1
    omega
theorem GV.rok (h : GV w n g) : RowsOK g := fun r hr => row_okF (h.rows r hr).1
theorem GV.fin (h : GV w n g) : RowsFin g := rowsFin_of (by have := h.len; have := h.n40; omega) fun r hr => row_lt (h.rows r hr).1
end
theorem blankRow_ok {w : Nat} {s : Sty} (h : 2 ≤ w ∧ w ≤ 80) (hs : styF s = 0) : rowF (blankRow w s) = 0 ∧ (blankRow w s).cells.length = w :=
  ⟨rowF_of (by simp; omega) (by simp; omega) (VL.blanks hs w), by simp [blankRow]⟩
theorem isF_len {up : Bool} {L : List Rw} {m : Nat} {r : Rw} (hm : m ≤ L.length) : (isF up L m r).length = L.length := by
  cases up <;> simp [isF] <;> omega
theorem isF_mem {up : Bool} {L : List Rw} {m : Nat} {r x : Rw} (h : x ∈ isF up L m r) : x ∈ L ∨ x = r := by
  cases up
  · simp only [isF, Bool.false_eq_true, if_false, List.mem_append] at h
    rcases h with h | h
    · exact .inr (List.eq_of_mem_replicate h)
    · exact .inl (List.mem_of_mem_take h)
  · simp only [isF, if_true, List.mem_append] at h
    rcases h with h | h
    · exact .inl (List.mem_of_mem_drop h)
    · exact .inr (List.eq_of_mem_replicate h)
theorem layF_take {l s : List Rw} {t : Nat} (h : t ≤ l.length) : (layF l t s).take t = l.take t := by
  unfold layF
  rw [List.append_assoc, List.take_left' (by simp; omega)]
theorem layF_drop {l s : List Rw} {t : Nat} (h : t + s.length ≤ l.length) : (layF l t s).drop (t + s.length) = l.drop (t + s.length) := by
  unfold layF
  rw [List.drop_left' (by simp; omega)]
theorem layF_mid {l s : List Rw} {t : Nat} (h : t ≤ l.length) : ((layF l t s).drop t).take s.length = s := by
  unfold layF
  rw [List.append_assoc, List.drop_left' (by simp; omega), List.take_left' rfl]
theorem layF_mem {l s : List Rw} {t : Nat} {x : Rw} (h : x ∈ layF l t s) : x ∈ l ∨ x ∈ s := by
  simp only [layF, List.mem_append] at h
  rcases h with (h | h) | h
  · exact .inl (List.mem_of_mem_take h)
  · exact .inr h
  · exact .inl (List.mem_of_mem_drop h)
theorem region_len {g : List Rw} {t b : Nat} (hb : b ≤ g.length) : (regionF g t b).length = b - t := by simp [regionF]; omega
theorem region_mem {g : List Rw} {t b : Nat} {x : Rw} (h : x ∈ regionF g t b) : x ∈ g := List.mem_of_mem_drop (List.mem_of_mem_take h)

theorem turn_valid {w n : Nat} {g : List Rw} (h : GV w n g) (up : Bool) {t b : Nat} {m : Int} {s : Sty} (ht : t ≤ b) (hb : b < n) (hm : 0 ≤ m) (hs : styF s = 0) :
    turnF up g t b m s = (layF g t (isF up (regionF g t (b + 1)) (min m.toNat (b + 1 - t)) (blankRow w s)), wentF up (regionF g t (b + 1)) (min m.toNat (b + 1 - t)), 0) ∧
    GV w n (layF g t (isF up (regionF g t (b + 1)) (min m.toNat (b + 1 - t)) (blankRow w s))) ∧
    (layF g t (isF up (regionF g t (b + 1)) (min m.toNat (b + 1 - t)) (blankRow w s))).take t = g.take t ∧
    (layF g t (isF up (regionF g t (b + 1)) (min m.toNat (b + 1 - t)) (blankRow w s))).drop (b + 1) = g.drop (b + 1) := by
  have hl := h.len
  have hrl := region_len (g := g) (t := t) (b := b + 1) (by omega)
  have hil : (isF up (regionF g t (b + 1)) (min m.toNat (b + 1 - t)) (blankRow w s)).length = b + 1 - t := by rw [isF_len (by omega), hrl]
  refine ⟨?_, ⟨?_, h.n1, h.n40, fun r hr => ?_⟩, layF_take (by omega), ?_⟩
  · unfold turnF
    rw [if_neg (by simp [h.valid]), if_neg (by omega), if_neg (by simp [hs]), h.cols]
    simp only [Int.toNat_natCast]
  · rw [layF_len (by rw [hil]; omega)]; exact hl
  · rcases layF_mem hr with q | q
    · exact h.rows r q
    · rcases isF_mem q with q | rfl
      · exact h.rows r (region_mem q)
      · exact blankRow_ok h.w2 hs
  · have := layF_drop (l := g) (s := isF up (regionF g t (b + 1)) (min m.toNat (b + 1 - t)) (blankRow w s)) (t := t) (by rw [hil]; omega)
    rw [hil, show t + (b + 1 - t) = b + 1 by omega] at this
    exact this
theorem went_len {up : Bool} {l : List Rw} {m : Nat} (hm : m ≤ l.length) : (wentF up l m).length = m := by
  cases up <;> simp [wentF] <;> omega
theorem went_up {g : List Rw} {t b m : Nat} (hm : m ≤ b - t) (hb : b ≤ g.length) : wentF true (regionF g t b) m = (g.drop t).take m := by
  simp only [wentF, if_true, regionF, List.take_take]
  rw [Nat.min_eq_left hm]
theorem went_down {g : List Rw} {t b m : Nat} (hm : m ≤ b - t) (hb : b ≤ g.length) (ht : t ≤ b) : wentF false (regionF g t b) m = (g.drop (b - m)).take m := by
  simp only [wentF, Bool.false_eq_true, if_false]
  rw [region_len hb, regionF, List.drop_take, List.drop_drop, show t + (b - t - m) = b - m by omega, show b - t - (b - t - m) = m by omega]

theorem eraseAt_valid {w : Nat} {fr fc tr tc : Int} {s : Sty} {k : Nat} {r : Rw} (hr : rowF r = 0) (hw : r.cells.length = w) (hs : styF s = 0) (h1 : 0 ≤ fc ∧ fc ≤ w) (h2 : 0 ≤ tc ∧ tc ≤ w) (h3 : fr = tr → fc ≤ tc) :
    rowF (eraseAt w fr fc tr tc s k r) = 0 ∧ (eraseAt w fr fc tr tc s k r).cells.length = w := by
  unfold eraseAt
  split
  · obtain ⟨_, q⟩ := kept_erase (r := r) (a := if (k : Int) = fr then fc else 0) (b := if (k : Int) = tr then tc else w) (s := s) hr (by split <;> omega) (by
      by_cases c : (k : Int) = fr <;> by_cases d : (k : Int) = tr <;> simp only [c, d, if_true, if_false]
      · rw [if_pos (by omega)]; exact h3 (by omega)
      · rw [if_neg (by omega)]; omega
      · rw [if_neg (by omega)]; omega
      · omega) (by split <;> omega) hs
    exact ⟨q.ok, by rw [q.len]; exact hw⟩
  · exact ⟨hr, hw⟩
theorem place_iff {g : List Rw} {r c : Int} : placeF g r c = true ↔ (0 ≤ r ∧ r < g.length ∧ 0 ≤ c ∧ c ≤ colsG g) ∨ (r = g.length ∧ c = 0) := by simp [placeF]
theorem erase_valid {w n : Nat} {g : List Rw} (h : GV w n g) {fr fc tr tc : Int} {s : Sty} (p1 : placeF g fr fc = true) (p2 : placeF g tr tc = true) (h1 : fr ≤ tr) (h2 : fr = tr → fc ≤ tc) (hs : styF s = 0) :
    eraseGF g fr fc tr tc s = (eraseTo w fr fc tr tc s g n, 0) ∧ GV w n (eraseTo w fr fc tr tc s g n) := by
  have hl := h.len
  have hw := h.w2
  constructor
  · unfold eraseGF
    rw [if_neg (by simp [h.valid]), if_neg (by simp only [p1, p2]; simp; exact ⟨by omega, h2⟩), if_neg (by simp [hs]), h.cols, hl]
  · refine ⟨by rw [eraseTo_len]; exact hl, h.n1, h.n40, fun r hr => ?_⟩
    simp only [eraseTo, List.mem_mapIdx] at hr
    obtain ⟨i, hi, rfl⟩ := hr
    obtain ⟨q1, q2⟩ := h.rows _ (List.getElem_mem hi)
    rw [place_iff, h.cols] at p1 p2
    rw [if_pos (by omega)]
    exact eraseAt_valid q1 q2 hs (by omega) (by omega) h2
section
variable (w : Nat) (fr fc tr tc : Int) (s : Sty) (l : List Rw)
theorem eraseTo_take' {t : Nat} (h : (t : Int) ≤ fr) (n : Nat) : (eraseTo w fr fc tr tc s l n).take t = l.take t := by
  refine List.ext_getElem (by simp [eraseTo]) fun i h1 h2 => ?_
  simp only [List.getElem_take, eraseTo, List.getElem_mapIdx]
  have : i < t := by simp at h1; omega
  split
  · rw [eraseAt, if_neg (by omega)]
  · rfl
theorem eraseTo_drop' {q : Nat} (h : tr < (q : Int)) (n : Nat) : (eraseTo w fr fc tr tc s l n).drop q = l.drop q := by
  refine List.ext_getElem (by simp [eraseTo]) fun i h1 h2 => ?_
  simp only [List.getElem_drop, eraseTo, List.getElem_mapIdx]
  split
  · rw [eraseAt, if_neg (by omega)]
  · rfl
end
theorem set_valid {w n : Nat} {g : List Rw} (h : GV w n g) {t b : Nat} (ht : t < n) (hb : b < n) : setGF g t (g.getD b nilRw) = (g.set t (g.getD b nilRw), 0) ∧ GV w n (g.set t (g.getD b nilRw)) := by
  have hl := h.len
  have hm : g.getD b nilRw ∈ g := by
    rw [List.getD_eq_getElem?_getD, List.getElem?_eq_getElem (by omega), Option.getD_some]
    exact List.getElem_mem _
  generalize g.getD b nilRw = r at *
  obtain ⟨q1, q2⟩ := h.rows r hm
  constructor
  · unfold setGF
    rw [if_neg (by simp [h.valid]), if_neg (by omega), if_neg (by simp [q1]), if_neg (by rw [h.cols]; simp [q2])]
    simp only [Int.toNat_natCast]
  · refine ⟨by simp [hl], h.n1, h.n40, fun x hx => ?_⟩
    rcases List.mem_or_eq_of_mem_set hx with q | rfl
    · exact h.rows x q
    · exact ⟨q1, q2⟩

/-! ### one operation, chosen by small numbers -/
structure De where
  q : Int
  t : Int
  l : Int
  n : Int
  c : Int
def deC (d : De) : List C := [.int .u8 d.q, .int .u8 d.t, .int .u8 d.l, .int .u8 d.n, .int .u8 d.c]
def deOf : List C → De
  | [.int _ q, .int _ t, .int _ l, .int _ n, .int _ c] => ⟨q, t, l, n, c⟩
  | _ => ⟨0, 0, 0, 0, 0⟩
@[simp] theorem deOf_C (d : De) : deOf (deC d) = d := rfl
@[simp] theorem deC_len (d : De) : (deC d).length = 5 := rfl
@[simp] theorem deC_inj (a b : De) : deC a = deC b ↔ a = b := ⟨fun h => by rw [← deOf_C a, h, deOf_C], fun h => by rw [h]⟩
theorem des_at : ∀ (l : List De) (i : Nat) (h : i < l.length), List.take 5 (List.drop (i * 5) (l.flatMap deC)) = deC l[i]
  | d :: l, 0, _ => by simp [List.take_left' (deC_len d)]
  | d :: l, i + 1, h => by
    rw [List.flatMap_cons, List.drop_append, List.drop_of_length_le (by simp; omega), List.nil_append, deC_len, show (i + 1) * 5 - 5 = i * 5 by omega]
    simpa using des_at l i (by simpa using h)
theorem des_len (l : List De) : (l.flatMap deC).length = l.length * 5 := by
  induction l with
  | nil => rfl
  | cons d l ih => rw [List.flatMap_cons, List.length_append, ih]; simp; omega
def De.ok (d : De) : Prop := (0 ≤ d.q ∧ d.q < 256) ∧ (0 ≤ d.t ∧ d.t < 256) ∧ (0 ≤ d.l ∧ d.l < 256) ∧ (0 ≤ d.n ∧ d.n < 256) ∧ 0 ≤ d.c ∧ d.c < 256
def topG (d : De) (g : List Rw) : Nat := (d.t % g.length).toNat
def botG (d : De) (g : List Rw) : Nat := topG d g + (d.l % ((g.length - topG d g : Nat) : Int)).toNat
def styD (d : De) : Sty := ⟨d.c % 4, 0, 0, 0, 0, 0, 0, 0⟩
def doneG (d : De) (g : List Rw) : List Rw × List Rw × Int :=
  if d.q % 4 = 0 then turnF true g (topG d g) (botG d g) (d.n % 16) (styD d)
  else if d.q % 4 = 1 then turnF false g (topG d g) (botG d g) (d.n % 16) (styD d)
  else if d.q % 4 = 2 then ((eraseGF g (topG d g) (d.c % colsG g) (botG d g) (colsG g) (styD d)).1, [], (eraseGF g (topG d g) (d.c % colsG g) (botG d g) (colsG g) (styD d)).2)
  else ((setGF g (topG d g) (g.getD (botG d g) nilRw)).1, [], (setGF g (topG d g) (g.getD (botG d g) nilRw)).2)
theorem topG_le {d : De} {g : List Rw} (h : g ≠ []) (hd : d.ok) : topG d g ≤ botG d g ∧ botG d g < g.length ∧ d.t % g.length = (topG d g : Int) ∧ d.l % ((g.length - topG d g : Nat) : Int) = ((botG d g - topG d g : Nat) : Int) := by
  have hl : 0 < g.length := List.length_pos_iff.2 h
  obtain ⟨_, ⟨t0, _⟩, ⟨l0, _⟩, _⟩ := hd
  have a1 := Int.emod_nonneg d.t (show (g.length : Int) ≠ 0 by omega)
  have a2 := Int.emod_lt_of_pos d.t (show 0 < (g.length : Int) by omega)
  have ht : d.t % g.length = (topG d g : Int) := by unfold topG; omega
  have htl : topG d g < g.length := by omega
  have b1 := Int.emod_nonneg d.l (show ((g.length - topG d g : Nat) : Int) ≠ 0 by omega)
  have b2 := Int.emod_lt_of_pos d.l (show 0 < ((g.length - topG d g : Nat) : Int) by omega)
  refine ⟨by unfold botG; omega, by unfold botG; omega, ht, ?_⟩
  unfold botG
  omega
theorem styD_ok {d : De} : styF (styD d) = 0 := by
  have h1 := Int.emod_nonneg d.c (show (4 : Int) ≠ 0 by decide)
  have h2 := Int.emod_lt_of_pos d.c (show (0 : Int) < 4 by decide)
  have : d.c % 4 = 0 ∨ d.c % 4 = 1 ∨ d.c % 4 = 2 ∨ d.c % 4 = 3 := by omega
  unfold styD
  rcases this with h | h | h | h <;> rw [h] <;> decide
/-- what an operation leaves as it is, and what it takes away -/
structure Kept13 (w n : Nat) (d : De) (g out went : List Rw) : Prop where
  ok : GV w n out
  top : out.take (topG d g) = g.take (topG d g)
  bot : d.q % 4 ≠ 3 → out.drop (botG d g + 1) = g.drop (botG d g + 1)
  bot3 : d.q % 4 = 3 → out.drop (topG d g + 1) = g.drop (topG d g + 1)
  len : d.q % 4 ≠ 3 → went.length ≤ botG d g - topG d g + 1
  len3 : d.q % 4 = 3 → went.length = 0
  up : d.q % 4 = 0 → went = (g.drop (topG d g)).take went.length
  down : d.q % 4 = 1 → went = (g.drop (botG d g + 1 - went.length)).take went.length
theorem done_kept {w n : Nat} {g : List Rw} {d : De} (h : GV w n g) (hd : d.ok) : ∃ out went, doneG d g = (out, went, 0) ∧ Kept13 w n d g out went := by
  obtain ⟨t1, t2, t3, t4⟩ := topG_le h.ne hd
  have hl := h.len
  have hs := styD_ok (d := d)
  have n0 : 0 ≤ d.n % 16 := Int.emod_nonneg _ (by decide)
  unfold doneG
  by_cases q0 : d.q % 4 = 0
  · rw [if_pos q0]
    obtain ⟨k1, k2, k3, k4⟩ := turn_valid h true t1 (by omega) n0 hs
    have hrl := region_len (g := g) (t := topG d g) (b := botG d g + 1) (by omega)
    have wl := went_len (up := true) (l := regionF g (topG d g) (botG d g + 1)) (m := min (d.n % 16).toNat (botG d g + 1 - topG d g)) (by omega)
    refine ⟨_, _, k1, k2, k3, fun _ => k4, fun q => by omega, fun _ => by omega, fun q => by omega, fun _ => ?_, fun q => by omega⟩
    rw [wl]
    exact went_up (by omega) (by omega)
  rw [if_neg q0]
  by_cases q1 : d.q % 4 = 1
  · rw [if_pos q1]
    obtain ⟨k1, k2, k3, k4⟩ := turn_valid h false t1 (by omega) n0 hs
    have hrl := region_len (g := g) (t := topG d g) (b := botG d g + 1) (by omega)
    have wl := went_len (up := false) (l := regionF g (topG d g) (botG d g + 1)) (m := min (d.n % 16).toNat (botG d g + 1 - topG d g)) (by omega)
    refine ⟨_, _, k1, k2, k3, fun _ => k4, fun q => by omega, fun _ => by omega, fun q => by omega, fun q => by omega, fun _ => ?_⟩
    rw [wl]
    exact went_down (by omega) (by omega) (by omega)
  rw [if_neg q1]
  by_cases q2 : d.q % 4 = 2
  · rw [if_pos q2]
    have hw := h.w2
    have c0 := Int.emod_nonneg d.c (show (w : Int) ≠ 0 by omega)
    have c1 := Int.emod_lt_of_pos d.c (show 0 < (w : Int) by omega)
    obtain ⟨k1, k2⟩ := erase_valid h (fr := topG d g) (fc := d.c % w) (tr := botG d g) (tc := w) (s := styD d) (place_iff.2 (.inl (by rw [h.cols]; omega))) (place_iff.2 (.inl (by rw [h.cols]; omega))) (by omega) (fun _ => by omega) hs
    rw [h.cols, k1]
    exact ⟨_, _, rfl, k2, eraseTo_take' _ _ _ _ _ _ _ (Int.le_refl _) _, fun _ => eraseTo_drop' _ _ _ _ _ _ _ (by omega) _, fun q => by omega, fun _ => by simp, fun q => by omega, fun q => by omega, fun q => by omega⟩
  · rw [if_neg q2]
    obtain ⟨k1, k2⟩ := set_valid h (t := topG d g) (b := botG d g) (by omega) (by omega)
    rw [k1]
    exact ⟨_, _, rfl, k2, by simp [List.take_set_of_le], fun q => by omega, fun _ => by rw [List.drop_set_of_lt (by omega)], fun _ => by simp, fun _ => rfl, fun q => by omega, fun q => by omega⟩
end Fen

namespace Fen
open Go Go.Proofs

theorem rows_slice {g : List Rw} (a b : Nat) : List.take ((b - a) * 2) (List.drop (a * 2) (rowsC g)) = rowsC ((g.drop a).take (b - a)) := by rw [rowsC_drop, rowsC_take]
theorem u8_mod {a : Int} (h0 : 0 ≤ a) (m : Int) : a.tmod m = a % m := Int.tmod_eq_emod_of_nonneg h0
theorem headG {w n : Nat} {g : List Rw} (h : GV w n g) : ∃ r0 : Rw, (rowsC g).head?.getD C.nilf = .sl w (celsC r0.cells) ∧ 0 < g.length := by
  have h1 := h.ne
  match g, h1, h with
  | r :: g, _, h => exact ⟨r, by rw [← (h.rows r (List.mem_cons_self ..)).2]; rfl, by simp⟩

def gdoneSpec : Spec := { pre := fun args => ∃ (d : De) (g : List Rw), args = [.agg (deC d), rowsV g] ∧ d.ok ∧ gridF g = 0, res := fun args => match args with
  | [.agg d, .c (.sl _ cs)] => .many [.val (rowsV (doneG (deOf d) (rowsOf cs)).1), .val (rowsV (doneG (deOf d) (rowsOf cs)).2.1), .val (.c (.int .i64 (doneG (deOf d) (rowsOf cs)).2.2))]
  | _ => .many [] }
def G_gdone : Specs := [(13, gupSpec), (15, gdownSpec), (18, geraseSpec), (29, gsetSpec)]
@[simp] theorem G_gdone_live : Specs.live G_gdone = false := rfl
@[simp] theorem G_gdone_13 : G_gdone.find 13 = some gupSpec := rfl
@[simp] theorem G_gdone_15 : G_gdone.find 15 = some gdownSpec := rfl
@[simp] theorem G_gdone_18 : G_gdone.find 18 = some geraseSpec := rfl
@[simp] theorem G_gdone_29 : G_gdone.find 29 = some gsetSpec := rfl
theorem G_gdone_ok : SpecsOK Tryd.prog glW G_gdone := .cons gup_sound (.cons gdown_sound (.cons gerase_sound (.cons gset_sound (.nil _ _))))
set_option maxHeartbeats 8000000 in
set_option maxRecDepth 10000 in
theorem gdone_sound : Sound Tryd.prog glW 22 gdoneSpec := by
  refine sound_fn (N := Tryd.f22.ntmps) (rs := Tryd.f22.results.toList) mixed tok G_gdone_ok Tryd.func22 rfl rfl rfl rfl rfl ?_ ?_ ?_
  · rintro args ⟨d,g,rfl,hd,hg⟩; simp [rowsV,rowsOf_C,deOf_C, Tryd.f22]
  · rintro args ⟨d,g,rfl,hd,hg⟩; simp [rowsV,rowsOf_C,deOf_C, gdoneSpec, Tryd.f22]
  · rintro args ⟨d,g,rfl,hd,hg⟩ bs hgl hh hro
    have hE : Env.OK ⟨Tryd.prog, T, G_gdone, bs⟩ := ⟨tok, by rw [hgl]; exact G_gdone_ok⟩
    simp only [gdoneSpec, rowsV,rowsOf_C,deOf_C]
    have hv := GV.of hg
    obtain ⟨w, hw⟩ : ∃ w, colsG g = w := ⟨_, rfl⟩
    obtain ⟨n, hn⟩ : ∃ n, g.length = n := ⟨_, rfl⟩
    rw [hw, hn] at hv
    have n1 := hv.n1
    have n40 := hv.n40
    have hw2 := hv.w2
    obtain ⟨r0, hr0, gl0⟩ := headG hv
    obtain ⟨t1, t2, t3, t4⟩ := topG_le hv.ne hd
    obtain ⟨⟨q0, q1⟩, ⟨a0, a1⟩, ⟨l0, l1⟩, ⟨m0, m1⟩, c0, c1⟩ := hd
    have hO := exO hv.rok
    obtain ⟨t, ht⟩ : ∃ t, topG d g = t := ⟨_, rfl⟩
    obtain ⟨b, hb⟩ : ∃ b, botG d g = b := ⟨_, rfl⟩
    unfold doneG
    rw [ht] at t1 t3 t4
    rw [hb] at t1 t2 t4
    rw [ht, hb, hw]
    rw [hn] at t2 t3 t4
    obtain ⟨s, hs⟩ : ∃ s, styD d = s := ⟨_, rfl⟩
    have sC : C.int .i64 (d.c % 4) :: (styC sty0).tail = styC s := by rw [← hs]; rfl
    have sX : X.val (C.int .i64 (d.c % 4)) :: (List.map X.val (styC sty0)).tail = List.map X.val (styC s) := by rw [← hs]; rfl
    have so : s.ok := by
      have := Int.emod_nonneg d.c (show (4 : Int) ≠ 0 by decide)
      have := Int.emod_lt_of_pos d.c (show (0 : Int) < 4 by decide)
      rw [← hs]; exact ⟨by show -9223372036854775808 ≤ d.c % 4; omega, by show d.c % 4 ≤ 9223372036854775807; omega⟩
    have wt : IntKind.i64.wrap d.t = d.t := wrap64 _ (by omega) (by omega)
    have wl : IntKind.i64.wrap d.l = d.l := wrap64 _ (by omega) (by omega)
    have wc : IntKind.i64.wrap d.c = d.c := wrap64 _ (by omega) (by omega)
    have e1 := u8_mod a0 (n : Int)
    rw [t3] at e1
    have wnt : IntKind.i64.wrap ((n : Int) - t) = ((n - t : Nat) : Int) := by rw [wrap64 _ (by omega) (by omega)]; omega
    have e2 := u8_mod l0 ((n - t : Nat) : Int)
    rw [t4] at e2
    have wtb : IntKind.i64.wrap ((t : Int) + ((b - t : Nat) : Int)) = (b : Int) := by rw [wrap64 _ (by omega) (by omega)]; omega
    have nz : ¬ n - t = 0 := by omega
    have nz' : ¬ n = 0 := by omega
    have e4 := u8_mod c0 4
    have e5 := u8_mod q0 4
    have e6 := u8_mod m0 16
    have e7 := u8_mod c0 (w : Int)
    have wz : ¬ w = 0 := by omega
    have k4 : IntKind.u8.wrap (d.c % 4) = d.c % 4 := by simp [IntKind.wrap, IntKind.signed, IntKind.bits]; omega
    have k5 : IntKind.u8.wrap (d.q % 4) = d.q % 4 := by simp [IntKind.wrap, IntKind.signed, IntKind.bits]; omega
    have k6 : IntKind.u8.wrap (d.n % 16) = d.n % 16 := by simp [IntKind.wrap, IntKind.signed, IntKind.bits]; omega
    have w4 : IntKind.i64.wrap (d.c % 4) = d.c % 4 := wrap64 _ (by omega) (by omega)
    have w6 : IntKind.i64.wrap (d.n % 16) = d.n % 16 := wrap64 _ (by omega) (by omega)
    have w7 : IntKind.i64.wrap (d.c % w) = d.c % w := by
      have := Int.emod_nonneg d.c (show (w : Int) ≠ 0 by omega)
      have := Int.emod_lt_of_pos d.c (show 0 < (w : Int) by omega)
      exact wrap64 _ (by omega) (by omega)
    by_cases c : d.q % 4 = 0
    · have c' : (d.q % 4 = 0) = True := eq_true c
      simp -implicitDefEqProofs [-Bool.exists_bool, and_assoc, gdoneSpec, gdownSpec, geraseSpec, gsetSpec, gupSpec, Tryd.f22, gupSpec, gdownSpec, turn2Spec, deC, hn, hO, nz, nz', wt, wl, wc, e1, wnt, e2, wtb, e4, e5, e6, k4, k5, k6, w4, w6, hr0, gl0, sC, sX, so, hs, c', rowsV, styV]
      exact ⟨by omega, g, hn.symm, rfl, hv.rok⟩
    have c' : (d.q % 4 = 0) = False := eq_false c
    by_cases c1 : d.q % 4 = 1
    · have c1' : (d.q % 4 = 1) = True := eq_true c1
      simp -implicitDefEqProofs [-Bool.exists_bool, and_assoc, gdoneSpec, gdownSpec, geraseSpec, gsetSpec, gupSpec, Tryd.f22, gupSpec, gdownSpec, turn2Spec, deC, hn, hO, nz, nz', wt, wl, wc, e1, wnt, e2, wtb, e4, e5, e6, k4, k5, k6, w4, w6, hr0, gl0, sC, sX, so, hs, c', c1', rowsV, styV]
      exact ⟨by omega, g, hn.symm, rfl, hv.rok⟩
    have c1' : (d.q % 4 = 1) = False := eq_false c1
    by_cases c2 : d.q % 4 = 2
    · have c2' : (d.q % 4 = 2) = True := eq_true c2
      simp -implicitDefEqProofs [-Bool.exists_bool, and_assoc, gdoneSpec, gdownSpec, geraseSpec, gsetSpec, gupSpec, Tryd.f22, gupSpec, gdownSpec, turn2Spec, deC, hn, hO, nz, nz', wt, wl, wc, e1, wnt, e2, wtb, e4, e5, e6, e7, wz, k4, k5, k6, w4, w6, w7, hr0, gl0, sC, sX, so, hs, c', c1', c2', rowsV, styV]
      exact ⟨by omega, ⟨g, hn.symm, rfl, hv.rok⟩, by decide +kernel⟩
    · have c2' : (d.q % 4 = 2) = False := eq_false c2
      have hlb : b < g.length := by omega
      have hat := rowsC_at hlb
      have hgd : g[b]?.getD nilRw = g[b] := by simp [hlb]
      have rok := hv.rok _ (List.getElem_mem hlb)
      generalize g[b] = r at hat hgd rok
      simp -implicitDefEqProofs [-Bool.exists_bool, and_assoc, gdoneSpec, gdownSpec, geraseSpec, gsetSpec, gupSpec, Tryd.f22, gupSpec, gdownSpec, turn2Spec, deC, hn, hO, nz, nz', wt, wl, wc, e1, wnt, e2, wtb, e4, e5, e6, e7, wz, k4, k5, k6, w4, w6, w7, hr0, gl0, sC, sX, so, hs, c', c1', c2', hat, hgd, rowOf_C, rowsV, styV]
      exact ⟨by omega, by omega, g, hn.symm, rfl, hv.rok, rok⟩
end Fen

namespace Fen
open Go Go.Proofs

theorem typed_deed {d : Nat} {p : List C} (h : Typed T d 58 p) : ∃ x : De, p = deC x ∧ x.ok := by
  obtain ⟨d', parts, rfl, hk⟩ := typed_struct T_58 h
  match parts, hk with
  | [p0, p1, p2, p3, p4], ⟨h0, h1, h2, h3, h4, _⟩ =>
    obtain ⟨a, rfl, qa⟩ := typed_u8 h0
    obtain ⟨b, rfl, qb⟩ := typed_u8 h1
    obtain ⟨c, rfl, qc⟩ := typed_u8 h2
    obtain ⟨e, rfl, qe⟩ := typed_u8 h3
    obtain ⟨f, rfl, qf⟩ := typed_u8 h4
    exact ⟨⟨a, b, c, e, f⟩, rfl, qa, qb, qc, qe, qf⟩
theorem arg_deeds {A : V} (h : TypedV T 54 A) : ∃ l : List De, A = .c (.sl l.length (l.flatMap deC)) ∧ ∀ d ∈ l, d.ok := by
  obtain ⟨l, rfl, hl, ql⟩ := arg_slice_of (Q := De.ok) (en := deC) T_54 (fun d p h => typed_deed h) h
  exact ⟨l, rfl, ql⟩
theorem arg_u8x3 {A : V} (h : TypedV T 78 A) : ∃ a b c : Int, A = .agg [.int .u8 a, .int .u8 b, .int .u8 c] ∧ (0 ≤ a ∧ a < 256) ∧ (0 ≤ b ∧ b < 256) ∧ 0 ≤ c ∧ c < 256 := by
  obtain ⟨d, ks, rfl, hk0⟩ := arg_agg T_78 rfl h
  obtain ⟨d', parts, rfl, hl, hk⟩ := typed_array T_78 hk0
  match parts, hl with
  | [p0, p1, p2], _ =>
    obtain ⟨a, rfl, qa⟩ := typed_u8 (hk p0 (by simp))
    obtain ⟨b, rfl, qb⟩ := typed_u8 (hk p1 (by simp))
    obtain ⟨c, rfl, qc⟩ := typed_u8 (hk p2 (by simp))
    exact ⟨a, b, c, rfl, qa, qb, qc⟩
end Fen

namespace Fen
open Go Go.Proofs

def lawStaysSpec : Spec := { pre := fun args => ∃ (c : Int) (L : List Dr) (l : List De), args = [.agg [.int .u8 c, .sl L.length (L.flatMap drC)], .c (.sl l.length (l.flatMap deC))] ∧ 0 ≤ c ∧ c < 256 ∧ (∀ d ∈ L, d.ok) ∧ ∀ d ∈ l, d.ok, res := fun _ => .one (.val (.c (.bool true))) }
theorem five_get {L : List C} {k : Nat} {a b c d e : C} (h : List.take 5 (List.drop k L) = [a, b, c, d, e]) : L[k]?.getD .nilf = a ∧ L[k + 1]?.getD .nilf = b ∧ L[k + 2]?.getD .nilf = c ∧ L[k + 3]?.getD .nilf = d ∧ L[k + 4]?.getD .nilf = e := by
  have q : ∀ j, j < 5 → L[k + j]? = [a, b, c, d, e][j]? := fun j hj => by
    rw [← h, List.getElem?_take, if_pos hj, List.getElem?_drop]
  exact ⟨by rw [show k = k + 0 by omega, q 0 (by omega)]; rfl, by rw [q 1 (by omega)]; rfl, by rw [q 2 (by omega)]; rfl, by rw [q 3 (by omega)]; rfl, by rw [q 4 (by omega)]; rfl⟩
def gstS (l : List De) (x : Nat × List Rw) : St :=
  ⟨164, [(1, .val (.sl l.length (l.flatMap deC))), (5, .val (.sl x.2.length (rowsC x.2))), (6, .val (.int .i64 x.1))], []⟩
def G_lawStays : Specs := [(17, gworksSpec), (20, dgridSpec), (21, copySpec), (22, gdoneSpec), (23, gridckSpec), (16, samesSpec)]
@[simp] theorem G_lawStays_live : Specs.live G_lawStays = false := rfl
@[simp] theorem G_lawStays_17 : G_lawStays.find 17 = some gworksSpec := rfl
@[simp] theorem G_lawStays_20 : G_lawStays.find 20 = some dgridSpec := rfl
@[simp] theorem G_lawStays_21 : G_lawStays.find 21 = some copySpec := rfl
@[simp] theorem G_lawStays_22 : G_lawStays.find 22 = some gdoneSpec := rfl
@[simp] theorem G_lawStays_23 : G_lawStays.find 23 = some gridckSpec := rfl
@[simp] theorem G_lawStays_16 : G_lawStays.find 16 = some samesSpec := rfl
theorem G_lawStays_ok : SpecsOK Tryd.prog glW G_lawStays := .cons gworks_sound (.cons (dgrid_sound glW) (.cons (copyg_sound glW) (.cons gdone_sound (.cons gridck_sound (.cons (sames_sound glW) (.nil _ _))))))
set_option maxHeartbeats 40000000 in
set_option maxRecDepth 10000 in
theorem lawStays_sound : Sound Tryd.prog glW 5 lawStaysSpec := by
  refine sound_fn (N := Tryd.f5.ntmps) (rs := Tryd.f5.results.toList) mixed tok G_lawStays_ok Tryd.func5 rfl rfl rfl rfl rfl ?_ ?_ ?_
  · rintro args ⟨c,L,l,rfl,h0,h1,hL,hok⟩; simp [Tryd.f5]
  · rintro args ⟨c,L,l,rfl,h0,h1,hL,hok⟩; simp [lawStaysSpec, Tryd.f5]
  · rintro args ⟨c,L,l,rfl,h0,h1,hL,hok⟩ bs hgl hh hro
    have hE : Env.OK ⟨Tryd.prog, T, G_lawStays, bs⟩ := ⟨tok, by rw [hgl]; exact G_lawStays_ok⟩
    have eL : ∃ x : List Dr, L.length = x.length ∧ L.flatMap drC = x.flatMap drC ∧ ∀ d ∈ x, d.ok := ⟨L, rfl, rfl, hL⟩
    have hV := GV.grid c L
    obtain ⟨w, hw⟩ : ∃ w, 2 + c.toNat % 79 = w := ⟨_, rfl⟩
    obtain ⟨n, hn⟩ : ∃ n, manyG L = n := ⟨_, rfl⟩
    rw [hw, hn] at hV
    obtain ⟨D, hD⟩ : ∃ D, gridD c L = D := ⟨_, rfl⟩
    rw [hD] at hV
    simp -implicitDefEqProofs [-Bool.exists_bool, and_assoc, lawStaysSpec, copySpec, dgridSpec, gdoneSpec, gridckSpec, gworksSpec, samesSpec, Tryd.f5, h0, h1, eL, drsOf_C, hD, rowsV]
    refine AWP.rounds (fun x => x.1 ≤ l.length ∧ x.1 ≤ 20 ∧ GV w n x.2) (gstS l) (fun x => 20 - x.1) (0, D) ⟨by simp, by simp, hV⟩ ?_ ?_
    · exact Weak.ren [] (baseOK.nil hh) (by simp) (by simp [gstS]) (by simp [gstS])
    · rintro ⟨i, g⟩ ⟨hi, hi20, hg⟩
      simp only at hi hi20 hg
      refine wpc_ok hE mixed _ _ _ ?_
      by_cases h : i < l.length ∧ i < 20
      · obtain ⟨h1, h2⟩ := h
        have h2' : (i : Int) < 20 := by omega
        have w1 : IntKind.i64.wrap ((i : Int) + 1) = ((i + 1 : Nat) : Int) := by rw [wrap64 _ (by omega) (by omega)]; omega
        have ht := des_at l i h1
        have hdl := des_len l
        have hd := hok _ (List.getElem_mem h1)
        generalize l[i] = d at *
        obtain ⟨g0, g1, g2, _⟩ := five_get (show List.take 5 (List.drop (i * 5) (l.flatMap deC)) = [C.int .u8 d.q, C.int .u8 d.t, C.int .u8 d.l, C.int .u8 d.n, C.int .u8 d.c] from ht)
        have i5 : i * 5 < (l.flatMap deC).length := by rw [hdl]; omega
        have g0' : (l.flatMap deC)[i * 5] = C.int .u8 d.q := by rw [List.getElem?_eq_getElem i5] at g0; exact g0
        have p0 : 0 < l.length * 5 - i * 5 := by omega
        have p1 : 0 < l.length * 5 - (i * 5 + 1) := by omega
        have p2 : 0 < l.length * 5 - (i * 5 + 2) := by omega
        have f5 : 5 ≤ l.length * 5 - i * 5 := by omega
        have gne := hg.ne
        have gl := hg.len
        have gv := hg.valid
        have n1 := hg.n1
        have n40 := hg.n40
        obtain ⟨out, went, hdone, kept⟩ := done_kept hg hd
        obtain ⟨t1, t2, t3, t4⟩ := topG_le gne hd
        obtain ⟨r0, hr0, gl0⟩ := headG hg
        obtain ⟨r1, hr1, ol0⟩ := headG kept.ok
        have ol := kept.ok.len
        have ov := kept.ok.valid
        have xO : ∃ x : List Rw, n = x.length ∧ out = x ∧ RowsOK x := ⟨out, kept.ok.len.symm, rfl, kept.ok.rok⟩
        have gF : ∃ x : List Rw, n = x.length ∧ g = x ∧ RowsFin x := ⟨g, hg.len.symm, rfl, hg.fin⟩
        have dD : ∃ x : De, d.q = x.q ∧ d.t = x.t ∧ d.l = x.l ∧ d.n = x.n ∧ d.c = x.c ∧ ∃ y : List Rw, n = y.length ∧ g = y ∧ x.ok ∧ gridF y = 0 := ⟨d, rfl, rfl, rfl, rfl, rfl, g, hg.len.symm, rfl, hd, hg.valid⟩
        have eD : deOf [C.int .u8 d.q, C.int .u8 d.t, C.int .u8 d.l, C.int .u8 d.n, C.int .u8 d.c] = d := rfl
        obtain ⟨t, et⟩ : ∃ t, topG d g = t := ⟨_, rfl⟩
        obtain ⟨b, eb⟩ : ∃ b, botG d g = b := ⟨_, rfl⟩
        rw [et] at t1 t3 t4
        rw [eb] at t1 t2 t4
        rw [gl] at t2 t3 t4
        have ktop := kept.top
        rw [et] at ktop
        obtain ⟨⟨q0, q1⟩, ⟨a0, a1⟩, ⟨l0, l1⟩, _⟩ := hd
        have wt : IntKind.i64.wrap d.t = d.t := wrap64 _ (by omega) (by omega)
        have wl : IntKind.i64.wrap d.l = d.l := wrap64 _ (by omega) (by omega)
        have e1 := u8_mod a0 (n : Int)
        rw [t3] at e1
        have wnt : IntKind.i64.wrap ((n : Int) - t) = ((n - t : Nat) : Int) := by rw [wrap64 _ (by omega) (by omega)]; omega
        have e2 := u8_mod l0 ((n - t : Nat) : Int)
        rw [t4] at e2
        have wtb : IntKind.i64.wrap ((t : Int) + ((b - t : Nat) : Int)) = (b : Int) := by rw [wrap64 _ (by omega) (by omega)]; omega
        have nz : ¬ n - t = 0 := by omega
        have nz' : ¬ n = 0 := by omega
        have e5 := u8_mod q0 4
        have k5 : IntKind.u8.wrap (d.q % 4) = d.q % 4 := by simp [IntKind.wrap, IntKind.signed, IntKind.bits]; omega
        have oF := kept.ok.fin
        have wb1 : IntKind.i64.wrap ((b : Int) + 1) = (b : Int) + 1 := wrap64 _ (by omega) (by omega)
        have wt1 : IntKind.i64.wrap ((t : Int) + 1) = (t : Int) + 1 := wrap64 _ (by omega) (by omega)
        have nb1 : ((n : Int) - ((b : Int) + 1)).toNat = n - (b + 1) := by omega
        have nt1 : ((n : Int) - ((t : Int) + 1)).toNat = n - (t + 1) := by omega
        have b1 : ((b : Int) + 1).toNat = b + 1 := by omega
        have t1' : ((t : Int) + 1).toNat = t + 1 := by omega
        have wbt : IntKind.i64.wrap ((b : Int) - t) = (b : Int) - t := wrap64 _ (by omega) (by omega)
        have wbt1 : IntKind.i64.wrap ((b : Int) - t + 1) = (b : Int) - t + 1 := wrap64 _ (by omega) (by omega)
        have wtt : IntKind.i64.wrap ((t : Int) - t) = 0 := by rw [Int.sub_self]; rfl
        have tn : t ≤ n := by omega
        have ltt : (t : Int) + 1 ≤ n := by omega
        have lbt : (b : Int) + 1 ≤ n := by omega
        have tkO : (rowsC out).take (t * 2) = rowsC (out.take t) := rowsC_take ..
        have tkG : (rowsC g).take (t * 2) = rowsC (g.take t) := rowsC_take ..
        have dO : ∀ k, k ≤ n → List.take ((n - k) * 2) (List.drop (k * 2) (rowsC out)) = rowsC (out.drop k) := fun k hk => by
          rw [rowsC_drop, rowsC_take, List.take_of_length_le (by simp [ol])]
        have dG : ∀ k, k ≤ n → List.take ((n - k) * 2) (List.drop (k * 2) (rowsC g)) = rowsC (g.drop k) := fun k hk => by
          rw [rowsC_drop, rowsC_take, List.take_of_length_le (by simp [gl])]
        have dOb := dO (b + 1) (by omega)
        have dGb := dG (b + 1) (by omega)
        have dOt := dO (t + 1) (by omega)
        have dGt := dG (t + 1) (by omega)
        obtain ⟨G1, hG1⟩ : ∃ G1, g.take t = G1 := ⟨_, rfl⟩
        obtain ⟨G2, hG2⟩ : ∃ G2, g.drop (b + 1) = G2 := ⟨_, rfl⟩
        obtain ⟨G3, hG3⟩ : ∃ G3, g.drop (t + 1) = G3 := ⟨_, rfl⟩
        have l1 : t = G1.length := by rw [← hG1]; simp; omega
        have l2 : n - (b + 1) = G2.length := by rw [← hG2]; simp [gl]
        have l3 : n - (t + 1) = G3.length := by rw [← hG3]; simp [gl]
        have fin : ∀ L : List Rw, L.length ≤ 40 → (∀ r ∈ L, r ∈ g) → RowsFin L := fun L hL hm => rowsFin_of (by omega) fun r hr => hg.fin.2 r (hm r hr)
        have f1 : RowsFin G1 := fin _ (by omega) fun r hr => List.mem_of_mem_take (hG1 ▸ hr)
        have f2 : RowsFin G2 := fin _ (by omega) fun r hr => List.mem_of_mem_drop (hG2 ▸ hr)
        have f3 : RowsFin G3 := fin _ (by omega) fun r hr => List.mem_of_mem_drop (hG3 ▸ hr)
        rw [ktop, hG1] at tkO
        rw [hG1] at tkG
        rw [hG2] at dGb
        rw [hG3] at dGt
        by_cases c3 : d.q % 4 = 3
        · have c3' : (d.q % 4 = 3) = True := eq_true c3
          have c' : (d.q % 4 = 0) = False := eq_false (by omega)
          have c1' : (d.q % 4 = 1) = False := eq_false (by omega)
          have kb := kept.bot3 c3
          rw [et] at kb
          rw [kb, hG3] at dOt
          have lw := kept.len3 c3
          have lw' : (went.length : Int) ≤ 1 := by omega
          simp -implicitDefEqProofs [-Bool.exists_bool, gstS, and_assoc, copySpec, dgridSpec, gdoneSpec, gridckSpec, gworksSpec, samesSpec, h1, h2', w1, ht, hdl, f5, hdone, g0, g0', g1, g2, p0, p1, p2, dD, eD, deC, gl, ol, gv, ov, hr0, hr1, gF, xO, nz, nz', wt, wl, e1, wnt, e2, wtb, e5, k5, wb1, wt1, nb1, nt1, b1, t1', wbt, wbt1, tn, ltt, lbt, tkO, tkG, rowsOf_C, rowsV, c', c1', c3', dOt, dGt, wtt, lw']
          exact ⟨by omega, by decide +kernel, ⟨G1, l1, rfl, l1, f1⟩, by omega, ⟨G3, l3, rfl, l3, f3⟩, by decide +kernel, Next.mk (i + 1, out) ⟨h1, h2, kept.ok⟩ (by show 20 - (i + 1) < 20 - i; omega) (Weak.keep (by simp [gstS, ol]))⟩
        have c3' : (d.q % 4 = 3) = False := eq_false c3
        have kb := kept.bot c3
        rw [eb] at kb
        rw [kb, hG2] at dOb
        have lw := kept.len c3
        rw [eb, et] at lw
        have lw' : (went.length : Int) ≤ (b : Int) - t + 1 := by omega
        by_cases c : d.q % 4 = 0
        · have c' : (d.q % 4 = 0) = True := eq_true c
          have hup := kept.up c
          rw [et] at hup
          have wtw : IntKind.i64.wrap ((t : Int) + went.length) = (t : Int) + went.length := wrap64 _ (by omega) (by omega)
          have ltw : (t : Int) ≤ (t : Int) + went.length ∧ (t : Int) + went.length ≤ n := by omega
          have tw1 : ((t : Int) + went.length).toNat - t = went.length := by omega
          have tkW : List.take (went.length * 2) (List.drop (t * 2) (rowsC g)) = rowsC went := by rw [rowsC_drop, rowsC_take, ← hup]
          have fW : RowsFin went := fin _ (by omega) fun r hr => by rw [hup] at hr; exact List.mem_of_mem_drop (List.mem_of_mem_take hr)
          simp -implicitDefEqProofs [-Bool.exists_bool, gstS, and_assoc, copySpec, dgridSpec, gdoneSpec, gridckSpec, gworksSpec, samesSpec, h1, h2', w1, ht, hdl, f5, hdone, g0, g0', g1, g2, p0, p1, p2, dD, eD, deC, gl, ol, gv, ov, hr0, hr1, gF, xO, nz, nz', wt, wl, e1, wnt, e2, wtb, e5, k5, wb1, wt1, nb1, nt1, b1, t1', wbt, wbt1, tn, ltt, lbt, tkO, tkG, rowsOf_C, rowsV, c', c3', dOb, dGb, lw', wtw, ltw, tw1, tkW]
          exact ⟨by omega, by decide +kernel, ⟨G1, l1, rfl, l1, f1⟩, by omega, ⟨G2, l2, rfl, l2, f2⟩, by decide +kernel, ⟨went, rfl, rfl, fW⟩, Next.mk (i + 1, out) ⟨h1, h2, kept.ok⟩ (by show 20 - (i + 1) < 20 - i; omega) (Weak.keep (by simp [gstS, ol]))⟩
        have c' : (d.q % 4 = 0) = False := eq_false c
        by_cases c1 : d.q % 4 = 1
        · have c1' : (d.q % 4 = 1) = True := eq_true c1
          have hdn := kept.down c1
          rw [eb] at hdn
          have wbw : IntKind.i64.wrap ((b : Int) + 1 - went.length) = (b : Int) + 1 - went.length := wrap64 _ (by omega) (by omega)
          have lbw : 0 ≤ (b : Int) + 1 - went.length ∧ (b : Int) + 1 - went.length ≤ (b : Int) + 1 := by omega
          have bw1 : ((b : Int) + 1 - went.length).toNat = b + 1 - went.length := by omega
          have bw2 : ((b : Int) + 1 - ((b : Int) + 1 - went.length)).toNat = went.length := by omega
          have bw3 : b + 1 - (b + 1 - went.length) = went.length := by omega
          have tkW : List.take (went.length * 2) (List.drop ((b + 1 - went.length) * 2) (rowsC g)) = rowsC went := by rw [rowsC_drop, rowsC_take, ← hdn]
          have fW : RowsFin went := fin _ (by omega) fun r hr => by rw [hdn] at hr; exact List.mem_of_mem_drop (List.mem_of_mem_take hr)
          simp -implicitDefEqProofs [-Bool.exists_bool, gstS, and_assoc, copySpec, dgridSpec, gdoneSpec, gridckSpec, gworksSpec, samesSpec, h1, h2', w1, ht, hdl, f5, hdone, g0, g0', g1, g2, p0, p1, p2, dD, eD, deC, gl, ol, gv, ov, hr0, hr1, gF, xO, nz, nz', wt, wl, e1, wnt, e2, wtb, e5, k5, wb1, wt1, nb1, nt1, b1, t1', wbt, wbt1, tn, ltt, lbt, tkO, tkG, rowsOf_C, rowsV, c', c1', c3', dOb, dGb, lw', wbw, lbw, bw1, bw2, bw3, tkW]
          exact ⟨by omega, by decide +kernel, ⟨G1, l1, rfl, l1, f1⟩, by omega, ⟨G2, l2, rfl, l2, f2⟩, by decide +kernel, by omega, ⟨went, rfl, rfl, fW⟩, Next.mk (i + 1, out) ⟨h1, h2, kept.ok⟩ (by show 20 - (i + 1) < 20 - i; omega) (Weak.keep (by simp [gstS, ol]))⟩
        · have c1' : (d.q % 4 = 1) = False := eq_false c1
          simp -implicitDefEqProofs [-Bool.exists_bool, gstS, and_assoc, copySpec, dgridSpec, gdoneSpec, gridckSpec, gworksSpec, samesSpec, h1, h2', w1, ht, hdl, f5, hdone, g0, g0', g1, g2, p0, p1, p2, dD, eD, deC, gl, ol, gv, ov, hr0, hr1, gF, xO, nz, nz', wt, wl, e1, wnt, e2, wtb, e5, k5, wb1, wt1, nb1, nt1, b1, t1', wbt, wbt1, tn, ltt, lbt, tkO, tkG, rowsOf_C, rowsV, c', c1', c3', dOb, dGb, lw']
          exact ⟨by omega, by decide +kernel, ⟨G1, l1, rfl, l1, f1⟩, by omega, ⟨G2, l2, rfl, l2, f2⟩, by decide +kernel, Next.mk (i + 1, out) ⟨h1, h2, kept.ok⟩ (by show 20 - (i + 1) < 20 - i; omega) (Weak.keep (by simp [gstS, ol]))⟩
      · have h' : ¬ (i < l.length ∧ (i : Int) < 20) := by omega
        simp -implicitDefEqProofs [-Bool.exists_bool, gstS, and_assoc, copySpec, dgridSpec, gdoneSpec, gridckSpec, gworksSpec, samesSpec, h']
end Fen
