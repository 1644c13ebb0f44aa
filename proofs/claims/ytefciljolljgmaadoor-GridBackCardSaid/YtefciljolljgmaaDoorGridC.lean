/- A part of the proof; no statement is proved here: GGridM, GGridN, GGridU, GGridLg. -/
import Derived.Test.YtefciljolljgmaaDoorGridB

set_option linter.unusedVariables false
set_option linter.unusedSimpArgs false

namespace Fen
open Go Go.Proofs

/-! ### valid grids stay valid -/
structure Kept (r x : Rw) : Prop where
  ok : rowF x = 0
  len : x.cells.length = r.cells.length
  wr : x.wrapped = true → r.wrapped = true
theorem Kept.self {r : Rw} (h : rowF r = 0) : Kept r r := ⟨h, rfl, id⟩
theorem Kept.of {r : Rw} {l : List Cel} {w : Bool} (h : rowF r = 0) (hl : l.length = r.cells.length) (hv : VL l) (hw : w = true → r.wrapped = true) : Kept r ⟨l, w⟩ := by
  obtain ⟨h2, h8, _⟩ := row_len h
  exact ⟨rowF_of (by omega) (by omega) hv, hl, hw⟩
theorem kept_erase {r : Rw} {a b : Int} {s : Sty} (h : rowF r = 0) (h0 : 0 ≤ a) (h1 : a ≤ b) (h2 : b ≤ r.cells.length) (hs : styF s = 0) : (eraseRowF r a b s).2 = 0 ∧ Kept r (eraseRowF r a b s).1 := by
  rw [eraseRow_ok h h0 h1 h2 hs]
  split
  · exact ⟨rfl, Kept.self h⟩
  · have hv := (row_len h).2.2
    obtain ⟨k1, k2, k3, _⟩ := lo_hi (chain_val hv) (a := a.toNat) (b := b.toNat) (by omega) (by omega)
    exact ⟨rfl, Kept.of h (erase_len s (by omega) k3) (VL.erase hv (by omega) (by omega) hs) (fun q => by simp at q; exact q.1)⟩

/-- a valid grid of n rows of w cells -/
structure GV (w n : Nat) (g : List Rw) : Prop where
  len : g.length = n
  n1 : 1 ≤ n
  n40 : n ≤ 40
  rows : ∀ r ∈ g, rowF r = 0 ∧ r.cells.length = w
section
variable {w n : Nat} {g : List Rw}
theorem GV.ne (h : GV w n g) : g ≠ [] := by
  rintro rfl
  have h1 := h.len
  have h2 := h.n1
  simp at h1
  omega
theorem GV.cols (h : GV w n g) : colsG g = w := by
  have h1 := h.ne
  match g, h1 with
  | [], h1 => exact absurd rfl h1
  | r :: g, _ => exact (h.rows r (List.mem_cons_self ..)).2
theorem GV.valid (h : GV w n g) : gridF g = 0 := by
  unfold gridF
  have h1 := h.len
  have h2 := h.n1
  have h3 := h.n40
  rw [if_neg (by omega), if_pos]
  rw [h.cols]
  simp only [okRows, List.all_eq_true, Bool.and_eq_true, decide_eq_true_eq]
  intro r hr
  have := h.rows r hr
  exact ⟨by omega, this.1⟩
theorem GV.of (h : gridF g = 0) : GV (colsG g) g.length g := by
  obtain ⟨h1, h2, h3⟩ := gridF_ok h
  exact ⟨rfl, h1, h2, fun r hr => by have := okRows_RowsOK h3 r hr; exact ⟨this.1, by omega⟩⟩
theorem GV.grid (c : Int) (L : List Dr) : GV (2 + c.toNat % 79) (manyG L) (gridD c L) :=
  ⟨grid_len c L, (many_le L).1, by have := (many_le L).2; omega, fun r hr => by
    simp only [gridD, List.mem_map] at hr
    obtain ⟨i, _, rfl⟩ := hr
    exact ⟨draft_ok _ _ _, draft_len _ _ _⟩⟩
theorem GV.w2 (h : GV w n g) : 2 ≤ w ∧ w ≤ 80 := by
  have h1 := h.ne
  match g, h1 with
  | [], h1 => exact absurd rfl h1
  | r :: g, _ =>
    obtain ⟨q1, q2⟩ := h.rows r (List.mem_cons_self ..)
    have := row_len q1
    omega
theorem GV.rok (h : GV w n g) : RowsOK g := fun r hr => row_okF (h.rows r hr).1
theorem GV.fin (h : GV w n g) : RowsFin g := rowsFin_of (by have := h.len; have := h.n40; omega) fun r hr => row_lt (h.rows r hr).1
end
theorem blankRow_ok {w : Nat} {s : Sty} (h : 2 ≤ w ∧ w ≤ 80) (hs : styF s = 0) : rowF (blankRow w s) = 0 ∧ (blankRow w s).cells.length = w :=
  ⟨rowF_of (by simp; omega) (by simp; omega) (VL.blanks hs w), by simp [blankRow]⟩
theorem isF_len {up : Bool} {L : List Rw} {m : Nat} {r : Rw} (hm : m ≤ L.length) : (isF up L m r).length = L.length := by
  cases up <;> simp [isF] <;> omega
theorem isF_mem {up : Bool} {L : List Rw} {m : Nat} {r x : Rw} (h : x ∈ isF up L m r) : x ∈ L ∨ x = r := by
  cases up
  · simp only [isF, Bool.false_eq_true, if_false, List.mem_append] at h
    rcases h with h | h
    · exact .inr (List.eq_of_mem_replicate h)
    · exact .inl (List.mem_of_mem_take h)
  · simp only [isF, if_true, List.mem_append] at h
    rcases h with h | h
    · exact .inl (List.mem_of_mem_drop h)
    · exact .inr (List.eq_of_mem_replicate h)
theorem layF_take {l s : List Rw} {t : Nat} (h : t ≤ l.length) : (layF l t s).take t = l.take t := by
  unfold layF
  rw [List.append_assoc, List.take_left' (by simp; omega)]
theorem layF_drop {l s : List Rw} {t : Nat} (h : t + s.length ≤ l.length) : (layF l t s).drop (t + s.length) = l.drop (t + s.length) := by
  unfold layF
  rw [List.drop_left' (by simp; omega)]
theorem layF_mid {l s : List Rw} {t : Nat} (h : t ≤ l.length) : ((layF l t s).drop t).take s.length = s := by
  unfold layF
  rw [List.append_assoc, List.drop_left' (by simp; omega), List.take_left' rfl]
theorem layF_mem {l s : List Rw} {t : Nat} {x : Rw} (h : x ∈ layF l t s) : x ∈ l ∨ x ∈ s := by
  simp only [layF, List.mem_append] at h
  rcases h with (h | h) | h
  · exact .inl (List.mem_of_mem_take h)
  · exact .inr h
  · exact .inl (List.mem_of_mem_drop h)
theorem region_len {g : List Rw} {t b : Nat} (hb : b ≤ g.length) : (regionF g t b).length = b - t := by simp [regionF]; omega
theorem region_mem {g : List Rw} {t b : Nat} {x : Rw} (h : x ∈ regionF g t b) : x ∈ g := List.mem_of_mem_drop (List.mem_of_mem_take h)

theorem turn_valid {w n : Nat} {g : List Rw} (h : GV w n g) (up : Bool) {t b : Nat} {m : Int} {s : Sty} (ht : t ≤ b) (hb : b < n) (hm : 0 ≤ m) (hs : styF s = 0) :
    turnF up g t b m s = (layF g t (isF up (regionF g t (b + 1)) (min m.toNat (b + 1 - t)) (blankRow w s)), wentF up (regionF g t (b + 1)) (min m.toNat (b + 1 - t)), 0) ∧
    GV w n (layF g t (isF up (regionF g t (b + 1)) (min m.toNat (b + 1 - t)) (blankRow w s))) ∧
    (layF g t (isF up (regionF g t (b + 1)) (min m.toNat (b + 1 - t)) (blankRow w s))).take t = g.take t ∧
    (layF g t (isF up (regionF g t (b + 1)) (min m.toNat (b + 1 - t)) (blankRow w s))).drop (b + 1) = g.drop (b + 1) := by
  have hl := h.len
  have hrl := region_len (g := g) (t := t) (b := b + 1) (by omega)
  have hil : (isF up (regionF g t (b + 1)) (min m.toNat (b + 1 - t)) (blankRow w s)).length = b + 1 - t := by rw [isF_len (by omega), hrl]
  refine ⟨?_, ⟨?_, h.n1, h.n40, fun r hr => ?_⟩, layF_take (by omega), ?_⟩
  · unfold turnF
    rw [if_neg (by simp [h.valid]), if_neg (by omega), if_neg (by simp [hs]), h.cols]
    simp only [Int.toNat_natCast]
  · rw [layF_len (by rw [hil]; omega)]; exact hl
  · rcases layF_mem hr with q | q
    · exact h.rows r q
    · rcases isF_mem q with q | rfl
      · exact h.rows r (region_mem q)
      · exact blankRow_ok h.w2 hs
  · have := layF_drop (l := g) (s := isF up (regionF g t (b + 1)) (min m.toNat (b + 1 - t)) (blankRow w s)) (t := t) (by rw [hil]; omega)
    rw [hil, show t + (b + 1 - t) = b + 1 by omega] at this
    exact this
theorem went_len {up : Bool} {l : List Rw} {m : Nat} (hm : m ≤ l.length) : (wentF up l m).length = m := by
  cases up <;> simp [wentF] <;> omega
theorem went_up {g : List Rw} {t b m : Nat} (hm : m ≤ b - t) (hb : b ≤ g.length) : wentF true (regionF g t b) m = (g.drop t).take m := by
  simp only [wentF, if_true, regionF, List.take_take]
  rw [Nat.min_eq_left hm]
theorem went_down {g : List Rw} {t b m : Nat} (hm : m ≤ b - t) (hb : b ≤ g.length) (ht : t ≤ b) : wentF false (regionF g t b) m = (g.drop (b - m)).take m := by
  simp only [wentF, Bool.false_eq_true, if_false]
  rw [region_len hb, regionF, List.drop_take, List.drop_drop, show t + (b - t - m) = b - m by omega, show b - t - (b - t - m) = m by omega]

theorem eraseAt_valid {w : Nat} {fr fc tr tc : Int} {s : Sty} {k : Nat} {r : Rw} (hr : rowF r = 0) (hw : r.cells.length = w) (hs : styF s = 0) (h1 : 0 ≤ fc ∧ fc ≤ w) (h2 : 0 ≤ tc ∧ tc ≤ w) (h3 : fr = tr → fc ≤ tc) :
    rowF (eraseAt w fr fc tr tc s k r) = 0 ∧ (eraseAt w fr fc tr tc s k r).cells.length = w := by
  unfold eraseAt
  split
  · obtain ⟨_, q⟩ := kept_erase (r := r) (a := if (k : Int) = fr then fc else 0) (b := if (k : Int) = tr then tc else w) (s := s) hr (by split <;> omega) (by
      by_cases c : (k : Int) = fr <;> by_cases d : (k : Int) = tr <;> simp only [c, d, if_true, if_false]
      · rw [if_pos (by omega)]; exact h3 (by omega)
      · rw [if_neg (by omega)]; omega
      · rw [if_neg (by omega)]; omega
      · omega) (by split <;> omega) hs
    exact ⟨q.ok, by rw [q.len]; exact hw⟩
  · exact ⟨hr, hw⟩
theorem place_iff {g : List Rw} {r c : Int} : placeF g r c = true ↔ (0 ≤ r ∧ r < g.length ∧ 0 ≤ c ∧ c ≤ colsG g) ∨ (r = g.length ∧ c = 0) := by simp [placeF]
theorem erase_valid {w n : Nat} {g : List Rw} (h : GV w n g) {fr fc tr tc : Int} {s : Sty} (p1 : placeF g fr fc = true) (p2 : placeF g tr tc = true) (h1 : fr ≤ tr) (h2 : fr = tr → fc ≤ tc) (hs : styF s = 0) :
    eraseGF g fr fc tr tc s = (eraseTo w fr fc tr tc s g n, 0) ∧ GV w n (eraseTo w fr fc tr tc s g n) := by
  have hl := h.len
  have hw := h.w2
  constructor
  · unfold eraseGF
    rw [if_neg (by simp [h.valid]), if_neg (by simp only [p1, p2]; simp; exact ⟨by omega, h2⟩), if_neg (by simp [hs]), h.cols, hl]
  · refine ⟨by rw [eraseTo_len]; exact hl, h.n1, h.n40, fun r hr => ?_⟩
    simp only [eraseTo, List.mem_mapIdx] at hr
    obtain ⟨i, hi, rfl⟩ := hr
    obtain ⟨q1, q2⟩ := h.rows _ (List.getElem_mem hi)
    rw [place_iff, h.cols] at p1 p2
    rw [if_pos (by omega)]
    exact eraseAt_valid q1 q2 hs (by omega) (by omega) h2
section
variable (w : Nat) (fr fc tr tc : Int) (s : Sty) (l : List Rw)
theorem eraseTo_take' {t : Nat} (h : (t : Int) ≤ fr) (n : Nat) : (eraseTo w fr fc tr tc s l n).take t = l.take t := by
  refine List.ext_getElem (by simp [eraseTo]) fun i h1 h2 => ?_
  simp only [List.getElem_take, eraseTo, List.getElem_mapIdx]
  have : i < t := by simp at h1; omega
  split
  · rw [eraseAt, if_neg (by omega)]
  · rfl
theorem eraseTo_drop' {q : Nat} (h : tr < (q : Int)) (n : Nat) : (eraseTo w fr fc tr tc s l n).drop q = l.drop q := by
  refine List.ext_getElem (by simp [eraseTo]) fun i h1 h2 => ?_
  simp only [List.getElem_drop, eraseTo, List.getElem_mapIdx]
  split
  · rw [eraseAt, if_neg (by omega)]
  · rfl
end
theorem set_valid {w n : Nat} {g : List Rw} (h : GV w n g) {t b : Nat} (ht : t < n) (hb : b < n) : setGF g t (g.getD b nilRw) = (g.set t (g.getD b nilRw), 0) ∧ GV w n (g.set t (g.getD b nilRw)) := by
  have hl := h.len
  have hm : g.getD b nilRw ∈ g := by
    rw [List.getD_eq_getElem?_getD, List.getElem?_eq_getElem (by omega), Option.getD_some]
    exact List.getElem_mem _
  generalize g.getD b nilRw = r at *
  obtain ⟨q1, q2⟩ := h.rows r hm
  constructor
  · unfold setGF
    rw [if_neg (by simp [h.valid]), if_neg (by omega), if_neg (by simp [q1]), if_neg (by rw [h.cols]; simp [q2])]
    simp only [Int.toNat_natCast]
  · refine ⟨by simp [hl], h.n1, h.n40, fun x hx => ?_⟩
    rcases List.mem_or_eq_of_mem_set hx with q | rfl
    · exact h.rows x q
    · exact ⟨q1, q2⟩

/-! ### one operation, chosen by small numbers -/
structure De where
  q : Int
  t : Int
  l : Int
  n : Int
  c : Int
def deC (d : De) : List C := [.int .u8 d.q, .int .u8 d.t, .int .u8 d.l, .int .u8 d.n, .int .u8 d.c]
def deOf : List C → De
  | [.int _ q, .int _ t, .int _ l, .int _ n, .int _ c] => ⟨q, t, l, n, c⟩
  | _ => ⟨0, 0, 0, 0, 0⟩
@[simp] theorem deOf_C (d : De) : deOf (deC d) = d := rfl
@[simp] theorem deC_len (d : De) : (deC d).length = 5 := rfl
@[simp] theorem deC_inj (a b : De) : deC a = deC b ↔ a = b := ⟨fun h => by rw [← deOf_C a, h, deOf_C], fun h => by rw [h]⟩
theorem des_at : ∀ (l : List De) (i : Nat) (h : i < l.length), List.take 5 (List.drop (i * 5) (l.flatMap deC)) = deC l[i]
  | d :: l, 0, _ => by simp [List.take_left' (deC_len d)]
  | d :: l, i + 1, h => by
    rw [List.flatMap_cons, List.drop_append, List.drop_of_length_le (by simp; omega), List.nil_append, deC_len, show (i + 1) * 5 - 5 = i * 5 by omega]
    simpa using des_at l i (by simpa using h)
theorem des_len (l : List De) : (l.flatMap deC).length = l.length * 5 := by
  induction l with
  | nil => rfl
  | cons d l ih => rw [List.flatMap_cons, List.length_append, ih]; simp; omega
def De.ok (d : De) : Prop := (0 ≤ d.q ∧ d.q < 256) ∧ (0 ≤ d.t ∧ d.t < 256) ∧ (0 ≤ d.l ∧ d.l < 256) ∧ (0 ≤ d.n ∧ d.n < 256) ∧ 0 ≤ d.c ∧ d.c < 256
def topG (d : De) (g : List Rw) : Nat := (d.t % g.length).toNat
def botG (d : De) (g : List Rw) : Nat := topG d g + (d.l % ((g.length - topG d g : Nat) : Int)).toNat
def styD (d : De) : Sty := ⟨d.c % 4, 0, 0, 0, 0, 0, 0, 0⟩
def doneG (d : De) (g : List Rw) : List Rw × List Rw × Int :=
  if d.q % 4 = 0 then turnF true g (topG d g) (botG d g) (d.n % 16) (styD d)
  else if d.q % 4 = 1 then turnF false g (topG d g) (botG d g) (d.n % 16) (styD d)
  else if d.q % 4 = 2 then ((eraseGF g (topG d g) (d.c % colsG g) (botG d g) (colsG g) (styD d)).1, [], (eraseGF g (topG d g) (d.c % colsG g) (botG d g) (colsG g) (styD d)).2)
  else ((setGF g (topG d g) (g.getD (botG d g) nilRw)).1, [], (setGF g (topG d g) (g.getD (botG d g) nilRw)).2)
theorem topG_le {d : De} {g : List Rw} (h : g ≠ []) (hd : d.ok) : topG d g ≤ botG d g ∧ botG d g < g.length ∧ d.t % g.length = (topG d g : Int) ∧ d.l % ((g.length - topG d g : Nat) : Int) = ((botG d g - topG d g : Nat) : Int) := by
  have hl : 0 < g.length := List.length_pos_iff.2 h
  obtain ⟨_, ⟨t0, _⟩, ⟨l0, _⟩, _⟩ := hd
  have a1 := Int.emod_nonneg d.t (show (g.length : Int) ≠ 0 by omega)
  have a2 := Int.emod_lt_of_pos d.t (show 0 < (g.length : Int) by omega)
  have ht : d.t % g.length = (topG d g : Int) := by unfold topG; omega
  have htl : topG d g < g.length := by omega
  have b1 := Int.emod_nonneg d.l (show ((g.length - topG d g : Nat) : Int) ≠ 0 by omega)
  have b2 := Int.emod_lt_of_pos d.l (show 0 < ((g.length - topG d g : Nat) : Int) by omega)
  refine ⟨by unfold botG; omega, by unfold botG; omega, ht, ?_⟩
  unfold botG
  omega
theorem styD_ok {d : De} : styF (styD d) = 0 := by
  have h1 := Int.emod_nonneg d.c (show (4 : Int) ≠ 0 by decide)
  have h2 := Int.emod_lt_of_pos d.c (show (0 : Int) < 4 by decide)
  have : d.c % 4 = 0 ∨ d.c % 4 = 1 ∨ d.c % 4 = 2 ∨ d.c % 4 = 3 := by omega
  unfold styD
  rcases this with h | h | h | h <;> rw [h] <;> decide
/-- what an operation leaves as it is, and what it takes away -/
structure Kept13 (w n : Nat) (d : De) (g out went : List Rw) : Prop where
  ok : GV w n out
  top : out.take (topG d g) = g.take (topG d g)
  bot : d.q % 4 ≠ 3 → out.drop (botG d g + 1) = g.drop (botG d g + 1)
  bot3 : d.q % 4 = 3 → out.drop (topG d g + 1) = g.drop (topG d g + 1)
  len : d.q % 4 ≠ 3 → went.length ≤ botG d g - topG d g + 1
  len3 : d.q % 4 = 3 → went.length = 0
  up : d.q % 4 = 0 → went = (g.drop (topG d g)).take went.length
  down : d.q % 4 = 1 → went = (g.drop (botG d g + 1 - went.length)).take went.length
theorem done_kept {w n : Nat} {g : List Rw} {d : De} (h : GV w n g) (hd : d.ok) : ∃ out went, doneG d g = (out, went, 0) ∧ Kept13 w n d g out went := by
  obtain ⟨t1, t2, t3, t4⟩ := topG_le h.ne hd
  have hl := h.len
  have hs := styD_ok (d := d)
  have n0 : 0 ≤ d.n % 16 := Int.emod_nonneg _ (by decide)
  unfold doneG
  by_cases q0 : d.q % 4 = 0
  · rw [if_pos q0]
    obtain ⟨k1, k2, k3, k4⟩ := turn_valid h true t1 (by omega) n0 hs
    have hrl := region_len (g := g) (t := topG d g) (b := botG d g + 1) (by omega)
    have wl := went_len (up := true) (l := regionF g (topG d g) (botG d g + 1)) (m := min (d.n % 16).toNat (botG d g + 1 - topG d g)) (by omega)
    refine ⟨_, _, k1, k2, k3, fun _ => k4, fun q => by omega, fun _ => by omega, fun q => by omega, fun _ => ?_, fun q => by omega⟩
    rw [wl]
    exact went_up (by omega) (by omega)
  rw [if_neg q0]
  by_cases q1 : d.q % 4 = 1
  · rw [if_pos q1]
    obtain ⟨k1, k2, k3, k4⟩ := turn_valid h false t1 (by omega) n0 hs
    have hrl := region_len (g := g) (t := topG d g) (b := botG d g + 1) (by omega)
    have wl := went_len (up := false) (l := regionF g (topG d g) (botG d g + 1)) (m := min (d.n % 16).toNat (botG d g + 1 - topG d g)) (by omega)
    refine ⟨_, _, k1, k2, k3, fun _ => k4, fun q => by omega, fun _ => by omega, fun q => by omega, fun q => by omega, fun _ => ?_⟩
    rw [wl]
    exact went_down (by omega) (by omega) (by omega)
  rw [if_neg q1]
  by_cases q2 : d.q % 4 = 2
  · rw [if_pos q2]
    have hw := h.w2
    have c0 := Int.emod_nonneg d.c (show (w : Int) ≠ 0 by omega)
    have c1 := Int.emod_lt_of_pos d.c (show 0 < (w : Int) by omega)
    obtain ⟨k1, k2⟩ := erase_valid h (fr := topG d g) (fc := d.c % w) (tr := botG d g) (tc := w) (s := styD d) (place_iff.2 (.inl (by rw [h.cols]; omega))) (place_iff.2 (.inl (by rw [h.cols]; omega))) (by omega) (fun _ => by omega) hs
    rw [h.cols, k1]
    exact ⟨_, _, rfl, k2, eraseTo_take' _ _ _ _ _ _ _ (Int.le_refl _) _, fun _ => eraseTo_drop' _ _ _ _ _ _ _ (by omega) _, fun q => by omega, fun _ => by simp, fun q => by omega, fun q => by omega, fun q => by omega⟩
  · rw [if_neg q2]
    obtain ⟨k1, k2⟩ := set_valid h (t := topG d g) (b := botG d g) (by omega) (by omega)
    rw [k1]
    exact ⟨_, _, rfl, k2, by simp [List.take_set_of_le], fun q => by omega, fun _ => by rw [List.drop_set_of_lt (by omega)], fun _ => by simp, fun _ => rfl, fun q => by omega, fun q => by omega⟩
end Fen

namespace Fen
open Go Go.Proofs

theorem rows_slice {g : List Rw} (a b : Nat) : List.take ((b - a) * 2) (List.drop (a * 2) (rowsC g)) = rowsC ((g.drop a).take (b - a)) := by rw [rowsC_drop, rowsC_take]
theorem u8_mod {a : Int} (h0 : 0 ≤ a) (m : Int) : a.tmod m = a % m := Int.tmod_eq_emod_of_nonneg h0
theorem headG {w n : Nat} {g : List Rw} (h : GV w n g) : ∃ r0 : Rw, (rowsC g).head?.getD C.nilf = .sl w (celsC r0.cells) ∧ 0 < g.length := by
  have h1 := h.ne
  match g, h1, h with
  | r :: g, _, h => exact ⟨r, by rw [← (h.rows r (List.mem_cons_self ..)).2]; rfl, by simp⟩

def gdoneSpec : Spec := { pre := fun args => ∃ (d : De) (g : List Rw), args = [.agg (deC d), rowsV g] ∧ d.ok ∧ gridF g = 0, res := fun args => match args with
  | [.agg d, .c (.sl _ cs)] => .many [.val (rowsV (doneG (deOf d) (rowsOf cs)).1), .val (rowsV (doneG (deOf d) (rowsOf cs)).2.1), .val (.c (.int .i64 (doneG (deOf d) (rowsOf cs)).2.2))]
  | _ => .many [] }
def G_gdone : Specs := [(13, gupSpec), (15, gdownSpec), (18, geraseSpec), (29, gsetSpec)]
@[simp] theorem G_gdone_live : Specs.live G_gdone = false := rfl
@[simp] theorem G_gdone_13 : G_gdone.find 13 = some gupSpec := rfl
@[simp] theorem G_gdone_15 : G_gdone.find 15 = some gdownSpec := rfl
@[simp] theorem G_gdone_18 : G_gdone.find 18 = some geraseSpec := rfl
@[simp] theorem G_gdone_29 : G_gdone.find 29 = some gsetSpec := rfl
theorem G_gdone_ok : SpecsOK Tryd.prog glW G_gdone := .cons gup_sound (.cons gdown_sound (.cons gerase_sound (.cons gset_sound (.nil _ _))))
set_option maxHeartbeats 8000000 in
set_option maxRecDepth 10000 in
theorem gdone_sound : Sound Tryd.prog glW 22 gdoneSpec := by
  refine sound_fn (N := Tryd.f22.ntmps) (rs := Tryd.f22.results.toList) mixed tok G_gdone_ok Tryd.func22 rfl rfl rfl rfl rfl ?_ ?_ ?_
  · rintro args ⟨d,g,rfl,hd,hg⟩; simp [rowsV,rowsOf_C,deOf_C, Tryd.f22]
  · rintro args ⟨d,g,rfl,hd,hg⟩; simp [rowsV,rowsOf_C,deOf_C, gdoneSpec, Tryd.f22]
  · rintro args ⟨d,g,rfl,hd,hg⟩ bs hgl hh hro
    have hE : Env.OK ⟨Tryd.prog, T, G_gdone, bs⟩ := ⟨tok, by rw [hgl]; exact G_gdone_ok⟩
    simp only [gdoneSpec, rowsV,rowsOf_C,deOf_C]
    have hv := GV.of hg
    obtain ⟨w, hw⟩ : ∃ w, colsG g = w := ⟨_, rfl⟩
    obtain ⟨n, hn⟩ : ∃ n, g.length = n := ⟨_, rfl⟩
    rw [hw, hn] at hv
    have n1 := hv.n1
    have n40 := hv.n40
    have hw2 := hv.w2
    obtain ⟨r0, hr0, gl0⟩ := headG hv
    obtain ⟨t1, t2, t3, t4⟩ := topG_le hv.ne hd
    obtain ⟨⟨q0, q1⟩, ⟨a0, a1⟩, ⟨l0, l1⟩, ⟨m0, m1⟩, c0, c1⟩ := hd
    have hO := exO hv.rok
    obtain ⟨t, ht⟩ : ∃ t, topG d g = t := ⟨_, rfl⟩
    obtain ⟨b, hb⟩ : ∃ b, botG d g = b := ⟨_, rfl⟩
    unfold doneG
    rw [ht] at t1 t3 t4
    rw [hb] at t1 t2 t4
    rw [ht, hb, hw]
    rw [hn] at t2 t3 t4
    obtain ⟨s, hs⟩ : ∃ s, styD d = s := ⟨_, rfl⟩
    have sC : C.int .i64 (d.c % 4) :: (styC sty0).tail = styC s := by rw [← hs]; rfl
    have sX : X.val (C.int .i64 (d.c % 4)) :: (List.map X.val (styC sty0)).tail = List.map X.val (styC s) := by rw [← hs]; rfl
    have so : s.ok := by
      have := Int.emod_nonneg d.c (show (4 : Int) ≠ 0 by decide)
      have := Int.emod_lt_of_pos d.c (show (0 : Int) < 4 by decide)
      rw [← hs]; exact ⟨by show -9223372036854775808 ≤ d.c % 4; omega, by show d.c % 4 ≤ 9223372036854775807; omega⟩
    have wt : IntKind.i64.wrap d.t = d.t := wrap64 _ (by omega) (by omega)
    have wl : IntKind.i64.wrap d.l = d.l := wrap64 _ (by omega) (by omega)
    have wc : IntKind.i64.wrap d.c = d.c := wrap64 _ (by omega) (by omega)
    have e1 := u8_mod a0 (n : Int)
    rw [t3] at e1
    have wnt : IntKind.i64.wrap ((n : Int) - t) = ((n - t : Nat) : Int) := by rw [wrap64 _ (by omega) (by omega)]; omega
    have e2 := u8_mod l0 ((n - t : Nat) : Int)
    rw [t4] at e2
    have wtb : IntKind.i64.wrap ((t : Int) + ((b - t : Nat) : Int)) = (b : Int) := by rw [wrap64 _ (by omega) (by omega)]; omega
    have nz : ¬ n - t = 0 := by omega
    have nz' : ¬ n = 0 := by omega
    have e4 := u8_mod c0 4
    have e5 := u8_mod q0 4
    have e6 := u8_mod m0 16
    have e7 := u8_mod c0 (w : Int)
    have wz : ¬ w = 0 := by omega
    have k4 : IntKind.u8.wrap (d.c % 4) = d.c % 4 := by simp [IntKind.wrap, IntKind.signed, IntKind.bits]; omega
    have k5 : IntKind.u8.wrap (d.q % 4) = d.q % 4 := by simp [IntKind.wrap, IntKind.signed, IntKind.bits]; omega
    have k6 : IntKind.u8.wrap (d.n % 16) = d.n % 16 := by simp [IntKind.wrap, IntKind.signed, IntKind.bits]; omega
    have w4 : IntKind.i64.wrap (d.c % 4) = d.c % 4 := wrap64 _ (by omega) (by omega)
    have w6 : IntKind.i64.wrap (d.n % 16) = d.n % 16 := wrap64 _ (by omega) (by omega)
    have w7 : IntKind.i64.wrap (d.c % w) = d.c % w := by
      have := Int.emod_nonneg d.c (show (w : Int) ≠ 0 by omega)
      have := Int.emod_lt_of_pos d.c (show 0 < (w : Int) by omega)
      exact wrap64 _ (by omega) (by omega)
    by_cases c : d.q % 4 = 0
    · have c' : (d.q % 4 = 0) = True := eq_true c
      simp -implicitDefEqProofs [-Bool.exists_bool, and_assoc, gdoneSpec, gdownSpec, geraseSpec, gsetSpec, gupSpec, Tryd.f22, gupSpec, gdownSpec, turn2Spec, deC, hn, hO, nz, nz', wt, wl, wc, e1, wnt, e2, wtb, e4, e5, e6, k4, k5, k6, w4, w6, hr0, gl0, sC, sX, so, hs, c', rowsV, styV]
      exact ⟨by omega, g, hn.symm, rfl, hv.rok⟩
    have c' : (d.q % 4 = 0) = False := eq_false c
    by_cases c1 : d.q % 4 = 1
    · have c1' : (d.q % 4 = 1) = True := eq_true c1
      simp -implicitDefEqProofs [-Bool.exists_bool, and_assoc, gdoneSpec, gdownSpec, geraseSpec, gsetSpec, gupSpec, Tryd.f22, gupSpec, gdownSpec, turn2Spec, deC, hn, hO, nz, nz', wt, wl, wc, e1, wnt, e2, wtb, e4, e5, e6, k4, k5, k6, w4, w6, hr0, gl0, sC, sX, so, hs, c', c1', rowsV, styV]
      exact ⟨by omega, g, hn.symm, rfl, hv.rok⟩
    have c1' : (d.q % 4 = 1) = False := eq_false c1
    by_cases c2 : d.q % 4 = 2
    · have c2' : (d.q % 4 = 2) = True := eq_true c2
      simp -implicitDefEqProofs [-Bool.exists_bool, and_assoc, gdoneSpec, gdownSpec, geraseSpec, gsetSpec, gupSpec, Tryd.f22, gupSpec, gdownSpec, turn2Spec, deC, hn, hO, nz, nz', wt, wl, wc, e1, wnt, e2, wtb, e4, e5, e6, e7, wz, k4, k5, k6, w4, w6, w7, hr0, gl0, sC, sX, so, hs, c', c1', c2', rowsV, styV]
      exact ⟨by omega, ⟨g, hn.symm, rfl, hv.rok⟩, by decide +kernel⟩
    · have c2' : (d.q % 4 = 2) = False := eq_false c2
      have hlb : b < g.length := by omega
      have hat := rowsC_at hlb
      have hgd : g[b]?.getD nilRw = g[b] := by simp [hlb]
      have rok := hv.rok _ (List.getElem_mem hlb)
      generalize g[b] = r at hat hgd rok
      simp -implicitDefEqProofs [-Bool.exists_bool, and_assoc, gdoneSpec, gdownSpec, geraseSpec, gsetSpec, gupSpec, Tryd.f22, gupSpec, gdownSpec, turn2Spec, deC, hn, hO, nz, nz', wt, wl, wc, e1, wnt, e2, wtb, e4, e5, e6, e7, wz, k4, k5, k6, w4, w6, w7, hr0, gl0, sC, sX, so, hs, c', c1', c2', hat, hgd, rowOf_C, rowsV, styV]
      exact ⟨by omega, by omega, g, hn.symm, rfl, hv.rok, rok⟩
end Fen

namespace Fen
open Go Go.Proofs

theorem typed_deed {d : Nat} {p : List C} (h : Typed T d 58 p) : ∃ x : De, p = deC x ∧ x.ok := by
  obtain ⟨d', parts, rfl, hk⟩ := typed_struct T_58 h
  match parts, hk with
  | [p0, p1, p2, p3, p4], ⟨h0, h1, h2, h3, h4, _⟩ =>
    obtain ⟨a, rfl, qa⟩ := typed_u8 h0
    obtain ⟨b, rfl, qb⟩ := typed_u8 h1
    obtain ⟨c, rfl, qc⟩ := typed_u8 h2
    obtain ⟨e, rfl, qe⟩ := typed_u8 h3
    obtain ⟨f, rfl, qf⟩ := typed_u8 h4
    exact ⟨⟨a, b, c, e, f⟩, rfl, qa, qb, qc, qe, qf⟩
theorem arg_deeds {A : V} (h : TypedV T 54 A) : ∃ l : List De, A = .c (.sl l.length (l.flatMap deC)) ∧ ∀ d ∈ l, d.ok := by
  obtain ⟨l, rfl, hl, ql⟩ := arg_slice_of (Q := De.ok) (en := deC) T_54 (fun d p h => typed_deed h) h
  exact ⟨l, rfl, ql⟩
theorem arg_u8x3 {A : V} (h : TypedV T 78 A) : ∃ a b c : Int, A = .agg [.int .u8 a, .int .u8 b, .int .u8 c] ∧ (0 ≤ a ∧ a < 256) ∧ (0 ≤ b ∧ b < 256) ∧ 0 ≤ c ∧ c < 256 := by
  obtain ⟨d, ks, rfl, hk0⟩ := arg_agg T_78 rfl h
  obtain ⟨d', parts, rfl, hl, hk⟩ := typed_array T_78 hk0
  match parts, hl with
  | [p0, p1, p2], _ =>
    obtain ⟨a, rfl, qa⟩ := typed_u8 (hk p0 (by simp))
    obtain ⟨b, rfl, qb⟩ := typed_u8 (hk p1 (by simp))
    obtain ⟨c, rfl, qc⟩ := typed_u8 (hk p2 (by simp))
    exact ⟨a, b, c, rfl, qa, qb, qc⟩
theorem typed_u16 {d : Nat} {p : List C} (h : Typed T d 62 p) : ∃ n, p = [.int .u16 n] ∧ 0 ≤ n ∧ n < 65536 := by
  obtain ⟨n, rfl, q⟩ := typed_int T_62 h
  refine ⟨n, rfl, ?_⟩
  simp [IntKind.min, IntKind.max, IntKind.signed, IntKind.bits] at q
  omega
theorem arg_u16x3 {A : V} (h : TypedV T 63 A) : ∃ a b c : Int, A = .agg [.int .u16 a, .int .u16 b, .int .u16 c] ∧ (0 ≤ a ∧ a < 65536) ∧ (0 ≤ b ∧ b < 65536) ∧ 0 ≤ c ∧ c < 65536 := by
  obtain ⟨d, ks, rfl, hk0⟩ := arg_agg T_63 rfl h
  obtain ⟨d', parts, rfl, hl, hk⟩ := typed_array T_63 hk0
  match parts, hl with
  | [p0, p1, p2], _ =>
    obtain ⟨a, rfl, qa⟩ := typed_u16 (hk p0 (by simp))
    obtain ⟨b, rfl, qb⟩ := typed_u16 (hk p1 (by simp))
    obtain ⟨c, rfl, qc⟩ := typed_u16 (hk p2 (by simp))
    exact ⟨a, b, c, rfl, qa, qb, qc⟩
end Fen

namespace Fen
open Go Go.Proofs

theorem back_facts {w n : Nat} {g : List Rw} (h : GV w n g) {t b k : Nat} {s : Sty} (ht : t ≤ b) (hb : b < n) (hk : k ≤ b + 1 - t) (hs : styF s = 0) :
    ∃ U W B, turnF true g t b k s = (U, W, 0) ∧ turnF false U t b k s = (B, List.replicate k (blankRow w s), 0) ∧ GV w n U ∧ GV w n B ∧ W.length = k ∧ RowsFin W ∧ W ++ (U.drop t).take (b + 1 - k - t) = (g.drop t).take (b + 1 - t) ∧
      (B.drop t).take k = List.replicate k (blankRow w s) ∧ g.take t ++ (List.replicate k (blankRow w s) ++ g.drop (t + k)) = B ∧ (U.drop (b + 1 - k)).take k = List.replicate k (blankRow w s) := by
  have hl := h.len
  have hm : min (k : Int).toNat (b + 1 - t) = k := by simp; omega
  obtain ⟨u1, u2, u3, u4⟩ := turn_valid h true (m := k) ht hb (by omega) hs
  rw [hm] at u1 u2 u3 u4
  have hrl := region_len (g := g) (t := t) (b := b + 1) (by omega)
  have hil : (isF true (regionF g t (b + 1)) k (blankRow w s)).length = b + 1 - t := by rw [isF_len (by omega), hrl]
  have hmid := layF_mid (l := g) (s := isF true (regionF g t (b + 1)) k (blankRow w s)) (t := t) (by omega)
  rw [hil] at hmid
  have hmem : ∀ r ∈ wentF true (regionF g t (b + 1)) k, r ∈ g := fun r hr => region_mem (List.mem_of_mem_take (by simpa [wentF] using hr))
  obtain ⟨U, hU⟩ : ∃ U, layF g t (isF true (regionF g t (b + 1)) k (blankRow w s)) = U := ⟨_, rfl⟩
  rw [hU] at u1 u2 u3 u4 hmid
  have ul := u2.len
  obtain ⟨v1, v2, v3, v4⟩ := turn_valid u2 false (m := k) ht hb (by omega) hs
  rw [hm] at v1 v2 v3 v4
  have hreg : regionF U t (b + 1) = isF true (regionF g t (b + 1)) k (blankRow w s) := hmid
  rw [hreg] at v1 v2 v3 v4
  generalize hL : regionF g t (b + 1) = L at *
  have eI : isF true L k (blankRow w s) = L.drop k ++ List.replicate k (blankRow w s) := by simp [isF]
  have e1 : wentF false (isF true L k (blankRow w s)) k = List.replicate k (blankRow w s) := by
    simp only [wentF, Bool.false_eq_true, if_false, eI]
    rw [List.drop_left' (by simp)]
  have e2 : isF false (isF true L k (blankRow w s)) k (blankRow w s) = List.replicate k (blankRow w s) ++ L.drop k := by
    rw [eI]
    simp only [isF, Bool.false_eq_true, if_false]
    rw [List.take_left' (by simp)]
  rw [e1, e2] at v1
  rw [e2] at v2 v3 v4
  obtain ⟨B, hB⟩ : ∃ B, layF U t (List.replicate k (blankRow w s) ++ L.drop k) = B := ⟨_, rfl⟩
  rw [hB] at v1 v2 v3 v4
  have eW : wentF true L k = L.take k := by simp [wentF]
  have hUd : U.drop t = (L.drop k ++ List.replicate k (blankRow w s)) ++ g.drop (b + 1) := by
    have q : U.drop t = (U.drop t).take (b + 1 - t) ++ (U.drop t).drop (b + 1 - t) := (List.take_append_drop _ _).symm
    rw [q, hmid, eI, List.drop_drop, show t + (b + 1 - t) = b + 1 by omega, u4]
  have hBd : B.drop t = (List.replicate k (blankRow w s) ++ L.drop k) ++ g.drop (b + 1) := by
    have q := layF_mid (l := U) (s := List.replicate k (blankRow w s) ++ L.drop k) (t := t) (by omega)
    rw [hB] at q
    have ql : (List.replicate k (blankRow w s) ++ L.drop k).length = b + 1 - t := by simp; omega
    rw [ql] at q
    have q2 : B.drop t = (B.drop t).take (b + 1 - t) ++ (B.drop t).drop (b + 1 - t) := (List.take_append_drop _ _).symm
    rw [q2, q, List.drop_drop, show t + (b + 1 - t) = b + 1 by omega, v4, u4]
  refine ⟨U, _, B, u1, v1, u2, v2, went_len (by omega), rowsFin_of (by rw [went_len (by omega)]; have := h.n40; omega) fun r hr => row_lt (h.rows r (hmem r hr)).1, ?_, ?_, ?_, ?_⟩
  · rw [eW, hUd, List.append_assoc, List.take_left' (by simp; omega), List.take_append_drop, ← hL]; rfl
  · rw [hBd, List.append_assoc, List.take_left' (by simp)]
  · have q : B = B.take t ++ B.drop t := (List.take_append_drop _ _).symm
    rw [q, v3, u3, hBd, List.append_assoc]
    congr 2
    have e3 : g.drop t = (g.drop t).take (b + 1 - t) ++ g.drop (b + 1) := by
      conv => lhs; rw [← List.take_append_drop (b + 1 - t) (g.drop t)]
      rw [List.drop_drop, show t + (b + 1 - t) = b + 1 by omega]
    have q3 : g.drop (t + k) = ((g.drop t).take (b + 1 - t)).drop k ++ g.drop (b + 1) := by
      rw [← List.drop_drop]
      conv => lhs; rw [e3]
      rw [List.drop_append_of_le_length (by simp; omega)]
    rw [q3, ← hL]; rfl
  · have q : U.drop (b + 1 - k) = (U.drop t).drop (b + 1 - k - t) := by rw [List.drop_drop]; congr 1; omega
    rw [q, hUd, List.append_assoc, List.drop_left' (by simp; omega), List.take_left' (by simp)]

theorem back_arith {n t b k : Nat} (h1 : t ≤ b) (h2 : b < n) (h3 : k ≤ b + 1 - t) (h4 : n ≤ 40) :
    (k * 32 ≤ 140737488355328 ∧ k ≤ 9223372036854775807 ∧ min (b + 1 - k - t) (n - t) * 2 = (b + 1 - k - t) * 2 ∧ (k + (b + 1 - k - t)) * 32 ≤ 140737488355328 ∧ k + (b + 1 - k - t) ≤ 9223372036854775807 ∧ 0 < n) ∧
    (t ≤ n ∧ min t n * 2 = t * 2 ∧ t * 32 ≤ 140737488355328 ∧ t ≤ 9223372036854775807 ∧ (t : Int) ≤ (t : Int) + k ∧ (t + k) * 32 ≤ 140737488355328 ∧ t + k ≤ 9223372036854775807 ∧ 0 ≤ (t : Int) + k) ∧
    ((t + k + (n - (t + k))) * 32 ≤ 140737488355328 ∧ t + k + (n - (t + k)) ≤ 9223372036854775807 ∧ t + k + (n - (t + k)) = n ∧ (k : Int) ≤ (b : Int) + 1 ∧ (b : Int) + 1 - k ≤ (b : Int) + 1 ∧ k + (b + 1 - k - t) = b + 1 - t) := by
  refine ⟨⟨?_, ?_, ?_, ?_, ?_, ?_⟩, ⟨?_, ?_, ?_, ?_, ?_, ?_, ?_, ?_⟩, ?_, ?_, ?_, ?_, ?_, ?_⟩ <;> omega
theorem back_len {g : List Rw} {n t b : Nat} (gl : g.length = n) (h1 : t ≤ b) (h2 : b < n) : b + 1 - t = ((g.drop t).take (b + 1 - t)).length := by simp [gl]; omega
def b4 : Sty := ⟨4, 0, 0, 0, 0, 0, 0, 0⟩
theorem b4_C : C.int .i64 4 :: (styC sty0).tail = styC b4 := rfl
def lawBackSpec : Spec := { pre := fun args => ∃ (c : Int) (L : List Dr) (a0 a1 a2 : Int), args = [.agg [.int .u8 c, .sl L.length (L.flatMap drC)], .agg [.int .u8 a0, .int .u8 a1, .int .u8 a2]] ∧ 0 ≤ c ∧ c < 256 ∧ (∀ d ∈ L, d.ok) ∧ (0 ≤ a0 ∧ a0 < 256) ∧ (0 ≤ a1 ∧ a1 < 256) ∧ 0 ≤ a2 ∧ a2 < 256, res := fun _ => .one (.val (.c (.bool true))) }
def backS (g U W B BL : List Rw) (n t b k : Nat) : St :=
  ⟨179, [(5, .val (.sl n (rowsC g))), (6, .val (.int .i64 t)), (7, .val (.int .i64 b)), (8, .val (.int .i64 k)), (9, .ptr 0 0 0), (10, .val (.sl n (rowsC U))), (11, .val (.sl k (rowsC W))), (13, .val (.sl n (rowsC B))), (14, .val (.sl k (rowsC BL)))], [.box 32 ((styC b4).map .val)]⟩
def G_lawBack : Specs := [(17, gworksSpec), (20, dgridSpec), (13, gupSpec), (15, gdownSpec), (25, gnewSpec), (16, samesSpec)]
@[simp] theorem G_lawBack_live : Specs.live G_lawBack = false := rfl
@[simp] theorem G_lawBack_17 : G_lawBack.find 17 = some gworksSpec := rfl
@[simp] theorem G_lawBack_20 : G_lawBack.find 20 = some dgridSpec := rfl
@[simp] theorem G_lawBack_13 : G_lawBack.find 13 = some gupSpec := rfl
@[simp] theorem G_lawBack_15 : G_lawBack.find 15 = some gdownSpec := rfl
@[simp] theorem G_lawBack_25 : G_lawBack.find 25 = some gnewSpec := rfl
@[simp] theorem G_lawBack_16 : G_lawBack.find 16 = some samesSpec := rfl
theorem G_lawBack_ok : SpecsOK Tryd.prog glW G_lawBack := .cons gworks_sound (.cons (dgrid_sound glW) (.cons gup_sound (.cons gdown_sound (.cons (gnew_sound glW) (.cons (sames_sound glW) (.nil _ _))))))
set_option maxHeartbeats 8000000 in
set_option maxRecDepth 10000 in
theorem lawBack_sound : Sound Tryd.prog glW 8 lawBackSpec := by
  refine sound_awp (N := Tryd.f8.ntmps) (rs := Tryd.f8.results.toList) tok Tryd.func8 rfl rfl rfl rfl rfl ?_ ?_ ?_
  · rintro args ⟨c,L,a0,a1,a2,rfl,h0,h1,hL,⟨p0,p1⟩,⟨q0,q1⟩,r0,r1⟩; simp [Tryd.f8]
  · rintro args ⟨c,L,a0,a1,a2,rfl,h0,h1,hL,⟨p0,p1⟩,⟨q0,q1⟩,r0,r1⟩; simp [lawBackSpec, Tryd.f8]
  · rintro args ⟨c,L,a0,a1,a2,rfl,h0,h1,hL,⟨p0,p1⟩,⟨q0,q1⟩,r0,r1⟩ bs hgl hh hro
    have hE : Env.OK ⟨Tryd.prog, T, G_lawBack, bs⟩ := ⟨tok, by rw [hgl]; exact G_lawBack_ok⟩
    have eL : ∃ x : List Dr, L.length = x.length ∧ L.flatMap drC = x.flatMap drC ∧ ∀ d ∈ x, d.ok := ⟨L, rfl, rfl, hL⟩
    have hV := GV.grid c L
    obtain ⟨w, hw⟩ : ∃ w, 2 + c.toNat % 79 = w := ⟨_, rfl⟩
    obtain ⟨n, hn⟩ : ∃ n, manyG L = n := ⟨_, rfl⟩
    rw [hw, hn] at hV
    obtain ⟨g, hD⟩ : ∃ D, gridD c L = D := ⟨_, rfl⟩
    rw [hD] at hV
    have gl := hV.len
    have n1 := hV.n1
    have n40 := hV.n40
    have hw2 := hV.w2
    have hs : styF b4 = 0 := by decide
    have so : b4.ok := ⟨by decide, by decide⟩
    obtain ⟨t, ht, ht2⟩ : ∃ t : Nat, a0 % n = t ∧ t < n := by
      have := Int.emod_nonneg a0 (show (n : Int) ≠ 0 by omega)
      have := Int.emod_lt_of_pos a0 (show 0 < (n : Int) by omega)
      exact ⟨(a0 % n).toNat, by omega, by omega⟩
    obtain ⟨b, hb, hb2, hb3⟩ : ∃ b : Nat, a1 % ((n - t : Nat) : Int) = ((b - t : Nat) : Int) ∧ t ≤ b ∧ b < n := by
      have := Int.emod_nonneg a1 (show ((n - t : Nat) : Int) ≠ 0 by omega)
      have := Int.emod_lt_of_pos a1 (show 0 < ((n - t : Nat) : Int) by omega)
      exact ⟨t + (a1 % ((n - t : Nat) : Int)).toNat, by omega, by omega, by omega⟩
    obtain ⟨q, hq⟩ : ∃ q, b + 1 = q := ⟨_, rfl⟩
    obtain ⟨d, hd⟩ : ∃ d, q - t = d := ⟨_, rfl⟩
    obtain ⟨k, hk, hk2⟩ : ∃ k : Nat, (if (d : Int) < a2 % 14 then (d : Int) else a2 % 14) = k ∧ k ≤ d := by
      have := Int.emod_nonneg a2 (show (14 : Int) ≠ 0 by decide)
      refine ⟨(if (d : Int) < a2 % 14 then (d : Int) else a2 % 14).toNat, ?_, ?_⟩ <;> split <;> omega
    obtain ⟨U, W, B, e1, e2, hU, hB, wl, wF, f1, f2, f3, f4⟩ := back_facts hV (k := k) hb2 hb3 (by omega) hs
    obtain ⟨hd0, hr0, gl0⟩ := headG hV
    obtain ⟨⟨A1, A2, A3, A4, A5, A6⟩, ⟨B1, B2, B3, B4, B5, B6, B7, B8⟩, C1, C2, C3, C4, C5, C6⟩ := back_arith hb2 hb3 (show k ≤ b + 1 - t by omega) n40
    have lR0 := back_len gl hb2 hb3
    have fR0 : RowsFin ((g.drop t).take (b + 1 - t)) := rowsFin_of (by omega) fun r hr => hV.fin.2 r (List.mem_of_mem_drop (List.mem_of_mem_take hr))
    have fBL0 : RowsFin (List.replicate k (blankRow w b4)) := rowsFin_of (by simp; omega) fun r hr => by
      rw [List.eq_of_mem_replicate hr]
      exact blankRow_len (by omega)
    have lBL0 : k = (List.replicate k (blankRow w b4)).length := by simp
    have fB := hB.fin
    have wa0 : IntKind.i64.wrap a0 = a0 := wrap64 _ (by omega) (by omega)
    have wa1 : IntKind.i64.wrap a1 = a1 := wrap64 _ (by omega) (by omega)
    have m0 := u8_mod p0 (n : Int)
    rw [ht] at m0
    have wnt : IntKind.i64.wrap ((n : Int) - t) = ((n - t : Nat) : Int) := by rw [wrap64 _ (by omega) (by omega)]; omega
    have m1 := u8_mod q0 ((n - t : Nat) : Int)
    rw [hb] at m1
    have wtb : IntKind.i64.wrap ((t : Int) + ((b - t : Nat) : Int)) = (b : Int) := by rw [wrap64 _ (by omega) (by omega)]; omega
    have m2 := u8_mod r0 14
    have k2 : IntKind.u8.wrap (a2 % 14) = a2 % 14 := by simp [IntKind.wrap, IntKind.signed, IntKind.bits]; omega
    have w2 : IntKind.i64.wrap (a2 % 14) = a2 % 14 := wrap64 _ (by omega) (by omega)
    have wbt : IntKind.i64.wrap ((b : Int) - t) = (b : Int) - t := wrap64 _ (by omega) (by omega)
    have wd : IntKind.i64.wrap ((b : Int) - t + 1) = (d : Int) := by rw [wrap64 _ (by omega) (by omega)]; omega
    have nz : ¬ n - t = 0 := by omega
    have nz' : ¬ n = 0 := by omega
    have gO : ∃ x : List Rw, n = x.length ∧ g = x ∧ RowsOK x := ⟨g, gl.symm, rfl, hV.rok⟩
    have ul := hU.len
    have bl := hB.len
    have uO : ∃ x : List Rw, n = x.length ∧ U = x ∧ RowsOK x := ⟨U, ul.symm, rfl, hU.rok⟩
    have wb1 : IntKind.i64.wrap ((b : Int) + 1) = (b : Int) + 1 := wrap64 _ (by omega) (by omega)
    have wbk : IntKind.i64.wrap ((b : Int) + 1 - k) = (b : Int) + 1 - k := wrap64 _ (by omega) (by omega)
    have tbk : (t : Int) ≤ (b : Int) + 1 - k ∧ (b : Int) + 1 - k ≤ n := by omega
    have nbk : ((b : Int) + 1 - k).toNat = b + 1 - k := by omega
    have ntb : ((b : Int) + 1).toNat = b + 1 := by omega
    have wtk : IntKind.i64.wrap ((t : Int) + k) = (t : Int) + k := wrap64 _ (by omega) (by omega)
    have ntk : ((t : Int) + k).toNat = t + k := by omega
    have ltk : (t : Int) + k ≤ n := by omega
    have lb1 : (t : Int) ≤ (b : Int) + 1 ∧ (b : Int) + 1 ≤ n := by omega
    have tkk : t + k - t = k := by omega
    have bkk : b + 1 - (b + 1 - k) = k := by omega
    obtain ⟨kk, hkk, hkk1⟩ : ∃ kk : Nat, (if (k : Int) < 1 then (1 : Int) else k) = kk ∧ kk = max k 1 := ⟨max k 1, by split <;> omega, rfl⟩
    have hnew : newGF (w : Int) (kk : Int) b4 = (List.replicate kk (blankRow w b4), 0) := by
      unfold newGF
      rw [if_neg (by omega), if_neg (by simp [hs])]
      simp
    obtain ⟨R, hR0⟩ : ∃ R, (g.drop t).take (b + 1 - t) = R := ⟨_, rfl⟩
    obtain ⟨BL, hBL⟩ : ∃ BL, List.replicate k (blankRow w b4) = BL := ⟨_, rfl⟩
    rw [hR0] at f1 lR0 fR0
    rw [hBL] at e2 f2 f3 f4 lBL0 fBL0
    have hkk2 : k ≤ kk := by rw [hkk1]; exact Nat.le_max_left ..
    have hR : List.take ((b + 1 - t) * 2) (List.drop (t * 2) (rowsC g)) = rowsC R := by rw [rowsC_drop, rowsC_take, hR0]
    have hUr : List.take ((b + 1 - k - t) * 2) (List.drop (t * 2) (rowsC U)) = rowsC ((U.drop t).take (b + 1 - k - t)) := by rw [rowsC_drop, rowsC_take]
    have hAll : rowsC W ++ rowsC ((U.drop t).take (b + 1 - k - t)) = rowsC R := by rw [← rowsC_app, f1]
    have hBr : List.take (k * 2) (List.drop (t * 2) (rowsC B)) = rowsC BL := by rw [rowsC_drop, rowsC_take, f2]
    have hKr : List.take (k * 2) (rowsC (List.replicate kk (blankRow w b4))) = rowsC BL := by rw [rowsC_take, ← hBL, List.take_replicate, Nat.min_eq_left hkk2]
    have hUk : List.take (k * 2) (List.drop ((b + 1 - k) * 2) (rowsC U)) = rowsC BL := by rw [rowsC_drop, rowsC_take, f4]
    have hGt : List.take (t * 2) (rowsC g) = rowsC (g.take t) := rowsC_take ..
    have nntk : ((n : Int) - ((t : Int) + k)).toNat = n - (t + k) := by omega
    have nbb : ((b : Int) + 1 - ((b : Int) + 1 - k)).toNat = k := by omega
    have hGd : List.take ((n - (t + k)) * 2) (List.drop ((t + k) * 2) (rowsC g)) = rowsC (g.drop (t + k)) := by rw [rowsC_drop, rowsC_take, List.take_of_length_le (by simp [gl])]
    have hWant : rowsC (g.take t) ++ (rowsC BL ++ rowsC (g.drop (t + k))) = rowsC B := by rw [← rowsC_app, ← rowsC_app, f3]
    have sX : X.val (C.int .i64 4) :: (List.map X.val (styC sty0)).tail = List.map X.val (styC b4) := rfl
    have lBL' : BL.length = k := lBL0.symm
    refine wpcU_ok hE mixed 12 _ _ _ ?_
    simp -implicitDefEqProofs [-Bool.exists_bool, and_assoc, lawBackSpec, dgridSpec, gdownSpec, gnewSpec, gupSpec, gworksSpec, samesSpec, Tryd.f8, gupSpec, gdownSpec, turn2Spec, h0, h1, eL, drsOf_C, hD, gl, ul, bl, wa0, m0, ht, wnt, wa1, m1, wtb, m2, k2, w2, wbt, wd, hk, nz, nz', gO, uO, b4_C, sX, so, e1, e2, wl, lBL', rowsOf_C, rowsV, styV]
    repeat (refine And.intro (by decide +kernel) ?_)
    refine AWP.weaken (Weak.ren (r' := (backS g U W B BL n t b k).r) (h' := (backS g U W B BL n t b k).h) [some 2] (baseOK.nil hh) (by simp) (by simp [backS]) (by simp [backS])) ?_
    refine wpc_ok hE mixed _ _ _ ?_
    simp -implicitDefEqProofs [-Bool.exists_bool, backS, and_assoc, dgridSpec, gdownSpec, gnewSpec, gupSpec, gworksSpec, samesSpec, hr0, gl0, gl, ul, bl, lBL', so, wl, wb1, wbk, tbk, nbk, ntb, wtk, ntk, ltk, lb1, tkk, bkk, hkk, hkk2, hnew, hR, hUr, hAll, hBr, hKr, hUk, hGt, nntk, nbb, hGd, hWant, rowsOf_C, rowsV, styV]
    exact ⟨A1, A2, A3, A4, A5, by decide +kernel, A6, by decide +kernel, ⟨R, C6.trans lR0, rfl, lR0, fR0⟩, ⟨BL, lBL0, rfl, fBL0⟩, B5, ⟨BL, lBL0, rfl, fBL0⟩, by decide +kernel, B1, B2, B3, B4, B5, B6, B7, by decide +kernel, B8, C1, C2, ⟨B, bl.symm, rfl, C3, fB⟩, C4, C5, ⟨BL, lBL0, rfl, fBL0⟩, by decide +kernel⟩
end Fen
