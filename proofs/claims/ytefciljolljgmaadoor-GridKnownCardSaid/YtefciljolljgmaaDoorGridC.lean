/- A part of the proof; no statement is proved here: GGridM, GGridN, GGridO, GGridU, GGridLh. -/
import Derived.Test.YtefciljolljgmaaDoorGridB

set_option linter.unusedVariables false
set_option linter.unusedSimpArgs false

namespace Fen
open Go Go.Proofs

/-! ### valid grids stay valid -/
structure Kept (r x : Rw) : Prop where
  ok : rowF x = 0
  len : x.cells.length = r.cells.length
  wr : x.wrapped = true → r.wrapped = true
theorem Kept.self {r : Rw} (h : rowF r = 0) : Kept r r := ⟨h, rfl, id⟩
theorem Kept.of {r : Rw} {l : List Cel} {w : Bool} (h : rowF r = 0) (hl : l.length = r.cells.length) (hv : VL l) (hw : w = true → r.wrapped = true) : Kept r ⟨l, w⟩ := by
  obtain ⟨h2, h8, _⟩ := row_len h
  exact ⟨rowF_of (by omega) (by omega) hv, hl, hw⟩
theorem kept_erase {r : Rw} {a b : Int} {s : Sty} (h : rowF r = 0) (h0 : 0 ≤ a) (h1 : a ≤ b) (h2 : b ≤ r.cells.length) (hs : styF s = 0) : (eraseRowF r a b s).2 = 0 ∧ Kept r (eraseRowF r a b s).1 := by
  rw [eraseRow_ok h h0 h1 h2 hs]
  split
  · exact ⟨rfl, Kept.self h⟩
  · have hv := (row_len h).2.2
    obtain ⟨k1, k2, k3, _⟩ := lo_hi (chain_val hv) (a := a.toNat) (b := b.toNat) (by omega) (by omega)
    exact ⟨rfl, Kept.of h (erase_len s (by omega) k3) (VL.erase hv (by omega) (by omega) hs) (fun q => by simp at q; exact q.1)⟩

/-- a valid grid of n rows of w cells -/
structure GV (w n : Nat) (g : List Rw) : Prop where
  len : g.length = n
  n1 : 1 ≤ n
  n40 : n ≤ 40
  rows : ∀ r ∈ g, rowF r = 0 ∧ r.cells.length = w
section
variable {w n : Nat} {g : List Rw}
theorem GV.ne (h : GV w n g) : g ≠ [] := by
  rintro rfl
  have h1 := h.len
  have h2 := h.n1
  simp at h1
  omega
theorem GV.cols (h : GV w n g) : colsG g = w := by
  have h1 := h.ne
  match g, h1 with
  | [], h1 => exact absurd rfl h1
  | r :: g, _ => exact (h.rows r (List.mem_cons_self ..)).2
theorem GV.valid (h : GV w n g) : gridF g = 0 := by
  unfold gridF
  have h1 := h.len
  have h2 := h.n1
  have h3 := h.n40
  rw [if_neg (by omega), if_pos]
  rw [h.cols]
  simp only [okRows, List.all_eq_true, Bool.and_eq_true, decide_eq_true_eq]
  intro r hr
  have := h.rows r hr
  exact ⟨by omega, this.1⟩
theorem GV.of (h : gridF g = 0) : GV (colsG g) g.length g := by
  obtain ⟨h1, h2, h3⟩ := gridF_ok h
  exact ⟨rfl, h1, h2, fun r hr => by have := okRows_RowsOK h3 r hr; exact ⟨this.1, by omega⟩⟩
theorem GV.grid (c : Int) (L : List Dr) : GV (2 + c.toNat % 79) (manyG L) (gridD c L) :=
  ⟨grid_len c L, (many_le L).1, by have := (many_le L).2; omega, fun r hr => by
    simp only [gridD, List.mem_map] at hr
    obtain ⟨i, _, rfl⟩ := hr
    exact ⟨draft_ok _ _ _, draft_len _ _ _⟩⟩
theorem GV.w2 (h : GV w n g) : 2 ≤ w ∧ w ≤ 80 := by
  have h1 := h.ne
  match g, h1 with
  | [], h1 => exact absurd rfl h1
  | r :: g, _ =>
    obtain ⟨q1, q2⟩ := h.rows r (List.mem_cons_self ..)
    have := row_len q1
    omega
theorem GV.rok (h : GV w n g) : RowsOK g := fun r hr => row_okF (h.rows r hr).1
theorem GV.fin (h : GV w n g) : RowsFin g := rowsFin_of (by have := h.len; have := h.n40; omega) fun r hr => row_lt (h.rows r hr).1
end
theorem blankRow_ok {w : Nat} {s : Sty} (h : 2 ≤ w ∧ w ≤ 80) (hs : styF s = 0) : rowF (blankRow w s) = 0 ∧ (blankRow w s).cells.length = w :=
  ⟨rowF_of (by simp; omega) (by simp; omega) (VL.blanks hs w), by simp [blankRow]⟩
theorem isF_len {up : Bool} {L : List Rw} {m : Nat} {r : Rw} (hm : m ≤ L.length) : (isF up L m r).length = L.length := by
  cases up <;> simp [isF] <;> omega
theorem isF_mem {up : Bool} {L : List Rw} {m : Nat} {r x : Rw} (h : x ∈ isF up L m r) : x ∈ L ∨ x = r := by
  cases up
  · simp only [isF, Bool.false_eq_true, if_false, List.mem_append] at h
    rcases h with h | h
    · exact .inr (List.eq_of_mem_replicate h)
    · exact .inl (List.mem_of_mem_take h)
  · simp only [isF, if_true, List.mem_append] at h
    rcases h with h | h
    · exact .inl (List.mem_of_mem_drop h)
    · exact .inr (List.eq_of_mem_replicate h)
theorem layF_take {l s : List Rw} {t : Nat} (h : t ≤ l.length) : (layF l t s).take t = l.take t := by
  unfold layF
  rw [List.append_assoc, List.take_left' (by simp; omega)]
theorem layF_drop {l s : List Rw} {t : Nat} (h : t + s.length ≤ l.length) : (layF l t s).drop (t + s.length) = l.drop (t + s.length) := by
  unfold layF
  rw [List.drop_left' (by simp; omega)]
theorem layF_mid {l s : List Rw} {t : Nat} (h : t ≤ l.length) : ((layF l t s).drop t).take s.length = s := by
  unfold layF
  rw [List.append_assoc, List.drop_left' (by simp; omega), List.take_left' rfl]
theorem layF_mem {l s : List Rw} {t : Nat} {x : Rw} (h : x ∈ layF l t s) : x ∈ l ∨ x ∈ s := by
  simp only [layF, List.mem_append] at h
  rcases h with (h | h) | h
  · exact .inl (List.mem_of_mem_take h)
  · exact .inr h
  · exact .inl (List.mem_of_mem_drop h)
theorem region_len {g : List Rw} {t b : Nat} (hb : b ≤ g.length) : (regionF g t b).length = b - t := by simp [regionF]; omega
theorem region_mem {g : List Rw} {t b : Nat} {x : Rw} (h : x ∈ regionF g t b) : x ∈ g := List.mem_of_mem_drop (List.mem_of_mem_take h)

theorem turn_valid {w n : Nat} {g : List Rw} (h : GV w n g) (up : Bool) {t b : Nat} {m : Int} {s : Sty} (ht : t ≤ b) (hb : b < n) (hm : 0 ≤ m) (hs : styF s = 0) :
    turnF up g t b m s = (layF g t (isF up (regionF g t (b + 1)) (min m.toNat (b + 1 - t)) (blankRow w s)), wentF up (regionF g t (b + 1)) (min m.toNat (b + 1 - t)), 0) ∧
    GV w n (layF g t (isF up (regionF g t (b + 1)) (min m.toNat (b + 1 - t)) (blankRow w s))) ∧
    (layF g t (isF up (regionF g t (b + 1)) (min m.toNat (b + 1 - t)) (blankRow w s))).take t = g.take t ∧
    (layF g t (isF up (regionF g t (b + 1)) (min m.toNat (b + 1 - t)) (blankRow w s))).drop (b + 1) = g.drop (b + 1) := by
  have hl := h.len
  have hrl := region_len (g := g) (t := t) (b := b + 1) (by omega)
  have hil : (isF up (regionF g t (b + 1)) (min m.toNat (b + 1 - t)) (blankRow w s)).length = b + 1 - t := by rw [isF_len (by omega), hrl]
  refine ⟨?_, ⟨?_, h.n1, h.n40, fun r hr => ?_⟩, layF_take (by omega), ?_⟩
  · unfold turnF
    rw [if_neg (by simp [h.valid]), if_neg (by omega), if_neg (by simp [hs]), h.cols]
    simp only [Int.toNat_natCast]
  · rw [layF_len (by rw [hil]; omega)]; exact hl
  · rcases layF_mem hr with q | q
    · exact h.rows r q
    · rcases isF_mem q with q | rfl
      · exact h.rows r (region_mem q)
      · exact blankRow_ok h.w2 hs
  · have := layF_drop (l := g) (s := isF up (regionF g t (b + 1)) (min m.toNat (b + 1 - t)) (blankRow w s)) (t := t) (by rw [hil]; omega)
    rw [hil, show t + (b + 1 - t) = b + 1 by omega] at this
    exact this
theorem went_len {up : Bool} {l : List Rw} {m : Nat} (hm : m ≤ l.length) : (wentF up l m).length = m := by
  cases up <;> simp [wentF] <;> omega
theorem went_up {g : List Rw} {t b m : Nat} (hm : m ≤ b - t) (hb : b ≤ g.length) : wentF true (regionF g t b) m = (g.drop t).take m := by
  simp only [wentF, if_true, regionF, List.take_take]
  rw [Nat.min_eq_left hm]
theorem went_down {g : List Rw} {t b m : Nat} (hm : m ≤ b - t) (hb : b ≤ g.length) (ht : t ≤ b) : wentF false (regionF g t b) m = (g.drop (b - m)).take m := by
  simp only [wentF, Bool.false_eq_true, if_false]
  rw [region_len hb, regionF, List.drop_take, List.drop_drop, show t + (b - t - m) = b - m by omega, show b - t - (b - t - m) = m by omega]

theorem eraseAt_valid {w : Nat} {fr fc tr tc : Int} {s : Sty} {k : Nat} {r : Rw} (hr : rowF r = 0) (hw : r.cells.length = w) (hs : styF s = 0) (h1 : 0 ≤ fc ∧ fc ≤ w) (h2 : 0 ≤ tc ∧ tc ≤ w) (h3 : fr = tr → fc ≤ tc) :
    rowF (eraseAt w fr fc tr tc s k r) = 0 ∧ (eraseAt w fr fc tr tc s k r).cells.length = w := by
  unfold eraseAt
  split
  · obtain ⟨_, q⟩ := kept_erase (r := r) (a := if (k : Int) = fr then fc else 0) (b := if (k : Int) = tr then tc else w) (s := s) hr (by split <;> omega) (by
      by_cases c : (k : Int) = fr <;> by_cases d : (k : Int) = tr <;> simp only [c, d, if_true, if_false]
      · rw [if_pos (by omega)]; exact h3 (by omega)
      · rw [if_neg (by omega)]; omega
      · rw [if_neg (by omega)]; omega
      · omega) (by split <;> omega) hs
    exact ⟨q.ok, by rw [q.len]; exact hw⟩
  · exact ⟨hr, hw⟩
theorem place_iff {g : List Rw} {r c : Int} : placeF g r c = true ↔ (0 ≤ r ∧ r < g.length ∧ 0 ≤ c ∧ c ≤ colsG g) ∨ (r = g.length ∧ c = 0) := by simp [placeF]
theorem erase_valid {w n : Nat} {g : List Rw} (h : GV w n g) {fr fc tr tc : Int} {s : Sty} (p1 : placeF g fr fc = true) (p2 : placeF g tr tc = true) (h1 : fr ≤ tr) (h2 : fr = tr → fc ≤ tc) (hs : styF s = 0) :
    eraseGF g fr fc tr tc s = (eraseTo w fr fc tr tc s g n, 0) ∧ GV w n (eraseTo w fr fc tr tc s g n) := by
  have hl := h.len
  have hw := h.w2
  constructor
  · unfold eraseGF
    rw [if_neg (by simp [h.valid]), if_neg (by simp only [p1, p2]; simp; exact ⟨by omega, h2⟩), if_neg (by simp [hs]), h.cols, hl]
  · refine ⟨by rw [eraseTo_len]; exact hl, h.n1, h.n40, fun r hr => ?_⟩
    simp only [eraseTo, List.mem_mapIdx] at hr
    obtain ⟨i, hi, rfl⟩ := hr
    obtain ⟨q1, q2⟩ := h.rows _ (List.getElem_mem hi)
    rw [place_iff, h.cols] at p1 p2
    rw [if_pos (by omega)]
    exact eraseAt_valid q1 q2 hs (by omega) (by omega) h2
section
variable (w : Nat) (fr fc tr tc : Int) (s : Sty) (l : List Rw)
theorem eraseTo_take' {t : Nat} (h : (t : Int) ≤ fr) (n : Nat) : (eraseTo w fr fc tr tc s l n).take t = l.take t := by
  refine List.ext_getElem (by simp [eraseTo]) fun i h1 h2 => ?_
  simp only [List.getElem_take, eraseTo, List.getElem_mapIdx]
  have : i < t := by simp at h1; omega
  split
  · rw [eraseAt, if_neg (by omega)]
  · rfl
theorem eraseTo_drop' {q : Nat} (h : tr < (q : Int)) (n : Nat) : (eraseTo w fr fc tr tc s l n).drop q = l.drop q := by
  refine List.ext_getElem (by simp [eraseTo]) fun i h1 h2 => ?_
  simp only [List.getElem_drop, eraseTo, List.getElem_mapIdx]
  split
  · rw [eraseAt, if_neg (by omega)]
  · rfl
end
theorem set_valid {w n : Nat} {g : List Rw} (h : GV w n g) {t b : Nat} (ht : t < n) (hb : b < n) : setGF g t (g.getD b nilRw) = (g.set t (g.getD b nilRw), 0) ∧ GV w n (g.set t (g.getD b nilRw)) := by
  have hl := h.len
  have hm : g.getD b nilRw ∈ g := by
    rw [List.getD_eq_getElem?_getD, List.getElem?_eq_getElem (by omega), Option.getD_some]
    exact List.getElem_mem _
  generalize g.getD b nilRw = r at *
  obtain ⟨q1, q2⟩ := h.rows r hm
  constructor
  · unfold setGF
    rw [if_neg (by simp [h.valid]), if_neg (by omega), if_neg (by simp [q1]), if_neg (by rw [h.cols]; simp [q2])]
    simp only [Int.toNat_natCast]
  · refine ⟨by simp [hl], h.n1, h.n40, fun x hx => ?_⟩
    rcases List.mem_or_eq_of_mem_set hx with q | rfl
    · exact h.rows x q
    · exact ⟨q1, q2⟩

/-! ### one operation, chosen by small numbers -/
structure De where
  q : Int
  t : Int
  l : Int
  n : Int
  c : Int
def deC (d : De) : List C := [.int .u8 d.q, .int .u8 d.t, .int .u8 d.l, .int .u8 d.n, .int .u8 d.c]
def deOf : List C → De
  | [.int _ q, .int _ t, .int _ l, .int _ n, .int _ c] => ⟨q, t, l, n, c⟩
  | _ => ⟨0, 0, 0, 0, 0⟩
@[simp] theorem deOf_C (d : De) : deOf (deC d) = d := rfl
@[simp] theorem deC_len (d : De) : (deC d).length = 5 := rfl
@[simp] theorem deC_inj (a b : De) : deC a = deC b ↔ a = b := ⟨fun h => by rw [← deOf_C a, h, deOf_C], fun h => by rw [h]⟩
theorem des_at : ∀ (l : List De) (i : Nat) (h : i < l.length), List.take 5 (List.drop (i * 5) (l.flatMap deC)) = deC l[i]
  | d :: l, 0, _ => by simp [List.take_left' (deC_len d)]
  | d :: l, i + 1, h => by
    rw [List.flatMap_cons, List.drop_append, List.drop_of_length_le (by simp; omega), List.nil_append, deC_len, show (i + 1) * 5 - 5 = i * 5 by omega]
    simpa using des_at l i (by simpa using h)
theorem des_len (l : List De) : (l.flatMap deC).length = l.length * 5 := by
  induction l with
  | nil => rfl
  | cons d l ih => rw [List.flatMap_cons, List.length_append, ih]; simp; omega
def De.ok (d : De) : Prop := (0 ≤ d.q ∧ d.q < 256) ∧ (0 ≤ d.t ∧ d.t < 256) ∧ (0 ≤ d.l ∧ d.l < 256) ∧ (0 ≤ d.n ∧ d.n < 256) ∧ 0 ≤ d.c ∧ d.c < 256
def topG (d : De) (g : List Rw) : Nat := (d.t % g.length).toNat
def botG (d : De) (g : List Rw) : Nat := topG d g + (d.l % ((g.length - topG d g : Nat) : Int)).toNat
def styD (d : De) : Sty := ⟨d.c % 4, 0, 0, 0, 0, 0, 0, 0⟩
def doneG (d : De) (g : List Rw) : List Rw × List Rw × Int :=
  if d.q % 4 = 0 then turnF true g (topG d g) (botG d g) (d.n % 16) (styD d)
  else if d.q % 4 = 1 then turnF false g (topG d g) (botG d g) (d.n % 16) (styD d)
  else if d.q % 4 = 2 then ((eraseGF g (topG d g) (d.c % colsG g) (botG d g) (colsG g) (styD d)).1, [], (eraseGF g (topG d g) (d.c % colsG g) (botG d g) (colsG g) (styD d)).2)
  else ((setGF g (topG d g) (g.getD (botG d g) nilRw)).1, [], (setGF g (topG d g) (g.getD (botG d g) nilRw)).2)
theorem topG_le {d : De} {g : List Rw} (h : g ≠ []) (hd : d.ok) : topG d g ≤ botG d g ∧ botG d g < g.length ∧ d.t % g.length = (topG d g : Int) ∧ d.l % ((g.length - topG d g : Nat) : Int) = ((botG d g - topG d g : Nat) : Int) := by
  have hl : 0 < g.length := List.length_pos_iff.2 h
  obtain ⟨_, ⟨t0, _⟩, ⟨l0, _⟩, _⟩ := hd
  have a1 := Int.emod_nonneg d.t (show (g.length : Int) ≠ 0 by omega)
  have a2 := Int.emod_lt_of_pos d.t (show 0 < (g.length : Int) by omega)
  have ht : d.t % g.length = (topG d g : Int) := by unfold topG; omega
  have htl : topG d g < g.length := by omega
  have b1 := Int.emod_nonneg d.l (show ((g.length - topG d g : Nat) : Int) ≠ 0 by omega)
  have b2 := Int.emod_lt_of_pos d.l (show 0 < ((g.length - topG d g : Nat) : Int) by omega)
  refine ⟨by unfold botG; omega, by unfold botG; omega, ht, ?_⟩
  unfold botG
  omega
theorem styD_ok {d : De} : styF (styD d) = 0 := by
  have h1 := Int.emod_nonneg d.c (show (4 : Int) ≠ 0 by decide)
  have h2 := Int.emod_lt_of_pos d.c (show (0 : Int) < 4 by decide)
  have : d.c % 4 = 0 ∨ d.c % 4 = 1 ∨ d.c % 4 = 2 ∨ d.c % 4 = 3 := by omega
  unfold styD
  rcases this with h | h | h | h <;> rw [h] <;> decide
/-- what an operation leaves as it is, and what it takes away -/
structure Kept13 (w n : Nat) (d : De) (g out went : List Rw) : Prop where
  ok : GV w n out
  top : out.take (topG d g) = g.take (topG d g)
  bot : d.q % 4 ≠ 3 → out.drop (botG d g + 1) = g.drop (botG d g + 1)
  bot3 : d.q % 4 = 3 → out.drop (topG d g + 1) = g.drop (topG d g + 1)
  len : d.q % 4 ≠ 3 → went.length ≤ botG d g - topG d g + 1
  len3 : d.q % 4 = 3 → went.length = 0
  up : d.q % 4 = 0 → went = (g.drop (topG d g)).take went.length
  down : d.q % 4 = 1 → went = (g.drop (botG d g + 1 - went.length)).take went.length
theorem done_kept {w n : Nat} {g : List Rw} {d : De} (h : GV w n g) (hd : d.ok) : ∃ out went, doneG d g = (out, went, 0) ∧ Kept13 w n d g out went := by
  obtain ⟨t1, t2, t3, t4⟩ := topG_le h.ne hd
  have hl := h.len
  have hs := styD_ok (d := d)
  have n0 : 0 ≤ d.n % 16 := Int.emod_nonneg _ (by decide)
  unfold doneG
  by_cases q0 : d.q % 4 = 0
  · rw [if_pos q0]
    obtain ⟨k1, k2, k3, k4⟩ := turn_valid h true t1 (by omega) n0 hs
    have hrl := region_len (g := g) (t := topG d g) (b := botG d g + 1) (by omega)
    have wl := went_len (up := true) (l := regionF g (topG d g) (botG d g + 1)) (m := min (d.n % 16).toNat (botG d g + 1 - topG d g)) (by omega)
    refine ⟨_, _, k1, k2, k3, fun _ => k4, fun q => by omega, fun _ => by omega, fun q => by omega, fun _ => ?_, fun q => by omega⟩
    rw [wl]
    exact went_up (by omega) (by omega)
  rw [if_neg q0]
  by_cases q1 : d.q % 4 = 1
  · rw [if_pos q1]
    obtain ⟨k1, k2, k3, k4⟩ := turn_valid h false t1 (by omega) n0 hs
    have hrl := region_len (g := g) (t := topG d g) (b := botG d g + 1) (by omega)
    have wl := went_len (up := false) (l := regionF g (topG d g) (botG d g + 1)) (m := min (d.n % 16).toNat (botG d g + 1 - topG d g)) (by omega)
    refine ⟨_, _, k1, k2, k3, fun _ => k4, fun q => by omega, fun _ => by omega, fun q => by omega, fun q => by omega, fun _ => ?_⟩
    rw [wl]
    exact went_down (by omega) (by omega) (by omega)
  rw [if_neg q1]
  by_cases q2 : d.q % 4 = 2
  · rw [if_pos q2]
    have hw := h.w2
    have c0 := Int.emod_nonneg d.c (show (w : Int) ≠ 0 by omega)
    have c1 := Int.emod_lt_of_pos d.c (show 0 < (w : Int) by omega)
    obtain ⟨k1, k2⟩ := erase_valid h (fr := topG d g) (fc := d.c % w) (tr := botG d g) (tc := w) (s := styD d) (place_iff.2 (.inl (by rw [h.cols]; omega))) (place_iff.2 (.inl (by rw [h.cols]; omega))) (by omega) (fun _ => by omega) hs
    rw [h.cols, k1]
    exact ⟨_, _, rfl, k2, eraseTo_take' _ _ _ _ _ _ _ (Int.le_refl _) _, fun _ => eraseTo_drop' _ _ _ _ _ _ _ (by omega) _, fun q => by omega, fun _ => by simp, fun q => by omega, fun q => by omega, fun q => by omega⟩
  · rw [if_neg q2]
    obtain ⟨k1, k2⟩ := set_valid h (t := topG d g) (b := botG d g) (by omega) (by omega)
    rw [k1]
    exact ⟨_, _, rfl, k2, by simp [List.take_set_of_le], fun q => by omega, fun _ => by rw [List.drop_set_of_lt (by omega)], fun _ => by simp, fun _ => rfl, fun q => by omega, fun q => by omega⟩
end Fen

namespace Fen
open Go Go.Proofs

theorem rows_slice {g : List Rw} (a b : Nat) : List.take ((b - a) * 2) (List.drop (a * 2) (rowsC g)) = rowsC ((g.drop a).take (b - a)) := by rw [rowsC_drop, rowsC_take]
theorem u8_mod {a : Int} (h0 : 0 ≤ a) (m : Int) : a.tmod m = a % m := Int.tmod_eq_emod_of_nonneg h0
theorem headG {w n : Nat} {g : List Rw} (h : GV w n g) : ∃ r0 : Rw, (rowsC g).head?.getD C.nilf = .sl w (celsC r0.cells) ∧ 0 < g.length := by
  have h1 := h.ne
  match g, h1, h with
  | r :: g, _, h => exact ⟨r, by rw [← (h.rows r (List.mem_cons_self ..)).2]; rfl, by simp⟩

def gdoneSpec : Spec := { pre := fun args => ∃ (d : De) (g : List Rw), args = [.agg (deC d), rowsV g] ∧ d.ok ∧ gridF g = 0, res := fun args => match args with
  | [.agg d, .c (.sl _ cs)] => .many [.val (rowsV (doneG (deOf d) (rowsOf cs)).1), .val (rowsV (doneG (deOf d) (rowsOf cs)).2.1), .val (.c (.int .i64 (doneG (deOf d) (rowsOf cs)).2.2))]
  | _ => .many [] }
def G_gdone : Specs := [(13, gupSpec), (15, gdownSpec), (18, geraseSpec), (29, gsetSpec)]
@[simp] theorem G_gdone_live : Specs.live G_gdone = false := rfl
@[simp] theorem G_gdone_13 : G_gdone.find 13 = some gupSpec := rfl
@[simp] theorem G_gdone_15 : G_gdone.find 15 = some gdownSpec := rfl
@[simp] theorem G_gdone_18 : G_gdone.find 18 = some geraseSpec := rfl
@[simp] theorem G_gdone_29 : G_gdone.find 29 = some gsetSpec := rfl
theorem G_gdone_ok : SpecsOK Tryd.prog glW G_gdone := .cons gup_sound (.cons gdown_sound (.cons gerase_sound (.cons gset_sound (.nil _ _))))
set_option maxHeartbeats 8000000 in
set_option maxRecDepth 10000 in
theorem gdone_sound : Sound Tryd.prog glW 22 gdoneSpec := by
  refine sound_fn (N := Tryd.f22.ntmps) (rs := Tryd.f22.results.toList) mixed tok G_gdone_ok Tryd.func22 rfl rfl rfl rfl rfl ?_ ?_ ?_
  · rintro args ⟨d,g,rfl,hd,hg⟩; simp [rowsV,rowsOf_C,deOf_C, Tryd.f22]
  · rintro args ⟨d,g,rfl,hd,hg⟩; simp [rowsV,rowsOf_C,deOf_C, gdoneSpec, Tryd.f22]
  · rintro args ⟨d,g,rfl,hd,hg⟩ bs hgl hh hro
    have hE : Env.OK ⟨Tryd.prog, T, G_gdone, bs⟩ := ⟨tok, by rw [hgl]; exact G_gdone_ok⟩
    simp only [gdoneSpec, rowsV,rowsOf_C,deOf_C]
    have hv := GV.of hg
    obtain ⟨w, hw⟩ : ∃ w, colsG g = w := ⟨_, rfl⟩
    obtain ⟨n, hn⟩ : ∃ n, g.length = n := ⟨_, rfl⟩
    rw [hw, hn] at hv
    have n1 := hv.n1
    have n40 := hv.n40
    have hw2 := hv.w2
    obtain ⟨r0, hr0, gl0⟩ := headG hv
    obtain ⟨t1, t2, t3, t4⟩ := topG_le hv.ne hd
    obtain ⟨⟨q0, q1⟩, ⟨a0, a1⟩, ⟨l0, l1⟩, ⟨m0, m1⟩, c0, c1⟩ := hd
    have hO := exO hv.rok
    obtain ⟨t, ht⟩ : ∃ t, topG d g = t := ⟨_, rfl⟩
    obtain ⟨b, hb⟩ : ∃ b, botG d g = b := ⟨_, rfl⟩
    unfold doneG
    rw [ht] at t1 t3 t4
    rw [hb] at t1 t2 t4
    rw [ht, hb, hw]
    rw [hn] at t2 t3 t4
    obtain ⟨s, hs⟩ : ∃ s, styD d = s := ⟨_, rfl⟩
    have sC : C.int .i64 (d.c % 4) :: (styC sty0).tail = styC s := by rw [← hs]; rfl
    have sX : X.val (C.int .i64 (d.c % 4)) :: (List.map X.val (styC sty0)).tail = List.map X.val (styC s) := by rw [← hs]; rfl
    have so : s.ok := by
      have := Int.emod_nonneg d.c (show (4 : Int) ≠ 0 by decide)
      have := Int.emod_lt_of_pos d.c (show (0 : Int) < 4 by decide)
      rw [← hs]; exact ⟨by show -9223372036854775808 ≤ d.c % 4; omega, by show d.c % 4 ≤ 9223372036854775807; omega⟩
    have wt : IntKind.i64.wrap d.t = d.t := wrap64 _ (by omega) (by omega)
    have wl : IntKind.i64.wrap d.l = d.l := wrap64 _ (by omega) (by omega)
    have wc : IntKind.i64.wrap d.c = d.c := wrap64 _ (by omega) (by omega)
    have e1 := u8_mod a0 (n : Int)
    rw [t3] at e1
    have wnt : IntKind.i64.wrap ((n : Int) - t) = ((n - t : Nat) : Int) := by rw [wrap64 _ (by omega) (by omega)]; omega
    have e2 := u8_mod l0 ((n - t : Nat) : Int)
    rw [t4] at e2
    have wtb : IntKind.i64.wrap ((t : Int) + ((b - t : Nat) : Int)) = (b : Int) := by rw [wrap64 _ (by omega) (by omega)]; omega
    have nz : ¬ n - t = 0 := by omega
    have nz' : ¬ n = 0 := by omega
    have e4 := u8_mod c0 4
    have e5 := u8_mod q0 4
    have e6 := u8_mod m0 16
    have e7 := u8_mod c0 (w : Int)
    have wz : ¬ w = 0 := by omega
    have k4 : IntKind.u8.wrap (d.c % 4) = d.c % 4 := by simp [IntKind.wrap, IntKind.signed, IntKind.bits]; omega
    have k5 : IntKind.u8.wrap (d.q % 4) = d.q % 4 := by simp [IntKind.wrap, IntKind.signed, IntKind.bits]; omega
    have k6 : IntKind.u8.wrap (d.n % 16) = d.n % 16 := by simp [IntKind.wrap, IntKind.signed, IntKind.bits]; omega
    have w4 : IntKind.i64.wrap (d.c % 4) = d.c % 4 := wrap64 _ (by omega) (by omega)
    have w6 : IntKind.i64.wrap (d.n % 16) = d.n % 16 := wrap64 _ (by omega) (by omega)
    have w7 : IntKind.i64.wrap (d.c % w) = d.c % w := by
      have := Int.emod_nonneg d.c (show (w : Int) ≠ 0 by omega)
      have := Int.emod_lt_of_pos d.c (show 0 < (w : Int) by omega)
      exact wrap64 _ (by omega) (by omega)
    by_cases c : d.q % 4 = 0
    · have c' : (d.q % 4 = 0) = True := eq_true c
      simp -implicitDefEqProofs [-Bool.exists_bool, and_assoc, gdoneSpec, gdownSpec, geraseSpec, gsetSpec, gupSpec, Tryd.f22, gupSpec, gdownSpec, turn2Spec, deC, hn, hO, nz, nz', wt, wl, wc, e1, wnt, e2, wtb, e4, e5, e6, k4, k5, k6, w4, w6, hr0, gl0, sC, sX, so, hs, c', rowsV, styV]
      exact ⟨by omega, g, hn.symm, rfl, hv.rok⟩
    have c' : (d.q % 4 = 0) = False := eq_false c
    by_cases c1 : d.q % 4 = 1
    · have c1' : (d.q % 4 = 1) = True := eq_true c1
      simp -implicitDefEqProofs [-Bool.exists_bool, and_assoc, gdoneSpec, gdownSpec, geraseSpec, gsetSpec, gupSpec, Tryd.f22, gupSpec, gdownSpec, turn2Spec, deC, hn, hO, nz, nz', wt, wl, wc, e1, wnt, e2, wtb, e4, e5, e6, k4, k5, k6, w4, w6, hr0, gl0, sC, sX, so, hs, c', c1', rowsV, styV]
      exact ⟨by omega, g, hn.symm, rfl, hv.rok⟩
    have c1' : (d.q % 4 = 1) = False := eq_false c1
    by_cases c2 : d.q % 4 = 2
    · have c2' : (d.q % 4 = 2) = True := eq_true c2
      simp -implicitDefEqProofs [-Bool.exists_bool, and_assoc, gdoneSpec, gdownSpec, geraseSpec, gsetSpec, gupSpec, Tryd.f22, gupSpec, gdownSpec, turn2Spec, deC, hn, hO, nz, nz', wt, wl, wc, e1, wnt, e2, wtb, e4, e5, e6, e7, wz, k4, k5, k6, w4, w6, w7, hr0, gl0, sC, sX, so, hs, c', c1', c2', rowsV, styV]
      exact ⟨by omega, ⟨g, hn.symm, rfl, hv.rok⟩, by decide +kernel⟩
    · have c2' : (d.q % 4 = 2) = False := eq_false c2
      have hlb : b < g.length := by omega
      have hat := rowsC_at hlb
      have hgd : g[b]?.getD nilRw = g[b] := by simp [hlb]
      have rok := hv.rok _ (List.getElem_mem hlb)
      generalize g[b] = r at hat hgd rok
      simp -implicitDefEqProofs [-Bool.exists_bool, and_assoc, gdoneSpec, gdownSpec, geraseSpec, gsetSpec, gupSpec, Tryd.f22, gupSpec, gdownSpec, turn2Spec, deC, hn, hO, nz, nz', wt, wl, wc, e1, wnt, e2, wtb, e4, e5, e6, e7, wz, k4, k5, k6, w4, w6, w7, hr0, gl0, sC, sX, so, hs, c', c1', c2', hat, hgd, rowOf_C, rowsV, styV]
      exact ⟨by omega, by omega, g, hn.symm, rfl, hv.rok, rok⟩
end Fen

namespace Fen
open Go Go.Proofs

/-- the same function; what it returns stays the caller's own -/
def gofOSpec : Spec := { pre := gofSpec.pre, res := fun args => match args with
  | [.c (.sl _ cs)] => .one (.own 27 true 2 (ofG (strsOf cs)).length (rowsC (ofG (strsOf cs))))
  | _ => .many [] }
def G_gofO : Specs := []
@[simp] theorem G_gofO_live : Specs.live G_gofO = false := rfl
theorem G_gofO_ok (gl : Gl) : SpecsOK Tryd.prog gl G_gofO := .nil _ _
set_option maxHeartbeats 4000000 in
set_option maxRecDepth 10000 in
theorem gofO_sound (gl : Gl) : Sound Tryd.prog gl 33 gofOSpec := by
  refine sound_fn (N := Tryd.f33.ntmps) (rs := Tryd.f33.results.toList) mixed tok (G_gofO_ok gl) Tryd.func33 rfl rfl rfl rfl rfl ?_ ?_ ?_
  · rintro args ⟨l,rfl,hl,hs⟩; simp [strsOf_C, Tryd.f33]
  · rintro args ⟨l,rfl,hl,hs⟩; simp [strsOf_C, gofOSpec, Tryd.f33]
  · rintro args ⟨l,rfl,hl,hs⟩ bs hgl hh hro
    have hE : Env.OK ⟨Tryd.prog, T, G_gofO, bs⟩ := ⟨tok, by rw [hgl]; exact G_gofO_ok gl⟩
    simp only [gofOSpec, strsOf_C]
    simp [and_assoc, gofOSpec, Tryd.f33]
    refine AWP.rounds (fun i => i ≤ l.length) (gofS1 l) (fun i => l.length - i) 0 (by simp) ?_ ?_
    · refine Weak.keep ?_
      simp [gofS1]
    · intro i hi
      refine wpc_ok hE mixed _ _ _ ?_
      rcases Nat.lt_or_ge i l.length with h | h
      · have w1 : IntKind.i64.wrap ((i : Int) + 1) = ((i + 1 : Nat) : Int) := by rw [wrap64 _ (by omega) (by omega)]; omega
        have hsl := hs _ (List.getElem_mem h)
        have hm := map_step lineG h
        have e : rowsC ((ofG l).take (i + 1)) = rowsC ((ofG l).take i) ++ rowC (lineG l[i]) := by unfold ofG; rw [hm, rowsC_app]; simp [rowsC]
        have hat : (l.map C.str).drop i = C.str l[i] :: (l.map C.str).drop (i + 1) := by rw [List.drop_eq_getElem_cons (by simpa using h)]; simp
        obtain ⟨s, hse⟩ : ∃ s, l[i] = s := ⟨_, rfl⟩
        rw [hse] at hsl e hat
        rcases Nat.eq_zero_or_pos i with z | z
        · have z' : (i = 0) = True := eq_true z
          simp -implicitDefEqProofs [gofS1, h, z']
          refine AWP.leaves 2 (gofS2 l i s s.length) (AWP.rounds (fun k => k ≤ s.length) (gofS2 l i s) (fun k => s.length - k) 0 (by simp) ?_ ?_) ?_
          · exact Weak.ren [] (baseOK.nil hh) (by simp) (by simp [gofS2, z']) (by simp [gofS2, z'])
          · intro k hk
            refine wpc_ok hE mixed _ _ _ ?_
            rcases Nat.lt_or_ge k s.length with g | g
            · have wk : IntKind.i64.wrap ((k : Int) + 1) = ((k + 1 : Nat) : Int) := by rw [wrap64 _ (by omega) (by omega)]; omega
              have hc := map_step letG g
              have ec : celsC ((s.map letG).take (k + 1)) = celsC ((s.map letG).take k) ++ celC (letG s[k]) := by rw [hc, celsC_app, celsC_one]
              obtain ⟨b, hb⟩ : ∃ b, s[k] = b := ⟨_, rfl⟩
              rw [hb, letG_of] at ec
              have wb : IntKind.i64.wrap (b.toNat : Int) = (b.toNat : Int) := wrap64 _ (by omega) (by have := b.toNat_lt; omega)
              rcases Nat.eq_zero_or_pos k with y | y
              · have y' : (k = 0) = True := eq_true y
                by_cases c1 : (b.toNat : Int) = 66
                · have c1' : ((b.toNat : Int) = 66) = True := eq_true c1
                  have c2' : ((b.toNat : Int) = 46) = False := eq_false (by omega)
                  rw [if_pos c1] at ec
                  have ec' := ec
                  rw [y, List.take_zero, celsC_nil, List.nil_append, Nat.zero_add] at ec'
                  simp -implicitDefEqProofs [gofS2, z', y', h, g, hat, hb, wk, wb, c1', c2', xs_sty, xs_cel]
                  repeat (first | refine And.intro (by decide +kernel) ?_ | refine And.intro (by omega) ?_)
                  exact Next.mk (k + 1) g (by omega) (Weak.ren [some 1] (baseOK.nil hh) (by simp) (by simp [gofS2, z', y, ec']) (by simp [gofS2, z']))
                by_cases c2 : (b.toNat : Int) = 46
                · have c1' : ((b.toNat : Int) = 66) = False := eq_false c1
                  have c2' : ((b.toNat : Int) = 46) = True := eq_true c2
                  rw [if_neg c1, if_pos c2] at ec
                  have ec' := ec
                  rw [y, List.take_zero, celsC_nil, List.nil_append, Nat.zero_add] at ec'
                  simp -implicitDefEqProofs [gofS2, z', y', h, g, hat, hb, wk, wb, c1', c2', xs_sty, xs_cel]
                  repeat (first | refine And.intro (by decide +kernel) ?_ | refine And.intro (by omega) ?_)
                  exact Next.mk (k + 1) g (by omega) (Weak.ren [some 1] (baseOK.nil hh) (by simp) (by simp [gofS2, z', y, ec']) (by simp [gofS2, z']))
                · have c1' : ((b.toNat : Int) = 66) = False := eq_false c1
                  have c2' : ((b.toNat : Int) = 46) = False := eq_false c2
                  rw [if_neg c1, if_neg c2] at ec
                  have ec' := ec
                  rw [y, List.take_zero, celsC_nil, List.nil_append, Nat.zero_add] at ec'
                  simp -implicitDefEqProofs [gofS2, z', y', h, g, hat, hb, wk, wb, c1', c2', xs_sty, xs_cel]
                  repeat (first | refine And.intro (by decide +kernel) ?_ | refine And.intro (by omega) ?_)
                  exact Next.mk (k + 1) g (by omega) (Weak.ren [some 1] (baseOK.nil hh) (by simp) (by simp [gofS2, z', y, ec']) (by simp [gofS2, z']))
              · have y' : (k = 0) = False := eq_false (by omega)
                by_cases c1 : (b.toNat : Int) = 66
                · have c1' : ((b.toNat : Int) = 66) = True := eq_true c1
                  have c2' : ((b.toNat : Int) = 46) = False := eq_false (by omega)
                  rw [if_pos c1] at ec
                  simp -implicitDefEqProofs [gofS2, z', y', h, g, hat, hb, wk, wb, c1', c2', xs_sty, xs_cel]
                  repeat (first | refine And.intro (by decide +kernel) ?_ | refine And.intro (by omega) ?_)
                  exact Next.mk (k + 1) g (by omega) (Weak.ren [some 0] (baseOK.nil hh) (by simp) (by simp [gofS2, z', ec]) (by simp [gofS2, z']))
                by_cases c2 : (b.toNat : Int) = 46
                · have c1' : ((b.toNat : Int) = 66) = False := eq_false c1
                  have c2' : ((b.toNat : Int) = 46) = True := eq_true c2
                  rw [if_neg c1, if_pos c2] at ec
                  simp -implicitDefEqProofs [gofS2, z', y', h, g, hat, hb, wk, wb, c1', c2', xs_sty, xs_cel]
                  repeat (first | refine And.intro (by decide +kernel) ?_ | refine And.intro (by omega) ?_)
                  exact Next.mk (k + 1) g (by omega) (Weak.ren [some 0] (baseOK.nil hh) (by simp) (by simp [gofS2, z', ec]) (by simp [gofS2, z']))
                · have c1' : ((b.toNat : Int) = 66) = False := eq_false c1
                  have c2' : ((b.toNat : Int) = 46) = False := eq_false c2
                  rw [if_neg c1, if_neg c2] at ec
                  simp -implicitDefEqProofs [gofS2, z', y', h, g, hat, hb, wk, wb, c1', c2', xs_sty, xs_cel]
                  repeat (first | refine And.intro (by decide +kernel) ?_ | refine And.intro (by omega) ?_)
                  exact Next.mk (k + 1) g (by omega) (Weak.ren [some 0] (baseOK.nil hh) (by simp) (by simp [gofS2, z', ec]) (by simp [gofS2, z']))
            · obtain rfl : k = s.length := by omega
              simp -implicitDefEqProofs [gofS2, z', h, hat]
              exact Leaves.mk (Weak.keep (by simp [gofS2, z']))
          have hT : (s.map letG).take s.length = s.map letG := List.take_of_length_le (by simp)
          rcases Nat.eq_zero_or_pos s.length with y | y
          · have y' : (s.length = 0) = True := eq_true y
            have s0 : s = [] := List.eq_nil_of_length_eq_zero y
            have er : rowC (lineG s) = [C.sl s.length (celsC (s.map letG)), C.bool false] := by simp [rowC, lineG]
            rw [er] at e
            rw [s0] at e
            have e' := e
            rw [z, List.take_zero, rowsC_nil, List.nil_append, Nat.zero_add] at e'
            simp -implicitDefEqProofs [gofS2, z', y', w1, hT]
            repeat (first | refine And.intro (by decide +kernel) ?_ | refine And.intro (by omega) ?_)
            exact Next.mk (i + 1) h (by omega) (Weak.ren [some 0] (baseOK.nil hh) (by simp) (by simp [gofS1, z, e']) (by simp [gofS1]))
          · have y' : (s.length = 0) = False := eq_false (by omega)
            have er : rowC (lineG s) = [C.sl s.length (celsC (s.map letG)), C.bool false] := by simp [rowC, lineG]
            rw [er] at e
            have e' := e
            rw [z, List.take_zero, rowsC_nil, List.nil_append, Nat.zero_add] at e'
            simp -implicitDefEqProofs [gofS2, z', y', w1, hT]
            repeat (first | refine And.intro (by decide +kernel) ?_ | refine And.intro (by omega) ?_)
            exact Next.mk (i + 1) h (by omega) (Weak.ren [some 1] (baseOK.nil hh) (by simp) (by simp [gofS1, z, e']) (by simp [gofS1]))
        · have z' : (i = 0) = False := eq_false (by omega)
          simp -implicitDefEqProofs [gofS1, h, z']
          refine AWP.leaves 2 (gofS2 l i s s.length) (AWP.rounds (fun k => k ≤ s.length) (gofS2 l i s) (fun k => s.length - k) 0 (by simp) ?_ ?_) ?_
          · exact Weak.ren [some 0] (baseOK.nil hh) (by simp) (by simp [gofS2, z']) (by simp [gofS2, z'])
          · intro k hk
            refine wpc_ok hE mixed _ _ _ ?_
            rcases Nat.lt_or_ge k s.length with g | g
            · have wk : IntKind.i64.wrap ((k : Int) + 1) = ((k + 1 : Nat) : Int) := by rw [wrap64 _ (by omega) (by omega)]; omega
              have hc := map_step letG g
              have ec : celsC ((s.map letG).take (k + 1)) = celsC ((s.map letG).take k) ++ celC (letG s[k]) := by rw [hc, celsC_app, celsC_one]
              obtain ⟨b, hb⟩ : ∃ b, s[k] = b := ⟨_, rfl⟩
              rw [hb, letG_of] at ec
              have wb : IntKind.i64.wrap (b.toNat : Int) = (b.toNat : Int) := wrap64 _ (by omega) (by have := b.toNat_lt; omega)
              rcases Nat.eq_zero_or_pos k with y | y
              · have y' : (k = 0) = True := eq_true y
                by_cases c1 : (b.toNat : Int) = 66
                · have c1' : ((b.toNat : Int) = 66) = True := eq_true c1
                  have c2' : ((b.toNat : Int) = 46) = False := eq_false (by omega)
                  rw [if_pos c1] at ec
                  have ec' := ec
                  rw [y, List.take_zero, celsC_nil, List.nil_append, Nat.zero_add] at ec'
                  simp -implicitDefEqProofs [gofS2, z', y', h, g, hat, hb, wk, wb, c1', c2', xs_sty, xs_cel]
                  repeat (first | refine And.intro (by decide +kernel) ?_ | refine And.intro (by omega) ?_)
                  exact Next.mk (k + 1) g (by omega) (Weak.ren [some 0, some 2] (baseOK.nil hh) (by simp) (by simp [gofS2, z', y, ec']) (by simp [gofS2, z']))
                by_cases c2 : (b.toNat : Int) = 46
                · have c1' : ((b.toNat : Int) = 66) = False := eq_false c1
                  have c2' : ((b.toNat : Int) = 46) = True := eq_true c2
                  rw [if_neg c1, if_pos c2] at ec
                  have ec' := ec
                  rw [y, List.take_zero, celsC_nil, List.nil_append, Nat.zero_add] at ec'
                  simp -implicitDefEqProofs [gofS2, z', y', h, g, hat, hb, wk, wb, c1', c2', xs_sty, xs_cel]
                  repeat (first | refine And.intro (by decide +kernel) ?_ | refine And.intro (by omega) ?_)
                  exact Next.mk (k + 1) g (by omega) (Weak.ren [some 0, some 2] (baseOK.nil hh) (by simp) (by simp [gofS2, z', y, ec']) (by simp [gofS2, z']))
                · have c1' : ((b.toNat : Int) = 66) = False := eq_false c1
                  have c2' : ((b.toNat : Int) = 46) = False := eq_false c2
                  rw [if_neg c1, if_neg c2] at ec
                  have ec' := ec
                  rw [y, List.take_zero, celsC_nil, List.nil_append, Nat.zero_add] at ec'
                  simp -implicitDefEqProofs [gofS2, z', y', h, g, hat, hb, wk, wb, c1', c2', xs_sty, xs_cel]
                  repeat (first | refine And.intro (by decide +kernel) ?_ | refine And.intro (by omega) ?_)
                  exact Next.mk (k + 1) g (by omega) (Weak.ren [some 0, some 2] (baseOK.nil hh) (by simp) (by simp [gofS2, z', y, ec']) (by simp [gofS2, z']))
              · have y' : (k = 0) = False := eq_false (by omega)
                by_cases c1 : (b.toNat : Int) = 66
                · have c1' : ((b.toNat : Int) = 66) = True := eq_true c1
                  have c2' : ((b.toNat : Int) = 46) = False := eq_false (by omega)
                  rw [if_pos c1] at ec
                  simp -implicitDefEqProofs [gofS2, z', y', h, g, hat, hb, wk, wb, c1', c2', xs_sty, xs_cel]
                  repeat (first | refine And.intro (by decide +kernel) ?_ | refine And.intro (by omega) ?_)
                  exact Next.mk (k + 1) g (by omega) (Weak.ren [some 0, some 1] (baseOK.nil hh) (by simp) (by simp [gofS2, z', ec]) (by simp [gofS2, z']))
                by_cases c2 : (b.toNat : Int) = 46
                · have c1' : ((b.toNat : Int) = 66) = False := eq_false c1
                  have c2' : ((b.toNat : Int) = 46) = True := eq_true c2
                  rw [if_neg c1, if_pos c2] at ec
                  simp -implicitDefEqProofs [gofS2, z', y', h, g, hat, hb, wk, wb, c1', c2', xs_sty, xs_cel]
                  repeat (first | refine And.intro (by decide +kernel) ?_ | refine And.intro (by omega) ?_)
                  exact Next.mk (k + 1) g (by omega) (Weak.ren [some 0, some 1] (baseOK.nil hh) (by simp) (by simp [gofS2, z', ec]) (by simp [gofS2, z']))
                · have c1' : ((b.toNat : Int) = 66) = False := eq_false c1
                  have c2' : ((b.toNat : Int) = 46) = False := eq_false c2
                  rw [if_neg c1, if_neg c2] at ec
                  simp -implicitDefEqProofs [gofS2, z', y', h, g, hat, hb, wk, wb, c1', c2', xs_sty, xs_cel]
                  repeat (first | refine And.intro (by decide +kernel) ?_ | refine And.intro (by omega) ?_)
                  exact Next.mk (k + 1) g (by omega) (Weak.ren [some 0, some 1] (baseOK.nil hh) (by simp) (by simp [gofS2, z', ec]) (by simp [gofS2, z']))
            · obtain rfl : k = s.length := by omega
              simp -implicitDefEqProofs [gofS2, z', h, hat]
              exact Leaves.mk (Weak.keep (by simp [gofS2, z']))
          have hT : (s.map letG).take s.length = s.map letG := List.take_of_length_le (by simp)
          rcases Nat.eq_zero_or_pos s.length with y | y
          · have y' : (s.length = 0) = True := eq_true y
            have s0 : s = [] := List.eq_nil_of_length_eq_zero y
            have er : rowC (lineG s) = [C.sl s.length (celsC (s.map letG)), C.bool false] := by simp [rowC, lineG]
            rw [er] at e
            rw [s0] at e
            simp -implicitDefEqProofs [gofS2, z', y', w1, hT]
            repeat (first | refine And.intro (by decide +kernel) ?_ | refine And.intro (by omega) ?_)
            exact Next.mk (i + 1) h (by omega) (Weak.ren [some 0] (baseOK.nil hh) (by simp) (by simp [gofS1, e]) (by simp [gofS1]))
          · have y' : (s.length = 0) = False := eq_false (by omega)
            have er : rowC (lineG s) = [C.sl s.length (celsC (s.map letG)), C.bool false] := by simp [rowC, lineG]
            rw [er] at e
            simp -implicitDefEqProofs [gofS2, z', y', w1, hT]
            repeat (first | refine And.intro (by decide +kernel) ?_ | refine And.intro (by omega) ?_)
            exact Next.mk (i + 1) h (by omega) (Weak.ren [some 0] (baseOK.nil hh) (by simp) (by simp [gofS1, e]) (by simp [gofS1]))
      · obtain rfl : i = l.length := by omega
        have hT : (ofG l).take l.length = ofG l := List.take_of_length_le (by simp [ofG])
        have hL : (ofG l).length = l.length := by simp [ofG]
        rcases Nat.eq_zero_or_pos l.length with z | z
        · have e0 : l = [] := List.eq_nil_of_length_eq_zero z
          subst e0
          simp [gofS1, ofG]
        · have z' : ¬ l.length = 0 := by omega
          simp [gofS1, z', hT, hL]
end Fen

namespace Fen
open Go Go.Proofs

theorem typed_deed {d : Nat} {p : List C} (h : Typed T d 58 p) : ∃ x : De, p = deC x ∧ x.ok := by
  obtain ⟨d', parts, rfl, hk⟩ := typed_struct T_58 h
  match parts, hk with
  | [p0, p1, p2, p3, p4], ⟨h0, h1, h2, h3, h4, _⟩ =>
    obtain ⟨a, rfl, qa⟩ := typed_u8 h0
    obtain ⟨b, rfl, qb⟩ := typed_u8 h1
    obtain ⟨c, rfl, qc⟩ := typed_u8 h2
    obtain ⟨e, rfl, qe⟩ := typed_u8 h3
    obtain ⟨f, rfl, qf⟩ := typed_u8 h4
    exact ⟨⟨a, b, c, e, f⟩, rfl, qa, qb, qc, qe, qf⟩
theorem arg_deeds {A : V} (h : TypedV T 54 A) : ∃ l : List De, A = .c (.sl l.length (l.flatMap deC)) ∧ ∀ d ∈ l, d.ok := by
  obtain ⟨l, rfl, hl, ql⟩ := arg_slice_of (Q := De.ok) (en := deC) T_54 (fun d p h => typed_deed h) h
  exact ⟨l, rfl, ql⟩
theorem arg_u8x3 {A : V} (h : TypedV T 78 A) : ∃ a b c : Int, A = .agg [.int .u8 a, .int .u8 b, .int .u8 c] ∧ (0 ≤ a ∧ a < 256) ∧ (0 ≤ b ∧ b < 256) ∧ 0 ≤ c ∧ c < 256 := by
  obtain ⟨d, ks, rfl, hk0⟩ := arg_agg T_78 rfl h
  obtain ⟨d', parts, rfl, hl, hk⟩ := typed_array T_78 hk0
  match parts, hl with
  | [p0, p1, p2], _ =>
    obtain ⟨a, rfl, qa⟩ := typed_u8 (hk p0 (by simp))
    obtain ⟨b, rfl, qb⟩ := typed_u8 (hk p1 (by simp))
    obtain ⟨c, rfl, qc⟩ := typed_u8 (hk p2 (by simp))
    exact ⟨a, b, c, rfl, qa, qb, qc⟩
theorem typed_u16 {d : Nat} {p : List C} (h : Typed T d 62 p) : ∃ n, p = [.int .u16 n] ∧ 0 ≤ n ∧ n < 65536 := by
  obtain ⟨n, rfl, q⟩ := typed_int T_62 h
  refine ⟨n, rfl, ?_⟩
  simp [IntKind.min, IntKind.max, IntKind.signed, IntKind.bits] at q
  omega
theorem arg_u16x3 {A : V} (h : TypedV T 63 A) : ∃ a b c : Int, A = .agg [.int .u16 a, .int .u16 b, .int .u16 c] ∧ (0 ≤ a ∧ a < 65536) ∧ (0 ≤ b ∧ b < 65536) ∧ 0 ≤ c ∧ c < 65536 := by
  obtain ⟨d, ks, rfl, hk0⟩ := arg_agg T_63 rfl h
  obtain ⟨d', parts, rfl, hl, hk⟩ := typed_array T_63 hk0
  match parts, hl with
  | [p0, p1, p2], _ =>
    obtain ⟨a, rfl, qa⟩ := typed_u16 (hk p0 (by simp))
    obtain ⟨b, rfl, qb⟩ := typed_u16 (hk p1 (by simp))
    obtain ⟨c, rfl, qc⟩ := typed_u16 (hk p2 (by simp))
    exact ⟨a, b, c, rfl, qa, qb, qc⟩
end Fen

namespace Fen
open Go Go.Proofs

/-! ### closed: the chapter's examples, grids that may not be, limits -/
def manyK (i : Nat) : List (List UInt8) := List.replicate i [120, 121] ++ List.replicate (41 - i) []
def manyL : List (List UInt8) := List.replicate 41 [120, 121]
theorem manyK_set {i : Nat} (h : i < 41) : List.take i ((manyK i).map C.str) ++ C.str [120, 121] :: List.drop (i + 1) ((manyK i).map C.str) = (manyK (i + 1)).map C.str := by
  have e1 : List.take i (manyK i) = List.replicate i [120, 121] := by unfold manyK; rw [List.take_left' (by simp)]
  have e2 : List.drop (i + 1) (manyK i) = List.replicate (41 - (i + 1)) [] := by
    unfold manyK
    rw [List.drop_append, List.drop_of_length_le (by simp), List.nil_append, List.drop_replicate]
    congr 1
    simp; omega
  rw [← List.map_take, ← List.map_drop, e1, e2]
  unfold manyK
  rw [List.replicate_succ']
  simp
theorem manyK_len (i : Nat) (h : i ≤ 41) : (manyK i).length = 41 := by unfold manyK; simp; omega
theorem manyK_end : manyK 41 = manyL := by unfold manyK manyL; simp
def badG : List (List Rw) := [[], ofG manyL, ofG [[97, 98], [97, 98, 99]], ofG [[97]], ofG [[97, 98], [7, 98]]]
def badC : List C := badG.map fun W => C.sl W.length (rowsC W)
theorem bad_at {i : Nat} (h : i < 5) : ∃ W : List Rw, badC[i]? = some (.sl W.length (rowsC W)) ∧ RowsOK W ∧ gridF W = 230 := by
  obtain rfl | rfl | rfl | rfl | rfl : i = 0 ∨ i = 1 ∨ i = 2 ∨ i = 3 ∨ i = 4 := by omega
  · exact ⟨[], rfl, fun r hr => by simp at hr, by decide +kernel⟩
  · exact ⟨ofG manyL, rfl, ofG_ok _, by decide +kernel⟩
  · exact ⟨ofG [[97, 98], [97, 98, 99]], rfl, ofG_ok _, by decide +kernel⟩
  · exact ⟨ofG [[97]], rfl, ofG_ok _, by decide +kernel⟩
  · exact ⟨ofG [[97, 98], [7, 98]], rfl, ofG_ok _, by decide +kernel⟩
def exK : List Rw := [lineG [97, 98], ⟨(lineG [99, 100]).cells, true⟩, lineG [101, 102]]
theorem exK_ok : RowsOK exK := fun r hr => by
  simp only [exK, List.mem_cons, List.not_mem_nil, or_false] at hr
  rcases hr with rfl | rfl | rfl
  · exact ofG_ok [[97, 98]] _ (by simp [ofG])
  · exact ofG_ok [[99, 100]] (lineG [99, 100]) (by simp [ofG])
  · exact ofG_ok [[101, 102]] _ (by simp [ofG])
theorem exK_fin : RowsFin exK := ⟨by decide, fun r hr => by
  simp only [exK, List.mem_cons, List.not_mem_nil, or_false] at hr
  rcases hr with rfl | rfl | rfl <;> decide⟩
theorem nilRw_ok : nilRw.ok := fun c hc => by simp [nilRw] at hc
def u9 : Sty := ⟨0, 9, 0, 0, 0, 0, 0, 0⟩
theorem kx1 : ∃ X X2 c1 c2 c3, turnF true exK 0 2 1 sty0 = (X, X2, 0) ∧ X.length = 3 ∧ rowsC X = [.sl 2 c1, .bool true, .sl 2 c2, .bool false, .sl 2 c3, .bool false] := by
  have e : turnF true exK 0 2 1 sty0 = ([⟨(lineG [99, 100]).cells, true⟩, lineG [101, 102], lineG [46, 46]], [lineG [97, 98]], 0) := by decide +kernel
  exact ⟨_, _, _, _, _, e, rfl, rfl⟩
theorem kx2 : ∃ X X2 c1 c2 c3, turnF false exK 0 1 1 sty0 = (X, X2, 0) ∧ X.length = 3 ∧ rowsC X = [.sl 2 c1, .bool false, .sl 2 c2, .bool false, .sl 2 c3, .bool false] := by
  have e : turnF false exK 0 1 1 sty0 = ([lineG [46, 46], lineG [97, 98], lineG [101, 102]], [⟨(lineG [99, 100]).cells, true⟩], 0) := by decide +kernel
  exact ⟨_, _, _, _, _, e, rfl, rfl⟩
theorem kx3 : ∃ X c1 w1 c2 c3 w3, eraseGF exK 1 1 2 0 sty0 = (X, 0) ∧ X.length = 3 ∧ rowsC X = [.sl 2 c1, .bool w1, .sl 2 c2, .bool false, .sl 2 c3, .bool w3] := by
  have e : eraseGF exK 1 1 2 0 sty0 = ([lineG [97, 98], lineG [99, 46], lineG [101, 102]], 0) := by decide +kernel
  exact ⟨_, _, _, _, _, _, e, rfl, rfl⟩
theorem kx4 : ∃ X c1 w1 c2 c3 w3, eraseGF exK 1 0 1 1 sty0 = (X, 0) ∧ X.length = 3 ∧ rowsC X = [.sl 2 c1, .bool w1, .sl 2 c2, .bool true, .sl 2 c3, .bool w3] := by
  have e : eraseGF exK 1 0 1 1 sty0 = ([lineG [97, 98], ⟨(lineG [46, 100]).cells, true⟩, lineG [101, 102]], 0) := by decide +kernel
  exact ⟨_, _, _, _, _, _, e, rfl, rfl⟩
theorem kx5 : eraseGF exK 3 1 3 1 sty0 = ([], 2) := by decide +kernel
theorem kx6 : eraseGF exK 3 0 3 0 sty0 = (exK, 0) := by decide +kernel
theorem kx7 : eraseGF exK 0 3 1 0 sty0 = ([], 2) := by decide +kernel
theorem kx8 : setGF exK 0 (lineG [97, 98, 99]) = ([], 2) := by decide +kernel
theorem kx9 : setGF exK 0 (lineG [97]) = ([], 220) := by decide +kernel
theorem kx10 : setGF exK (-1) (lineG [97, 98]) = ([], 2) := by decide +kernel
theorem kx11 : ∃ X X2, turnF true exK 1 1 4611686018427387904 sty0 = (X, X2, 0) ∧ X.length = 3 ∧ X2.length = 1 := by
  have e : turnF true exK 1 1 4611686018427387904 sty0 = ([lineG [97, 98], lineG [46, 46], lineG [101, 102]], [⟨(lineG [99, 100]).cells, true⟩], 0) := by decide +kernel
  exact ⟨_, _, e, rfl, rfl⟩
theorem kx12 : turnF false exK 0 2 (-1) sty0 = ([], [], 2) := by decide +kernel
theorem kx13 : ∃ e, turnF false exK 0 2 1 u9 = ([], [], e) ∧ e ≠ 0 := by
  have e : turnF false exK 0 2 1 u9 = ([], [], styF u9) := by decide +kernel
  exact ⟨_, e, by decide +kernel⟩
theorem kx14 : newGF 1 5 sty0 = ([], 2) := by decide +kernel
theorem kx15 : newGF 5 41 sty0 = ([], 2) := by decide +kernel
theorem bad_turn {W : List Rw} (h : gridF W = 230) (up : Bool) (t b n : Int) (s : Sty) : turnF up W t b n s = ([], [], 230) := by unfold turnF; rw [if_pos (by rw [h]; decide)]
theorem bad_erase {W : List Rw} (h : gridF W = 230) (a b c d : Int) (s : Sty) : eraseGF W a b c d s = ([], 230) := by unfold eraseGF; rw [if_pos (by rw [h]; decide)]
theorem bad_set {W : List Rw} (h : gridF W = 230) (i : Int) (r : Rw) : setGF W i r = ([], 230) := by unfold setGF; rw [if_pos (by rw [h]; decide)]
def kn1 (i : Nat) : St := ⟨401, [(1, .ref 0 0), (2, .val (.int .i64 i))], [.sl 9 0 true 1 41 ((manyK i).map C.str)]⟩
def kn2 (B : List C) (i : Nat) : St := ⟨401, [(3, .val (.sl 5 B)), (4, .val (.int .i64 i))], []⟩
def kn3 : St := ⟨401, [], []⟩
def kn4 (K : List Rw) : St := ⟨401, [(12, .ref 0 0), (23, .val (.bool true))], [.sl 27 0 false 2 3 (rowsC K)]⟩
def lawKnownSpec : Spec := { pre := fun args => args = [], res := fun _ => .one (.val (.c (.bool true))) }
def G_lawKnown : Specs := [(33, gofOSpec), (13, gupSpec), (15, gdownSpec), (18, geraseSpec), (29, gsetSpec), (23, gridckSpec), (25, gnewSpec), (17, gworksSpec), (16, samesSpec), (32, samesSpec)]
@[simp] theorem G_lawKnown_live : Specs.live G_lawKnown = false := rfl
@[simp] theorem G_lawKnown_33 : G_lawKnown.find 33 = some gofOSpec := rfl
@[simp] theorem G_lawKnown_13 : G_lawKnown.find 13 = some gupSpec := rfl
@[simp] theorem G_lawKnown_15 : G_lawKnown.find 15 = some gdownSpec := rfl
@[simp] theorem G_lawKnown_18 : G_lawKnown.find 18 = some geraseSpec := rfl
@[simp] theorem G_lawKnown_29 : G_lawKnown.find 29 = some gsetSpec := rfl
@[simp] theorem G_lawKnown_23 : G_lawKnown.find 23 = some gridckSpec := rfl
@[simp] theorem G_lawKnown_25 : G_lawKnown.find 25 = some gnewSpec := rfl
@[simp] theorem G_lawKnown_17 : G_lawKnown.find 17 = some gworksSpec := rfl
@[simp] theorem G_lawKnown_16 : G_lawKnown.find 16 = some samesSpec := rfl
@[simp] theorem G_lawKnown_32 : G_lawKnown.find 32 = some samesSpec := rfl
theorem G_lawKnown_ok : SpecsOK Tryd.prog glW G_lawKnown := .cons (gofO_sound glW) (.cons gup_sound (.cons gdown_sound (.cons gerase_sound (.cons gset_sound (.cons gridck_sound (.cons (gnew_sound glW) (.cons gworks_sound (.cons (sames_sound glW) (.cons (gsame_sound glW) (.nil _ _))))))))))
set_option maxHeartbeats 8000000 in
set_option maxRecDepth 10000 in
theorem lawKnown_sound : Sound Tryd.prog glW 10 lawKnownSpec := by
  refine sound_awp (N := Tryd.f10.ntmps) (rs := Tryd.f10.results.toList) tok Tryd.func10 rfl rfl rfl rfl rfl ?_ ?_ ?_
  · rintro args rfl; simp [Tryd.f10]
  · rintro args rfl; simp [lawKnownSpec, Tryd.f10]
  · rintro args rfl bs hgl hh hro
    have hE : Env.OK ⟨Tryd.prog, T, G_lawKnown, bs⟩ := ⟨tok, by rw [hgl]; exact G_lawKnown_ok⟩
    refine wpcU_ok hE mixed 22 _ _ _ ?_
    simp -implicitDefEqProofs [-Bool.exists_bool, and_assoc, lawKnownSpec, gdownSpec, geraseSpec, gnewSpec, gofOSpec, gridckSpec, gsetSpec, gupSpec, gworksSpec, samesSpec, Tryd.f10]
    refine AWP.leaves 0 (kn1 41) (AWP.rounds (fun i => i ≤ 41) kn1 (fun i => 41 - i) 0 (by simp) ?_ ?_) ?_
    · exact Weak.keep (by simp [kn1])
    · intro i hi
      refine wpc_ok hE mixed _ _ _ ?_
      rcases Nat.lt_or_ge i 41 with h | h
      · have w1 : IntKind.i64.wrap ((i : Int) + 1) = ((i + 1 : Nat) : Int) := by rw [wrap64 _ (by omega) (by omega)]; omega
        have h' : (i : Int) < 41 := by omega
        have hset := manyK_set h
        have hlen := manyK_len i hi
        have hi1 : i + 1 ≤ 41 := h
        simp -implicitDefEqProofs [-Bool.exists_bool, kn1, and_assoc, gdownSpec, geraseSpec, gnewSpec, gofOSpec, gridckSpec, gsetSpec, gupSpec, gworksSpec, samesSpec, h', hset, hlen, hi1, w1]
        exact Next.mk (i + 1) h (by omega) (Weak.keep (by simp [kn1]))
      · obtain rfl : i = 41 := by omega
        simp -implicitDefEqProofs [-Bool.exists_bool, kn1, and_assoc, gdownSpec, geraseSpec, gnewSpec, gofOSpec, gridckSpec, gsetSpec, gupSpec, gworksSpec, samesSpec]
        exact Leaves.mk (Weak.keep (by simp [kn1]))
    have hMs : ∀ s ∈ manyL, s.length ≤ 100 := by decide +kernel
    obtain ⟨M, hM⟩ : ∃ M, manyL = M := ⟨_, rfl⟩
    have lM : M.length = 41 := by rw [← hM]; rfl
    rw [hM] at hMs
    have p0 : ∃ l : List (List UInt8), 41 = l.length ∧ M.map C.str = l.map C.str ∧ l.length ≤ 100 ∧ ∀ s ∈ l, s.length ≤ 100 := ⟨M, lM.symm, rfl, by omega, hMs⟩
    have p1 : ∃ l : List (List UInt8), 2 = l.length ∧ [C.str [97, 98], C.str [97, 98, 99]] = l.map C.str ∧ l.length ≤ 100 ∧ ∀ s ∈ l, s.length ≤ 100 := ⟨[[97, 98], [97, 98, 99]], rfl, rfl, by decide, by decide⟩
    have p2 : ∃ l : List (List UInt8), 1 = l.length ∧ [C.str [97]] = l.map C.str ∧ l.length ≤ 100 ∧ ∀ s ∈ l, s.length ≤ 100 := ⟨[[97]], rfl, rfl, by decide, by decide⟩
    have p3 : ∃ l : List (List UInt8), 2 = l.length ∧ [C.str [97, 98], C.str [7, 98]] = l.map C.str ∧ l.length ≤ 100 ∧ ∀ s ∈ l, s.length ≤ 100 := ⟨[[97, 98], [7, 98]], rfl, rfl, by decide, by decide⟩
    simp -implicitDefEqProofs [-Bool.exists_bool, kn1, manyK_end, and_assoc, gdownSpec, geraseSpec, gnewSpec, gofOSpec, gridckSpec, gsetSpec, gupSpec, gworksSpec, samesSpec, gofSpec, strsOf, strsOf_C, hM, p0, p1, p2, p3]
    clear p0 p1 p2 p3
    refine AWP.leaves 2 kn3 (AWP.rounds (fun i => i ≤ 5) (kn2 badC) (fun i => 5 - i) 0 (by simp) ?_ ?_) ?_
    · have hb : badC = [.sl 0 [], .sl (ofG M).length (rowsC (ofG M)), .sl (ofG [[97, 98], [97, 98, 99]]).length (rowsC (ofG [[97, 98], [97, 98, 99]])), .sl (ofG [[97]]).length (rowsC (ofG [[97]])), .sl (ofG [[97, 98], [7, 98]]).length (rowsC (ofG [[97, 98], [7, 98]]))] := by rw [← hM]; rfl
      exact Weak.ren [] (baseOK.nil hh) (by simp) (by simp [kn2]) (by simp [kn2]; exact hb)
    · intro i hi
      have hbl : badC.length = 5 := rfl
      obtain ⟨B, hB⟩ : ∃ B, badC = B := ⟨_, rfl⟩
      refine wpc_ok hE mixed _ _ _ ?_
      rcases Nat.lt_or_ge i 5 with h | h
      · have w1 : IntKind.i64.wrap ((i : Int) + 1) = ((i + 1 : Nat) : Int) := by rw [wrap64 _ (by omega) (by omega)]; omega
        have h' : (i : Int) < 5 := by omega
        obtain ⟨W, hW, okW, fW⟩ := bad_at h
        rw [hB] at hW hbl ⊢
        obtain ⟨hlt, hBi⟩ := List.getElem?_eq_some_iff.mp hW
        have h5 : 0 < 5 - i := by omega
        have eg : ∃ g' : List Rw, W.length = g'.length ∧ W = g' ∧ RowsOK g' := ⟨W, rfl, rfl, okW⟩
        have f1 := bad_turn fW
        have f2 := bad_erase fW
        have f3 := bad_set fW
        have s0 := sty0_ok
        have r0 := nilRw_ok
        simp -implicitDefEqProofs [-Bool.exists_bool, kn2, and_assoc, gdownSpec, geraseSpec, gnewSpec, gofOSpec, gridckSpec, gsetSpec, gupSpec, gworksSpec, samesSpec, h', h, h5, hbl, hW, hBi, w1, eg, f1, f2, f3, fW, turn2Spec]
        refine ⟨okW, s0, okW, s0, ⟨nilRw, rfl, okW, r0⟩, okW, ?_⟩
        exact Next.mk (i + 1) h (by omega) (Weak.keep (by simp [kn2]))
      · obtain rfl : i = 5 := by omega
        rw [hB] at hbl ⊢
        simp -implicitDefEqProofs [-Bool.exists_bool, kn2, and_assoc, gdownSpec, geraseSpec, gnewSpec, gofOSpec, gridckSpec, gsetSpec, gupSpec, gworksSpec, samesSpec, hbl]
        exact Leaves.mk (Weak.keep (by simp [kn3]))
    have q3 : ∃ l : List (List UInt8), 3 = l.length ∧ [C.str [97, 98], C.str [99, 100], C.str [101, 102]] = l.map C.str ∧ l.length ≤ 100 ∧ ∀ s ∈ l, s.length ≤ 100 := ⟨[[97, 98], [99, 100], [101, 102]], rfl, rfl, by decide, by decide⟩
    have hO : ofG [[97, 98], [99, 100], [101, 102]] = exG := rfl
    have hGK : List.take 3 (rowsC exG) ++ C.bool true :: List.drop 4 (rowsC exG) = rowsC exK := rfl
    have hGl : exG.length = 3 := rfl
    have lG : (rowsC exG).length = 6 := rfl
    have hKl : exK.length = 3 := rfl
    have lK : (rowsC exK).length = 6 := rfl
    have okK := exK_ok
    have k1 := kx1
    have k2 := kx2
    have k3 := kx3
    have k4 := kx4
    obtain ⟨G, hG⟩ : ∃ G, exG = G := ⟨_, rfl⟩
    obtain ⟨K, hK⟩ : ∃ K, exK = K := ⟨_, rfl⟩
    rw [hK] at k1 k2 k3 k4 okK lK hKl hGK
    rw [hG] at hO hGK hGl lG
    have eg : ∃ g' : List Rw, 3 = g'.length ∧ K = g' ∧ RowsOK g' := ⟨K, hKl.symm, rfl, okK⟩
    have s0 := sty0_ok
    obtain ⟨X1, Y1, c11, c12, c13, e1, l1, r1⟩ := k1
    obtain ⟨X2, Y2, c21, c22, c23, e2, l2, r2⟩ := k2
    obtain ⟨X3, c31, w31, c32, c33, w33, e3, l3, r3⟩ := k3
    obtain ⟨X4, c41, w41, c42, c43, w43, e4, l4, r4⟩ := k4
    simp -implicitDefEqProofs [-Bool.exists_bool, kn3, and_assoc, gdownSpec, geraseSpec, gnewSpec, gofOSpec, gridckSpec, gsetSpec, gupSpec, gworksSpec, samesSpec, gofSpec, strsOf, strsOf_C, q3, hO, hGl, lG, hGK, hKl, lK, eg, s0, e1, l1, r1, e2, l2, r2, e3, l3, r3, e4, l4, r4, turn2Spec]
    refine ⟨okK, ?_⟩
    refine AWP.weaken (Weak.ren (r' := (kn4 K).r) (h' := (kn4 K).h) [some 0] (baseOK.nil hh) (by simp) (by simp [kn4]) (by simp [kn4])) ?_
    refine wpc_ok hE mixed _ _ _ ?_
    have x5 := kx5
    have x6 := kx6
    have x7 := kx7
    have x8 := kx8
    have x9 := kx9
    have x10 := kx10
    obtain ⟨X, Y, x11, lX, lY⟩ := kx11
    have x12 := kx12
    obtain ⟨e, x13, ne⟩ := kx13
    have x14 := kx14
    have x15 := kx15
    have finK := exK_fin
    have t2 : List.take 2 (rowsC exK) = rowC (lineG [97, 98]) := rfl
    have t4 : List.take 4 (rowsC exK) = rowsC (exK.take 2) := rfl
    have ne2 : ¬ exK = exK.take 2 := by decide +kernel
    have lK2 : (exK.take 2).length = 2 := rfl
    have n1 : (ofG [[97, 98, 99]]).length = 1 := rfl
    have n2 : (ofG [[97]]).length = 1 := rfl
    have m1 : List.take 2 (rowsC (ofG [[97, 98, 99]])) = rowC (lineG [97, 98, 99]) := rfl
    have m2 : List.take 2 (rowsC (ofG [[97]])) = rowC (lineG [97]) := rfl
    have hu : List.take 1 (styC sty0) ++ [C.int .i64 9, C.int .i64 sty0.fk, C.int .i64 sty0.fn, C.int .i64 sty0.bk, C.int .i64 sty0.bn, C.int .i64 sty0.lk, C.int .i64 sty0.ln] = styC u9 := rfl
    have u9ok : u9.ok := ⟨by decide, by decide⟩
    have o1 : (lineG [97, 98, 99]).ok := ofG_ok [[97, 98, 99]] _ (by simp [ofG])
    have o2 : (lineG [97]).ok := ofG_ok [[97]] _ (by simp [ofG])
    have o3 : (lineG [97, 98]).ok := ofG_ok [[97, 98]] _ (by simp [ofG])
    have p1 : ∃ l : List (List UInt8), 1 = l.length ∧ [C.str [97, 98, 99]] = l.map C.str ∧ l.length ≤ 100 ∧ ∀ s ∈ l, s.length ≤ 100 := ⟨[[97, 98, 99]], rfl, rfl, by decide, by decide⟩
    have p2 : ∃ l : List (List UInt8), 1 = l.length ∧ [C.str [97]] = l.map C.str ∧ l.length ≤ 100 ∧ ∀ s ∈ l, s.length ≤ 100 := ⟨[[97]], rfl, rfl, by decide, by decide⟩
    obtain ⟨Q, hQ⟩ : ∃ Q, exK.take 2 = Q := ⟨_, rfl⟩
    rw [hQ] at t4 ne2 lK2
    rw [hK] at x5 x6 x7 x8 x9 x10 x11 x12 x13 finK t2 t4 ne2
    simp -implicitDefEqProofs [-Bool.exists_bool, kn4, and_assoc, gdownSpec, geraseSpec, gnewSpec, gofOSpec, gridckSpec, gsetSpec, gupSpec, gworksSpec, samesSpec, gofSpec, strsOf, strsOf_C, hKl, lK, eg, s0, turn2Spec, x5, x6, x7, x8, x9, x10, x11, x12, x13, x14, x15, ne, lX, lY, n1, n2, m1, m2, hu, p1, p2, t2, t4, ne2, rowOf_C, rowsOf_C]
    exact ⟨okK, o1, okK, o2, okK, o3, okK, u9ok, finK, ⟨[], rfl, rfl, ⟨[], rfl, rfl⟩, by decide, fun r hr => by simp at hr⟩, lK2.symm, finK⟩
end Fen
