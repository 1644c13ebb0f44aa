/- A part of the proof; no statement is proved here: GGridM, GGridN, GGridU, GGridLf. -/
import Derived.Test.YtefciljolljgmaaDoorGridB

set_option linter.unusedVariables false
set_option linter.unusedSimpArgs false

namespace Fen
open Go Go.Proofs

/-! ### valid grids stay valid -/
structure Kept (r x : Rw) : Prop where
  ok : rowF x = 0
  len : x.cells.length = r.cells.length
  wr : x.wrapped = true → r.wrapped = true
theorem Kept.self {r : Rw} (h : rowF r = 0) : Kept r r := ⟨h, rfl, id⟩
theorem Kept.of {r : Rw} {l : List Cel} {w : Bool} (h : rowF r = 0) (hl : l.length = r.cells.length) (hv : VL l) (hw : w = true → r.wrapped = true) : Kept r ⟨l, w⟩ := by
  obtain ⟨h2, h8, _⟩ := row_len h
  exact ⟨rowF_of (by omega) (by omega) hv, hl, hw⟩
theorem kept_erase {r : Rw} {a b : Int} {s : Sty} (h : rowF r = 0) (h0 : 0 ≤ a) (h1 : a ≤ b) (h2 : b ≤ r.cells.length) (hs : styF s = 0) : (eraseRowF r a b s).2 = 0 ∧ Kept r (eraseRowF r a b s).1 := by
  rw [eraseRow_ok h h0 h1 h2 hs]
  split
  · exact ⟨rfl, Kept.self h⟩
  · have hv := (row_len h).2.2
    obtain ⟨k1, k2, k3, _⟩ := lo_hi (chain_val hv) (a := a.toNat) (b := b.toNat) (by omega) (by omega)
    exact ⟨rfl, Kept.of h (erase_len s (by omega) k3) (VL.erase hv (by omega) (by omega) hs) (fun q => by simp at q; exact q.1)⟩

/-- a valid grid of n rows of w cells -/
structure GV (w n : Nat) (g : List Rw) : Prop where
  len : g.length = n
  n1 : 1 ≤ n
  n40 : n ≤ 40
  rows : ∀ r ∈ g, rowF r = 0 ∧ r.cells.length = w
section
variable {w n : Nat} {g : List Rw}
theorem GV.ne (h : GV w n g) : g ≠ [] := by
  rintro rfl
  have h1 := h.len
  have h2 := h.n1
  simp at h1
  omega
theorem GV.cols (h : GV w n g) : colsG g = w := by
  have h1 := h.ne
  match g, h1 with
  | [], h1 => exact absurd rfl h1
  | r :: g, _ => exact (h.rows r (List.mem_cons_self ..)).2
theorem GV.valid (h : GV w n g) : gridF g = 0 := by
  unfold gridF
  have h1 := h.len
  have h2 := h.n1
  have h3 := h.n40
  rw [if_neg (by omega), if_pos]
  rw [h.cols]
  simp only [okRows, List.all_eq_true, Bool.and_eq_true, decide_eq_true_eq]
  intro r hr
  have := h.rows r hr
  exact ⟨by omega, this.1⟩
theorem GV.of (h : gridF g = 0) : GV (colsG g) g.length g := by
  obtain ⟨h1, h2, h3⟩ := gridF_ok h
  exact ⟨rfl, h1, h2, fun r hr => by have := okRows_RowsOK h3 r hr; exact ⟨this.1, by omega⟩⟩
theorem GV.grid (c : Int) (L : List Dr) : GV (2 + c.toNat % 79) (manyG L) (gridD c L) :=
  ⟨grid_len c L, (many_le L).1, by have := (many_le L).2; omega, fun r hr => by
    simp only [gridD, List.mem_map] at hr
    obtain ⟨i, _, rfl⟩ := hr
    exact ⟨draft_ok _ _ _, draft_len _ _ _⟩⟩
theorem GV.w2 (h : GV w n g) : 2 ≤ w ∧ w ≤ 80 := by
  have h1 := h.ne
  match g, h1 with
  | [], h1 => exact absurd rfl h1
  | r :: g, _ =>
    obtain ⟨q1, q2⟩ := h.rows r (List.mem_cons_self ..)
    have := row_len q1
    omega
theorem GV.rok (h : GV w n g) : RowsOK g := fun r hr => row_okF (h.rows r hr).1
theorem GV.fin (h : GV w n g) : RowsFin g := rowsFin_of (by have := h.len; have := h.n40; omega) fun r hr => row_lt (h.rows r hr).1
end
theorem blankRow_ok {w : Nat} {s : Sty} (h : 2 ≤ w ∧ w ≤ 80) (hs : styF s = 0) : rowF (blankRow w s) = 0 ∧ (blankRow w s).cells.length = w :=
  ⟨rowF_of (by simp; omega) (by simp; omega) (VL.blanks hs w), by simp [blankRow]⟩
theorem isF_len {up : Bool} {L : List Rw} {m : Nat} {r : Rw} (hm : m ≤ L.length) : (isF up L m r).length = L.length := by
  cases up <;> simp [isF] <;> omega
theorem isF_mem {up : Bool} {L : List Rw} {m : Nat} {r x : Rw} (h : x ∈ isF up L m r) : x ∈ L ∨ x = r := by
  cases up
  · simp only [isF, Bool.false_eq_true, if_false, List.mem_append] at h
    rcases h with h | h
    · exact .inr (List.eq_of_mem_replicate h)
    · exact .inl (List.mem_of_mem_take h)
  · simp only [isF, if_true, List.mem_append] at h
    rcases h with h | h
    · exact .inl (List.mem_of_mem_drop h)
    · exact .inr (List.eq_of_mem_replicate h)
theorem layF_take {l s : List Rw} {t : Nat} (h : t ≤ l.length) : (layF l t s).take t = l.take t := by
  unfold layF
  rw [List.append_assoc, List.take_left' (by simp; omega)]
theorem layF_drop {l s : List Rw} {t : Nat} (h : t + s.length ≤ l.length) : (layF l t s).drop (t + s.length) = l.drop (t + s.length) := by
  unfold layF
  rw [List.drop_left' (by simp; omega)]
theorem layF_mid {l s : List Rw} {t : Nat} (h : t ≤ l.length) : ((layF l t s).drop t).take s.length = s := by
  unfold layF
  rw [List.append_assoc, List.drop_left' (by simp; omega), List.take_left' rfl]
theorem layF_mem {l s : List Rw} {t : Nat} {x : Rw} (h : x ∈ layF l t s) : x ∈ l ∨ x ∈ s := by
  simp only [layF, List.mem_append] at h
  rcases h with (h | h) | h
  · exact .inl (List.mem_of_mem_take h)
  · exact .inr h
  · exact .inl (List.mem_of_mem_drop h)
theorem region_len {g : List Rw} {t b : Nat} (hb : b ≤ g.length) : (regionF g t b).length = b - t := by simp [regionF]; omega
theorem region_mem {g : List Rw} {t b : Nat} {x : Rw} (h : x ∈ regionF g t b) : x ∈ g := List.mem_of_mem_drop (List.mem_of_mem_take h)

theorem turn_valid {w n : Nat} {g : List Rw} (h : GV w n g) (up : Bool) {t b : Nat} {m : Int} {s : Sty} (ht : t ≤ b) (hb : b < n) (hm : 0 ≤ m) (hs : styF s = 0) :
    turnF up g t b m s = (layF g t (isF up (regionF g t (b + 1)) (min m.toNat (b + 1 - t)) (blankRow w s)), wentF up (regionF g t (b + 1)) (min m.toNat (b + 1 - t)), 0) ∧
    GV w n (layF g t (isF up (regionF g t (b + 1)) (min m.toNat (b + 1 - t)) (blankRow w s))) ∧
    (layF g t (isF up (regionF g t (b + 1)) (min m.toNat (b + 1 - t)) (blankRow w s))).take t = g.take t ∧
    (layF g t (isF up (regionF g t (b + 1)) (min m.toNat (b + 1 - t)) (blankRow w s))).drop (b + 1) = g.drop (b + 1) := by
  have hl := h.len
  have hrl := region_len (g := g) (t := t) (b := b + 1) (by omega)
  have hil : (isF up (regionF g t (b + 1)) (min m.toNat (b + 1 - t)) (blankRow w s)).length = b + 1 - t := by rw [isF_len (by omega), hrl]
  refine ⟨?_, ⟨?_, h.n1, h.n40, fun r hr => ?_⟩, layF_take (by omega), ?_⟩
  · unfold turnF
    rw [if_neg (by simp [h.valid]), if_neg (by omega), if_neg (by simp [hs]), h.cols]
    simp only [Int.toNat_natCast]
  · rw [layF_len (by rw [hil]; omega)]; exact hl
  · rcases layF_mem hr with q | q
    · exact h.rows r q
    · rcases isF_mem q with q | rfl
      · exact h.rows r (region_mem q)
      · exact blankRow_ok h.w2 hs
  · have := layF_drop (l := g) (s := isF up (regionF g t (b + 1)) (min m.toNat (b + 1 - t)) (blankRow w s)) (t := t) (by rw [hil]; omega)
    rw [hil, show t + (b + 1 - t) = b + 1 by omega] at this
    exact this
theorem went_len {up : Bool} {l : List Rw} {m : Nat} (hm : m ≤ l.length) : (wentF up l m).length = m := by
  cases up <;> simp [wentF] <;> omega
theorem went_up {g : List Rw} {t b m : Nat} (hm : m ≤ b - t) (hb : b ≤ g.length) : wentF true (regionF g t b) m = (g.drop t).take m := by
  simp only [wentF, if_true, regionF, List.take_take]
  rw [Nat.min_eq_left hm]
theorem went_down {g : List Rw} {t b m : Nat} (hm : m ≤ b - t) (hb : b ≤ g.length) (ht : t ≤ b) : wentF false (regionF g t b) m = (g.drop (b - m)).take m := by
  simp only [wentF, Bool.false_eq_true, if_false]
  rw [region_len hb, regionF, List.drop_take, List.drop_drop, show t + (b - t - m) = b - m by omega, show b - t - (b - t - m) = m by omega]

theorem eraseAt_valid {w : Nat} {fr fc tr tc : Int} {s : Sty} {k : Nat} {r : Rw} (hr : rowF r = 0) (hw : r.cells.length = w) (hs : styF s = 0) (h1 : 0 ≤ fc ∧ fc ≤ w) (h2 : 0 ≤ tc ∧ tc ≤ w) (h3 : fr = tr → fc ≤ tc) :
    rowF (eraseAt w fr fc tr tc s k r) = 0 ∧ (eraseAt w fr fc tr tc s k r).cells.length = w := by
  unfold eraseAt
  split
  · obtain ⟨_, q⟩ := kept_erase (r := r) (a := if (k : Int) = fr then fc else 0) (b := if (k : Int) = tr then tc else w) (s := s) hr (by split <;> omega) (by
      by_cases c : (k : Int) = fr <;> by_cases d : (k : Int) = tr <;> simp only [c, d, if_true, if_false]
      · rw [if_pos (by omega)]; exact h3 (by omega)
      · rw [if_neg (by omega)]; omega
      · rw [if_neg (by omega)]; omega
      · omega) (by split <;> omega) hs
    exact ⟨q.ok, by rw [q.len]; exact hw⟩
  · exact ⟨hr, hw⟩
theorem place_iff {g : List Rw} {r c : Int} : placeF g r c = true ↔ (0 ≤ r ∧ r < g.length ∧ 0 ≤ c ∧ c ≤ colsG g) ∨ (r = g.length ∧ c = 0) := by simp [placeF]
theorem erase_valid {w n : Nat} {g : List Rw} (h : GV w n g) {fr fc tr tc : Int} {s : Sty} (p1 : placeF g fr fc = true) (p2 : placeF g tr tc = true) (h1 : fr ≤ tr) (h2 : fr = tr → fc ≤ tc) (hs : styF s = 0) :
    eraseGF g fr fc tr tc s = (eraseTo w fr fc tr tc s g n, 0) ∧ GV w n (eraseTo w fr fc tr tc s g n) := by
  have hl := h.len
  have hw := h.w2
  constructor
  · unfold eraseGF
    rw [if_neg (by simp [h.valid]), if_neg (by simp only [p1, p2]; simp; exact ⟨by omega, h2⟩), if_neg (by simp [hs]), h.cols, hl]
  · refine ⟨by rw [eraseTo_len]; exact hl, h.n1, h.n40, fun r hr => ?_⟩
    simp only [eraseTo, List.mem_mapIdx] at hr
    obtain ⟨i, hi, rfl⟩ := hr
    obtain ⟨q1, q2⟩ := h.rows _ (List.getElem_mem hi)
    rw [place_iff, h.cols] at p1 p2
    rw [if_pos (by omega)]
    exact eraseAt_valid q1 q2 hs (by omega) (by omega) h2
section
variable (w : Nat) (fr fc tr tc : Int) (s : Sty) (l : List Rw)
theorem eraseTo_take' {t : Nat} (h : (t : Int) ≤ fr) (n : Nat) : (eraseTo w fr fc tr tc s l n).take t = l.take t := by
  refine List.ext_getElem (by simp [eraseTo]) fun i h1 h2 => ?_
  simp only [List.getElem_take, eraseTo, List.getElem_mapIdx]
  have : i < t := by simp at h1; omega
  split
  · rw [eraseAt, if_neg (by omega)]
  · rfl
theorem eraseTo_drop' {q : Nat} (h : tr < (q : Int)) (n : Nat) : (eraseTo w fr fc tr tc s l n).drop q = l.drop q := by
  refine List.ext_getElem (by simp [eraseTo]) fun i h1 h2 => ?_
  simp only [List.getElem_drop, eraseTo, List.getElem_mapIdx]
  split
  · rw [eraseAt, if_neg (by omega)]
  · rfl
end
theorem set_valid {w n : Nat} {g : List Rw} (h : GV w n g) {t b : Nat} (ht : t < n) (hb : b < n) : setGF g t (g.getD b nilRw) = (g.set t (g.getD b nilRw), 0) ∧ GV w n (g.set t (g.getD b nilRw)) := by
  have hl := h.len
  have hm : g.getD b nilRw ∈ g := by
    rw [List.getD_eq_getElem?_getD, List.getElem?_eq_getElem (by omega), Option.getD_some]
    exact List.getElem_mem _
  generalize g.getD b nilRw = r at *
  obtain ⟨q1, q2⟩ := h.rows r hm
  constructor
  · unfold setGF
    rw [if_neg (by simp [h.valid]), if_neg (by omega), if_neg (by simp [q1]), if_neg (by rw [h.cols]; simp [q2])]
    simp only [Int.toNat_natCast]
  · refine ⟨by simp [hl], h.n1, h.n40, fun x hx => ?_⟩
    rcases List.mem_or_eq_of_mem_set hx with q | rfl
    · exact h.rows x q
    · exact ⟨q1, q2⟩

/-! ### one operation, chosen by small numbers -/
structure De where
  q : Int
  t : Int
  l : Int
  n : Int
  c : Int
def deC (d : De) : List C := [.int .u8 d.q, .int .u8 d.t, .int .u8 d.l, .int .u8 d.n, .int .u8 d.c]
def deOf : List C → De
  | [.int _ q, .int _ t, .int _ l, .int _ n, .int _ c] => ⟨q, t, l, n, c⟩
  | _ => ⟨0, 0, 0, 0, 0⟩
@[simp] theorem deOf_C (d : De) : deOf (deC d) = d := rfl
@[simp] theorem deC_len (d : De) : (deC d).length = 5 := rfl
@[simp] theorem deC_inj (a b : De) : deC a = deC b ↔ a = b := ⟨fun h => by rw [← deOf_C a, h, deOf_C], fun h => by rw [h]⟩
theorem des_at : ∀ (l : List De) (i : Nat) (h : i < l.length), List.take 5 (List.drop (i * 5) (l.flatMap deC)) = deC l[i]
  | d :: l, 0, _ => by simp [List.take_left' (deC_len d)]
  | d :: l, i + 1, h => by
    rw [List.flatMap_cons, List.drop_append, List.drop_of_length_le (by simp; omega), List.nil_append, deC_len, show (i + 1) * 5 - 5 = i * 5 by omega]
    simpa using des_at l i (by simpa using h)
theorem des_len (l : List De) : (l.flatMap deC).length = l.length * 5 := by
  induction l with
  | nil => rfl
  | cons d l ih => rw [List.flatMap_cons, List.length_append, ih]; simp; omega
def De.ok (d : De) : Prop := (0 ≤ d.q ∧ d.q < 256) ∧ (0 ≤ d.t ∧ d.t < 256) ∧ (0 ≤ d.l ∧ d.l < 256) ∧ (0 ≤ d.n ∧ d.n < 256) ∧ 0 ≤ d.c ∧ d.c < 256
def topG (d : De) (g : List Rw) : Nat := (d.t % g.length).toNat
def botG (d : De) (g : List Rw) : Nat := topG d g + (d.l % ((g.length - topG d g : Nat) : Int)).toNat
def styD (d : De) : Sty := ⟨d.c % 4, 0, 0, 0, 0, 0, 0, 0⟩
def doneG (d : De) (g : List Rw) : List Rw × List Rw × Int :=
  if d.q % 4 = 0 then turnF true g (topG d g) (botG d g) (d.n % 16) (styD d)
  else if d.q % 4 = 1 then turnF false g (topG d g) (botG d g) (d.n % 16) (styD d)
  else if d.q % 4 = 2 then ((eraseGF g (topG d g) (d.c % colsG g) (botG d g) (colsG g) (styD d)).1, [], (eraseGF g (topG d g) (d.c % colsG g) (botG d g) (colsG g) (styD d)).2)
  else ((setGF g (topG d g) (g.getD (botG d g) nilRw)).1, [], (setGF g (topG d g) (g.getD (botG d g) nilRw)).2)
theorem topG_le {d : De} {g : List Rw} (h : g ≠ []) (hd : d.ok) : topG d g ≤ botG d g ∧ botG d g < g.length ∧ d.t % g.length = (topG d g : Int) ∧ d.l % ((g.length - topG d g : Nat) : Int) = ((botG d g - topG d g : Nat) : Int) := by
  have hl : 0 < g.length := List.length_pos_iff.2 h
  obtain ⟨_, ⟨t0, _⟩, ⟨l0, _⟩, _⟩ := hd
  have a1 := Int.emod_nonneg d.t (show (g.length : Int) ≠ 0 by omega)
  have a2 := Int.emod_lt_of_pos d.t (show 0 < (g.length : Int) by omega)
  have ht : d.t % g.length = (topG d g : Int) := by unfold topG; omega
  have htl : topG d g < g.length := by omega
  have b1 := Int.emod_nonneg d.l (show ((g.length - topG d g : Nat) : Int) ≠ 0 by omega)
  have b2 := Int.emod_lt_of_pos d.l (show 0 < ((g.length - topG d g : Nat) : Int) by omega)
  refine ⟨by unfold botG; omega, by unfold botG; omega, ht, ?_⟩
  unfold botG
  omega
theorem styD_ok {d : De} : styF (styD d) = 0 := by
  have h1 := Int.emod_nonneg d.c (show (4 : Int) ≠ 0 by decide)
  have h2 := Int.emod_lt_of_pos d.c (show (0 : Int) < 4 by decide)
  have : d.c % 4 = 0 ∨ d.c % 4 = 1 ∨ d.c % 4 = 2 ∨ d.c % 4 = 3 := by omega
  unfold styD
  rcases this with h | h | h | h <;> rw [h] <;> decide
/-- what an operation leaves as it is, and what it takes away -/
structure Kept13 (w n : Nat) (d : De) (g out went : List Rw) : Prop where
  ok : GV w n out
  top : out.take (topG d g) = g.take (topG d g)
  bot : d.q % 4 ≠ 3 → out.drop (botG d g + 1) = g.drop (botG d g + 1)
  bot3 : d.q % 4 = 3 → out.drop (topG d g + 1) = g.drop (topG d g + 1)
  len : d.q % 4 ≠ 3 → went.length ≤ botG d g - topG d g + 1
  len3 : d.q % 4 = 3 → went.length = 0
  up : d.q % 4 = 0 → went = (g.drop (topG d g)).take went.length
  down : d.q % 4 = 1 → went = (g.drop (botG d g + 1 - went.length)).take went.length
theorem done_kept {w n : Nat} {g : List Rw} {d : De} (h : GV w n g) (hd : d.ok) : ∃ out went, doneG d g = (out, went, 0) ∧ Kept13 w n d g out went := by
  obtain ⟨t1, t2, t3, t4⟩ := topG_le h.ne hd
  have hl := h.len
  have hs := styD_ok (d := d)
  have n0 : 0 ≤ d.n % 16 := Int.emod_nonneg _ (by decide)
  unfold doneG
  by_cases q0 : d.q % 4 = 0
  · rw [if_pos q0]
    obtain ⟨k1, k2, k3, k4⟩ := turn_valid h true t1 (by omega) n0 hs
    have hrl := region_len (g := g) (t := topG d g) (b := botG d g + 1) (by omega)
    have wl := went_len (up := true) (l := regionF g (topG d g) (botG d g + 1)) (m := min (d.n % 16).toNat (botG d g + 1 - topG d g)) (by omega)
    refine ⟨_, _, k1, k2, k3, fun _ => k4, fun q => by omega, fun _ => by omega, fun q => by omega, fun _ => ?_, fun q => by omega⟩
    rw [wl]
    exact went_up (by omega) (by omega)
  rw [if_neg q0]
  by_cases q1 : d.q % 4 = 1
  · rw [if_pos q1]
    obtain ⟨k1, k2, k3, k4⟩ := turn_valid h false t1 (by omega) n0 hs
    have hrl := region_len (g := g) (t := topG d g) (b := botG d g + 1) (by omega)
    have wl := went_len (up := false) (l := regionF g (topG d g) (botG d g + 1)) (m := min (d.n % 16).toNat (botG d g + 1 - topG d g)) (by omega)
    refine ⟨_, _, k1, k2, k3, fun _ => k4, fun q => by omega, fun _ => by omega, fun q => by omega, fun q => by omega, fun _ => ?_⟩
    rw [wl]
    exact went_down (by omega) (by omega) (by omega)
  rw [if_neg q1]
  by_cases q2 : d.q % 4 = 2
  · rw [if_pos q2]
    have hw := h.w2
    have c0 := Int.emod_nonneg d.c (show (w : Int) ≠ 0 by omega)
    have c1 := Int.emod_lt_of_pos d.c (show 0 < (w : Int) by omega)
    obtain ⟨k1, k2⟩ := erase_valid h (fr := topG d g) (fc := d.c % w) (tr := botG d g) (tc := w) (s := styD d) (place_iff.2 (.inl (by rw [h.cols]; omega))) (place_iff.2 (.inl (by rw [h.cols]; omega))) (by omega) (fun _ => by omega) hs
    rw [h.cols, k1]
    exact ⟨_, _, rfl, k2, eraseTo_take' _ _ _ _ _ _ _ (Int.le_refl _) _, fun _ => eraseTo_drop' _ _ _ _ _ _ _ (by omega) _, fun q => by omega, fun _ => by simp, fun q => by omega, fun q => by omega, fun q => by omega⟩
  · rw [if_neg q2]
    obtain ⟨k1, k2⟩ := set_valid h (t := topG d g) (b := botG d g) (by omega) (by omega)
    rw [k1]
    exact ⟨_, _, rfl, k2, by simp [List.take_set_of_le], fun q => by omega, fun _ => by rw [List.drop_set_of_lt (by omega)], fun _ => by simp, fun _ => rfl, fun q => by omega, fun q => by omega⟩
end Fen

namespace Fen
open Go Go.Proofs

theorem rows_slice {g : List Rw} (a b : Nat) : List.take ((b - a) * 2) (List.drop (a * 2) (rowsC g)) = rowsC ((g.drop a).take (b - a)) := by rw [rowsC_drop, rowsC_take]
theorem u8_mod {a : Int} (h0 : 0 ≤ a) (m : Int) : a.tmod m = a % m := Int.tmod_eq_emod_of_nonneg h0
theorem headG {w n : Nat} {g : List Rw} (h : GV w n g) : ∃ r0 : Rw, (rowsC g).head?.getD C.nilf = .sl w (celsC r0.cells) ∧ 0 < g.length := by
  have h1 := h.ne
  match g, h1, h with
  | r :: g, _, h => exact ⟨r, by rw [← (h.rows r (List.mem_cons_self ..)).2]; rfl, by simp⟩

def gdoneSpec : Spec := { pre := fun args => ∃ (d : De) (g : List Rw), args = [.agg (deC d), rowsV g] ∧ d.ok ∧ gridF g = 0, res := fun args => match args with
  | [.agg d, .c (.sl _ cs)] => .many [.val (rowsV (doneG (deOf d) (rowsOf cs)).1), .val (rowsV (doneG (deOf d) (rowsOf cs)).2.1), .val (.c (.int .i64 (doneG (deOf d) (rowsOf cs)).2.2))]
  | _ => .many [] }
def G_gdone : Specs := [(13, gupSpec), (15, gdownSpec), (18, geraseSpec), (29, gsetSpec)]
@[simp] theorem G_gdone_live : Specs.live G_gdone = false := rfl
@[simp] theorem G_gdone_13 : G_gdone.find 13 = some gupSpec := rfl
@[simp] theorem G_gdone_15 : G_gdone.find 15 = some gdownSpec := rfl
@[simp] theorem G_gdone_18 : G_gdone.find 18 = some geraseSpec := rfl
@[simp] theorem G_gdone_29 : G_gdone.find 29 = some gsetSpec := rfl
theorem G_gdone_ok : SpecsOK Tryd.prog glW G_gdone := .cons gup_sound (.cons gdown_sound (.cons gerase_sound (.cons gset_sound (.nil _ _))))
set_option maxHeartbeats 8000000 in
set_option maxRecDepth 10000 in
theorem gdone_sound : Sound Tryd.prog glW 22 gdoneSpec := by
  refine sound_fn (N := Tryd.f22.ntmps) (rs := Tryd.f22.results.toList) mixed tok G_gdone_ok Tryd.func22 rfl rfl rfl rfl rfl ?_ ?_ ?_
  · rintro args ⟨d,g,rfl,hd,hg⟩; simp [rowsV,rowsOf_C,deOf_C, Tryd.f22]
  · rintro args ⟨d,g,rfl,hd,hg⟩; simp [rowsV,rowsOf_C,deOf_C, gdoneSpec, Tryd.f22]
  · rintro args ⟨d,g,rfl,hd,hg⟩ bs hgl hh hro
    have hE : Env.OK ⟨Tryd.prog, T, G_gdone, bs⟩ := ⟨tok, by rw [hgl]; exact G_gdone_ok⟩
    simp only [gdoneSpec, rowsV,rowsOf_C,deOf_C]
    have hv := GV.of hg
    obtain ⟨w, hw⟩ : ∃ w, colsG g = w := ⟨_, rfl⟩
    obtain ⟨n, hn⟩ : ∃ n, g.length = n := ⟨_, rfl⟩
    rw [hw, hn] at hv
    have n1 := hv.n1
    have n40 := hv.n40
    have hw2 := hv.w2
    obtain ⟨r0, hr0, gl0⟩ := headG hv
    obtain ⟨t1, t2, t3, t4⟩ := topG_le hv.ne hd
    obtain ⟨⟨q0, q1⟩, ⟨a0, a1⟩, ⟨l0, l1⟩, ⟨m0, m1⟩, c0, c1⟩ := hd
    have hO := exO hv.rok
    obtain ⟨t, ht⟩ : ∃ t, topG d g = t := ⟨_, rfl⟩
    obtain ⟨b, hb⟩ : ∃ b, botG d g = b := ⟨_, rfl⟩
    unfold doneG
    rw [ht] at t1 t3 t4
    rw [hb] at t1 t2 t4
    rw [ht, hb, hw]
    rw [hn] at t2 t3 t4
    obtain ⟨s, hs⟩ : ∃ s, styD d = s := ⟨_, rfl⟩
    have sC : C.int .i64 (d.c % 4) :: (styC sty0).tail = styC s := by rw [← hs]; rfl
    have sX : X.val (C.int .i64 (d.c % 4)) :: (List.map X.val (styC sty0)).tail = List.map X.val (styC s) := by rw [← hs]; rfl
    have so : s.ok := by
      have := Int.emod_nonneg d.c (show (4 : Int) ≠ 0 by decide)
      have := Int.emod_lt_of_pos d.c (show (0 : Int) < 4 by decide)
      rw [← hs]; exact ⟨by show -9223372036854775808 ≤ d.c % 4; omega, by show d.c % 4 ≤ 9223372036854775807; omega⟩
    have wt : IntKind.i64.wrap d.t = d.t := wrap64 _ (by omega) (by omega)
    have wl : IntKind.i64.wrap d.l = d.l := wrap64 _ (by omega) (by omega)
    have wc : IntKind.i64.wrap d.c = d.c := wrap64 _ (by omega) (by omega)
    have e1 := u8_mod a0 (n : Int)
    rw [t3] at e1
    have wnt : IntKind.i64.wrap ((n : Int) - t) = ((n - t : Nat) : Int) := by rw [wrap64 _ (by omega) (by omega)]; omega
    have e2 := u8_mod l0 ((n - t : Nat) : Int)
    rw [t4] at e2
    have wtb : IntKind.i64.wrap ((t : Int) + ((b - t : Nat) : Int)) = (b : Int) := by rw [wrap64 _ (by omega) (by omega)]; omega
    have nz : ¬ n - t = 0 := by omega
    have nz' : ¬ n = 0 := by omega
    have e4 := u8_mod c0 4
    have e5 := u8_mod q0 4
    have e6 := u8_mod m0 16
    have e7 := u8_mod c0 (w : Int)
    have wz : ¬ w = 0 := by omega
    have k4 : IntKind.u8.wrap (d.c % 4) = d.c % 4 := by simp [IntKind.wrap, IntKind.signed, IntKind.bits]; omega
    have k5 : IntKind.u8.wrap (d.q % 4) = d.q % 4 := by simp [IntKind.wrap, IntKind.signed, IntKind.bits]; omega
    have k6 : IntKind.u8.wrap (d.n % 16) = d.n % 16 := by simp [IntKind.wrap, IntKind.signed, IntKind.bits]; omega
    have w4 : IntKind.i64.wrap (d.c % 4) = d.c % 4 := wrap64 _ (by omega) (by omega)
    have w6 : IntKind.i64.wrap (d.n % 16) = d.n % 16 := wrap64 _ (by omega) (by omega)
    have w7 : IntKind.i64.wrap (d.c % w) = d.c % w := by
      have := Int.emod_nonneg d.c (show (w : Int) ≠ 0 by omega)
      have := Int.emod_lt_of_pos d.c (show 0 < (w : Int) by omega)
      exact wrap64 _ (by omega) (by omega)
    by_cases c : d.q % 4 = 0
    · have c' : (d.q % 4 = 0) = True := eq_true c
      simp -implicitDefEqProofs [-Bool.exists_bool, and_assoc, gdoneSpec, gdownSpec, geraseSpec, gsetSpec, gupSpec, Tryd.f22, gupSpec, gdownSpec, turn2Spec, deC, hn, hO, nz, nz', wt, wl, wc, e1, wnt, e2, wtb, e4, e5, e6, k4, k5, k6, w4, w6, hr0, gl0, sC, sX, so, hs, c', rowsV, styV]
      exact ⟨by omega, g, hn.symm, rfl, hv.rok⟩
    have c' : (d.q % 4 = 0) = False := eq_false c
    by_cases c1 : d.q % 4 = 1
    · have c1' : (d.q % 4 = 1) = True := eq_true c1
      simp -implicitDefEqProofs [-Bool.exists_bool, and_assoc, gdoneSpec, gdownSpec, geraseSpec, gsetSpec, gupSpec, Tryd.f22, gupSpec, gdownSpec, turn2Spec, deC, hn, hO, nz, nz', wt, wl, wc, e1, wnt, e2, wtb, e4, e5, e6, k4, k5, k6, w4, w6, hr0, gl0, sC, sX, so, hs, c', c1', rowsV, styV]
      exact ⟨by omega, g, hn.symm, rfl, hv.rok⟩
    have c1' : (d.q % 4 = 1) = False := eq_false c1
    by_cases c2 : d.q % 4 = 2
    · have c2' : (d.q % 4 = 2) = True := eq_true c2
      simp -implicitDefEqProofs [-Bool.exists_bool, and_assoc, gdoneSpec, gdownSpec, geraseSpec, gsetSpec, gupSpec, Tryd.f22, gupSpec, gdownSpec, turn2Spec, deC, hn, hO, nz, nz', wt, wl, wc, e1, wnt, e2, wtb, e4, e5, e6, e7, wz, k4, k5, k6, w4, w6, w7, hr0, gl0, sC, sX, so, hs, c', c1', c2', rowsV, styV]
      exact ⟨by omega, ⟨g, hn.symm, rfl, hv.rok⟩, by decide +kernel⟩
    · have c2' : (d.q % 4 = 2) = False := eq_false c2
      have hlb : b < g.length := by omega
      have hat := rowsC_at hlb
      have hgd : g[b]?.getD nilRw = g[b] := by simp [hlb]
      have rok := hv.rok _ (List.getElem_mem hlb)
      generalize g[b] = r at hat hgd rok
      simp -implicitDefEqProofs [-Bool.exists_bool, and_assoc, gdoneSpec, gdownSpec, geraseSpec, gsetSpec, gupSpec, Tryd.f22, gupSpec, gdownSpec, turn2Spec, deC, hn, hO, nz, nz', wt, wl, wc, e1, wnt, e2, wtb, e4, e5, e6, e7, wz, k4, k5, k6, w4, w6, w7, hr0, gl0, sC, sX, so, hs, c', c1', c2', hat, hgd, rowOf_C, rowsV, styV]
      exact ⟨by omega, by omega, g, hn.symm, rfl, hv.rok, rok⟩
end Fen

namespace Fen
open Go Go.Proofs

theorem typed_deed {d : Nat} {p : List C} (h : Typed T d 58 p) : ∃ x : De, p = deC x ∧ x.ok := by
  obtain ⟨d', parts, rfl, hk⟩ := typed_struct T_58 h
  match parts, hk with
  | [p0, p1, p2, p3, p4], ⟨h0, h1, h2, h3, h4, _⟩ =>
    obtain ⟨a, rfl, qa⟩ := typed_u8 h0
    obtain ⟨b, rfl, qb⟩ := typed_u8 h1
    obtain ⟨c, rfl, qc⟩ := typed_u8 h2
    obtain ⟨e, rfl, qe⟩ := typed_u8 h3
    obtain ⟨f, rfl, qf⟩ := typed_u8 h4
    exact ⟨⟨a, b, c, e, f⟩, rfl, qa, qb, qc, qe, qf⟩
theorem arg_deeds {A : V} (h : TypedV T 54 A) : ∃ l : List De, A = .c (.sl l.length (l.flatMap deC)) ∧ ∀ d ∈ l, d.ok := by
  obtain ⟨l, rfl, hl, ql⟩ := arg_slice_of (Q := De.ok) (en := deC) T_54 (fun d p h => typed_deed h) h
  exact ⟨l, rfl, ql⟩
theorem arg_u8x3 {A : V} (h : TypedV T 78 A) : ∃ a b c : Int, A = .agg [.int .u8 a, .int .u8 b, .int .u8 c] ∧ (0 ≤ a ∧ a < 256) ∧ (0 ≤ b ∧ b < 256) ∧ 0 ≤ c ∧ c < 256 := by
  obtain ⟨d, ks, rfl, hk0⟩ := arg_agg T_78 rfl h
  obtain ⟨d', parts, rfl, hl, hk⟩ := typed_array T_78 hk0
  match parts, hl with
  | [p0, p1, p2], _ =>
    obtain ⟨a, rfl, qa⟩ := typed_u8 (hk p0 (by simp))
    obtain ⟨b, rfl, qb⟩ := typed_u8 (hk p1 (by simp))
    obtain ⟨c, rfl, qc⟩ := typed_u8 (hk p2 (by simp))
    exact ⟨a, b, c, rfl, qa, qb, qc⟩
theorem typed_u16 {d : Nat} {p : List C} (h : Typed T d 62 p) : ∃ n, p = [.int .u16 n] ∧ 0 ≤ n ∧ n < 65536 := by
  obtain ⟨n, rfl, q⟩ := typed_int T_62 h
  refine ⟨n, rfl, ?_⟩
  simp [IntKind.min, IntKind.max, IntKind.signed, IntKind.bits] at q
  omega
theorem arg_u16x3 {A : V} (h : TypedV T 63 A) : ∃ a b c : Int, A = .agg [.int .u16 a, .int .u16 b, .int .u16 c] ∧ (0 ≤ a ∧ a < 65536) ∧ (0 ≤ b ∧ b < 65536) ∧ 0 ≤ c ∧ c < 65536 := by
  obtain ⟨d, ks, rfl, hk0⟩ := arg_agg T_63 rfl h
  obtain ⟨d', parts, rfl, hl, hk⟩ := typed_array T_63 hk0
  match parts, hl with
  | [p0, p1, p2], _ =>
    obtain ⟨a, rfl, qa⟩ := typed_u16 (hk p0 (by simp))
    obtain ⟨b, rfl, qb⟩ := typed_u16 (hk p1 (by simp))
    obtain ⟨c, rfl, qc⟩ := typed_u16 (hk p2 (by simp))
    exact ⟨a, b, c, rfl, qa, qb, qc⟩
end Fen

namespace Fen
open Go Go.Proofs

/-! ### erasing in two parts -/
theorem cat_get (l : List Cel) {i : Nat} (h : i < l.length) : cat l i = l[i] := by simp [cat, h]
theorem cells_two {l : List Cel} (hv : VL l) {a b c : Nat} {s : Sty} (hs : styF s = 0) (hab : a < b) (hbc : b < c) (hc : c ≤ l.length) :
    eraseF (eraseF l (loF l a) (hiF l b) s) (loF (eraseF l (loF l a) (hiF l b) s) b) (hiF (eraseF l (loF l a) (hiF l b) s) c) s = eraseF l (loF l a) (hiF l c) s := by
  have v := chain_val hv
  obtain ⟨q1, q2, q3, q4⟩ := lo_hi v hab (show b ≤ l.length by omega)
  obtain ⟨p1, p2, p3, _⟩ := lo_hi v (show a < c by omega) hc
  have hlen := erase_len (l := l) (a := loF l a) (b := hiF l b) s (by omega) q3
  have hib : hiF l b ≤ b + 1 := by unfold hiF; split <;> omega
  obtain ⟨l', hl'⟩ : ∃ l', eraseF l (loF l a) (hiF l b) s = l' := ⟨_, rfl⟩
  have ml : ∀ i, i < hiF l b → loF l a ≤ i → cat l' i = blankF s := fun i h1 h2 => by
    rw [cat_get _ (by rw [← hl', hlen]; omega)]
    subst hl'
    simp only [eraseF]
    rw [List.getElem_append_left (by simp; omega), List.getElem_append_right (by simp; omega)]
    simp
  have mr : ∀ i, hiF l b ≤ i → i < l.length → cat l' i = cat l i := fun i h1 h2 => by
    rw [cat_get _ (by rw [← hl', hlen]; omega), cat_get _ h2]
    subst hl'
    simp only [eraseF]
    rw [List.getElem_append_right (by simp; omega)]
    simp only [List.getElem_drop]
    congr 1
    simp; omega
  have hb0 : halfF (blankF s) = false := by simp [halfF, blankF]
  rw [hl'] at hlen ⊢
  have elo : loF l' b = b := by
    unfold loF
    rcases Nat.lt_or_ge b (hiF l b) with c1 | c1
    · rw [ml b c1 (by omega), hb0]; simp
    · rw [mr b c1 (by omega)]
      have : ¬ (b < l.length ∧ halfF (cat l b) = true) := fun z => by unfold hiF at c1; rw [if_pos z] at c1; omega
      rw [if_neg (fun z => this ⟨by omega, z⟩)]
  have ehi : hiF l' c = hiF l c := by
    unfold hiF
    rw [hlen]
    rcases Nat.lt_or_ge c l.length with c1 | c1
    · rw [mr c (by omega) c1]
    · rw [if_neg (by omega), if_neg (by omega)]
  rw [elo, ehi]
  subst hl'
  have hcb : hiF l b ≤ hiF l c := by omega
  unfold eraseF
  have e1 : (l.take (loF l a) ++ List.replicate (hiF l b - loF l a) (blankF s) ++ l.drop (hiF l b)).take b = l.take (loF l a) ++ List.replicate (b - loF l a) (blankF s) := by
    rw [List.take_append_of_le_length (by simp; omega), List.take_append, List.take_of_length_le (by simp; omega), List.take_replicate]
    congr 2
    simp; omega
  have e2 : (l.take (loF l a) ++ List.replicate (hiF l b - loF l a) (blankF s) ++ l.drop (hiF l b)).drop (hiF l c) = l.drop (hiF l c) := by
    rw [List.drop_append, List.drop_of_length_le (by simp; omega), List.nil_append, List.drop_drop]
    congr 1
    simp; omega
  rw [e1, e2]
  rw [List.append_assoc, List.append_assoc, List.append_assoc, ← List.append_assoc (List.replicate _ _) (List.replicate _ _), List.replicate_append_replicate]
  congr 3
  omega
theorem row_two {r : Rw} (hr : rowF r = 0) {a b c : Nat} {s : Sty} (hs : styF s = 0) (hab : a ≤ b) (hbc : b < c) (hc : c ≤ r.cells.length) :
    (eraseRowF (eraseRowF r a b s).1 b c s).1 = (eraseRowF r a c s).1 := by
  obtain ⟨k0, k1⟩ := kept_erase (r := r) (a := a) (b := b) (s := s) hr (by omega) (by omega) (by omega) hs
  rw [eraseRow_ok (r := (eraseRowF r a b s).1) k1.ok (by omega) (by omega) (by rw [k1.len]; omega) hs, if_neg (by omega)]
  rw [eraseRow_ok (r := r) (a := a) (b := c) hr (by omega) (by omega) (by omega) hs, if_neg (by omega)]
  rw [eraseRow_ok (r := r) (a := a) (b := b) hr (by omega) (by omega) (by omega) hs]
  by_cases z : (a : Int) = b
  · rw [if_pos z]
    obtain rfl : a = b := by omega
    rfl
  · rw [if_neg z]
    have hv := (row_len hr).2.2
    simp only [Int.toNat_natCast]
    have v := chain_val hv
    obtain ⟨q1, q2, q3, q4⟩ := lo_hi v (show a < b by omega) (show b ≤ r.cells.length by omega)
    obtain ⟨p1, p2, p3, _⟩ := lo_hi v (show a < c by omega) hc
    have hlen := erase_len (l := r.cells) (a := loF r.cells a) (b := hiF r.cells b) s (by omega) q3
    have hib : hiF r.cells b ≤ b + 1 := by unfold hiF; split <;> omega
    have ehi : hiF (eraseF r.cells (loF r.cells a) (hiF r.cells b) s) c = hiF r.cells c := by
      unfold hiF
      rw [show (eraseF r.cells (loF r.cells a) (if b < r.cells.length ∧ halfF (cat r.cells b) = true then b + 1 else b) s).length = r.cells.length from hlen]
      rcases Nat.lt_or_ge c r.cells.length with c1 | c1
      · have : cat (eraseF r.cells (loF r.cells a) (hiF r.cells b) s) c = cat r.cells c := by
          rw [cat_get _ (by rw [hlen]; omega), cat_get _ c1]
          simp only [eraseF]
          rw [List.getElem_append_right (by simp; omega)]
          simp only [List.getElem_drop]
          congr 1
          simp; omega
        unfold hiF at this
        rw [this]
      · rw [if_neg (by omega), if_neg (by omega)]
    rw [cells_two hv hs (by omega) hbc hc]
    simp only [hlen, ehi]
    congr 1
    by_cases w : r.wrapped <;> simp [w]
    omega
def placeP (w : Nat) (k : Nat) : Nat × Nat := (k / w, k % w)
/-- THE LAW: in two parts as at once -/
theorem whole_two {w n : Nat} {g : List Rw} (h : GV w n g) {s : Sty} (hs : styF s = 0) {a b c : Nat} (hab : a ≤ b) (hbc : b < c) (hc : c ≤ n * w) :
    eraseTo w ((b / w : Nat) : Int) ((b % w : Nat) : Int) ((c / w : Nat) : Int) ((c % w : Nat) : Int) s (eraseTo w ((a / w : Nat) : Int) ((a % w : Nat) : Int) ((b / w : Nat) : Int) ((b % w : Nat) : Int) s g n) n =
    eraseTo w ((a / w : Nat) : Int) ((a % w : Nat) : Int) ((c / w : Nat) : Int) ((c % w : Nat) : Int) s g n := by
  have hw := h.w2
  have hab' : a / w ≤ b / w := Nat.div_le_div_right hab
  have hbc' : b / w ≤ c / w := Nat.div_le_div_right (by omega)
  have ma := Nat.mod_lt a (show 0 < w by omega)
  have mb := Nat.mod_lt b (show 0 < w by omega)
  have mc := Nat.mod_lt c (show 0 < w by omega)
  have da := Nat.div_add_mod a w
  have db := Nat.div_add_mod b w
  have dc := Nat.div_add_mod c w
  have oab : a / w = b / w → a % w ≤ b % w := fun e => by rw [e] at da; omega
  have obc : b / w = c / w → b % w < c % w := fun e => by rw [e] at db; omega
  refine List.ext_getElem (by simp [eraseTo]) fun i h1 h2 => ?_
  have hi : i < g.length := by simpa [eraseTo] using h2
  have hin : i < n := by rw [← h.len]; exact hi
  simp only [eraseTo, List.getElem_mapIdx, if_pos hin]
  obtain ⟨r1, r2⟩ := h.rows _ (List.getElem_mem hi)
  generalize g[i] = r at *
  unfold eraseAt
  by_cases c1 : i < a / w
  · rw [if_neg (by omega), if_neg (by omega), if_neg (by omega)]
  by_cases c2 : c / w < i
  · rw [if_neg (by omega), if_neg (by omega), if_neg (by omega)]
  rw [if_pos (show ((a / w : Nat) : Int) ≤ (i : Int) ∧ (i : Int) ≤ ((c / w : Nat) : Int) by omega)]
  by_cases c3 : i < b / w
  · rw [if_neg (show ¬ (((b / w : Nat) : Int) ≤ (i : Int) ∧ (i : Int) ≤ ((c / w : Nat) : Int)) by omega), if_pos (by omega), if_neg (show ¬ ((i : Int) = ((b / w : Nat) : Int)) by omega), if_neg (show ¬ ((i : Int) = ((c / w : Nat) : Int)) by omega)]
  by_cases c4 : i = b / w
  · rw [if_pos (show ((b / w : Nat) : Int) ≤ (i : Int) ∧ (i : Int) ≤ ((c / w : Nat) : Int) by omega), if_pos (show ((a / w : Nat) : Int) ≤ (i : Int) ∧ (i : Int) ≤ ((b / w : Nat) : Int) by omega),
      if_pos (show (i : Int) = ((b / w : Nat) : Int) by omega)]
    have eA : (if (i : Int) = ((a / w : Nat) : Int) then ((a % w : Nat) : Int) else 0) = ((if i = a / w then a % w else 0 : Nat) : Int) := by split <;> split <;> omega
    have eC : (if (i : Int) = ((c / w : Nat) : Int) then ((c % w : Nat) : Int) else (w : Int)) = ((if i = c / w then c % w else w : Nat) : Int) := by split <;> split <;> omega
    rw [eA, eC, if_pos (show (i : Int) = ((b / w : Nat) : Int) by omega)]
    refine row_two r1 hs ?_ ?_ ?_
    · split
      · exact oab (by omega)
      · omega
    · split
      · exact obc (by omega)
      · exact mb
    · rw [r2]; split <;> omega
  · rw [if_pos (show ((b / w : Nat) : Int) ≤ (i : Int) ∧ (i : Int) ≤ ((c / w : Nat) : Int) by omega), if_neg (show ¬ (((a / w : Nat) : Int) ≤ (i : Int) ∧ (i : Int) ≤ ((b / w : Nat) : Int)) by omega),
      if_neg (show ¬ ((i : Int) = ((b / w : Nat) : Int)) by omega), if_neg (show ¬ ((i : Int) = ((a / w : Nat) : Int)) by omega)]
/-- every erased cell is a blank -/
theorem whole_blank {w n : Nat} {g : List Rw} (h : GV w n g) {s : Sty} (hs : styF s = 0) {a c k : Nat} (hak : a ≤ k) (hkc : k < c) (hc : c ≤ n * w) :
    ∃ r, (eraseTo w ((a / w : Nat) : Int) ((a % w : Nat) : Int) ((c / w : Nat) : Int) ((c % w : Nat) : Int) s g n)[k / w]? = some r ∧ r.cells[k % w]? = some (blankF s) := by
  have hw := h.w2
  have hab' : a / w ≤ k / w := Nat.div_le_div_right hak
  have hbc' : k / w ≤ c / w := Nat.div_le_div_right (by omega)
  have ma := Nat.mod_lt a (show 0 < w by omega)
  have mb := Nat.mod_lt k (show 0 < w by omega)
  have mc := Nat.mod_lt c (show 0 < w by omega)
  have da := Nat.div_add_mod a w
  have db := Nat.div_add_mod k w
  have dc := Nat.div_add_mod c w
  have oab : a / w = k / w → a % w ≤ k % w := fun e => by rw [e] at da; omega
  have obc : k / w = c / w → k % w < c % w := fun e => by rw [e] at db; omega
  have hin : k / w < n := (Nat.div_lt_iff_lt_mul (by omega)).2 (by omega)
  have hi : k / w < g.length := by rw [h.len]; exact hin
  obtain ⟨r1, r2⟩ := h.rows _ (List.getElem_mem hi)
  refine ⟨_, List.getElem?_eq_getElem (by simpa [eraseTo] using hi), ?_⟩
  simp only [eraseTo, List.getElem_mapIdx, if_pos hin]
  generalize g[k / w] = r at *
  unfold eraseAt
  rw [if_pos (by omega)]
  have eA : (if ((k / w : Nat) : Int) = ((a / w : Nat) : Int) then ((a % w : Nat) : Int) else 0) = ((if k / w = a / w then a % w else 0 : Nat) : Int) := by split <;> split <;> omega
  have eC : (if ((k / w : Nat) : Int) = ((c / w : Nat) : Int) then ((c % w : Nat) : Int) else (w : Int)) = ((if k / w = c / w then c % w else w : Nat) : Int) := by split <;> split <;> omega
  rw [eA, eC]
  have hA : (if k / w = a / w then a % w else 0) ≤ k % w := by
    split
    · exact oab (by omega)
    · omega
  have hC : k % w < (if k / w = c / w then c % w else w) ∧ (if k / w = c / w then c % w else w) ≤ w := by
    split
    · exact ⟨obc (by omega), by omega⟩
    · exact ⟨mb, Nat.le_refl _⟩
  generalize (if k / w = a / w then a % w else 0) = A at *
  generalize (if k / w = c / w then c % w else w) = C at *
  rw [eraseRow_ok r1 (by omega) (by omega) (by omega) hs, if_neg (by omega)]
  simp only [Int.toNat_natCast]
  have v := chain_val (row_len r1).2.2
  obtain ⟨q1, q2, q3, q4⟩ := lo_hi v (show A < C by omega) (show C ≤ r.cells.length by omega)
  unfold eraseF
  rw [List.getElem?_append_left (by simp; omega), List.getElem?_append_right (by simp; omega), List.getElem?_replicate, if_pos (by simp; omega)]
theorem whole_none {w n : Nat} {g : List Rw} (h : GV w n g) {s : Sty} (hs : styF s = 0) {a : Nat} :
    eraseTo w ((a / w : Nat) : Int) ((a % w : Nat) : Int) ((a / w : Nat) : Int) ((a % w : Nat) : Int) s g n = g := by
  have hw := h.w2
  have ma := Nat.mod_lt a (show 0 < w by omega)
  refine List.ext_getElem (by simp [eraseTo]) fun i h1 h2 => ?_
  obtain ⟨r1, r2⟩ := h.rows _ (List.getElem_mem h2)
  simp only [eraseTo, List.getElem_mapIdx]
  rw [if_pos (by rw [← h.len]; exact h2)]
  unfold eraseAt
  split
  · rw [if_pos (by omega), if_pos (by omega), eraseRow_ok r1 (by omega) (by omega) (by omega) hs, if_pos rfl]
  · rfl
/-- a place that may be -/
theorem place_of {w n : Nat} {g : List Rw} (h : GV w n g) {k : Nat} (hk : k ≤ n * w) : placeF g ((k / w : Nat) : Int) ((k % w : Nat) : Int) = true := by
  have hw := h.w2
  have mb := Nat.mod_lt k (show 0 < w by omega)
  have db := Nat.div_add_mod k w
  rw [place_iff, h.cols, h.len]
  rcases Nat.lt_or_ge k (n * w) with c | c
  · left
    have : k / w < n := (Nat.div_lt_iff_lt_mul (by omega)).2 (by omega)
    exact ⟨Int.natCast_nonneg _, Int.ofNat_lt.2 this, Int.natCast_nonneg _, Int.ofNat_le.2 (Nat.le_of_lt mb)⟩
  · right
    obtain rfl : k = n * w := by omega
    rw [Nat.mul_div_cancel _ (by omega), Nat.mul_mod_left]
    exact ⟨rfl, rfl⟩
theorem whole_erase {w n : Nat} {g : List Rw} (h : GV w n g) {s : Sty} (hs : styF s = 0) {a c : Nat} (hac : a ≤ c) (hc : c ≤ n * w) :
    eraseGF g ((a / w : Nat) : Int) ((a % w : Nat) : Int) ((c / w : Nat) : Int) ((c % w : Nat) : Int) s = (eraseTo w ((a / w : Nat) : Int) ((a % w : Nat) : Int) ((c / w : Nat) : Int) ((c % w : Nat) : Int) s g n, 0) ∧
    GV w n (eraseTo w ((a / w : Nat) : Int) ((a % w : Nat) : Int) ((c / w : Nat) : Int) ((c % w : Nat) : Int) s g n) := by
  have hac' : a / w ≤ c / w := Nat.div_le_div_right hac
  have da := Nat.div_add_mod a w
  have dc := Nat.div_add_mod c w
  exact erase_valid h (place_of h (by omega)) (place_of h hc) (by omega) (fun e => by
    have e' : a / w = c / w := by omega
    rw [e'] at da; omega) hs
/-! ### the law -/
def gatHS : HS := { wr := false, eff := fun xs h => match xs with
  | [.val (.int .i64 k), .ptr id 0 0] => (match h[id]? with
    | some (.box _ [.val (.int .i64 w)]) => ((2 ≤ w ∧ w ≤ 80 ∧ 0 ≤ k ∧ k ≤ 1000000) ∧ allB h.length h, .agg [.int .i64 (k / w), .int .i64 (k % w)], h)
    | _ => (False, .dead, h))
  | _ => (False, .dead, h) }
def gatSpec : Spec := { pre := fun _ => False, res := fun _ => .many [], hp := some gatHS }
def G_gat : Specs := []
@[simp] theorem G_gat_live : Specs.live G_gat = false := rfl
theorem G_gat_ok (gl : Gl) : SpecsOK Tryd.prog gl G_gat := .nil _ _
set_option maxRecDepth 10000 in
theorem gat_sound (gl : Gl) : Sound Tryd.prog gl 24 gatSpec := by
  refine sound_heap (hs := gatHS) (N := Tryd.f24.ntmps) (rs := Tryd.f24.results.toList) mixed tok (G_gat_ok gl) Tryd.func24 rfl rfl rfl rfl rfl ?_ ?_
  · intro xs h hp
    simp only [gatHS] at hp
    split at hp
    all_goals first | exact hp.elim | simp [Tryd.f24]
  · intro xs h hp bs hgl hh hro
    have hE : Env.OK ⟨Tryd.prog, T, G_gat, bs⟩ := ⟨tok, by rw [hgl]; exact G_gat_ok gl⟩
    simp only [gatHS] at hp
    split at hp
    · rename_i k id
      split at hp
      · rename_i w hb
        obtain ⟨⟨h0, h1, h2, h3⟩, hcl⟩ := hp
        have e1 : k.tdiv w = k / w := Int.tdiv_eq_ediv_of_nonneg h2
        have e2 : k.tmod w = k % w := Int.tmod_eq_emod_of_nonneg h2
        have b1 : 0 ≤ k / w := Int.ediv_nonneg h2 (by omega)
        have b2 : k / w ≤ k := Int.ediv_le_self _ h2
        have b3 := Int.emod_nonneg k (show w ≠ 0 by omega)
        have b4 := Int.emod_lt_of_pos k (show 0 < w by omega)
        have w1 : IntKind.i64.wrap (k / w) = k / w := wrap64 _ (by omega) (by omega)
        have nz : ¬ w = 0 := by omega
        have hlt := lt_of_get hb
        have hb' : ∀ ex : List Blk, (h ++ ex)[id]? = some (.box 3 [.val (.int .i64 w)]) ∨ True := fun _ => .inr trivial
        have hb2 : ∀ (b : Blk), (h ++ [b])[id]? = h[id]? := fun b => by rw [List.getElem?_append_left hlt]
        simp -implicitDefEqProofs [Tryd.f24, hcEff, gatHS, hb, hb2, e1, e2, w1, nz]
        exact ⟨by rfl, _, h, ⟨rfl, rfl⟩, Weak.drop (ClosedH.of hcl) (by rw [hh]; exact Nat.le_refl _) (by simp) (by simp)⟩
      · exact hp.elim
    · exact hp.elim
def u2 : Sty := ⟨0, 2, 0, 0, 0, 0, 0, 0⟩
structure WholeF (w n : Nat) (g : List Rw) (a b c : Nat) (O T : List Rw) : Prop where
  no : O.length = n
  nt : T.length = n
  fo : RowsFin O
  ft : RowsFin T
  two : b < c → O = T
  blank : ∀ k, a ≤ k → k < c → ∃ r, O[k / w]? = some r ∧ r.cells[k % w]? = some (blankF u2)
  none : a = c → O = g
theorem whole_facts {w n : Nat} {g : List Rw} (h : GV w n g) {a b c : Nat} (hab : a ≤ b) (hbc : b ≤ c) (hc : c ≤ n * w) : ∃ O H T,
    eraseGF g ((a : Int) / (w : Int)) ((a : Int) % (w : Int)) ((c : Int) / (w : Int)) ((c : Int) % (w : Int)) u2 = (O, 0) ∧
    eraseGF g ((a : Int) / (w : Int)) ((a : Int) % (w : Int)) ((b : Int) / (w : Int)) ((b : Int) % (w : Int)) u2 = (H, 0) ∧
    eraseGF H ((b : Int) / (w : Int)) ((b : Int) % (w : Int)) ((c : Int) / (w : Int)) ((c : Int) % (w : Int)) u2 = (T, 0) ∧ GV w n H ∧ WholeF w n g a b c O T := by
  have hs : styF u2 = 0 := by decide
  obtain ⟨e1, v1⟩ := whole_erase h hs (show a ≤ c by omega) hc
  obtain ⟨e2, v2⟩ := whole_erase h hs hab (show b ≤ n * w by omega)
  obtain ⟨e3, v3⟩ := whole_erase v2 hs hbc hc
  refine ⟨_, _, _, by simpa only [Int.natCast_ediv, Int.natCast_emod] using e1, by simpa only [Int.natCast_ediv, Int.natCast_emod] using e2, by simpa only [Int.natCast_ediv, Int.natCast_emod] using e3, by simpa only [Int.natCast_ediv, Int.natCast_emod] using v2, ?_⟩
  have w1 : WholeF w n g a b c (eraseTo w ((a / w : Nat) : Int) ((a % w : Nat) : Int) ((c / w : Nat) : Int) ((c % w : Nat) : Int) u2 g n) (eraseTo w ((b / w : Nat) : Int) ((b % w : Nat) : Int) ((c / w : Nat) : Int) ((c % w : Nat) : Int) u2 (eraseTo w ((a / w : Nat) : Int) ((a % w : Nat) : Int) ((b / w : Nat) : Int) ((b % w : Nat) : Int) u2 g n) n) :=
    ⟨v1.len, v3.len, v1.fin, v3.fin, fun q => (whole_two h hs hab q hc).symm, fun k h1 h2 => whole_blank h hs h1 h2 hc, fun q => by subst q; exact whole_none h hs⟩
  simpa only [Int.natCast_ediv, Int.natCast_emod] using w1
theorem cell_at {l : List Cel} {m : Nat} {x : Cel} (h : l[m]? = some x) : m < l.length ∧ List.take 12 (List.drop (m * 12) (celsC l)) = celC x := by
  have hm := lt_of_get h
  have hx : l[m] = x := by rw [List.getElem?_eq_getElem hm] at h; exact Option.some.inj h
  have := celsC_at hm
  rw [hx] at this
  exact ⟨hm, by rw [this, List.take_left' (by rfl)]⟩
theorem row_get {O : List Rw} {q : Nat} {r : Rw} (h : O[q]? = some r) : q < O.length ∧ (rowsC O)[q * 2]?.getD .nilf = .sl r.cells.length (celsC r.cells) := by
  have hq := lt_of_get h
  have hr : O[q] = r := by rw [List.getElem?_eq_getElem hq] at h; exact Option.some.inj h
  have := rowsC_at hq
  rw [hr] at this
  refine ⟨hq, ?_⟩
  have e : (List.drop (q * 2) (rowsC O))[0]? = some (.sl r.cells.length (celsC r.cells)) := by rw [this]; rfl
  rw [List.getElem?_drop, Nat.add_zero] at e
  rw [e]; rfl
def lawWholeSpec : Spec := { pre := fun args => ∃ (c : Int) (L : List Dr) (a0 a1 a2 : Int), args = [.agg [.int .u8 c, .sl L.length (L.flatMap drC)], .agg [.int .u16 a0, .int .u16 a1, .int .u16 a2]] ∧ 0 ≤ c ∧ c < 256 ∧ (∀ d ∈ L, d.ok) ∧ (0 ≤ a0 ∧ a0 < 65536) ∧ (0 ≤ a1 ∧ a1 < 65536) ∧ 0 ≤ a2 ∧ a2 < 65536, res := fun _ => .one (.val (.c (.bool true))) }
def whoH (w : Nat) : List Blk := [.box 3 [.val (.int .i64 w)], .box 32 ((styC u2).map .val)]
def whoS1 (g O T : List Rw) (w n a b c : Nat) : St :=
  ⟨164, [(5, .val (.sl n (rowsC g))), (6, .ptr 0 0 0), (7, .ptr 1 0 0), (10, .val (.int .i64 a)), (11, .val (.int .i64 c)), (12, .val (.int .i64 b)), (13, .val (.sl n (rowsC O))), (14, .val (.int .i64 0)), (16, .val (.int .i64 0)), (17, .val (.sl n (rowsC T))), (18, .val (.int .i64 0))], whoH w⟩
def whoS2 (g O : List Rw) (w n a c k : Nat) : St :=
  ⟨164, [(5, .val (.sl n (rowsC g))), (6, .ptr 0 0 0), (7, .ptr 1 0 0), (10, .val (.int .i64 a)), (11, .val (.int .i64 c)), (13, .val (.sl n (rowsC O))), (19, .val (.int .i64 k))], whoH w⟩
def G_lawWhole : Specs := [(17, gworksSpec), (20, dgridSpec), (18, geraseSpec), (16, samesSpec), (24, gatSpec)]
@[simp] theorem G_lawWhole_live : Specs.live G_lawWhole = false := rfl
@[simp] theorem G_lawWhole_17 : G_lawWhole.find 17 = some gworksSpec := rfl
@[simp] theorem G_lawWhole_20 : G_lawWhole.find 20 = some dgridSpec := rfl
@[simp] theorem G_lawWhole_18 : G_lawWhole.find 18 = some geraseSpec := rfl
@[simp] theorem G_lawWhole_16 : G_lawWhole.find 16 = some samesSpec := rfl
@[simp] theorem G_lawWhole_24 : G_lawWhole.find 24 = some gatSpec := rfl
theorem G_lawWhole_ok : SpecsOK Tryd.prog glW G_lawWhole := .cons gworks_sound (.cons (dgrid_sound glW) (.cons gerase_sound (.cons (sames_sound glW) (.cons (gat_sound glW) (.nil _ _)))))
set_option maxHeartbeats 8000000 in
set_option maxRecDepth 10000 in
theorem lawWhole_sound : Sound Tryd.prog glW 6 lawWholeSpec := by
  refine sound_awp (N := Tryd.f6.ntmps) (rs := Tryd.f6.results.toList) tok Tryd.func6 rfl rfl rfl rfl rfl ?_ ?_ ?_
  · rintro args ⟨c0,L,a0,a1,a2,rfl,h0,h1,hL,⟨p0,p1⟩,⟨q0,q1⟩,r0,r1⟩; simp [Tryd.f6]
  · rintro args ⟨c0,L,a0,a1,a2,rfl,h0,h1,hL,⟨p0,p1⟩,⟨q0,q1⟩,r0,r1⟩; simp [lawWholeSpec, Tryd.f6]
  · rintro args ⟨c0,L,a0,a1,a2,rfl,h0,h1,hL,⟨p0,p1⟩,⟨q0,q1⟩,r0,r1⟩ bs hgl hh hro
    have hE : Env.OK ⟨Tryd.prog, T, G_lawWhole, bs⟩ := ⟨tok, by rw [hgl]; exact G_lawWhole_ok⟩
    have eL : ∃ x : List Dr, L.length = x.length ∧ L.flatMap drC = x.flatMap drC ∧ ∀ d ∈ x, d.ok := ⟨L, rfl, rfl, hL⟩
    have hV := GV.grid c0 L
    obtain ⟨w, hw⟩ : ∃ w, 2 + c0.toNat % 79 = w := ⟨_, rfl⟩
    obtain ⟨n, hn⟩ : ∃ n, manyG L = n := ⟨_, rfl⟩
    rw [hw, hn] at hV
    obtain ⟨g, hD⟩ : ∃ D, gridD c0 L = D := ⟨_, rfl⟩
    rw [hD] at hV
    have gl := hV.len
    have n1 := hV.n1
    have n40 := hV.n40
    have hw2 := hV.w2
    obtain ⟨hd0, hr0, gl0⟩ := headG hV
    obtain ⟨N, hN⟩ : ∃ N, n * w = N := ⟨_, rfl⟩
    have hNi : (n : Int) * (w : Int) = (N : Int) := by rw [← hN]; exact (Int.natCast_mul _ _).symm
    have hN2 : N ≤ 3200 := by rw [← hN]; exact Nat.mul_le_mul n40 hw2.2
    obtain ⟨a, ha, ha2⟩ : ∃ a : Nat, a0 % ((N : Int) + 1) = a ∧ a ≤ N := by
      have := Int.emod_nonneg a0 (show (N : Int) + 1 ≠ 0 by omega)
      have := Int.emod_lt_of_pos a0 (show 0 < (N : Int) + 1 by omega)
      exact ⟨(a0 % ((N : Int) + 1)).toNat, by omega, by omega⟩
    obtain ⟨c, hc, hc2, hc3⟩ : ∃ c : Nat, a1 % ((N : Int) + 1 - a) = (c : Int) - a ∧ a ≤ c ∧ c ≤ N := by
      have := Int.emod_nonneg a1 (show (N : Int) + 1 - a ≠ 0 by omega)
      have := Int.emod_lt_of_pos a1 (show 0 < (N : Int) + 1 - a by omega)
      exact ⟨a + (a1 % ((N : Int) + 1 - a)).toNat, by omega, by omega, by omega⟩
    obtain ⟨b, hb, hb2, hb3⟩ : ∃ b : Nat, a2 % ((c : Int) + 1 - a) = (b : Int) - a ∧ a ≤ b ∧ b ≤ c := by
      have := Int.emod_nonneg a2 (show (c : Int) + 1 - a ≠ 0 by omega)
      have := Int.emod_lt_of_pos a2 (show 0 < (c : Int) + 1 - a by omega)
      exact ⟨a + (a2 % ((c : Int) + 1 - a)).toNat, by omega, by omega, by omega⟩
    obtain ⟨O, H, T', eO, eH, eT, vH, F⟩ := whole_facts hV hb2 hb3 (show c ≤ n * w by rw [hN]; exact hc3)
    have no := F.no
    have nt := F.nt
    have hHl := vH.len
    have gO : ∃ x : List Rw, n = x.length ∧ g = x ∧ RowsOK x := ⟨g, gl.symm, rfl, hV.rok⟩
    have hO : ∃ x : List Rw, n = x.length ∧ H = x ∧ RowsOK x := ⟨H, hHl.symm, rfl, vH.rok⟩
    have so : u2.ok := ⟨by decide, by decide⟩
    have sX : List.take 1 (List.map X.val (styC sty0)) ++ [X.val (.int .i64 2), X.val (.int .i64 sty0.fk), X.val (.int .i64 sty0.fn), X.val (.int .i64 sty0.bk), X.val (.int .i64 sty0.bn), X.val (.int .i64 sty0.lk), X.val (.int .i64 sty0.ln)] = List.map X.val (styC u2) := rfl
    have sC : List.take 1 (styC sty0) ++ [.int .i64 2, .int .i64 sty0.fk, .int .i64 sty0.fn, .int .i64 sty0.bk, .int .i64 sty0.bn, .int .i64 sty0.lk, .int .i64 sty0.ln] = styC u2 := rfl
    have wN : IntKind.i64.wrap ((N : Int)) = N := wrap64 _ (by omega) (by omega)
    have wa0 : IntKind.i64.wrap a0 = a0 := wrap64 _ (by omega) (by omega)
    have wa1 : IntKind.i64.wrap a1 = a1 := wrap64 _ (by omega) (by omega)
    have wa2 : IntKind.i64.wrap a2 = a2 := wrap64 _ (by omega) (by omega)
    have wN1 : IntKind.i64.wrap ((N : Int) + 1) = (N : Int) + 1 := wrap64 _ (by omega) (by omega)
    have wNa : IntKind.i64.wrap ((N : Int) + 1 - a) = (N : Int) + 1 - a := wrap64 _ (by omega) (by omega)
    have wc1 : IntKind.i64.wrap ((c : Int) + 1) = (c : Int) + 1 := wrap64 _ (by omega) (by omega)
    have wca : IntKind.i64.wrap ((c : Int) + 1 - a) = (c : Int) + 1 - a := wrap64 _ (by omega) (by omega)
    have wac : IntKind.i64.wrap ((a : Int) + ((c : Int) - a)) = c := by rw [wrap64 _ (by omega) (by omega)]; omega
    have wab : IntKind.i64.wrap ((a : Int) + ((b : Int) - a)) = b := by rw [wrap64 _ (by omega) (by omega)]; omega
    have m0 := u8_mod p0 ((N : Int) + 1)
    have m1 := u8_mod q0 ((N : Int) + 1 - a)
    have m2 := u8_mod r0 ((c : Int) + 1 - a)
    rw [ha] at m0
    rw [hc] at m1
    rw [hb] at m2
    have z0 : ¬ ((N : Int) + 1 = 0) := by omega
    have z1 : ¬ ((N : Int) + 1 - a = 0) := by omega
    have z2 : ¬ ((c : Int) + 1 - a = 0) := by omega
    have k0 : (2 : Int) ≤ w ∧ (w : Int) ≤ 80 := by omega
    have ka : 0 ≤ (a : Int) ∧ (a : Int) ≤ 1000000 := by omega
    have kb : 0 ≤ (b : Int) ∧ (b : Int) ≤ 1000000 := by omega
    have kc : 0 ≤ (c : Int) ∧ (c : Int) ≤ 1000000 := by omega
    have n0 : 0 < n := by omega
    refine wpcU_ok hE mixed 14 _ _ _ ?_
    simp -implicitDefEqProofs [-Bool.exists_bool, and_assoc, lawWholeSpec, dgridSpec, gatSpec, geraseSpec, gworksSpec, samesSpec, Tryd.f6, gatHS, hcEff, h0, h1, eL, drsOf_C, hD, gl, hr0, gl0, hNi, wN, wa0, wa1, wa2, wN1, wNa, wc1, wca, wac, wab, m0, m1, m2, z0, z1, z2, k0, ka, kb, kc, n0, eO, eH, eT, no, nt, hHl, gO, hO, so, sX, sC, rowsOf_C, rowsV, styV]
    repeat (refine And.intro (by decide +kernel) ?_)
    refine AWP.weaken (Weak.ren (r' := (whoS1 g O T' w n a b c).r) (h' := (whoS1 g O T' w n a b c).h) [some 2, some 3] (baseOK.nil hh) (by simp) (by simp [whoS1, whoH]) (by simp [whoS1, whoH])) ?_
    refine wpc_ok hE mixed _ _ _ ?_
    have fo := F.fo
    have hbf : (blankF u2 = ⟨32, 0, 0, 0, u2⟩) = True := eq_true rfl
    have xO : ∃ x : List Rw, n = x.length ∧ O = x ∧ RowsFin x := ⟨O, no.symm, rfl, fo⟩
    by_cases d : b < c
    · have hOT := F.two d
      subst hOT
      have d' : ((b : Int) < (c : Int)) = True := eq_true (by omega)
      simp -implicitDefEqProofs [-Bool.exists_bool, whoS1, whoH, and_assoc, dgridSpec, gatSpec, geraseSpec, gworksSpec, samesSpec, d', xO, no, rowsOf_C, rowsV]
      refine AWP.leaves 0 (whoS2 g O w n a c c) (AWP.rounds (fun k => a ≤ k ∧ k ≤ c) (whoS2 g O w n a c) (fun k => c - k) a ⟨Nat.le_refl _, by omega⟩ ?_ ?_) ?_
      · exact Weak.keep (by simp [whoS2])
      · rintro k ⟨k1, k2⟩
        refine wpc_ok hE mixed _ _ _ ?_
        rcases Nat.lt_or_ge k c with f | f
        · obtain ⟨r, g1, g2⟩ := F.blank k k1 f
          obtain ⟨l1, l2⟩ := row_get g1
          obtain ⟨l3, l4⟩ := cell_at g2
          have iq : k / w * 2 < (rowsC O).length := by rw [rowsC_len]; omega
          have l2' : (rowsC O)[k / w * 2] = C.sl r.cells.length (celsC r.cells) := by rw [List.getElem?_eq_getElem iq] at l2; exact l2
          rw [no] at l1
          have e1 : (k : Int).tdiv (w : Int) = ((k / w : Nat) : Int) := by rw [Int.tdiv_eq_ediv_of_nonneg (by omega), Int.natCast_ediv]
          have e2 : (k : Int).tmod (w : Int) = ((k % w : Nat) : Int) := by rw [Int.tmod_eq_emod_of_nonneg (by omega), Int.natCast_emod]
          have wz : ¬ w = 0 := by omega
          generalize k / w = q at *
          generalize k % w = m at *
          have wq : IntKind.i64.wrap (q : Int) = q := wrap64 _ (by omega) (by omega)
          have lq : 0 < n * 2 - q * 2 := by omega
          have lm : 12 ≤ r.cells.length * 12 - m * 12 := by omega
          have wk : IntKind.i64.wrap ((k : Int) + 1) = ((k + 1 : Nat) : Int) := by rw [wrap64 _ (by omega) (by omega)]; omega
          have f' : ((k : Int) < (c : Int)) = True := eq_true (by omega)
          simp -implicitDefEqProofs [-Bool.exists_bool, whoS2, whoH, and_assoc, dgridSpec, gatSpec, geraseSpec, gworksSpec, samesSpec, f', e1, e2, wz, wq, no, l1, l2, l2', l3, l4, lq, lm, wk, hbf]
          exact ⟨by decide +kernel, Next.mk (k + 1) ⟨Nat.le_succ_of_le k1, f⟩ (by show c - (k + 1) < c - k; omega) (Weak.keep (by simp [whoS2]))⟩
        · obtain rfl : k = c := by omega
          simp -implicitDefEqProofs [-Bool.exists_bool, whoS2, whoH, and_assoc, dgridSpec, gatSpec, geraseSpec, gworksSpec, samesSpec]
          exact Leaves.mk (Weak.keep (by simp [whoS2]))
      · by_cases z : a < c
        · have z' : ((a : Int) < (c : Int)) = True := eq_true (by omega)
          simp -implicitDefEqProofs [-Bool.exists_bool, whoS2, whoH, and_assoc, dgridSpec, gatSpec, geraseSpec, gworksSpec, samesSpec, z']
        · have z' : ((a : Int) < (c : Int)) = False := eq_false (by omega)
          have hg := F.none (by omega)
          have xg : ∃ x : List Rw, n = x.length ∧ g = x ∧ RowsFin x := ⟨g, gl.symm, rfl, hV.fin⟩
          simp -implicitDefEqProofs [-Bool.exists_bool, whoS2, whoH, and_assoc, dgridSpec, gatSpec, geraseSpec, gworksSpec, samesSpec, z', hg, xg, gl, rowsOf_C, rowsV]
    · have d' : ((b : Int) < (c : Int)) = False := eq_false (by omega)
      simp -implicitDefEqProofs [-Bool.exists_bool, whoS1, whoH, and_assoc, dgridSpec, gatSpec, geraseSpec, gworksSpec, samesSpec, d', xO, no, rowsOf_C, rowsV]
      refine ⟨fun q => ⟨q, O, no.symm, rfl, nt.symm, fo⟩, ?_⟩
      refine AWP.leaves 0 (whoS2 g O w n a c c) (AWP.rounds (fun k => a ≤ k ∧ k ≤ c) (whoS2 g O w n a c) (fun k => c - k) a ⟨Nat.le_refl _, by omega⟩ ?_ ?_) ?_
      · exact Weak.keep (by simp [whoS2])
      · rintro k ⟨k1, k2⟩
        refine wpc_ok hE mixed _ _ _ ?_
        rcases Nat.lt_or_ge k c with f | f
        · obtain ⟨r, g1, g2⟩ := F.blank k k1 f
          obtain ⟨l1, l2⟩ := row_get g1
          obtain ⟨l3, l4⟩ := cell_at g2
          have iq : k / w * 2 < (rowsC O).length := by rw [rowsC_len]; omega
          have l2' : (rowsC O)[k / w * 2] = C.sl r.cells.length (celsC r.cells) := by rw [List.getElem?_eq_getElem iq] at l2; exact l2
          rw [no] at l1
          have e1 : (k : Int).tdiv (w : Int) = ((k / w : Nat) : Int) := by rw [Int.tdiv_eq_ediv_of_nonneg (by omega), Int.natCast_ediv]
          have e2 : (k : Int).tmod (w : Int) = ((k % w : Nat) : Int) := by rw [Int.tmod_eq_emod_of_nonneg (by omega), Int.natCast_emod]
          have wz : ¬ w = 0 := by omega
          generalize k / w = q at *
          generalize k % w = m at *
          have wq : IntKind.i64.wrap (q : Int) = q := wrap64 _ (by omega) (by omega)
          have lq : 0 < n * 2 - q * 2 := by omega
          have lm : 12 ≤ r.cells.length * 12 - m * 12 := by omega
          have wk : IntKind.i64.wrap ((k : Int) + 1) = ((k + 1 : Nat) : Int) := by rw [wrap64 _ (by omega) (by omega)]; omega
          have f' : ((k : Int) < (c : Int)) = True := eq_true (by omega)
          simp -implicitDefEqProofs [-Bool.exists_bool, whoS2, whoH, and_assoc, dgridSpec, gatSpec, geraseSpec, gworksSpec, samesSpec, f', e1, e2, wz, wq, no, l1, l2, l2', l3, l4, lq, lm, wk, hbf]
          exact ⟨by decide +kernel, Next.mk (k + 1) ⟨Nat.le_succ_of_le k1, f⟩ (by show c - (k + 1) < c - k; omega) (Weak.keep (by simp [whoS2]))⟩
        · obtain rfl : k = c := by omega
          simp -implicitDefEqProofs [-Bool.exists_bool, whoS2, whoH, and_assoc, dgridSpec, gatSpec, geraseSpec, gworksSpec, samesSpec]
          exact Leaves.mk (Weak.keep (by simp [whoS2]))
      · by_cases z : a < c
        · have z' : ((a : Int) < (c : Int)) = True := eq_true (by omega)
          simp -implicitDefEqProofs [-Bool.exists_bool, whoS2, whoH, and_assoc, dgridSpec, gatSpec, geraseSpec, gworksSpec, samesSpec, z']
        · have z' : ((a : Int) < (c : Int)) = False := eq_false (by omega)
          have hg := F.none (by omega)
          have xg : ∃ x : List Rw, n = x.length ∧ g = x ∧ RowsFin x := ⟨g, gl.symm, rfl, hV.fin⟩
          simp -implicitDefEqProofs [-Bool.exists_bool, whoS2, whoH, and_assoc, dgridSpec, gatSpec, geraseSpec, gworksSpec, samesSpec, z', hg, xg, gl, rowsOf_C, rowsV]
end Fen
