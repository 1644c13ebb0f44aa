/- A part of the proof; no statement is proved here: RRowZ, RRowZb, RTypA, RRowLf, RRowLk. -/
import Derived.Test.YtcjkcoekjfbcgaaDoorKowD
import Derived.Test.YtcjkcoekjfbcgaaDoorKowC
import Derived.Test.YtcjkcoekjfbcgaaDoorKorE

set_option linter.unusedVariables false
set_option linter.unusedSimpArgs false

namespace Fen
open Go Go.Proofs

/-! ### valid rows, put together and taken apart -/
theorem off_wide {a c : Cel} (h : a.wide ≠ 1) : offF a c = offF cel0 c := by
  rw [Bool.eq_iff_iff]
  simp only [offF, Bool.or_eq_true, decide_eq_true_eq, bne_iff_ne, ne_eq, Bool.and_eq_true]
  have h2 : cel0.wide ≠ 1 := by decide
  simp only [h, h2, decide_false]
  by_cases q : c.wide = 2 <;> simp [q]
theorem chain_wide {a : Cel} (h : a.wide ≠ 1) : ∀ l, chainF a l = chainF cel0 l
  | [] => by simp [chainF, h, cel0]
  | c :: l => by simp only [chainF, off_wide h]
abbrev VL (l : List Cel) : Prop := chainF cel0 l = true
theorem VL.nil : VL [] := rfl
theorem chain_app : ∀ (a b : List Cel) (x : Cel), chainF x a = true → VL b → chainF x (a ++ b) = true
  | [], b, x, h, hb => by
    have : x.wide ≠ 1 := by simpa [chainF] using h
    simpa [chain_wide this] using hb
  | c :: a, b, x, h, hb => by
    simp only [chainF, Bool.and_eq_true, List.cons_append] at h ⊢
    exact ⟨h.1, chain_app a b c h.2 hb⟩
theorem VL.app {a b : List Cel} (ha : VL a) (hb : VL b) : VL (a ++ b) := chain_app a b cel0 ha hb
theorem chain_split : ∀ (a b : List Cel) (x : Cel), chainF x (a ++ b) = true → (cat b 0).wide ≠ 2 → chainF x a = true ∧ VL b
  | [], [], x, h, hb => ⟨h, rfl⟩
  | [], c :: b, x, h, hb => by
    have hc : c.wide ≠ 2 := by simpa [cat] using hb
    simp only [List.nil_append, chainF, Bool.and_eq_true, Bool.not_eq_true'] at h
    have h3 := ((offF_iff _ _).1 h.1).2.1
    have hx : x.wide ≠ 1 := by
      intro q
      rw [q] at h3
      simp at h3
      exact hc h3
    refine ⟨by simpa [chainF] using hx, ?_⟩
    simp only [VL, chainF, Bool.and_eq_true, Bool.not_eq_true']
    exact ⟨by rw [← off_wide hx]; exact h.1, h.2⟩
  | c :: a, b, x, h, hb => by
    simp only [chainF, Bool.and_eq_true, List.cons_append] at h ⊢
    obtain ⟨k1, k2⟩ := chain_split a b c h.2 hb
    exact ⟨⟨h.1, k1⟩, k2⟩
theorem cat_out {l : List Cel} {k : Nat} (h : l.length ≤ k) : cat l k = cel0 := by simp [cat, h]
theorem cat_drop (l : List Cel) (k i : Nat) : cat (l.drop k) i = cat l (k + i) := by simp [cat]
theorem cat_take {l : List Cel} {k i : Nat} (h : i < k) : cat (l.take k) i = cat l i := by simp [cat, List.getElem?_take, h]
theorem half_wide {c : Cel} (h : halfF c = true) : c.wide = 2 := ((halfF_iff _).1 h).2.2.2
theorem VL.half {l : List Cel} (h : VL l) {k : Nat} (hk : ¬ halfF (cat l k) = true) : (cat l k).wide ≠ 2 := by
  rcases Nat.lt_or_ge k l.length with c | c
  · exact fun q => hk (((chain_val h).half k c).2 q)
  · rw [cat_out c]; decide
theorem VL.take {l : List Cel} (h : VL l) {k : Nat} (hk : ¬ halfF (cat l k) = true) : VL (l.take k) :=
  (chain_split (l.take k) (l.drop k) cel0 (by rw [List.take_append_drop]; exact h) (by rw [cat_drop]; exact h.half hk)).1
theorem VL.drop {l : List Cel} (h : VL l) {k : Nat} (hk : ¬ halfF (cat l k) = true) : VL (l.drop k) :=
  (chain_split (l.take k) (l.drop k) cel0 (by rw [List.take_append_drop]; exact h) (by rw [cat_drop]; exact h.half hk)).2
theorem VL.one {c : Cel} (h : cellF c = 0) (hw : c.wide = 0) : VL [c] := by
  have : offF cel0 c = false := (offF_iff _ _).2 ⟨h, by rw [hw]; rfl, by intro q; cases q⟩
  simp [VL, chainF, this, hw]
theorem VL.two {c : Cel} (h : cellF c = 0) (hw : c.wide = 1) (hs : styF c.st = 0) : VL [c, secondF c.st] := by
  have h1 : offF cel0 c = false := (offF_iff _ _).2 ⟨h, by rw [hw]; rfl, by intro q; cases q⟩
  have h2 : offF c (secondF c.st) = false := (offF_iff _ _).2 ⟨cellF_second hs, by rw [hw]; rfl, fun _ => rfl⟩
  show (!offF cel0 c && (!offF c (secondF c.st) && decide ((secondF c.st).wide ≠ 1))) = true
  rw [h1, h2]; rfl
theorem VL.rep {c : Cel} (h : VL [c]) : ∀ n, VL (List.replicate n c)
  | 0 => rfl
  | n + 1 => by rw [List.replicate_succ]; exact VL.app (a := [c]) h (VL.rep h n)
theorem VL.blanks {s : Sty} (h : styF s = 0) (n : Nat) : VL (List.replicate n (blankF s)) := VL.rep (VL.one (cellF_blank h) rfl) n
theorem half_blank (s : Sty) : ¬ halfF (blankF s) = true := by simp [halfF_iff, blankF]
theorem half_rem (c : Cel) : ¬ halfF (remF c) = true := half_blank _

/-! a style that is good has a good Back -/
theorem styF_parts {s : Sty} (h : styF s = 0) : colF s.bk s.bn = 0 := by
  unfold styF at h
  split at h
  · cases h
  · split at h
    · rename_i q; exact q.2.1
    · cases h
theorem styF_back {s : Sty} (h : styF s = 0) : styF ⟨0, 0, 0, 0, s.bk, s.bn, 0, 0⟩ = 0 := by
  have h2 := styF_parts h
  have h0 : colF 0 0 = 0 := rfl
  unfold styF
  simp [h2, h0]
theorem cell_sty {c : Cel} (h : cellF c = 0) : styF c.st = 0 := by
  unfold cellF at h
  split at h
  · cases h
  · rename_i q; simpa using q
theorem VL.cell {l : List Cel} (h : VL l) {i : Nat} (hi : i < l.length) : cellF (cat l i) = 0 := (chain_val h).ok i hi

/-! parting -/
theorem part_yes {l : List Cel} {k : Nat} (h : VL l) (hh : halfF (cat l k) = true) : 1 ≤ k ∧ k < l.length ∧ partF l k = l.take (k - 1) ++ [remF (cat l (k - 1)), remF (cat l k)] ++ l.drop (k + 1) := by
  have hk : k < l.length := by
    rcases Nat.lt_or_ge k l.length with c | c
    · exact c
    · rw [cat_out c] at hh; exact absurd hh (by decide)
  have h1 := ((chain_val h).down k hk (half_wide hh)).1
  refine ⟨h1, hk, ?_⟩
  unfold partF
  rw [if_pos ⟨by omega, by omega, by simpa using hh⟩]
  obtain ⟨j, rfl⟩ : ∃ j, k = j + 1 := ⟨k - 1, by omega⟩
  simp only [Int.toNat_natCast, Nat.add_sub_cancel]
  apply List.ext_getElem?
  intro i
  simp only [List.getElem?_set, List.getElem?_append, List.length_append, List.length_take, List.length_set, List.length_cons, List.length_nil, List.getElem?_take, List.getElem?_drop]
  have e1 : min j l.length = j := by omega
  simp only [e1]
  rcases Nat.lt_trichotomy i j with c | c | c
  · simp [show ¬ j + 1 = i by omega, show ¬ j = i by omega, show i < j + (0 + 1 + 1) by omega, c]
  · subst c; simp; omega
  · rcases Nat.eq_or_lt_of_le c with c | c
    · have : i = j + 1 := by omega
      subst this; simp [hk]; intro q; omega
    · have e2 : j + 1 + 1 + (i - (j + (0 + 1 + 1))) = i := by omega
      simp [show ¬ j + 1 = i by omega, show ¬ j = i by omega, show ¬ i < j + (0 + 1 + 1) by omega, e2]
theorem part_no {l : List Cel} {k : Nat} (hh : ¬ halfF (cat l k) = true) : partF l k = l := by
  unfold partF; rw [if_neg (by simp [hh])]
theorem wide_take {l : List Cel} (h : VL l) {k : Nat} (hh : halfF (cat l k) = true) : (cat l (k - 1)).wide = 1 ∧ ¬ halfF (cat l (k - 1)) = true ∧ (cat l k).st = (cat l (k - 1)).st := by
  obtain ⟨h1, hk, _⟩ := part_yes h hh
  have q := ((chain_val h).down k hk (half_wide hh)).2
  exact ⟨q, fun c => (by rw [half_wide c] at q; cases q), (chain_val h).sty k hk (half_wide hh)⟩
theorem cat_set_eq {l : List Cel} {i : Nat} (c : Cel) (h : i < l.length) : cat (l.set i c) i = c := by simp [cat, List.getD_eq_getElem?_getD, List.getElem?_set, h]
theorem part_cat {l : List Cel} (h : VL l) (k i : Nat) : cat (partF l k) i = if halfF (cat l k) = true ∧ (i + 1 = k ∨ i = k) then remF (cat l i) else cat l i := by
  by_cases hh : halfF (cat l k) = true
  · obtain ⟨h1, hk, e⟩ := part_yes h hh
    obtain ⟨j, rfl⟩ : ∃ j, k = j + 1 := ⟨k - 1, by omega⟩
    unfold partF
    rw [if_pos ⟨by omega, by omega, by simpa using hh⟩]
    simp only [Int.toNat_natCast, Nat.add_sub_cancel, hh, true_and]
    rcases Nat.lt_trichotomy i j with c | c | c
    · rw [if_neg (by omega), cat_set_ne _ (by omega), cat_set_ne _ (by omega)]
    · subst c
      rw [if_pos (by omega), cat_set_ne _ (by omega), cat_set_eq _ (by omega)]
    · rcases Nat.eq_or_lt_of_le c with c | c
      · have : i = j + 1 := by omega
        subst this
        rw [if_pos (by omega), cat_set_eq _ (by simp; omega)]
      · rw [if_neg (by omega), cat_set_ne _ (by omega), cat_set_ne _ (by omega)]
  · rw [part_no hh, if_neg (by simp [hh])]
theorem part_half {l : List Cel} (h : VL l) (k i : Nat) (q : halfF (cat (partF l k) i) = true) : halfF (cat l i) = true ∧ i ≠ k := by
  rw [part_cat h] at q
  split at q
  · exact absurd q (half_rem _)
  · rename_i c
    refine ⟨q, fun e => ?_⟩
    subst e
    exact c ⟨q, .inr rfl⟩
theorem VL.part {l : List Cel} (h : VL l) (k : Nat) : VL (partF l k) := by
  by_cases hh : halfF (cat l k) = true
  · obtain ⟨h1, hk, e⟩ := part_yes h hh
    obtain ⟨q1, q2, q3⟩ := wide_take h hh
    rw [e]
    have b1 : cellF (remF (cat l (k - 1))) = 0 := cellF_blank (styF_back (cell_sty (h.cell (by omega))))
    have b2 : cellF (remF (cat l k)) = 0 := cellF_blank (styF_back (cell_sty (h.cell hk)))
    refine VL.app (VL.app (h.take q2) (VL.app (a := [_]) (VL.one b1 rfl) (VL.one b2 rfl))) (h.drop ?_)
    intro c
    have hk1 : k + 1 < l.length := by
      rcases Nat.lt_or_ge (k + 1) l.length with c' | c'
      · exact c'
      · rw [cat_out c'] at c; exact absurd c (by decide)
    have := ((chain_val h).down (k + 1) hk1 (half_wide c)).2
    rw [Nat.add_sub_cancel, half_wide hh] at this
    cases this
  · rw [part_no hh]; exact h

/-! ### the operations keep a row valid -/
theorem VL.erase {l : List Cel} (h : VL l) {a b : Nat} {s : Sty} (hab : a < b) (hb : b ≤ l.length) (hs : styF s = 0) : VL (eraseF l (loF l a) (hiF l b) s) := by
  unfold eraseF
  refine VL.app (VL.app (h.take ?_) (VL.blanks hs _)) (h.drop ?_)
  · unfold loF
    split
    · rename_i q; exact (wide_take h q).2.1
    · assumption
  · unfold hiF
    split
    · rename_i q
      intro c
      have hk1 : b + 1 < l.length := by
        rcases Nat.lt_or_ge (b + 1) l.length with c' | c'
        · exact c'
        · rw [cat_out c'] at c; exact absurd c (by decide)
      have := ((chain_val h).down (b + 1) hk1 (half_wide c)).2
      rw [Nat.add_sub_cancel, half_wide q.2] at this
      cases this
    · rename_i q
      intro c
      rcases Nat.lt_or_ge b l.length with c' | c'
      · exact q ⟨c', c⟩
      · rw [cat_out c'] at c; exact absurd c (by decide)
theorem put_eq (l : List Cel) (k : Nat) (c : Cel) (hw : c.wide = 0 ∨ c.wide = 1) (hk : k + c.wide.toNat < l.length) :
    putF l k c = (partF (partF l k) ((k + 1 + c.wide.toNat : Nat) : Int)).take k ++ (if c.wide = 1 then [c, secondF c.st] else [c]) ++ (partF (partF l k) ((k + 1 + c.wide.toNat : Nat) : Int)).drop (k + 1 + c.wide.toNat) := by
  unfold putF
  rcases hw with hw | hw
  · rw [if_neg (by omega), if_neg (by omega)]
    have e : ((k : Int) + 1 + c.wide) = ((k + 1 + c.wide.toNat : Nat) : Int) := by omega
    rw [e]
    have hl : (partF (partF l k) ((k + 1 + c.wide.toNat : Nat) : Int)).length = l.length := by simp
    generalize partF (partF l k) ((k + 1 + c.wide.toNat : Nat) : Int) = P at hl ⊢
    rw [List.set_eq_take_append_cons_drop, if_pos (by omega)]
    simp [hw]
  · rw [if_pos hw, if_pos hw]
    have e : ((k : Int) + 1 + c.wide) = ((k + 1 + c.wide.toNat : Nat) : Int) := by omega
    rw [e]
    have hl : (partF (partF l k) ((k + 1 + c.wide.toNat : Nat) : Int)).length = l.length := by simp
    generalize partF (partF l k) ((k + 1 + c.wide.toNat : Nat) : Int) = P at hl ⊢
    have hk2 : k + 1 < P.length := by rw [hl]; have : c.wide.toNat = 1 := by omega
                                      omega
    rw [hw]
    apply List.ext_getElem?
    intro i
    simp only [List.getElem?_set, List.getElem?_append, List.length_append, List.length_take, List.length_set, List.length_cons, List.length_nil, List.getElem?_take, List.getElem?_drop]
    have e1 : min k P.length = k := by omega
    simp only [e1]
    rcases Nat.lt_trichotomy i k with c' | c' | c'
    · simp [show ¬ k + 1 = i by omega, show ¬ k = i by omega, show i < k + (0 + 1 + 1) by omega, c']
    · subst c'; simp; omega
    · rcases Nat.eq_or_lt_of_le c' with c' | c'
      · have : i = k + 1 := by omega
        subst this; simp [hk2]; intro q; omega
      · have e2 : k + 1 + 1 + (i - (k + (0 + 1 + 1))) = i := by omega
        simp [show ¬ k + 1 = i by omega, show ¬ k = i by omega, show ¬ i < k + (0 + 1 + 1) by omega, e2]
theorem VL.put {l : List Cel} (h : VL l) {k : Nat} {c : Cel} (hc : cellF c = 0) (hw : c.wide = 0 ∨ c.wide = 1) (hk : k + c.wide.toNat < l.length) : VL (putF l k c) := by
  rw [put_eq l k c hw hk]
  have h1 := h.part k
  have h2 := h1.part (k + 1 + c.wide.toNat)
  refine VL.app (VL.app (h2.take ?_) ?_) (h2.drop ?_)
  · intro q
    exact (part_half h k k (part_half h1 _ k q).1).2 rfl
  · split
    · rename_i q; exact VL.two hc q (cell_sty hc)
    · rename_i q; exact VL.one hc (hw.resolve_right q)
  · intro q
    exact (part_half h1 _ _ q).2 rfl
theorem VL.shift {l : List Cel} (h : VL l) (ins : Bool) {a n : Nat} {s : Sty} (hs : styF s = 0) (hl : a + n ≤ l.length) : VL (shF ins l a n s) := by
  cases ins
  · rw [sh_del l s hl rfl]
    have h1 := h.part a
    have h2 := h1.part (a + n)
    refine VL.app (h2.take ?_) (VL.app (h2.drop ?_) (VL.blanks hs _))
    · intro q; exact (part_half h a a (part_half h1 _ a q).1).2 rfl
    · intro q; exact (part_half h1 _ _ q).2 rfl
  · rw [sh_ins l s hl rfl]
    have h1 := h.part a
    have h2 := h1.part (l.length - n)
    have na : ¬ halfF (cat (partF (partF l a) ((l.length - n : Nat) : Int)) a) = true := fun q => (part_half h a a (part_half h1 _ a q).1).2 rfl
    refine VL.app (h2.take na) (VL.app (VL.blanks hs _) ((h2.drop na).take ?_))
    rw [cat_drop]
    intro q
    rw [show a + (l.length - n - a) = l.length - n by omega] at q
    exact (part_half h1 _ _ q).2 rfl
theorem cell_mark {c : Cel} {m : Int} (h : cellF c = 0) (hh : ¬ halfF c = true) (hm : widthF m = 0) : cellF (markF c m) = 0 ∧ (markF c m).wide = c.wide ∧ (markF c m).st = c.st := by
  have e2 : (markF c m).wide = c.wide := by unfold markF; (repeat' split) <;> rfl
  have e3 : (markF c m).st = c.st := by unfold markF; (repeat' split) <;> rfl
  refine ⟨?_, e2, e3⟩
  have eb : (markF c m).base = c.base := by unfold markF; (repeat' split) <;> rfl
  unfold cellF at h ⊢
  rw [e2, e3, eb]
  split at h
  · cases h
  · rename_i q1
    rw [if_neg q1]
    split at h
    · rename_i q2
      rcases q2 with q2 | ⟨q2, q3⟩
      · exact absurd q2 hh
      · rw [if_pos]
        refine .inr ⟨?_, q3⟩
        simp only [markedF, Bool.not_eq_true', Bool.or_eq_false_iff, Bool.and_eq_false_iff, decide_eq_false_iff_not] at q2 ⊢
        unfold markF
        by_cases c0 : c.m0 = 0
        · have c1 : c.m1 = 0 := by
            rcases q2.2 with q | q
            · simpa using q
            · exact absurd c0 q.1
          simp [c0, c1, hm]
        · by_cases c1 : c.m1 = 0
          · have := q2.1; simp [c0, c1] at this ⊢; simp [this, hm, c0]
          · simp only [c0, c1, if_false] at q2 ⊢; first | exact q2 | (simp at q2 ⊢; exact q2)
    · cases h
theorem chain_set : ∀ (l : List Cel) (a : Cel) (i : Nat) (c : Cel), chainF a l = true → cellF c = 0 → c.wide = (cat l i).wide → c.st = (cat l i).st → chainF a (l.set i c) = true
  | [], a, i, c, h, _, _, _ => by simpa using h
  | x :: l, a, 0, c, h, h1, h2, h3 => by
    simp only [cat, List.getD_cons_zero] at h2 h3
    simp only [List.set_cons_zero, chainF, Bool.and_eq_true, Bool.not_eq_true'] at h ⊢
    obtain ⟨k1, k2⟩ := h
    obtain ⟨o1, o2, o3⟩ := (offF_iff _ _).1 k1
    refine ⟨(offF_iff _ _).2 ⟨h1, by rw [h2]; exact o2, by rw [h3]; exact o3⟩, ?_⟩
    cases l with
    | nil => simp only [chainF] at k2 ⊢; rw [h2]; exact k2
    | cons y l =>
      simp only [chainF, Bool.and_eq_true, Bool.not_eq_true'] at k2 ⊢
      obtain ⟨o1, o2, o3⟩ := (offF_iff _ _).1 k2.1
      exact ⟨(offF_iff _ _).2 ⟨o1, by rw [h2]; exact o2, by rw [h2, h3]; exact o3⟩, k2.2⟩
  | x :: l, a, i + 1, c, h, h1, h2, h3 => by
    simp only [List.set_cons_succ, chainF, Bool.and_eq_true] at h ⊢
    exact ⟨h.1, chain_set l x i c h.2 h1 (by simpa [cat] using h2) (by simpa [cat] using h3)⟩
end Fen

namespace Fen
open Go Go.Proofs

/-! ### what stands where -/
theorem cat_app (a b : List Cel) (i : Nat) : cat (a ++ b) i = if i < a.length then cat a i else cat b (i - a.length) := by
  unfold cat
  simp only [List.getD_eq_getElem?_getD, List.getElem?_append]
  split <;> rfl
theorem cat_rep {n i : Nat} (c : Cel) (h : i < n) : cat (List.replicate n c) i = c := by simp [cat, List.getElem?_replicate, h]
theorem put_cat {l : List Cel} (h : VL l) {k : Nat} {c : Cel} (hw : c.wide = 0 ∨ c.wide = 1) (hk : k + c.wide.toNat < l.length) (i : Nat) :
    cat (putF l k c) i = if i = k then c else if c.wide = 1 ∧ i = k + 1 then secondF c.st
      else if (i + 1 = k ∧ (cat l k).wide = 2) ∨ (i = k + 1 + c.wide.toNat ∧ (cat l i).wide = 2) then remF (cat l i) else cat l i := by
  have hv := chain_val h
  have half_iff : ∀ j, halfF (cat l j) = true ↔ (cat l j).wide = 2 := fun j => by
    rcases Nat.lt_or_ge j l.length with q | q
    · exact hv.half j q
    · rw [cat_out q]; decide
  have hP : ∀ j, (j < k ∨ k + 1 + c.wide.toNat ≤ j) → cat (partF (partF l k) ((k + 1 + c.wide.toNat : Nat) : Int)) j =
      if (j + 1 = k ∧ (cat l k).wide = 2) ∨ (j = k + 1 + c.wide.toNat ∧ (cat l j).wide = 2) then remF (cat l j) else cat l j := fun j hj => by
    rw [part_cat (h.part k), part_cat h, part_cat h]
    have e1 : ¬ (halfF (cat l k) = true ∧ (k + 1 + c.wide.toNat + 1 = k ∨ k + 1 + c.wide.toNat = k)) := by omega
    rw [if_neg e1]
    simp only [half_iff]
    by_cases q1 : j = k + 1 + c.wide.toNat
    · subst q1
      have e2 : ¬ ((cat l k).wide = 2 ∧ (k + 1 + c.wide.toNat + 1 = k ∨ k + 1 + c.wide.toNat = k)) := by omega
      rw [if_neg e2]
      by_cases q2 : (cat l (k + 1 + c.wide.toNat)).wide = 2
      · rw [if_pos ⟨q2, .inr rfl⟩, if_pos (.inr ⟨rfl, q2⟩)]
      · rw [if_neg (fun q => q2 q.1), if_neg (by rintro (q | q); omega; exact q2 q.2)]
    · rw [if_neg (by omega)]
      by_cases q2 : j + 1 = k ∧ (cat l k).wide = 2
      · rw [if_pos ⟨q2.2, .inl q2.1⟩, if_pos (.inl q2)]
      · rw [if_neg (by rintro ⟨a, b⟩; omega), if_neg (by rintro (q | q); exact q2 q; exact q1 q.1)]
  rw [put_eq l k c hw hk]
  have hl : (partF (partF l k) ((k + 1 + c.wide.toNat : Nat) : Int)).length = l.length := by simp
  generalize partF (partF l k) ((k + 1 + c.wide.toNat : Nat) : Int) = P at hl hP ⊢
  have hm : (if c.wide = 1 then [c, secondF c.st] else [c]).length = 1 + c.wide.toNat := by rcases hw with q | q <;> simp [q]
  rw [cat_app, cat_app]
  simp only [List.length_append, hm, List.length_take, show min k P.length = k by omega]
  rcases Nat.lt_trichotomy i k with q | q | q
  · rw [if_pos (by omega), if_pos q, cat_take q, hP i (.inl q), if_neg (show ¬ i = k by omega), if_neg (show ¬ (c.wide = 1 ∧ i = k + 1) by omega)]
  · subst q
    rw [if_pos (by omega), if_neg (by omega), if_pos rfl, Nat.sub_self]
    split <;> rfl
  · by_cases q1 : c.wide = 1 ∧ i = k + 1
    · obtain ⟨q1, rfl⟩ := q1
      rw [if_pos (show k + 1 < k + (1 + c.wide.toNat) by omega), if_neg (show ¬ k + 1 < k by omega), if_pos q1, if_neg (show ¬ k + 1 = k by omega), if_pos (show c.wide = 1 ∧ k + 1 = k + 1 from ⟨q1, rfl⟩), show k + 1 - k = 1 by omega]
      rfl
    · have : k + 1 + c.wide.toNat ≤ i := by rcases hw with w | w <;> omega
      rw [if_neg (by omega), cat_drop, show k + 1 + c.wide.toNat + (i - (k + (1 + c.wide.toNat))) = i by omega, hP i (.inr this), if_neg (show ¬ i = k by omega), if_neg q1]
theorem erase_cat {l : List Cel} {a b : Nat} (s : Sty) (ha : a ≤ b) (hb : b ≤ l.length) (i : Nat) : cat (eraseF l a b s) i = if a ≤ i ∧ i < b then blankF s else cat l i := by
  unfold eraseF
  rw [cat_app, cat_app]
  simp only [List.length_append, List.length_take, List.length_replicate, show min a l.length = a by omega]
  rcases Nat.lt_or_ge i a with q | q
  · rw [if_pos (by omega), if_pos q, cat_take q, if_neg (by omega)]
  · rcases Nat.lt_or_ge i b with q2 | q2
    · rw [if_pos (by omega), if_neg (by omega), cat_rep _ (by omega), if_pos ⟨q, q2⟩]
    · rw [if_neg (by omega), cat_drop, if_neg (by omega)]; congr 1; omega
theorem ins_cat {l : List Cel} {a n : Nat} (s : Sty) (h : a + n ≤ l.length) {i : Nat} (hi : i < l.length) :
    cat (shF true l a n s) i = if i < a then cat (partF (partF l a) ((l.length - n : Nat) : Int)) i else if i < a + n then blankF s else cat (partF (partF l a) ((l.length - n : Nat) : Int)) (i - n) := by
  rw [sh_ins l s h rfl]
  have hl : (partF (partF l a) ((l.length - n : Nat) : Int)).length = l.length := by simp
  generalize partF (partF l a) ((l.length - n : Nat) : Int) = P at hl ⊢
  rw [cat_app, cat_app]
  simp only [List.length_take, List.length_replicate, show min a P.length = a by omega]
  rcases Nat.lt_or_ge i a with q | q
  · rw [if_pos q, if_pos q, cat_take q]
  · rw [if_neg (show ¬ i < a by omega), if_neg (show ¬ i < a by omega)]
    rcases Nat.lt_or_ge i (a + n) with q2 | q2
    · rw [if_pos (show i - a < n by omega), if_pos q2, cat_rep _ (by omega)]
    · rw [if_neg (show ¬ i - a < n by omega), if_neg (show ¬ i < a + n by omega), cat_take (by omega), cat_drop]; congr 1; omega
theorem del_cat {l : List Cel} {a n : Nat} (s : Sty) (h : a + n ≤ l.length) {i : Nat} (hi : i < l.length) :
    cat (shF false l a n s) i = if i < a then cat (partF (partF l a) ((a + n : Nat) : Int)) i else if i < l.length - n then cat (partF (partF l a) ((a + n : Nat) : Int)) (i + n) else blankF s := by
  rw [sh_del l s h rfl]
  have hl : (partF (partF l a) ((a + n : Nat) : Int)).length = l.length := by simp
  generalize partF (partF l a) ((a + n : Nat) : Int) = P at hl ⊢
  rw [cat_app, cat_app]
  simp only [List.length_take, List.length_drop, show min a P.length = a by omega]
  rcases Nat.lt_or_ge i a with q | q
  · rw [if_pos q, if_pos q, cat_take q]
  · rw [if_neg (show ¬ i < a by omega), if_neg (show ¬ i < a by omega)]
    rcases Nat.lt_or_ge i (l.length - n) with q2 | q2
    · rw [if_pos (show i - a < P.length - (a + n) by omega), if_pos q2, cat_drop]; congr 1; omega
    · rw [if_neg (show ¬ i - a < P.length - (a + n) by omega), if_neg (show ¬ i < l.length - n by omega), cat_rep _ (by omega)]
/-- what came has gone again -/
theorem back_cat {l : List Cel} (h : VL l) {a n : Nat} (s t : Sty) (hs : styF s = 0) (ha : a < l.length) (hn : 0 < n) (hl : a + n ≤ l.length) {i : Nat} (hi : i < l.length - n) :
    cat (shF false (shF true l a n s) a n t) i = cat (partF (partF l a) ((l.length - n : Nat) : Int)) i := by
  have xl : (shF true l a n s).length = l.length := sh_len true s hl
  have hv : VL (shF true l a n s) := h.shift true hs hl
  have xa : cat (shF true l a n s) a = blankF s := by rw [ins_cat s hl ha, if_neg (by omega), if_pos (by omega)]
  have n1 : partF (shF true l a n s) a = shF true l a n s := part_no (by rw [xa]; exact half_blank s)
  have n2 : partF (shF true l a n s) ((a + n : Nat) : Int) = shF true l a n s := part_no (by
    rcases Nat.lt_or_ge (a + n) l.length with q | q
    · rw [ins_cat s hl q, if_neg (by omega), if_neg (by omega), show a + n - n = a by omega]
      exact fun c => (part_half h a a (part_half (h.part a) _ a c).1).2 rfl
    · rw [cat_out (by omega)]; decide)
  rw [del_cat t (by rw [xl]; exact hl) (by rw [xl]; omega), n1, n2, xl]
  rcases Nat.lt_or_ge i a with q | q
  · rw [if_pos q, ins_cat s hl (by omega), if_pos q]
  · rw [if_neg (by omega), if_pos (by omega), ins_cat s hl (by omega), if_neg (by omega), if_neg (by omega), Nat.add_sub_cancel]
theorem back_same {l : List Cel} (h : VL l) {a n i : Nat} (hn : 0 < n) (hl : a + n ≤ l.length) (hi : i < l.length - n) (h1 : ¬ ((cat l a).wide = 2 ∧ (i + 1 = a ∨ i = a))) (h2 : ¬ (i + 1 = l.length - n ∧ (cat l i).wide = 1)) :
    cat (partF (partF l a) ((l.length - n : Nat) : Int)) i = cat l i := by
  rw [part_cat (h.part a), part_cat h a i]
  have k1 : ¬ (halfF (cat l a) = true ∧ (i + 1 = a ∨ i = a)) := fun q => h1 ⟨half_wide q.1, q.2⟩
  rw [if_neg k1, if_neg]
  rintro ⟨q1, q2 | q2⟩
  · have q3 := (part_half h a _ q1).1
    have q4 := ((chain_val h).down (l.length - n) (by omega) (half_wide q3)).2
    rw [show l.length - n - 1 = i by omega] at q4
    exact h2 ⟨q2, q4⟩
  · omega
end Fen

namespace Fen
open Go Go.Proofs

theorem celsC_flatMap (l : List Cel) : l.flatMap celC = celsC l := by
  induction l with
  | nil => rfl
  | cons c l ih => rw [List.flatMap_cons, ih]; rfl
theorem typed_i64 {d : Nat} {p : List C} (h : Typed T d 3 p) : ∃ n, p = [.int .i64 n] ∧ I64 n := by
  obtain ⟨n, rfl, q⟩ := typed_int T_3 h
  exact ⟨n, rfl, i64_of q⟩
theorem typed_u8 {d : Nat} {p : List C} (h : Typed T d 5 p) : ∃ n, p = [.int .u8 n] ∧ 0 ≤ n ∧ n < 256 := by
  obtain ⟨n, rfl, q⟩ := typed_int T_5 h
  exact ⟨n, rfl, u8_of q⟩
theorem typed_color {d : Nat} {p : List C} (h : Typed T d 30 p) : ∃ a b : Int, p = [.int .i64 a, .int .i64 b] := by
  obtain ⟨d', parts, rfl, hk⟩ := typed_struct T_30 h
  match parts, hk with
  | [p0, p1], ⟨h0, h1, _⟩ =>
    obtain ⟨a, rfl, _⟩ := typed_i64 h0
    obtain ⟨b, rfl, _⟩ := typed_i64 h1
    exact ⟨a, b, rfl⟩
theorem typed_sty {d : Nat} {p : List C} (h : Typed T d 32 p) : ∃ s : Sty, p = styC s ∧ s.ok := by
  obtain ⟨d', parts, rfl, hk⟩ := typed_struct T_32 h
  match parts, hk with
  | [p0, p1, p2, p3, p4], ⟨h0, h1, h2, h3, h4, _⟩ =>
    obtain ⟨a, rfl, qa⟩ := typed_i64 h0
    obtain ⟨b, rfl, _⟩ := typed_i64 h1
    obtain ⟨c0, c1, rfl⟩ := typed_color h2
    obtain ⟨d0, d1, rfl⟩ := typed_color h3
    obtain ⟨e0, e1, rfl⟩ := typed_color h4
    exact ⟨⟨a, b, c0, c1, d0, d1, e0, e1⟩, rfl, qa⟩
theorem typed_marks {d : Nat} {p : List C} (h : Typed T d 28 p) : ∃ a b : Int, p = [.int .i64 a, .int .i64 b] := by
  obtain ⟨d', parts, rfl, hl, hk⟩ := typed_array T_28 h
  match parts, hl with
  | [p0, p1], _ =>
    obtain ⟨a, rfl, _⟩ := typed_i64 (hk p0 (by simp))
    obtain ⟨b, rfl, _⟩ := typed_i64 (hk p1 (by simp))
    exact ⟨a, b, rfl⟩
theorem typed_cel {d : Nat} {p : List C} (h : Typed T d 34 p) : ∃ c : Cel, p = celC c ∧ c.ok := by
  obtain ⟨d', parts, rfl, hk⟩ := typed_struct T_34 h
  match parts, hk with
  | [p0, p1, p2, p3], ⟨h0, h1, h2, h3, _⟩ =>
    obtain ⟨a, rfl, _⟩ := typed_i64 h0
    obtain ⟨m0, m1, rfl⟩ := typed_marks h1
    obtain ⟨w, rfl, _⟩ := typed_i64 h2
    obtain ⟨s, rfl, qs⟩ := typed_sty h3
    exact ⟨⟨a, m0, m1, w, s⟩, by simp, qs⟩
theorem typed_row {d : Nat} {p : List C} (h : Typed T d 27 p) : ∃ r : Rw, p = rowC r ∧ r.ok ∧ r.cells.length ≤ maxLen := by
  obtain ⟨d', parts, rfl, hk⟩ := typed_struct T_27 h
  match parts, hk with
  | [p0, p1], ⟨h0, h1, _⟩ =>
    obtain ⟨l, rfl, hl, ql⟩ := typed_slice_of T_25 (fun d p h => typed_cel h) h0
    obtain ⟨w, rfl⟩ := typed_bool T_4 h1
    exact ⟨⟨l, w⟩, by simp [rowC, celsC_flatMap], ql, hl⟩
theorem typed_bytes {d : Nat} {p : List C} (h : Typed T d 22 p) : ∃ l : List Int, p = [.sl l.length (ints .u8 l)] ∧ l.length ≤ maxLen ∧ Bytes l := by
  obtain ⟨l, rfl, hl, ql⟩ := typed_slice_of (en := fun n : Int => [C.int .u8 n]) T_22 (fun d p h => typed_u8 h) h
  exact ⟨l, by rw [flatMap_ints], hl, ql⟩
theorem typed_draft {d : Nat} {p : List C} (h : Typed T d 24 p) : ∃ (c : Int) (B : List Int) (w : Bool), p = [.int .u8 c, .sl B.length (ints .u8 B), .bool w] ∧ 0 ≤ c ∧ c < 256 ∧ Bytes B := by
  obtain ⟨d', parts, rfl, hk⟩ := typed_struct T_24 h
  match parts, hk with
  | [p0, p1, p2], ⟨h0, h1, h2, _⟩ =>
    obtain ⟨a, rfl, qa, qb⟩ := typed_u8 h0
    obtain ⟨b, rfl, _, hb⟩ := typed_bytes h1
    obtain ⟨w, rfl⟩ := typed_bool T_4 h2
    exact ⟨a, b, w, rfl, qa, qb, hb⟩
theorem arg_draft {A : V} (h : TypedV T 24 A) : ∃ (c : Int) (B : List Int) (w : Bool), A = .agg [.int .u8 c, .sl B.length (ints .u8 B), .bool w] ∧ 0 ≤ c ∧ c < 256 ∧ Bytes B := by
  obtain ⟨d, ks, rfl, hk⟩ := arg_agg T_24 rfl h
  obtain ⟨c, B, w, rfl, hc⟩ := typed_draft hk
  exact ⟨c, B, w, rfl, hc⟩
theorem arg_row {A : V} (h : TypedV T 27 A) : ∃ r : Rw, A = rowV r ∧ r.ok := by
  obtain ⟨d, ks, rfl, hk⟩ := arg_agg T_27 rfl h
  obtain ⟨c, rfl, hc, _⟩ := typed_row hk
  exact ⟨c, rfl, hc⟩
theorem arg_cel {A : V} (h : TypedV T 34 A) : ∃ c : Cel, A = celV c ∧ c.ok := by
  obtain ⟨d, ks, rfl, hk⟩ := arg_agg T_34 rfl h
  obtain ⟨c, rfl, hc⟩ := typed_cel hk
  exact ⟨c, rfl, hc⟩
theorem arg_sty {A : V} (h : TypedV T 32 A) : ∃ s : Sty, A = styV s ∧ s.ok := by
  obtain ⟨d, ks, rfl, hk⟩ := arg_agg T_32 rfl h
  obtain ⟨c, rfl, hc⟩ := typed_sty hk
  exact ⟨c, rfl, hc⟩
theorem arg_i64 {A : V} (h : TypedV T 3 A) : ∃ n : Int, A = .c (.int .i64 n) ∧ I64 n := by
  obtain ⟨n, rfl, hn⟩ := arg_int T_3 h
  exact ⟨n, rfl, i64_of hn⟩
theorem arg_u8 {A : V} (h : TypedV T 5 A) : ∃ n : Int, A = .c (.int .u8 n) ∧ 0 ≤ n ∧ n < 256 := by
  obtain ⟨n, rfl, hn⟩ := arg_int T_5 h
  exact ⟨n, rfl, (u8_of hn).1, (u8_of hn).2⟩
theorem typed_u8x2 {d : Nat} {p : List C} (h : Typed T d 35 p) : ∃ a b : Int, p = [.int .u8 a, .int .u8 b] ∧ (0 ≤ a ∧ a < 256) ∧ 0 ≤ b ∧ b < 256 := by
  obtain ⟨d', parts, rfl, hl, hk⟩ := typed_array T_35 h
  match parts, hl with
  | [p0, p1], _ =>
    obtain ⟨a, rfl, h1⟩ := typed_u8 (hk p0 (by simp))
    obtain ⟨b, rfl, h2⟩ := typed_u8 (hk p1 (by simp))
    exact ⟨a, b, rfl, h1, h2⟩
theorem typed_i64x2 {d : Nat} {p : List C} (h : Typed T d 28 p) : ∃ a b : Int, p = [.int .i64 a, .int .i64 b] ∧ I64 a ∧ I64 b := by
  obtain ⟨d', parts, rfl, hl, hk⟩ := typed_array T_28 h
  match parts, hl with
  | [p0, p1], _ =>
    obtain ⟨a, rfl, h1⟩ := typed_i64 (hk p0 (by simp))
    obtain ⟨b, rfl, h2⟩ := typed_i64 (hk p1 (by simp))
    exact ⟨a, b, rfl, h1, h2⟩
theorem arg_u8x2 {A : V} (h : TypedV T 35 A) : ∃ a b : Int, A = .agg [.int .u8 a, .int .u8 b] ∧ (0 ≤ a ∧ a < 256) ∧ 0 ≤ b ∧ b < 256 := by
  obtain ⟨d, ks, rfl, hk⟩ := arg_agg T_35 rfl h
  obtain ⟨a, b, rfl, hc⟩ := typed_u8x2 hk
  exact ⟨a, b, rfl, hc⟩
theorem arg_i64x2 {A : V} (h : TypedV T 28 A) : ∃ a b : Int, A = .agg [.int .i64 a, .int .i64 b] ∧ I64 a ∧ I64 b := by
  obtain ⟨d, ks, rfl, hk⟩ := arg_agg T_28 rfl h
  obtain ⟨a, b, rfl, hc⟩ := typed_i64x2 hk
  exact ⟨a, b, rfl, hc⟩
end Fen

namespace Fen
open Go Go.Proofs

/-! ### facts that the laws need -/
theorem chain_all : ∀ (l : List Cel) (a : Cel), chainF a l = true → ∀ c ∈ l, cellF c = 0
  | [], _, _, c, hc => by simp at hc
  | x :: l, a, h, c, hc => by
    simp only [chainF, Bool.and_eq_true, Bool.not_eq_true'] at h
    rcases List.mem_cons.1 hc with rfl | hc
    · exact ((offF_iff _ _).1 h.1).1
    · exact chain_all l x h.2 c hc
theorem sty_okF {s : Sty} (h : styF s = 0) : s.ok := by
  unfold styF at h
  split at h
  · cases h
  · rename_i q; exact ⟨by omega, by omega⟩
theorem cell_okF {c : Cel} (h : cellF c = 0) : c.ok := sty_okF (cell_sty h)
theorem row_okF {r : Rw} (h : rowF r = 0) : r.ok := fun c hc => cell_okF (chain_all _ _ (row_len h).2.2 c hc)
theorem rowF_of {l : List Cel} {w : Bool} (h2 : 2 ≤ l.length) (h8 : l.length ≤ 80) (h : VL l) : rowF ⟨l, w⟩ = 0 := by unfold rowF; rw [if_pos ⟨h2, h8, h⟩]
theorem draft_okr (c : Int) (B : List Int) (w : Bool) : (draftF c B w).ok := row_okF (draft_ok c B w)
theorem sign_okr (a b : Int) : (signF a b).ok := cell_okF (cellF_sign a b)
theorem style_okr (b : Int) : (styleF b).ok := sty_okF (styF_style b)
theorem short_okr {r : Rw} (h : r.ok) : (shortF r).ok := fun c hc => h c (List.mem_of_mem_take hc)
theorem short_len (r : Rw) : (shortF r).cells.length ≤ 1000 := by simp [shortF]; omega
theorem row_lt {r : Rw} (h : rowF r = 0) : r.cells.length ≤ 1000 := by have := (row_len h).2.1; omega
theorem putRow_len (r : Rw) (x : Int) (c : Cel) : (putRowF r x c).1.cells.length ≤ 1000 := by
  unfold putRowF
  split
  · simp [nilR]
  · rename_i h
    have hr := row_lt (wrong_ok (by simpa using h)).1
    (repeat' split) <;> simp [nilR, put_len, hr]
theorem markRow_len (r : Rw) (x m : Int) : (markRowF r x m).1.cells.length ≤ 1000 := by
  unfold markRowF
  split
  · simp [nilR]
  · rename_i h
    have hr := row_lt (wrong_ok (by simpa using h)).1
    (repeat' split) <;> simp [nilR, hr]
theorem eraseRow_len (r : Rw) (x y : Int) (s : Sty) : (eraseRowF r x y s).1.cells.length ≤ 1000 := by
  unfold eraseRowF
  split
  · simp [nilR]
  · rename_i h
    have h0 : rowF r = 0 := by simpa using h
    have hr := row_lt h0
    split
    · simp [nilR]
    · split
      · simp [nilR]
      · split
        · exact hr
        · rename_i q1 q2 q3
          obtain ⟨k1, k2, k3, _⟩ := lo_hi (chain_val (row_len h0).2.2) (a := x.toNat) (b := y.toNat) (by omega) (by omega)
          show (eraseF _ _ _ _).length ≤ 1000
          rw [erase_len s (by omega) k3]; exact hr
theorem shiftRow_len (ins : Bool) (r : Rw) (x y : Int) (s : Sty) : (shiftRowF ins r x y s).1.cells.length ≤ 1000 := by
  unfold shiftRowF
  split
  · simp [nilR]
  · rename_i h
    obtain ⟨h0, hx0, hxl⟩ := wrong_ok (r := r) (x := x) (by simpa using h)
    have hr := row_lt h0
    (repeat' split) <;> first
      | (simp [nilR]; done)
      | exact hr
      | (show (shF _ _ _ _ _).length ≤ 1000; rw [sh_len _ _ (by omega)]; exact hr)
theorem newF_len (n : Int) (s : Sty) : (newF n s).1.cells.length ≤ 1000 := by
  unfold newF
  (repeat' split) <;> simp
  omega


/-- bytes of an unsigned remainder -/
theorem wuF (n : Int) : IntKind.u64.wrap n = n % 18446744073709551616 := by simp [IntKind.wrap, IntKind.signed, IntKind.bits]
theorem remF_ (n m : Int) (hm : 0 < m) (h2 : m ≤ 1000000) : ∃ k, (n % 18446744073709551616).tmod m = k ∧ 0 ≤ k ∧ k < m ∧ IntKind.i64.wrap k = k := by
  have e : (n % 18446744073709551616).tmod m = n % 18446744073709551616 % m := Int.tmod_eq_emod_of_nonneg (by omega)
  have h3 := Int.emod_nonneg (n % 18446744073709551616) (show m ≠ 0 by omega)
  have h4 := Int.emod_lt_of_pos (n % 18446744073709551616) hm
  exact ⟨_, e, h3, h4, wrap64 _ (by omega) (by omega)⟩
/-! arrays of rows, cells, styles -/
section
variable (a b : Rw) (c d : Cel) (s t : Sty) (x y : C) (l : List C)
@[simp] theorem row_d4 : List.drop 4 (rowC a ++ x :: y :: l) = l := rfl
@[simp] theorem row_d4r : List.drop 4 (rowC a ++ (rowC b ++ l)) = l := rfl
@[simp] theorem row_t4 : List.take 4 (rowC a ++ (rowC b ++ l)) = rowC a ++ rowC b := rfl
@[simp] theorem row_t4x : List.take 4 (rowC a ++ x :: y :: l) = rowC a ++ [x, y] := rfl
@[simp] theorem row_d6 : List.drop 6 (rowC a ++ (rowC b ++ x :: y :: l)) = l := rfl
@[simp] theorem cel_d24 : List.drop 24 (celC c ++ l) = l.drop 12 := rfl
@[simp] theorem cel_d12z : List.drop 12 (celC c) = [] := rfl
@[simp] theorem sty_d16 : List.drop 16 (styC s ++ l) = l.drop 8 := rfl
@[simp] theorem sty_d8z : List.drop 8 (styC s ++ l) = l := rfl
@[simp] theorem sty_d8' : List.drop 8 (styC s) = [] := rfl
end
end Fen

namespace Fen
open Go Go.Proofs

/-! ### the law RowKnown -/
def rwsC (l : List Rw) : List C := l.flatMap rowC
theorem rwsC_at : ∀ {l : List Rw} {i : Nat} (h : i < l.length), (rwsC l).drop (i * 2) = rowC l[i] ++ rwsC (l.drop (i + 1))
  | r :: l, 0, _ => rfl
  | r :: l, i + 1, h => by
    have ih := rwsC_at (l := l) (i := i) (by simpa using h)
    rw [show (i + 1) * 2 = 2 + i * 2 by omega, ← List.drop_drop, show (rwsC (r :: l)).drop 2 = rwsC l from rfl, ih]; rfl
def kA : Cel := ⟨97, 0, 0, 0, sty0⟩
def kT : Cel := ⟨0, 0, 0, 2, sty0⟩
def kS : Cel := ⟨0, 0, 0, 2, ⟨1, 0, 0, 0, 0, 0, 0, 0⟩⟩
def kM : Cel := ⟨0, 769, 0, 2, sty0⟩
def kRows : List Rw := [⟨[], false⟩, ⟨[kA], false⟩, ⟨List.replicate 5 cel0, false⟩, ⟨[kA, wideF], false⟩, ⟨[kA, kT], false⟩, ⟨[wideF, kS], false⟩, ⟨[kA, wideF, kM], false⟩]
def kCels : List Cel := [cel0, ⟨97, 0, 0, 1, sty0⟩, ⟨20013, 0, 0, 0, sty0⟩, ⟨7, 0, 0, 0, sty0⟩, ⟨769, 0, 0, 0, sty0⟩, ⟨97, 0, 769, 0, sty0⟩, ⟨97, 98, 0, 0, sty0⟩, ⟨97, 0, 0, 0, ⟨0, 6, 0, 0, 0, 0, 0, 0⟩⟩]
theorem kRows_bad : ∀ r ∈ kRows, rowF r = 220 ∧ (putRowF r 0 kA).2 = 220 := by decide +kernel
theorem cel_okB {c : Cel} (h : decide (-9223372036854775808 ≤ c.st.attr ∧ c.st.attr ≤ 9223372036854775807) = true) : c.ok := by
  have q := (decide_eq_true_iff (p := _ ∧ _)).1 h
  exact q
theorem kRows_ok : ∀ r ∈ kRows, r.ok := by
  have h : kRows.all (fun r => r.cells.all fun c => decide (-9223372036854775808 ≤ c.st.attr ∧ c.st.attr ≤ 9223372036854775807)) = true := by decide +kernel
  exact fun r hr c hc => cel_okB (List.all_eq_true.1 (List.all_eq_true.1 h r hr) c hc)
theorem kCels_bad : ∀ c ∈ kCels, cellF c = 221 ∧ (putRowF ⟨lofR [97, 98, 87, 99, 46], false⟩ 0 c).2 = 221 := by decide +kernel
theorem kCels_ok : ∀ c ∈ kCels, c.ok := by
  have h : kCels.all (fun c => decide (-9223372036854775808 ≤ c.st.attr ∧ c.st.attr ≤ 9223372036854775807)) = true := by decide +kernel
  exact fun c hc => cel_okB (List.all_eq_true.1 h c hc)
/-- the contracts of the second part: all by value -/
def GK2 : Specs := [(31, lofRSpec), (32, lwideSpec), (16, putSpec), (33, cellSpec), (20, markSpec), (23, eraseSpec), (25, insertSpec), (27, deleteSpec), (34, lisSpec), (30, sameSpec), (35, longSpec), (19, lworksSpec)]
@[simp] theorem GK2_live : Specs.live GK2 = false := rfl
@[simp] theorem GK2_nils : Specs.nils GK2 = false := rfl
@[simp] theorem GK2_froz : Specs.froz GK2 = false := rfl
@[simp] theorem GK2_of : GK2.find 31 = some lofRSpec := rfl
@[simp] theorem GK2_wide : GK2.find 32 = some lwideSpec := rfl
@[simp] theorem GK2_put : GK2.find 16 = some putSpec := rfl
@[simp] theorem GK2_cell : GK2.find 33 = some cellSpec := rfl
@[simp] theorem GK2_mark : GK2.find 20 = some markSpec := rfl
@[simp] theorem GK2_erase : GK2.find 23 = some eraseSpec := rfl
@[simp] theorem GK2_insert : GK2.find 25 = some insertSpec := rfl
@[simp] theorem GK2_delete : GK2.find 27 = some deleteSpec := rfl
@[simp] theorem GK2_is : GK2.find 34 = some lisSpec := rfl
@[simp] theorem GK2_same : GK2.find 30 = some sameSpec := rfl
@[simp] theorem GK2_long : GK2.find 35 = some longSpec := rfl
@[simp] theorem GK2_works : GK2.find 19 = some lworksSpec := rfl
theorem GK2_ok : SpecsOK Tryd.prog glW GK2 := .cons (lofR_sound glW) (.cons (lwide_sound glW) (.cons put_sound (.cons cell_sound (.cons mark_sound (.cons erase_sound (.cons insert_sound (.cons delete_sound (.cons (lis_sound glW) (.cons (same_sound glW) (.cons (long_sound glW) (.cons lworks_sound (.nil _ _))))))))))))
def kZ : List C := celsC (List.replicate 5 cel0)
def knA (n : Nat) (L a b c d e : List C) : St := ⟨361, [(1, .ptr 0 0 0), (2, .ref 6 0)], [.box 27 [.val (.sl n L), .val (.bool false)],
  .sl 34 0 true 12 1 a, .sl 34 0 true 12 2 b, .sl 34 0 true 12 2 c, .sl 34 0 true 12 2 d, .sl 34 0 true 12 3 e,
  .slx 27 0 2 7 [.val (.sl 0 []), .val (.bool false), .ref 1 0, .val (.bool false), .val (.sl 5 kZ), .val (.bool false), .ref 2 0, .val (.bool false), .ref 3 0, .val (.bool false), .ref 4 0, .val (.bool false), .ref 5 0, .val (.bool false)]]⟩
def knB0 (n : Nat) (L B : List C) : St := ⟨361, [(1, .ptr 0 0 0), (2, .ref 1 0)], [.box 27 [.val (.sl n L), .val (.bool false)], .sl 27 0 true 2 7 B]⟩
def knB (n : Nat) (L B : List C) (i : Nat) : St := ⟨361, [(1, .ptr 0 0 0), (2, .ref 1 0), (3, .val (.int .i64 i))], [.box 27 [.val (.sl n L), .val (.bool false)], .sl 27 0 true 2 7 B]⟩
def knC (n : Nat) (L D : List C) (i : Nat) : St := ⟨361, [(1, .ptr 0 0 0), (6, .val (.sl 8 D)), (7, .val (.int .i64 i))], [.box 27 [.val (.sl n L), .val (.bool false)]]⟩
def knE (n : Nat) (L : List C) : St := ⟨361, [(1, .ptr 0 0 0)], [.box 27 [.val (.sl n L), .val (.bool false)]]⟩
def lawKnownSpec : Spec := { pre := fun args => args = [], res := fun _ => .one (.val (.c (.bool true))) }
def G_lawKnown : Specs := [(31, (liveOf of2Spec)), (32, (frozOf lwideSpec)), (16, putSpec), (29, rowckSpec)]
@[simp] theorem G_lawKnown_live : Specs.live G_lawKnown = true := rfl
@[simp] theorem G_lawKnown_nils : Specs.nils G_lawKnown = false := rfl
@[simp] theorem G_lawKnown_froz : Specs.froz G_lawKnown = true := rfl
@[simp] theorem G_lawKnown_31 : G_lawKnown.find 31 = some (liveOf of2Spec) := rfl
@[simp] theorem G_lawKnown_32 : G_lawKnown.find 32 = some (frozOf lwideSpec) := rfl
@[simp] theorem G_lawKnown_16 : G_lawKnown.find 16 = some putSpec := rfl
@[simp] theorem G_lawKnown_29 : G_lawKnown.find 29 = some rowckSpec := rfl
theorem G_lawKnown_ok : SpecsOK Tryd.prog glW G_lawKnown := .cons (of2_sound glW).live (.cons (lwide_sound glW).froz (.cons put_sound (.cons rowck_sound (.nil _ _))))
set_option maxHeartbeats 8000000 in
set_option maxRecDepth 10000 in
theorem lawKnown_sound : Sound Tryd.prog glW 10 lawKnownSpec := by
  refine sound_awp (N := Tryd.f10.ntmps) (rs := Tryd.f10.results.toList) tok Tryd.func10 rfl rfl rfl rfl rfl ?_ ?_ ?_
  · rintro args rfl; simp [Tryd.f10]
  · rintro args rfl; simp [lawKnownSpec, Tryd.f10]
  · rintro args rfl bs hgl hh hro
    have hE : Env.OK ⟨Tryd.prog, T, G_lawKnown, bs⟩ := ⟨tok, by rw [hgl]; exact G_lawKnown_ok⟩
    have hE2 : Env.OK ⟨Tryd.prog, T, GK2, bs⟩ := ⟨tok, by rw [hgl]; exact GK2_ok⟩
    have okA : Cel.ok ⟨97, 0, 0, 0, sty0⟩ := ⟨by decide, by decide⟩
    obtain ⟨L, hL⟩ : ∃ l, lofR [97, 98, 87, 99, 46] = l := ⟨_, rfl⟩
    refine AWP.seq (wpc_ok hE mixed _ _ _ ?_)
    simp -implicitDefEqProofs [lawKnownSpec, and_assoc, lwideSpec, of2Spec, putSpec, rowckSpec]
    refine AWP.seq (wpc_ok hE mixed _ _ _ ?_)
    simp -implicitDefEqProofs [and_assoc, lwideSpec, of2Spec, putSpec, rowckSpec, of2_wr, of2_eff0, of2_eff1, hL]
    refine AWP.seq (wpc_ok hE mixed _ _ _ ?_)
    simp -implicitDefEqProofs [and_assoc, lwideSpec, of2Spec, putSpec, rowckSpec, of2_wr, of2_eff0, of2_eff1, hL]
    refine ⟨by rfl, ?_⟩
    obtain ⟨a, ea⟩ : ∃ a, celsC (lofR [97]) = a := ⟨_, rfl⟩
    obtain ⟨b, eb⟩ : ∃ b, celsC (lofR [97, 98]) = b := ⟨_, rfl⟩
    obtain ⟨d, ed⟩ : ∃ d, celsC (lofR [87]) = d := ⟨_, rfl⟩
    obtain ⟨e, ee⟩ : ∃ e, celsC (lofR [97, 87]) = e := ⟨_, rfl⟩
    obtain ⟨M, hM⟩ : ∃ M, celsC L = M := ⟨_, rfl⟩
    have n1 : (lofR [97]).length = 1 := rfl
    have n2 : (lofR [97, 98]).length = 2 := rfl
    have n3 : (lofR [87]).length = 2 := rfl
    have n4 : (lofR [97, 87]).length = 3 := rfl
    have l2 : b.length = 24 := by rw [← eb]; rfl
    have l3 : d.length = 24 := by rw [← ed]; rfl
    have l4 : e.length = 36 := by rw [← ee]; rfl
    refine AWP.weaken (st' := knA L.length M a b b d e) (Weak.ren [some 0, some 2, some 4, some 6, some 8, some 10, some 11] (baseOK.nil hh) (by simp) (by simp [knA, rowC, kZ, n1, n2, n3, n4, ea, eb, ed, ee, hM]; rfl) (by simp [knA])) ?_
    refine AWP.seq (wpc_ok hE mixed _ _ _ ?_)
    simp -implicitDefEqProofs [knA, and_assoc, lwideSpec, of2Spec, putSpec, rowckSpec, celV, l2]
    refine ⟨by rfl, ?_⟩
    refine AWP.seq (wpc_ok hE mixed _ _ _ ?_)
    simp -implicitDefEqProofs [and_assoc, lwideSpec, of2Spec, putSpec, rowckSpec, l2]
    refine AWP.seq (wpc_ok hE mixed _ _ _ ?_)
    simp -implicitDefEqProofs [and_assoc, lwideSpec, of2Spec, putSpec, rowckSpec, l3]
    refine AWP.seq (wpc_ok hE mixed _ _ _ ?_)
    simp -implicitDefEqProofs [and_assoc, lwideSpec, of2Spec, putSpec, rowckSpec, l4]
    have fa : a = celsC [kA] := by rw [← ea]; rfl
    have fb : List.take 12 b ++ (celC wideF ++ List.drop 24 b) = celsC [kA, wideF] := by rw [← eb]; rfl
    have fc : List.take 12 b ++ (celC ⟨0, 0, 0, 2, sty0⟩ ++ List.drop 24 b) = celsC [kA, kT] := by rw [← eb]; rfl
    have fd : List.take 16 d ++ C.int IntKind.i64 1 :: List.drop 17 d = celsC [wideF, kS] := by rw [← ed]; rfl
    have fe : List.take 25 e ++ C.int IntKind.i64 769 :: List.drop 26 e = celsC [kA, wideF, kM] := by rw [← ee]; rfl
    refine AWP.weaken (st' := knA L.length M (celsC [kA]) (celsC [kA, wideF]) (celsC [kA, kT]) (celsC [wideF, kS]) (celsC [kA, wideF, kM])) (Weak.heap (by simp only [knA, fa, fb, fc, fd, fe]) (by simp [knA])) ?_
    refine AWP.weaken (st' := knB0 L.length M (rwsC kRows)) (Weak.trans (Weak.solidX 6 1 2 rfl rfl rfl) (Weak.trans (Weak.solidX 6 2 6 rfl rfl rfl) (Weak.trans (Weak.solidX 6 3 8 rfl rfl rfl) (Weak.trans (Weak.solidX 6 4 10 rfl rfl rfl) (Weak.trans (Weak.solidX 6 5 12 rfl rfl rfl) (Weak.ren [some 0, some 6] (baseOK.nil hh) (by simp [knB0]) (by simp [knB0]; rfl) (by simp [knB0]))))))) ?_
    have kl : kRows.length = 7 := rfl
    refine AWP.seq (wpc_ok hE mixed _ _ _ ?_)
    simp -implicitDefEqProofs [knB0, and_assoc, lwideSpec, of2Spec, putSpec, rowckSpec]
    refine AWP.leaves 0 (knE L.length M) (AWP.rounds (fun i => i ≤ 7) (knB L.length M (rwsC kRows)) (fun i => 7 - i) 0 (by omega) (Weak.heap (by simp [knB]) (by simp [knB])) ?_) ?_
    · intro i hi
      refine wpc_ok hE mixed _ _ _ ?_
      rcases Nat.lt_or_ge i 7 with g | g
      · have g' : ((i : Int) < 7) = True := eq_true (by omega)
        have wi : IntKind.i64.wrap ((i : Int) + 1) = (i : Int) + 1 := wrap64 _ (by omega) (by omega)
        have hd := rwsC_at (l := kRows) (i := i) g
        have hm : kRows[i] ∈ kRows := List.getElem_mem g
        obtain ⟨b1, b2⟩ := kRows_bad _ hm
        have b3 := kRows_ok _ hm
        generalize kRows[i] = r at *
        have er : rowOf [C.sl r.cells.length (celsC r.cells), C.bool r.wrapped] = r := rowOf_C r
        have b2 : (putRowF r 0 ⟨97, 0, 0, 0, sty0⟩).2 = 220 := b2
        obtain ⟨x, hx⟩ : ∃ x, (putRowF r 0 ⟨97, 0, 0, 0, sty0⟩).1 = x := ⟨_, rfl⟩
        simp -implicitDefEqProofs [knB, and_assoc, lwideSpec, of2Spec, putSpec, rowckSpec, g', wi, hd, rowC, celV, rowV, er, b1, b2, hx]
        exact ⟨⟨r, rfl, rfl, rfl, b3, okA⟩, ⟨r, rfl, rfl, rfl, b3⟩, Next.mk (i + 1) (by omega) (by omega) (Weak.ren [some 0, some 1] (baseOK.nil hh) (by simp) (by simp) (by simp))⟩
      · obtain rfl : i = 7 := by omega
        simp -implicitDefEqProofs [knB]
        exact Leaves.mk (Weak.ren [some 0] (baseOK.nil hh) (by simp) (by simp [knE]) (by simp [knE]))
    simp -implicitDefEqProofs [knE]
    have p1 : (putRowF ⟨lofR [97, 98, 87, 99, 46], false⟩ 0 ⟨0, 0, 0, 2, sty0⟩).2 = 221 := by decide +kernel
    have p2 : (putRowF ⟨lofR [97, 98, 87, 99, 46], false⟩ 5 wideF).2 = 2 := by decide +kernel
    have p3 : (putRowF ⟨lofR [97, 98, 87, 99, 46], false⟩ 6 ⟨0, 0, 0, 0, sty0⟩).2 = 2 := by decide +kernel
    have p4 : (putRowF ⟨lofR [97, 98, 87, 99, 46], false⟩ (-1) ⟨97, 0, 0, 0, sty0⟩).2 = 2 := by decide +kernel
    have p5 : cellF ⟨0, 0, 0, 2, sty0⟩ = 0 := by decide +kernel
    have m1 : markRowF ⟨lofR [97, 98, 87, 99, 46], false⟩ 0 769 = (⟨⟨97, 769, 0, 0, sty0⟩ :: (lofR [97, 98, 87, 99, 46]).tail, false⟩, 0) := by decide +kernel
    have m2 : markRowF ⟨⟨97, 769, 0, 0, sty0⟩ :: (lofR [97, 98, 87, 99, 46]).tail, false⟩ 0 768 = (⟨⟨97, 769, 768, 0, sty0⟩ :: (lofR [97, 98, 87, 99, 46]).tail, false⟩, 0) := by decide +kernel
    have m3 : markRowF ⟨⟨97, 769, 768, 0, sty0⟩ :: (lofR [97, 98, 87, 99, 46]).tail, false⟩ 0 770 = (⟨⟨97, 769, 768, 0, sty0⟩ :: (lofR [97, 98, 87, 99, 46]).tail, false⟩, 0) := by decide +kernel
    have m4 : (markRowF ⟨lofR [97, 98, 87, 99, 46], false⟩ 0 97).2 = 2 := by decide +kernel
    have q1 : shiftRowF true ⟨lofR [97, 98, 87, 99, 46], false⟩ 1 4611686018427387904 sty0 = (⟨lofR [97, 46, 46, 46, 46, 46], false⟩, 0) := by decide +kernel
    have lg1 : longF (lofR [97, 98, 87, 99, 46]) = 5 := by decide +kernel
    have lg2 : longF (lofR [46, 46]) = 0 := by decide +kernel
    have lg3 : longF (lofR [46, 66]) = 2 := by decide +kernel
    have lg4 : longF [] = 0 := by decide +kernel
    have e1 : (eraseRowF ⟨lofR [97, 98, 46, 46], true⟩ 3 4 sty0).2 = 0 := by decide +kernel
    have e2 : (eraseRowF ⟨lofR [97, 98, 46, 46], true⟩ 3 4 sty0).1.wrapped = false := by decide +kernel
    have e3 : (eraseRowF ⟨lofR [97, 98, 46, 46], true⟩ 0 3 sty0).2 = 0 := by decide +kernel
    have e4 : (eraseRowF ⟨lofR [97, 98, 46, 46], true⟩ 0 3 sty0).1.wrapped = true := by decide +kernel
    have e5 : (eraseRowF ⟨lofR [97, 98, 46, 46], true⟩ 4 4 sty0).2 = 0 := by decide +kernel
    have e6 : (eraseRowF ⟨lofR [97, 98, 46, 46], true⟩ 4 4 sty0).1.wrapped = true := by decide +kernel
    have e7 : (eraseRowF ⟨lofR [97, 98, 46, 46], true⟩ 2 5 sty0).2 = 2 := by decide +kernel
    have i1 : (shiftRowF true ⟨lofR [97, 98, 46, 46], true⟩ 4 0 sty0).2 = 2 := by decide +kernel
    have i2 : (shiftRowF false ⟨lofR [97, 98, 46, 46], true⟩ 0 (-1) sty0).2 = 2 := by decide +kernel
    have i3 : ((shiftRowF true ⟨lofR [97, 98, 46, 46], true⟩ 0 1 ⟨-1, 0, 0, 0, 0, 0, 0, 0⟩).2 = 0) = False := eq_false (by decide +kernel)
    have okR : Rw.ok ⟨lofR [97, 98, 87, 99, 46], false⟩ := lofR_ok _ _
    have okW : Rw.ok ⟨lofR [97, 98, 46, 46], true⟩ := lofR_ok _ _
    have lR : (lofR [97, 98, 87, 99, 46]).length ≤ 1000 := by decide +kernel
    have okX : ∀ a b : Int, Rw.ok ⟨⟨97, a, b, 0, sty0⟩ :: (lofR [97, 98, 87, 99, 46]).tail, false⟩ := fun a b c hc => by
      rcases List.mem_cons.1 hc with rfl | hc
      · exact ⟨by show (_ : Int) ≤ 0; decide, by show (0 : Int) ≤ _; decide⟩
      · exact okR c (List.mem_of_mem_tail hc)
    have lP : (lofR [97, 46, 46, 46, 46, 46]).length ≤ 1000 := by decide +kernel
    obtain ⟨Y, hY⟩ : ∃ Y, (lofR [97, 98, 87, 99, 46]).tail = Y := ⟨_, rfl⟩
    obtain ⟨W, hW⟩ : ∃ W, lofR [97, 98, 46, 46] = W := ⟨_, rfl⟩
    obtain ⟨P, hP⟩ : ∃ P, lofR [97, 46, 46, 46, 46, 46] = P := ⟨_, rfl⟩
    simp only [hY] at m1 m2 m3 okX
    simp only [hL] at p1 p2 p3 p4 m1 m4 q1 lg1 okR lR
    simp only [hW] at e1 e2 e3 e4 e5 e6 e7 i1 i2 i3 okW
    simp only [hP] at q1 lP
    subst hM
    have oR : rowOf [C.sl L.length (celsC L), C.bool false] = ⟨L, false⟩ := rowOf_C ⟨L, false⟩
    have cl : kCels.length = 8 := rfl
    have hD : ∃ D, celsC kCels = D := ⟨_, rfl⟩
    refine AWP.seq (wpc_ok hE2 mixed _ _ _ ?_)
    simp -implicitDefEqProofs
    refine AWP.seq (wpc_ok hE2 mixed _ _ _ ?_)
    simp -implicitDefEqProofs
    refine AWP.leaves 2 (knE L.length (celsC L)) (AWP.rounds (fun i => i ≤ 8) (knC L.length (celsC L) (celsC kCels)) (fun i => 8 - i) 0 (by omega) (Weak.ren [some 0] (baseOK.nil hh) (by simp [knC]) (by simp [knC]) (by simp [knC]; rfl)) ?_) ?_
    · intro i hi
      refine wpc_ok hE2 mixed _ _ _ ?_
      rcases Nat.lt_or_ge i 8 with g | g
      · have g' : ((i : Int) < 8) = True := eq_true (by omega)
        have wi : IntKind.i64.wrap ((i : Int) + 1) = (i : Int) + 1 := wrap64 _ (by omega) (by omega)
        have hd := celsC_at (l := kCels) (k := i) g
        have hm : kCels[i] ∈ kCels := List.getElem_mem g
        obtain ⟨b1, b2⟩ := kCels_bad _ hm
        have b3 := kCels_ok _ hm
        simp only [hL] at b2
        generalize kCels[i] = c at *
        have ec : celOf (celC c) = c := celOf_C c
        obtain ⟨x, hx⟩ : ∃ x, (putRowF ⟨L, false⟩ 0 c).1 = x := ⟨_, rfl⟩
        simp -implicitDefEqProofs [and_assoc, knC, putSpec, cellSpec, g', wi, hd, celV, rowV, ec, oR, b1, b2, hx]
        exact ⟨⟨⟨L, false⟩, rfl, okR, b3⟩, by rfl, b3, Next.mk (i + 1) (by omega) (by omega) (Weak.ren [some 0] (baseOK.nil hh) (by simp) (by simp) (by simp))⟩
      · obtain rfl : i = 8 := by omega
        simp -implicitDefEqProofs [knC]
        exact Leaves.mk (Weak.heap (by simp [knE]) (by simp [knE]))
    simp -implicitDefEqProofs [knE]
    have okT : Cel.ok ⟨0, 0, 0, 2, sty0⟩ := ⟨by decide, by decide⟩
    have ok0 : Cel.ok ⟨0, 0, 0, 0, sty0⟩ := ⟨by decide, by decide⟩
    have okV : Cel.ok wideF := ⟨by decide, by decide⟩
    obtain ⟨x1, hx1⟩ : ∃ x, (putRowF ⟨L, false⟩ 0 ⟨0, 0, 0, 2, sty0⟩).1 = x := ⟨_, rfl⟩
    obtain ⟨x2, hx2⟩ : ∃ x, (putRowF ⟨L, false⟩ 5 wideF).1 = x := ⟨_, rfl⟩
    obtain ⟨x3, hx3⟩ : ∃ x, (putRowF ⟨L, false⟩ 6 ⟨0, 0, 0, 0, sty0⟩).1 = x := ⟨_, rfl⟩
    obtain ⟨x4, hx4⟩ : ∃ x, (putRowF ⟨L, false⟩ (-1) ⟨97, 0, 0, 0, sty0⟩).1 = x := ⟨_, rfl⟩
    refine AWP.seq (wpc_ok hE2 mixed _ _ _ ?_)
    simp -implicitDefEqProofs [and_assoc, putSpec, cellSpec, markSpec, eraseSpec, insertSpec, deleteSpec, moveSpec, lisSpec, sameSpec, longSpec, lworksSpec, lofRSpec, lwideSpec, rowV, celV, styV, celOf_C, stOf_C, oR, hx1, p1]
    refine ⟨⟨⟨L, false⟩, rfl, okR, okT⟩, ?_⟩
    refine AWP.seq (wpc_ok hE2 mixed _ _ _ ?_)
    simp -implicitDefEqProofs [and_assoc, putSpec, cellSpec, markSpec, eraseSpec, insertSpec, deleteSpec, moveSpec, lisSpec, sameSpec, longSpec, lworksSpec, lofRSpec, lwideSpec, rowV, celV, styV, celOf_C, stOf_C, oR, hx2, p2]
    refine ⟨⟨⟨L, false⟩, rfl, okR, okV⟩, by rfl, ?_⟩
    refine AWP.seq (wpc_ok hE2 mixed _ _ _ ?_)
    simp -implicitDefEqProofs [and_assoc, putSpec, cellSpec, markSpec, eraseSpec, insertSpec, deleteSpec, moveSpec, lisSpec, sameSpec, longSpec, lworksSpec, lofRSpec, lwideSpec, rowV, celV, styV, celOf_C, stOf_C, oR, hx3, p3]
    refine ⟨⟨⟨L, false⟩, rfl, okR, ok0⟩, ?_⟩
    refine AWP.seq (wpc_ok hE2 mixed _ _ _ ?_)
    simp -implicitDefEqProofs [and_assoc, putSpec, cellSpec, markSpec, eraseSpec, insertSpec, deleteSpec, moveSpec, lisSpec, sameSpec, longSpec, lworksSpec, lofRSpec, lwideSpec, rowV, celV, styV, celOf_C, stOf_C, oR, hx4, p4]
    refine ⟨⟨⟨L, false⟩, rfl, okR, okA⟩, ?_⟩
    refine AWP.seq (wpc_ok hE2 mixed _ _ _ ?_)
    simp -implicitDefEqProofs [and_assoc, putSpec, cellSpec, markSpec, eraseSpec, insertSpec, deleteSpec, moveSpec, lisSpec, sameSpec, longSpec, lworksSpec, lofRSpec, lwideSpec, rowV, celV, styV, celOf_C, stOf_C, oR, p5]
    refine ⟨okT, ?_⟩
    refine AWP.weaken (st' := ⟨361, [(1, .ptr 0 0 0), (18, .val (.bool true))], [.box 27 [.val (.sl L.length (celsC L)), .val (.bool false)]]⟩) (Weak.ren [some 0] (baseOK.nil hh) (by simp) (by simp) (by simp)) ?_
    obtain ⟨K1, hK1⟩ : ∃ K, ⟨97, 769, 0, 0, sty0⟩ :: Y = K := ⟨_, rfl⟩
    obtain ⟨K2, hK2⟩ : ∃ K, ⟨97, 769, 768, 0, sty0⟩ :: Y = K := ⟨_, rfl⟩
    have okK1 : Rw.ok ⟨K1, false⟩ := by rw [← hK1]; exact okX _ _
    have okK2 : Rw.ok ⟨K2, false⟩ := by rw [← hK2]; exact okX _ _
    rw [hK1] at m1 m2
    rw [hK2] at m2 m3
    have lY : Y.length ≤ 900 := by rw [← hY, List.length_tail]; have : (lofR [97, 98, 87, 99, 46]).length ≤ 100 := by decide +kernel
                                   omega
    have lK2 : K2.length ≤ 1000 := by rw [← hK2, List.length_cons]; omega
    have mk2 : List.take 2 (celsC K2).tail = [C.int .i64 769, C.int .i64 768] := by rw [← hK2]; rfl
    have nk2 : 1 ≤ K2.length := by rw [← hK2, List.length_cons]; omega
    have o1 : rowOf [C.sl K1.length (celsC K1), C.bool false] = ⟨K1, false⟩ := rowOf_C ⟨K1, false⟩
    have o2 : rowOf [C.sl K2.length (celsC K2), C.bool false] = ⟨K2, false⟩ := rowOf_C ⟨K2, false⟩
    obtain ⟨x5, hx5⟩ : ∃ x, (markRowF ⟨L, false⟩ 0 97).1 = x := ⟨_, rfl⟩
    refine AWP.seq (wpc_ok hE2 mixed _ _ _ ?_)
    simp -implicitDefEqProofs [and_assoc, putSpec, cellSpec, markSpec, eraseSpec, insertSpec, deleteSpec, moveSpec, lisSpec, sameSpec, longSpec, lworksSpec, lofRSpec, lwideSpec, rowV, celV, styV, celOf_C, stOf_C, oR, m1, rowC]
    refine ⟨⟨⟨L, false⟩, rfl, rfl, rfl, okR⟩, ?_⟩
    refine AWP.seq (wpc_ok hE2 mixed _ _ _ ?_)
    simp -implicitDefEqProofs [and_assoc, putSpec, cellSpec, markSpec, eraseSpec, insertSpec, deleteSpec, moveSpec, lisSpec, sameSpec, longSpec, lworksSpec, lofRSpec, lwideSpec, rowV, celV, styV, celOf_C, stOf_C, oR, o1, m2, rowC]
    refine ⟨⟨⟨K1, false⟩, rfl, rfl, rfl, okK1⟩, ?_⟩
    refine AWP.seq (wpc_ok hE2 mixed _ _ _ ?_)
    simp -implicitDefEqProofs [and_assoc, putSpec, cellSpec, markSpec, eraseSpec, insertSpec, deleteSpec, moveSpec, lisSpec, sameSpec, longSpec, lworksSpec, lofRSpec, lwideSpec, rowV, celV, styV, celOf_C, stOf_C, oR, o2, m3, rowC]
    refine ⟨⟨⟨K2, false⟩, rfl, rfl, rfl, okK2⟩, ?_⟩
    refine AWP.seq (wpc_ok hE2 mixed _ _ _ ?_)
    simp -implicitDefEqProofs [and_assoc, putSpec, cellSpec, markSpec, eraseSpec, insertSpec, deleteSpec, moveSpec, lisSpec, sameSpec, longSpec, lworksSpec, lofRSpec, lwideSpec, rowV, celV, styV, celOf_C, stOf_C, oR, m4, hx5, rowC]
    refine ⟨⟨⟨L, false⟩, rfl, rfl, rfl, okR⟩, ?_⟩
    refine AWP.seq (wpc_ok hE2 mixed _ _ _ ?_)
    simp -implicitDefEqProofs [and_assoc, putSpec, cellSpec, markSpec, eraseSpec, insertSpec, deleteSpec, moveSpec, lisSpec, sameSpec, longSpec, lworksSpec, lofRSpec, lwideSpec, rowV, celV, styV, celOf_C, stOf_C, oR, o2, mk2, nk2]
    refine ⟨by omega, by omega, ⟨⟨K2, false⟩, rfl, ⟨⟨K2, false⟩, rfl⟩, lK2⟩, ?_⟩
    refine AWP.weaken (st' := ⟨361, [(1, .ptr 0 0 0), (18, .val (.bool true)), (27, .val (.bool true))], [.box 27 [.val (.sl L.length (celsC L)), .val (.bool false)]]⟩) (Weak.ren [some 0] (baseOK.nil hh) (by simp) (by simp) (by simp)) ?_
    have oW : rowOf [C.sl W.length (celsC W), C.bool true] = ⟨W, true⟩ := rowOf_C ⟨W, true⟩
    have bmC : C.int .i64 (-1) :: (styC sty0).tail = styC ⟨-1, 0, 0, 0, 0, 0, 0, 0⟩ := rfl
    have okz : Sty.ok sty0 := ⟨by decide, by decide⟩
    have okm : Sty.ok ⟨-1, 0, 0, 0, 0, 0, 0, 0⟩ := ⟨by decide, by decide⟩
    obtain ⟨y1, hy1⟩ : ∃ x, (eraseRowF ⟨W, true⟩ 3 4 sty0).1 = x := ⟨_, rfl⟩
    obtain ⟨y2, hy2⟩ : ∃ x, (eraseRowF ⟨W, true⟩ 0 3 sty0).1 = x := ⟨_, rfl⟩
    obtain ⟨y3, hy3⟩ : ∃ x, (eraseRowF ⟨W, true⟩ 4 4 sty0).1 = x := ⟨_, rfl⟩
    obtain ⟨y4, hy4⟩ : ∃ x, (eraseRowF ⟨W, true⟩ 2 5 sty0).1 = x := ⟨_, rfl⟩
    obtain ⟨y5, hy5⟩ : ∃ x, (shiftRowF true ⟨W, true⟩ 4 0 sty0).1 = x := ⟨_, rfl⟩
    obtain ⟨y6, hy6⟩ : ∃ x, (shiftRowF false ⟨W, true⟩ 0 (-1) sty0).1 = x := ⟨_, rfl⟩
    obtain ⟨y7, hy7⟩ : ∃ x, (shiftRowF true ⟨W, true⟩ 0 1 ⟨-1, 0, 0, 0, 0, 0, 0, 0⟩).1 = x := ⟨_, rfl⟩
    obtain ⟨z7, hz7⟩ : ∃ x, (shiftRowF true ⟨W, true⟩ 0 1 ⟨-1, 0, 0, 0, 0, 0, 0, 0⟩).2 = x := ⟨_, rfl⟩
    rw [hy1] at e2
    rw [hy2] at e4
    rw [hy3] at e6
    rw [hz7] at i3
    refine AWP.seq (wpc_ok hE2 mixed _ _ _ ?_)
    simp -implicitDefEqProofs [and_assoc, putSpec, cellSpec, markSpec, eraseSpec, insertSpec, deleteSpec, moveSpec, lisSpec, sameSpec, longSpec, lworksSpec, lofRSpec, lwideSpec, rowV, celV, styV, celOf_C, stOf_C, oR, hW, rowC]
    refine AWP.seq (wpc_ok hE2 mixed _ _ _ ?_)
    simp -implicitDefEqProofs [and_assoc, putSpec, cellSpec, markSpec, eraseSpec, insertSpec, deleteSpec, moveSpec, lisSpec, sameSpec, longSpec, lworksSpec, lofRSpec, lwideSpec, rowV, celV, styV, celOf_C, stOf_C, oR]
    refine AWP.seq (wpc_ok hE2 mixed _ _ _ ?_)
    simp -implicitDefEqProofs [and_assoc, putSpec, cellSpec, markSpec, eraseSpec, insertSpec, deleteSpec, moveSpec, lisSpec, sameSpec, longSpec, lworksSpec, lofRSpec, lwideSpec, rowV, celV, styV, celOf_C, stOf_C, oR, oW, e1, hy1, rowC]
    refine ⟨⟨⟨W, true⟩, rfl, rfl, rfl, okW, okz⟩, ?_⟩
    refine AWP.seq (wpc_ok hE2 mixed _ _ _ ?_)
    simp -implicitDefEqProofs [and_assoc, putSpec, cellSpec, markSpec, eraseSpec, insertSpec, deleteSpec, moveSpec, lisSpec, sameSpec, longSpec, lworksSpec, lofRSpec, lwideSpec, rowV, celV, styV, celOf_C, stOf_C, oR, oW, e3, hy2, rowC]
    refine ⟨⟨⟨W, true⟩, rfl, rfl, rfl, okW, okz⟩, ?_⟩
    refine AWP.seq (wpc_ok hE2 mixed _ _ _ ?_)
    simp -implicitDefEqProofs [and_assoc, putSpec, cellSpec, markSpec, eraseSpec, insertSpec, deleteSpec, moveSpec, lisSpec, sameSpec, longSpec, lworksSpec, lofRSpec, lwideSpec, rowV, celV, styV, celOf_C, stOf_C, oR, oW, e5, hy3, rowC]
    refine ⟨⟨⟨W, true⟩, rfl, rfl, rfl, okW, okz⟩, ?_⟩
    refine AWP.seq (wpc_ok hE2 mixed _ _ _ ?_)
    simp -implicitDefEqProofs [and_assoc, putSpec, cellSpec, markSpec, eraseSpec, insertSpec, deleteSpec, moveSpec, lisSpec, sameSpec, longSpec, lworksSpec, lofRSpec, lwideSpec, rowV, celV, styV, celOf_C, stOf_C, oR, oW, e7, hy4, rowC]
    refine ⟨⟨⟨W, true⟩, rfl, rfl, rfl, okW, okz⟩, ?_⟩
    refine AWP.seq (wpc_ok hE2 mixed _ _ _ ?_)
    simp -implicitDefEqProofs [and_assoc, putSpec, cellSpec, markSpec, eraseSpec, insertSpec, deleteSpec, moveSpec, lisSpec, sameSpec, longSpec, lworksSpec, lofRSpec, lwideSpec, rowV, celV, styV, celOf_C, stOf_C, oR, oW, i1, hy5, rowC]
    refine ⟨⟨⟨W, true⟩, rfl, rfl, rfl, okW, okz⟩, ?_⟩
    refine AWP.seq (wpc_ok hE2 mixed _ _ _ ?_)
    simp -implicitDefEqProofs [and_assoc, putSpec, cellSpec, markSpec, eraseSpec, insertSpec, deleteSpec, moveSpec, lisSpec, sameSpec, longSpec, lworksSpec, lofRSpec, lwideSpec, rowV, celV, styV, celOf_C, stOf_C, oR, oW, i2, hy6, rowC]
    refine ⟨⟨⟨W, true⟩, rfl, rfl, rfl, okW, okz⟩, ?_⟩
    refine AWP.seq (wpc_ok hE2 mixed _ _ _ ?_)
    simp -implicitDefEqProofs [and_assoc, putSpec, cellSpec, markSpec, eraseSpec, insertSpec, deleteSpec, moveSpec, lisSpec, sameSpec, longSpec, lworksSpec, lofRSpec, lwideSpec, rowV, celV, styV, celOf_C, stOf_C, oR, oW, bmC, hz7, hy7, rowC]
    refine ⟨⟨⟨W, true⟩, rfl, rfl, rfl, okW, okm⟩, ?_⟩
    refine AWP.seq (wpc_ok hE2 mixed _ _ _ ?_)
    simp -implicitDefEqProofs [and_assoc, putSpec, cellSpec, markSpec, eraseSpec, insertSpec, deleteSpec, moveSpec, lisSpec, sameSpec, longSpec, lworksSpec, lofRSpec, lwideSpec, rowV, celV, styV, celOf_C, stOf_C, oR, q1, rowC]
    refine ⟨⟨⟨L, false⟩, rfl, rfl, rfl, okR, okz⟩, ?_⟩
    refine AWP.seq (wpc_ok hE2 mixed _ _ _ ?_)
    simp -implicitDefEqProofs [and_assoc, putSpec, cellSpec, markSpec, eraseSpec, insertSpec, deleteSpec, moveSpec, lisSpec, sameSpec, longSpec, lworksSpec, lofRSpec, lwideSpec, rowV, celV, styV, celOf_C, stOf_C, oR, e2, e4, e6, i3]
    refine AWP.weaken (st' := ⟨361, [(1, .ptr 0 0 0), (18, .val (.bool true)), (27, .val (.bool true)), (45, .val (.bool true)), (43, .ptr 1 0 0), (44, .val (.int .i64 0))], [.box 27 [.val (.sl L.length (celsC L)), .val (.bool false)], .box 27 [.val (.sl P.length (celsC P)), .val (.bool false)]]⟩) (Weak.ren [some 0, some 9] (baseOK.nil hh) (by simp) (by simp) (by simp [i3])) ?_
    have oP : rowOf [C.sl P.length (celsC P), C.bool false] = ⟨P, false⟩ := rowOf_C ⟨P, false⟩
    have o0 : rowOf [C.sl 0 [], C.bool false] = ⟨[], false⟩ := rfl
    refine wpc_ok hE2 mixed _ _ _ ?_
    simp -implicitDefEqProofs [and_assoc, putSpec, cellSpec, markSpec, eraseSpec, insertSpec, deleteSpec, moveSpec, lisSpec, sameSpec, longSpec, lworksSpec, lofRSpec, lwideSpec, rowV, celV, styV, celOf_C, stOf_C, oR, oP, o0, hP, lg1, lg2, lg3, lg4]
    exact ⟨⟨⟨P, false⟩, rfl, lP⟩, ⟨⟨L, false⟩, rfl, by show L.length ≤ 1000000; omega⟩, by decide +kernel, by decide +kernel, ⟨⟨[], false⟩, rfl, by simp⟩⟩
end Fen
