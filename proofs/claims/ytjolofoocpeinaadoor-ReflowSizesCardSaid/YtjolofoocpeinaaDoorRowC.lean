/- A part of the proof; no statement is proved here: FRowN, FRowO, FRowP, FRowQ, FRowR, FRowS, FRowT, FRowU, FRowV, FRowW, FRowX, FRowZ, FRowZb, FTypA. -/
import Derived.Test.YtjolofoocpeinaaDoorRowB

set_option linter.unusedVariables false
set_option linter.unusedSimpArgs false

namespace Fen
open Go Go.Proofs
def remF (c : Cel) : Cel := blankF ⟨0, 0, 0, 0, c.st.bk, c.st.bn, 0, 0⟩
def partF (l : List Cel) (at_ : Int) : List Cel :=
 if 0 < at_ ∧ at_ < l.length ∧ halfF (cat l at_.toNat) = true then (l.set (at_.toNat - 1) (remF (cat l (at_.toNat - 1)))).set at_.toNat (remF (cat l at_.toNat)) else l
@[simp] theorem part_len (l : List Cel) (x : Int) : (partF l x).length = l.length := by unfold partF; split <;> simp
@[simp] theorem backC (c : Cel) : List.take 4 (styC sty0) ++ (List.take 2 (List.drop 8 (celC c)) ++ [C.int .i64 sty0.lk, C.int .i64 sty0.ln]) = styC ⟨0, 0, 0, 0, c.st.bk, c.st.bn, 0, 0⟩ := rfl
theorem cat_set_ne {l : List Cel} {i j : Nat} (c : Cel) (h : i ≠ j) : cat (l.set i c) j = cat l j := by
 unfold cat
 rw [List.getD_eq_getElem?_getD, List.getD_eq_getElem?_getD, List.getElem?_set_ne h]
end Fen

namespace Fen
open Go Go.Proofs
def putF (l : List Cel) (k : Nat) (c : Cel) : List Cel :=
 if c.wide = 1 then ((partF (partF l k) (k + 1 + c.wide)).set k c).set (k + 1) (secondF c.st) else (partF (partF l k) (k + 1 + c.wide)).set k c
theorem cell_wide {c : Cel} (h : cellF c = 0) (h2 : ¬ halfF c = true) : c.wide = 0 ∨ c.wide = 1 := by
 unfold cellF at h
 split at h
 · cases h
 · split at h
   · rename_i q
     rcases q with q | ⟨_, ⟨q, _⟩ | ⟨q, _⟩⟩
     · exact absurd q h2
     · exact .inl q
     · exact .inr q
   · cases h
end Fen

namespace Fen
open Go Go.Proofs
end Fen

namespace Fen
open Go Go.Proofs
end Fen

namespace Fen
open Go Go.Proofs
end Fen

namespace Fen
open Go Go.Proofs
def insF (l : List Cel) (col n : Nat) : List Cel := (partF (partF l col) ((l.length - n : Nat) : Int)).take (col + n) ++ ((partF (partF l col) ((l.length - n : Nat) : Int)).drop col).take (l.length - (col + n))
def delF (l : List Cel) (col n : Nat) : List Cel := (partF (partF l col) ((col + n : Nat) : Int)).take col ++ (partF (partF l col) ((col + n : Nat) : Int)).drop (col + n) ++ (partF (partF l col) ((col + n : Nat) : Int)).drop (l.length - n)
end Fen

namespace Fen
open Go Go.Proofs
def shF (ins : Bool) (l : List Cel) (col n : Nat) (s : Sty) : List Cel := if ins = true then eraseF (insF l col n) col (col + n) s else eraseF (delF l col n) (l.length - n) l.length s
end Fen

namespace Fen
open Go Go.Proofs
end Fen

namespace Fen
open Go Go.Proofs
end Fen

namespace Fen
open Go Go.Proofs
theorem sh_ins (l : List Cel) {a m : Nat} (s : Sty) (h : a + m ≤ l.length) {P : List Cel} (hP : partF (partF l a) ((l.length - m : Nat) : Int) = P) : shF true l a m s = P.take a ++ (List.replicate m (blankF s) ++ (P.drop a).take (l.length - m - a)) := by
 have hPl : P.length = l.length := by rw [← hP]; simp
 unfold shF eraseF insF
 rw [if_pos rfl, hP]
 have e1 : (P.take (a + m) ++ (P.drop a).take (l.length - (a + m))).take a = P.take a := by
   rw [List.take_append_of_le_length (by simp; omega), List.take_take, Nat.min_eq_left (by omega)]
 have e2 : (P.take (a + m) ++ (P.drop a).take (l.length - (a + m))).drop (a + m) = (P.drop a).take (l.length - (a + m)) := by
   rw [List.drop_left' (by simp; omega)]
 rw [e1, e2, List.append_assoc, show a + m - a = m by omega, show l.length - (a + m) = l.length - m - a by omega]
theorem sh_del (l : List Cel) {a m : Nat} (s : Sty) (h : a + m ≤ l.length) {P : List Cel} (hP : partF (partF l a) ((a + m : Nat) : Int) = P) : shF false l a m s = P.take a ++ (P.drop (a + m) ++ List.replicate m (blankF s)) := by
 have hPl : P.length = l.length := by rw [← hP]; simp
 unfold shF eraseF delF
 rw [if_neg (by decide), hP]
 have e1 : (P.take a ++ P.drop (a + m) ++ P.drop (l.length - m)).take (l.length - m) = P.take a ++ P.drop (a + m) := by
   rw [List.take_left' (by simp; omega)]
 have e2 : (P.take a ++ P.drop (a + m) ++ P.drop (l.length - m)).drop l.length = [] := List.drop_eq_nil_of_le (by simp; omega)
 rw [e1, e2, List.append_nil, List.append_assoc, show l.length - (l.length - m) = m by omega]
end Fen

namespace Fen
open Go Go.Proofs
end Fen

namespace Fen
open Go Go.Proofs
theorem off_wide {a c : Cel} (h : a.wide ≠ 1) : offF a c = offF cel0 c := by
 rw [Bool.eq_iff_iff]
 simp only [offF, Bool.or_eq_true, decide_eq_true_eq, bne_iff_ne, ne_eq, Bool.and_eq_true]
 have h2 : cel0.wide ≠ 1 := by decide
 simp only [h, h2, decide_false]
 by_cases q : c.wide = 2 <;> simp [q]
theorem chain_wide {a : Cel} (h : a.wide ≠ 1) : ∀ l, chainF a l = chainF cel0 l
 | [] => by simp [chainF, h, cel0]
 | c :: l => by simp only [chainF, off_wide h]
abbrev VL (l : List Cel) : Prop := chainF cel0 l = true
theorem VL.nil : VL [] := rfl
theorem chain_app : ∀ (a b : List Cel) (x : Cel), chainF x a = true → VL b → chainF x (a ++ b) = true
 | [], b, x, h, hb => by
   have : x.wide ≠ 1 := by simpa [chainF] using h
   simpa [chain_wide this] using hb
 | c :: a, b, x, h, hb => by
   simp only [chainF, Bool.and_eq_true, List.cons_append] at h ⊢
   exact ⟨h.1, chain_app a b c h.2 hb⟩
theorem VL.app {a b : List Cel} (ha : VL a) (hb : VL b) : VL (a ++ b) := chain_app a b cel0 ha hb
theorem chain_split : ∀ (a b : List Cel) (x : Cel), chainF x (a ++ b) = true → (cat b 0).wide ≠ 2 → chainF x a = true ∧ VL b
 | [], [], x, h, hb => ⟨h, rfl⟩
 | [], c :: b, x, h, hb => by
   have hc : c.wide ≠ 2 := by simpa [cat] using hb
   simp only [List.nil_append, chainF, Bool.and_eq_true, Bool.not_eq_true'] at h
   have h3 := ((offF_iff _ _).1 h.1).2.1
   have hx : x.wide ≠ 1 := by
     intro q
     rw [q] at h3
     simp at h3
     exact hc h3
   refine ⟨by simpa [chainF] using hx, ?_⟩
   simp only [VL, chainF, Bool.and_eq_true, Bool.not_eq_true']
   exact ⟨by rw [← off_wide hx]; exact h.1, h.2⟩
 | c :: a, b, x, h, hb => by
   simp only [chainF, Bool.and_eq_true, List.cons_append] at h ⊢
   obtain ⟨k1, k2⟩ := chain_split a b c h.2 hb
   exact ⟨⟨h.1, k1⟩, k2⟩
theorem cat_out {l : List Cel} {k : Nat} (h : l.length ≤ k) : cat l k = cel0 := by simp [cat, h]
theorem cat_drop (l : List Cel) (k i : Nat) : cat (l.drop k) i = cat l (k + i) := by simp [cat]
theorem cat_take {l : List Cel} {k i : Nat} (h : i < k) : cat (l.take k) i = cat l i := by simp [cat, List.getElem?_take, h]
theorem half_wide {c : Cel} (h : halfF c = true) : c.wide = 2 := ((halfF_iff _).1 h).2.2.2
theorem VL.half {l : List Cel} (h : VL l) {k : Nat} (hk : ¬ halfF (cat l k) = true) : (cat l k).wide ≠ 2 := by
 rcases Nat.lt_or_ge k l.length with c | c
 · exact fun q => hk (((chain_val h).half k c).2 q)
 · rw [cat_out c]; decide
theorem VL.take {l : List Cel} (h : VL l) {k : Nat} (hk : ¬ halfF (cat l k) = true) : VL (l.take k) :=
 (chain_split (l.take k) (l.drop k) cel0 (by rw [List.take_append_drop]; exact h) (by rw [cat_drop]; exact h.half hk)).1
theorem VL.drop {l : List Cel} (h : VL l) {k : Nat} (hk : ¬ halfF (cat l k) = true) : VL (l.drop k) :=
 (chain_split (l.take k) (l.drop k) cel0 (by rw [List.take_append_drop]; exact h) (by rw [cat_drop]; exact h.half hk)).2
theorem VL.one {c : Cel} (h : cellF c = 0) (hw : c.wide = 0) : VL [c] := by
 have : offF cel0 c = false := (offF_iff _ _).2 ⟨h, by rw [hw]; rfl, by intro q; cases q⟩
 simp [VL, chainF, this, hw]
theorem VL.two {c : Cel} (h : cellF c = 0) (hw : c.wide = 1) (hs : styF c.st = 0) : VL [c, secondF c.st] := by
 have h1 : offF cel0 c = false := (offF_iff _ _).2 ⟨h, by rw [hw]; rfl, by intro q; cases q⟩
 have h2 : offF c (secondF c.st) = false := (offF_iff _ _).2 ⟨cellF_second hs, by rw [hw]; rfl, fun _ => rfl⟩
 show (!offF cel0 c && (!offF c (secondF c.st) && decide ((secondF c.st).wide ≠ 1))) = true
 rw [h1, h2]; rfl
theorem VL.rep {c : Cel} (h : VL [c]) : ∀ n, VL (List.replicate n c)
 | 0 => rfl
 | n + 1 => by rw [List.replicate_succ]; exact VL.app (a := [c]) h (VL.rep h n)
theorem VL.blanks {s : Sty} (h : styF s = 0) (n : Nat) : VL (List.replicate n (blankF s)) := VL.rep (VL.one (cellF_blank h) rfl) n
theorem half_blank (s : Sty) : ¬ halfF (blankF s) = true := by simp [halfF_iff, blankF]
theorem half_rem (c : Cel) : ¬ halfF (remF c) = true := half_blank _
theorem styF_parts {s : Sty} (h : styF s = 0) : colF s.bk s.bn = 0 := by
 unfold styF at h
 split at h
 · cases h
 · split at h
   · rename_i q; exact q.2.1
   · cases h
theorem styF_back {s : Sty} (h : styF s = 0) : styF ⟨0, 0, 0, 0, s.bk, s.bn, 0, 0⟩ = 0 := by
 have h2 := styF_parts h
 have h0 : colF 0 0 = 0 := rfl
 unfold styF
 simp [h2, h0]
theorem cell_sty {c : Cel} (h : cellF c = 0) : styF c.st = 0 := by
 unfold cellF at h
 split at h
 · cases h
 · rename_i q; simpa using q
theorem VL.cell {l : List Cel} (h : VL l) {i : Nat} (hi : i < l.length) : cellF (cat l i) = 0 := (chain_val h).ok i hi
theorem part_yes {l : List Cel} {k : Nat} (h : VL l) (hh : halfF (cat l k) = true) : 1 ≤ k ∧ k < l.length ∧ partF l k = l.take (k - 1) ++ [remF (cat l (k - 1)), remF (cat l k)] ++ l.drop (k + 1) := by
 have hk : k < l.length := by
   rcases Nat.lt_or_ge k l.length with c | c
   · exact c
   · rw [cat_out c] at hh; exact absurd hh (by decide)
 have h1 := ((chain_val h).down k hk (half_wide hh)).1
 refine ⟨h1, hk, ?_⟩
 unfold partF
 rw [if_pos ⟨by omega, by omega, by simpa using hh⟩]
 obtain ⟨j, rfl⟩ : ∃ j, k = j + 1 := ⟨k - 1, by omega⟩
 simp only [Int.toNat_natCast, Nat.add_sub_cancel]
 apply List.ext_getElem?
 intro i
 simp only [List.getElem?_set, List.getElem?_append, List.length_append, List.length_take, List.length_set, List.length_cons, List.length_nil, List.getElem?_take, List.getElem?_drop]
 have e1 : min j l.length = j := by omega
 simp only [e1]
 rcases Nat.lt_trichotomy i j with c | c | c
 · simp [show ¬ j + 1 = i by omega, show ¬ j = i by omega, show i < j + (0 + 1 + 1) by omega, c]
 · subst c; simp; omega
 · rcases Nat.eq_or_lt_of_le c with c | c
   · have : i = j + 1 := by omega
     subst this; simp [hk]; intro q; omega
   · have e2 : j + 1 + 1 + (i - (j + (0 + 1 + 1))) = i := by omega
     simp [show ¬ j + 1 = i by omega, show ¬ j = i by omega, show ¬ i < j + (0 + 1 + 1) by omega, e2]
theorem part_no {l : List Cel} {k : Nat} (hh : ¬ halfF (cat l k) = true) : partF l k = l := by
 unfold partF; rw [if_neg (by simp [hh])]
theorem wide_take {l : List Cel} (h : VL l) {k : Nat} (hh : halfF (cat l k) = true) : (cat l (k - 1)).wide = 1 ∧ ¬ halfF (cat l (k - 1)) = true ∧ (cat l k).st = (cat l (k - 1)).st := by
 obtain ⟨h1, hk, _⟩ := part_yes h hh
 have q := ((chain_val h).down k hk (half_wide hh)).2
 exact ⟨q, fun c => (by rw [half_wide c] at q; cases q), (chain_val h).sty k hk (half_wide hh)⟩
theorem cat_set_eq {l : List Cel} {i : Nat} (c : Cel) (h : i < l.length) : cat (l.set i c) i = c := by simp [cat, List.getD_eq_getElem?_getD, List.getElem?_set, h]
theorem part_cat {l : List Cel} (h : VL l) (k i : Nat) : cat (partF l k) i = if halfF (cat l k) = true ∧ (i + 1 = k ∨ i = k) then remF (cat l i) else cat l i := by
 by_cases hh : halfF (cat l k) = true
 · obtain ⟨h1, hk, e⟩ := part_yes h hh
   obtain ⟨j, rfl⟩ : ∃ j, k = j + 1 := ⟨k - 1, by omega⟩
   unfold partF
   rw [if_pos ⟨by omega, by omega, by simpa using hh⟩]
   simp only [Int.toNat_natCast, Nat.add_sub_cancel, hh, true_and]
   rcases Nat.lt_trichotomy i j with c | c | c
   · rw [if_neg (by omega), cat_set_ne _ (by omega), cat_set_ne _ (by omega)]
   · subst c
     rw [if_pos (by omega), cat_set_ne _ (by omega), cat_set_eq _ (by omega)]
   · rcases Nat.eq_or_lt_of_le c with c | c
     · have : i = j + 1 := by omega
       subst this
       rw [if_pos (by omega), cat_set_eq _ (by simp; omega)]
     · rw [if_neg (by omega), cat_set_ne _ (by omega), cat_set_ne _ (by omega)]
 · rw [part_no hh, if_neg (by simp [hh])]
theorem part_half {l : List Cel} (h : VL l) (k i : Nat) (q : halfF (cat (partF l k) i) = true) : halfF (cat l i) = true ∧ i ≠ k := by
 rw [part_cat h] at q
 split at q
 · exact absurd q (half_rem _)
 · rename_i c
   refine ⟨q, fun e => ?_⟩
   subst e
   exact c ⟨q, .inr rfl⟩
theorem VL.part {l : List Cel} (h : VL l) (k : Nat) : VL (partF l k) := by
 by_cases hh : halfF (cat l k) = true
 · obtain ⟨h1, hk, e⟩ := part_yes h hh
   obtain ⟨q1, q2, q3⟩ := wide_take h hh
   rw [e]
   have b1 : cellF (remF (cat l (k - 1))) = 0 := cellF_blank (styF_back (cell_sty (h.cell (by omega))))
   have b2 : cellF (remF (cat l k)) = 0 := cellF_blank (styF_back (cell_sty (h.cell hk)))
   refine VL.app (VL.app (h.take q2) (VL.app (a := [_]) (VL.one b1 rfl) (VL.one b2 rfl))) (h.drop ?_)
   intro c
   have hk1 : k + 1 < l.length := by
     rcases Nat.lt_or_ge (k + 1) l.length with c' | c'
     · exact c'
     · rw [cat_out c'] at c; exact absurd c (by decide)
   have := ((chain_val h).down (k + 1) hk1 (half_wide c)).2
   rw [Nat.add_sub_cancel, half_wide hh] at this
   cases this
 · rw [part_no hh]; exact h
theorem put_eq (l : List Cel) (k : Nat) (c : Cel) (hw : c.wide = 0 ∨ c.wide = 1) (hk : k + c.wide.toNat < l.length) :
   putF l k c = (partF (partF l k) ((k + 1 + c.wide.toNat : Nat) : Int)).take k ++ (if c.wide = 1 then [c, secondF c.st] else [c]) ++ (partF (partF l k) ((k + 1 + c.wide.toNat : Nat) : Int)).drop (k + 1 + c.wide.toNat) := by
 unfold putF
 rcases hw with hw | hw
 · rw [if_neg (by omega), if_neg (by omega)]
   have e : ((k : Int) + 1 + c.wide) = ((k + 1 + c.wide.toNat : Nat) : Int) := by omega
   rw [e]
   have hl : (partF (partF l k) ((k + 1 + c.wide.toNat : Nat) : Int)).length = l.length := by simp
   generalize partF (partF l k) ((k + 1 + c.wide.toNat : Nat) : Int) = P at hl ⊢
   rw [List.set_eq_take_append_cons_drop, if_pos (by omega)]
   simp [hw]
 · rw [if_pos hw, if_pos hw]
   have e : ((k : Int) + 1 + c.wide) = ((k + 1 + c.wide.toNat : Nat) : Int) := by omega
   rw [e]
   have hl : (partF (partF l k) ((k + 1 + c.wide.toNat : Nat) : Int)).length = l.length := by simp
   generalize partF (partF l k) ((k + 1 + c.wide.toNat : Nat) : Int) = P at hl ⊢
   have hk2 : k + 1 < P.length := by rw [hl]; have : c.wide.toNat = 1 := by omega
                                     omega
   rw [hw]
   apply List.ext_getElem?
   intro i
   simp only [List.getElem?_set, List.getElem?_append, List.length_append, List.length_take, List.length_set, List.length_cons, List.length_nil, List.getElem?_take, List.getElem?_drop]
   have e1 : min k P.length = k := by omega
   simp only [e1]
   rcases Nat.lt_trichotomy i k with c' | c' | c'
   · simp [show ¬ k + 1 = i by omega, show ¬ k = i by omega, show i < k + (0 + 1 + 1) by omega, c']
   · subst c'; simp; omega
   · rcases Nat.eq_or_lt_of_le c' with c' | c'
     · have : i = k + 1 := by omega
       subst this; simp [hk2]; intro q; omega
     · have e2 : k + 1 + 1 + (i - (k + (0 + 1 + 1))) = i := by omega
       simp [show ¬ k + 1 = i by omega, show ¬ k = i by omega, show ¬ i < k + (0 + 1 + 1) by omega, e2]
theorem VL.put {l : List Cel} (h : VL l) {k : Nat} {c : Cel} (hc : cellF c = 0) (hw : c.wide = 0 ∨ c.wide = 1) (hk : k + c.wide.toNat < l.length) : VL (putF l k c) := by
 rw [put_eq l k c hw hk]
 have h1 := h.part k
 have h2 := h1.part (k + 1 + c.wide.toNat)
 refine VL.app (VL.app (h2.take ?_) ?_) (h2.drop ?_)
 · intro q
   exact (part_half h k k (part_half h1 _ k q).1).2 rfl
 · split
   · rename_i q; exact VL.two hc q (cell_sty hc)
   · rename_i q; exact VL.one hc (hw.resolve_right q)
 · intro q
   exact (part_half h1 _ _ q).2 rfl
theorem VL.shift {l : List Cel} (h : VL l) (ins : Bool) {a n : Nat} {s : Sty} (hs : styF s = 0) (hl : a + n ≤ l.length) : VL (shF ins l a n s) := by
 cases ins
 · rw [sh_del l s hl rfl]
   have h1 := h.part a
   have h2 := h1.part (a + n)
   refine VL.app (h2.take ?_) (VL.app (h2.drop ?_) (VL.blanks hs _))
   · intro q; exact (part_half h a a (part_half h1 _ a q).1).2 rfl
   · intro q; exact (part_half h1 _ _ q).2 rfl
 · rw [sh_ins l s hl rfl]
   have h1 := h.part a
   have h2 := h1.part (l.length - n)
   have na : ¬ halfF (cat (partF (partF l a) ((l.length - n : Nat) : Int)) a) = true := fun q => (part_half h a a (part_half h1 _ a q).1).2 rfl
   refine VL.app (h2.take na) (VL.app (VL.blanks hs _) ((h2.drop na).take ?_))
   rw [cat_drop]
   intro q
   rw [show a + (l.length - n - a) = l.length - n by omega] at q
   exact (part_half h1 _ _ q).2 rfl
end Fen

namespace Fen
open Go Go.Proofs
theorem cat_app (a b : List Cel) (i : Nat) : cat (a ++ b) i = if i < a.length then cat a i else cat b (i - a.length) := by
 unfold cat
 simp only [List.getD_eq_getElem?_getD, List.getElem?_append]
 split <;> rfl
end Fen

namespace Fen
open Go Go.Proofs
theorem celsC_flatMap (l : List Cel) : l.flatMap celC = celsC l := by
 induction l with
 | nil => rfl
 | cons c l ih => rw [List.flatMap_cons, ih]; rfl
theorem typed_i64 {d : Nat} {p : List C} (h : Typed T d 3 p) : ∃ n, p = [.int .i64 n] ∧ I64 n := by
 obtain ⟨n, rfl, q⟩ := typed_int T_3 h
 exact ⟨n, rfl, i64_of q⟩
theorem typed_u8 {d : Nat} {p : List C} (h : Typed T d 5 p) : ∃ n, p = [.int .u8 n] ∧ 0 ≤ n ∧ n < 256 := by
 obtain ⟨n, rfl, q⟩ := typed_int T_5 h
 exact ⟨n, rfl, u8_of q⟩
theorem typed_color {d : Nat} {p : List C} (h : Typed T d 73 p) : ∃ a b : Int, p = [.int .i64 a, .int .i64 b] := by
 obtain ⟨d', parts, rfl, hk⟩ := typed_struct T_73 h
 match parts, hk with
 | [p0, p1], ⟨h0, h1, _⟩ =>
   obtain ⟨a, rfl, _⟩ := typed_i64 h0
   obtain ⟨b, rfl, _⟩ := typed_i64 h1
   exact ⟨a, b, rfl⟩
theorem typed_sty {d : Nat} {p : List C} (h : Typed T d 75 p) : ∃ s : Sty, p = styC s ∧ s.ok := by
 obtain ⟨d', parts, rfl, hk⟩ := typed_struct T_75 h
 match parts, hk with
 | [p0, p1, p2, p3, p4], ⟨h0, h1, h2, h3, h4, _⟩ =>
   obtain ⟨a, rfl, qa⟩ := typed_i64 h0
   obtain ⟨b, rfl, _⟩ := typed_i64 h1
   obtain ⟨c0, c1, rfl⟩ := typed_color h2
   obtain ⟨d0, d1, rfl⟩ := typed_color h3
   obtain ⟨e0, e1, rfl⟩ := typed_color h4
   exact ⟨⟨a, b, c0, c1, d0, d1, e0, e1⟩, rfl, qa⟩
theorem typed_marks {d : Nat} {p : List C} (h : Typed T d 51 p) : ∃ a b : Int, p = [.int .i64 a, .int .i64 b] := by
 obtain ⟨d', parts, rfl, hl, hk⟩ := typed_array T_51 h
 match parts, hl with
 | [p0, p1], _ =>
   obtain ⟨a, rfl, _⟩ := typed_i64 (hk p0 (by simp))
   obtain ⟨b, rfl, _⟩ := typed_i64 (hk p1 (by simp))
   exact ⟨a, b, rfl⟩
theorem typed_cel {d : Nat} {p : List C} (h : Typed T d 77 p) : ∃ c : Cel, p = celC c ∧ c.ok := by
 obtain ⟨d', parts, rfl, hk⟩ := typed_struct T_77 h
 match parts, hk with
 | [p0, p1, p2, p3], ⟨h0, h1, h2, h3, _⟩ =>
   obtain ⟨a, rfl, _⟩ := typed_i64 h0
   obtain ⟨m0, m1, rfl⟩ := typed_marks h1
   obtain ⟨w, rfl, _⟩ := typed_i64 h2
   obtain ⟨s, rfl, qs⟩ := typed_sty h3
   exact ⟨⟨a, m0, m1, w, s⟩, by simp, qs⟩
theorem typed_row {d : Nat} {p : List C} (h : Typed T d 30 p) : ∃ r : Rw, p = rowC r ∧ r.ok ∧ r.cells.length ≤ maxLen := by
 obtain ⟨d', parts, rfl, hk⟩ := typed_struct T_30 h
 match parts, hk with
 | [p0, p1], ⟨h0, h1, _⟩ =>
   obtain ⟨l, rfl, hl, ql⟩ := typed_slice_of T_28 (fun d p h => typed_cel h) h0
   obtain ⟨w, rfl⟩ := typed_bool T_4 h1
   exact ⟨⟨l, w⟩, by simp [rowC, celsC_flatMap], ql, hl⟩
theorem typed_bytes {d : Nat} {p : List C} (h : Typed T d 89 p) : ∃ l : List Int, p = [.sl l.length (ints .u8 l)] ∧ l.length ≤ maxLen ∧ Bytes l := by
 obtain ⟨l, rfl, hl, ql⟩ := typed_slice_of (en := fun n : Int => [C.int .u8 n]) T_89 (fun d p h => typed_u8 h) h
 exact ⟨l, by rw [flatMap_ints], hl, ql⟩
theorem typed_draft {d : Nat} {p : List C} (h : Typed T d 91 p) : ∃ (c : Int) (B : List Int) (w : Bool), p = [.int .u8 c, .sl B.length (ints .u8 B), .bool w] ∧ 0 ≤ c ∧ c < 256 ∧ Bytes B := by
 obtain ⟨d', parts, rfl, hk⟩ := typed_struct T_91 h
 match parts, hk with
 | [p0, p1, p2], ⟨h0, h1, h2, _⟩ =>
   obtain ⟨a, rfl, qa, qb⟩ := typed_u8 h0
   obtain ⟨b, rfl, _, hb⟩ := typed_bytes h1
   obtain ⟨w, rfl⟩ := typed_bool T_4 h2
   exact ⟨a, b, w, rfl, qa, qb, hb⟩
theorem arg_row {A : V} (h : TypedV T 30 A) : ∃ r : Rw, A = rowV r ∧ r.ok := by
 obtain ⟨d, ks, rfl, hk⟩ := arg_agg T_30 rfl h
 obtain ⟨c, rfl, hc, _⟩ := typed_row hk
 exact ⟨c, rfl, hc⟩
theorem arg_u8 {A : V} (h : TypedV T 5 A) : ∃ n : Int, A = .c (.int .u8 n) ∧ 0 ≤ n ∧ n < 256 := by
 obtain ⟨n, rfl, hn⟩ := arg_int T_5 h
 exact ⟨n, rfl, (u8_of hn).1, (u8_of hn).2⟩
theorem typed_u8x2 {d : Nat} {p : List C} (h : Typed T d 23 p) : ∃ a b : Int, p = [.int .u8 a, .int .u8 b] ∧ (0 ≤ a ∧ a < 256) ∧ 0 ≤ b ∧ b < 256 := by
 obtain ⟨d', parts, rfl, hl, hk⟩ := typed_array T_23 h
 match parts, hl with
 | [p0, p1], _ =>
   obtain ⟨a, rfl, h1⟩ := typed_u8 (hk p0 (by simp))
   obtain ⟨b, rfl, h2⟩ := typed_u8 (hk p1 (by simp))
   exact ⟨a, b, rfl, h1, h2⟩
theorem typed_i64x2 {d : Nat} {p : List C} (h : Typed T d 51 p) : ∃ a b : Int, p = [.int .i64 a, .int .i64 b] ∧ I64 a ∧ I64 b := by
 obtain ⟨d', parts, rfl, hl, hk⟩ := typed_array T_51 h
 match parts, hl with
 | [p0, p1], _ =>
   obtain ⟨a, rfl, h1⟩ := typed_i64 (hk p0 (by simp))
   obtain ⟨b, rfl, h2⟩ := typed_i64 (hk p1 (by simp))
   exact ⟨a, b, rfl, h1, h2⟩
theorem arg_u8x2 {A : V} (h : TypedV T 23 A) : ∃ a b : Int, A = .agg [.int .u8 a, .int .u8 b] ∧ (0 ≤ a ∧ a < 256) ∧ 0 ≤ b ∧ b < 256 := by
 obtain ⟨d, ks, rfl, hk⟩ := arg_agg T_23 rfl h
 obtain ⟨a, b, rfl, hc⟩ := typed_u8x2 hk
 exact ⟨a, b, rfl, hc⟩
theorem arg_i64x2 {A : V} (h : TypedV T 51 A) : ∃ a b : Int, A = .agg [.int .i64 a, .int .i64 b] ∧ I64 a ∧ I64 b := by
 obtain ⟨d, ks, rfl, hk⟩ := arg_agg T_51 rfl h
 obtain ⟨a, b, rfl, hc⟩ := typed_i64x2 hk
 exact ⟨a, b, rfl, hc⟩
end Fen
