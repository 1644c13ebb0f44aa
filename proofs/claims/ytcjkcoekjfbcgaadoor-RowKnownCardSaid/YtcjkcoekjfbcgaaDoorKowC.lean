/- A part of the proof; no statement is proved here: RRowK, RRowL, RRowM, RRowN, RRowO, RRowP, RRowQ, RRowR. -/
import Derived.Test.YtcjkcoekjfbcgaaDoorKowB

set_option linter.unusedVariables false
set_option linter.unusedSimpArgs false

namespace Fen
open Go Go.Proofs

/-! ### valid rows, place by place -/
def cat (l : List Cel) (i : Nat) : Cel := l.getD i cel0
theorem cat_eq {l : List Cel} {i : Nat} (h : i < l.length) : cat l i = l[i] := by simp [cat, h]
theorem chain_at : ∀ (l : List Cel) (a : Cel), chainF a l = true → (∀ i, i < l.length → offF (cat (a :: l) i) (cat l i) = false) ∧ (cat (a :: l) l.length).wide ≠ 1
  | [], a, h => ⟨fun i hi => by simp at hi, by simpa [cat, chainF] using h⟩
  | c :: l, a, h => by
    simp only [chainF, Bool.and_eq_true, Bool.not_eq_true'] at h
    obtain ⟨k1, k2⟩ := chain_at l c h.2
    refine ⟨fun i hi => ?_, by simpa [cat] using k2⟩
    cases i with
    | zero => simpa [cat] using h.1
    | succ i => simpa [cat] using k1 i (by simpa using hi)
structure Val (l : List Cel) : Prop where
  up : ∀ i, i < l.length → (cat l i).wide = 1 → i + 1 < l.length ∧ (cat l (i + 1)).wide = 2
  down : ∀ i, i < l.length → (cat l i).wide = 2 → 1 ≤ i ∧ (cat l (i - 1)).wide = 1
  half : ∀ i, i < l.length → (halfF (cat l i) = true ↔ (cat l i).wide = 2)
  ok : ∀ i, i < l.length → cellF (cat l i) = 0
  sty : ∀ i, i < l.length → (cat l i).wide = 2 → (cat l i).st = (cat l (i - 1)).st
theorem row_len {r : Rw} (h : rowF r = 0) : 2 ≤ r.cells.length ∧ r.cells.length ≤ 80 ∧ chainF cel0 r.cells = true := by
  unfold rowF at h
  split at h
  · rename_i q; exact q
  · cases h
theorem chain_val {l : List Cel} (h : chainF cel0 l = true) : Val l := by
  obtain ⟨k1, k2⟩ := chain_at l cel0 h
  have p : ∀ i, 0 < i → cat (cel0 :: l) i = cat l (i - 1) := fun i hi => by
    obtain ⟨j, rfl⟩ : ∃ j, i = j + 1 := ⟨i - 1, by omega⟩
    simp [cat]
  have p0 : cat (cel0 :: l) 0 = cel0 := rfl
  have k3 := fun i hi => (offF_iff _ _).1 (k1 i hi)
  have iff : ∀ i, i < l.length → ((cat (cel0 :: l) i).wide = 1 ↔ (cat l i).wide = 2) := fun i hi => by
    have := (k3 i hi).2.1
    rw [Bool.eq_iff_iff] at this
    simpa using this
  refine ⟨fun i hi hw => ?_, fun i hi hw => ?_, fun i hi => ⟨fun q => ((halfF_iff _).1 q).2.2.2, fun hw => ?_⟩, fun i hi => (k3 i hi).1, fun i hi hw => ?_⟩
  · rcases Nat.lt_or_ge (i + 1) l.length with q | q
    · refine ⟨q, (iff (i + 1) q).1 ?_⟩
      rw [p _ (by omega)]; exact hw
    · refine absurd ?_ k2
      rw [show l.length = i + 1 by omega, p _ (by omega)]; simpa using hw
  · have q := (iff i hi).2 hw
    rcases Nat.eq_zero_or_pos i with h0 | h0
    · subst h0; rw [p0] at q; cases q
    · rw [p i h0] at q; exact ⟨h0, q⟩
  · have hc := (k3 i hi).1
    unfold cellF at hc
    split at hc
    · cases hc
    · split at hc
      · rename_i q
        rcases q with q | ⟨_, ⟨q, _⟩ | ⟨q, _⟩⟩
        · exact q
        · omega
        · omega
      · cases hc
  · have q := (iff i hi).2 hw
    rcases Nat.eq_zero_or_pos i with h0 | h0
    · subst h0; exact absurd q (by rw [p0]; decide)
    · have := (k3 i hi).2.2 q
      rw [p i h0] at this; exact this

/-! ### Erase -/
def nilR : Rw := ⟨[], false⟩
theorem nilR_C : rowC nilR = [.sl 0 [], .bool false] := rfl
def loF (l : List Cel) (a : Nat) : Nat := if halfF (cat l a) = true then a - 1 else a
def hiF (l : List Cel) (b : Nat) : Nat := if b < l.length ∧ halfF (cat l b) = true then b + 1 else b
def eraseRowF (r : Rw) (from_ to : Int) (s : Sty) : Rw × Int :=
  if rowF r ≠ 0 then (nilR, rowF r) else if from_ < 0 ∨ to < from_ ∨ (r.cells.length : Int) < to then (nilR, 2) else if styF s ≠ 0 then (nilR, styF s) else if from_ = to then (r, 0)
  else (⟨eraseF r.cells (loF r.cells from_.toNat) (hiF r.cells to.toNat) s, r.wrapped && decide (hiF r.cells to.toNat < r.cells.length)⟩, 0)
theorem lo_hi {l : List Cel} (h : Val l) {a b : Nat} (hab : a < b) (hb : b ≤ l.length) : loF l a ≤ a ∧ b ≤ hiF l b ∧ hiF l b ≤ l.length ∧ (halfF (cat l a) = true → 1 ≤ a) := by
  unfold loF hiF
  refine ⟨by split <;> omega, by split <;> omega, by split <;> omega, fun q => (h.down a (by omega) ((h.half a (by omega)).1 q)).1⟩
/-- which cells go -/
theorem erase_cond {l : List Cel} (h : Val l) {a b i : Nat} (hab : a < b) (hb : b ≤ l.length) (hi : i < l.length) :
    ((a ≤ i ∧ i < b) ∨ ((cat l i).wide = 1 ∧ a ≤ i + 1 ∧ i + 1 < b) ∨ ((cat l i).wide = 2 ∧ a + 1 ≤ i ∧ i < b + 1)) ↔ (loF l a ≤ i ∧ i < hiF l b) := by
  have ha : a < l.length := by omega
  have g := h.half a ha
  constructor
  · rintro (⟨q1, q2⟩ | ⟨q0, q1, q2⟩ | ⟨q0, q1, q2⟩)
    · obtain ⟨k1, k2, _⟩ := lo_hi h hab hb; omega
    · rcases Nat.lt_or_ge i a with c | c
      · obtain rfl : a = i + 1 := by omega
        have := (h.up i hi q0).2
        have hl : loF l (i + 1) = i := by unfold loF; rw [if_pos (g.2 this)]; omega
        obtain ⟨k1, k2, _⟩ := lo_hi h hab hb; omega
      · obtain ⟨k1, k2, _⟩ := lo_hi h hab hb; omega
    · rcases Nat.lt_or_ge i b with c | c
      · obtain ⟨k1, k2, _⟩ := lo_hi h hab hb; omega
      · obtain rfl : i = b := by omega
        have hh : hiF l i = i + 1 := by unfold hiF; rw [if_pos ⟨hi, (h.half i hi).2 q0⟩]
        obtain ⟨k1, k2, _⟩ := lo_hi h hab hb; omega
  · rintro ⟨q1, q2⟩
    rcases Nat.lt_or_ge i a with c | c
    · have hhalf : halfF (cat l a) = true := by
        cases q : halfF (cat l a) with
        | true => rfl
        | false => unfold loF at q1; rw [q] at q1; simp at q1; omega
      have hl : loF l a = a - 1 := by unfold loF; rw [if_pos hhalf]
      obtain ⟨d1, d2⟩ := h.down a ha (g.1 hhalf)
      have : i = a - 1 := by omega
      subst this
      exact .inr (.inl ⟨d2, by omega, by omega⟩)
    · rcases Nat.lt_or_ge i b with c2 | c2
      · exact .inl ⟨c, c2⟩
      · have hc : b < l.length ∧ halfF (cat l b) = true := by
          unfold hiF at q2
          split at q2
          · assumption
          · omega
        have hh : hiF l b = b + 1 := by unfold hiF; rw [if_pos hc]
        obtain rfl : i = b := by omega
        exact .inr (.inr ⟨(h.half i hi).1 hc.2, by omega, by omega⟩)
end Fen

namespace Fen
open Go Go.Proofs

@[simp] theorem row_set1' (r : Rw) (b : Bool) : List.take 1 (List.map X.val (rowC r)) ++ [X.val (.bool b)] = List.map X.val (rowC { r with wrapped := b }) := rfl
@[simp] theorem row_set1 (r : Rw) (b : Bool) : List.take 1 (List.map X.val (rowC r)) ++ X.val (.bool b) :: List.drop 2 (List.map X.val (rowC r)) = List.map X.val (rowC { r with wrapped := b }) := rfl

def eraseSpec : Spec := { pre := fun args => ∃ (r : Rw) (a b : Int) (s : Sty), args = [rowV r, .c (.int .i64 a), .c (.int .i64 b), styV s] ∧ r.ok ∧ s.ok, res := fun args => match args with
  | [.agg r, .c (.int _ a), .c (.int _ b), .agg s] => .many [.val (rowV (eraseRowF (rowOf r) a b (stOf s)).1), .val (.c (.int .i64 (eraseRowF (rowOf r) a b (stOf s)).2))]
  | _ => .many [] }
def G_erase : Specs := [(29, rowckSpec), (58, stySpec), (49, halfSpec), (50, chErSpec)]
@[simp] theorem G_erase_live : Specs.live G_erase = false := rfl
@[simp] theorem G_erase_nils : Specs.nils G_erase = false := rfl
@[simp] theorem G_erase_froz : Specs.froz G_erase = false := rfl
@[simp] theorem G_erase_29 : G_erase.find 29 = some rowckSpec := rfl
@[simp] theorem G_erase_58 : G_erase.find 58 = some stySpec := rfl
@[simp] theorem G_erase_49 : G_erase.find 49 = some halfSpec := rfl
@[simp] theorem G_erase_50 : G_erase.find 50 = some chErSpec := rfl
theorem G_erase_ok : SpecsOK Tryd.prog glW G_erase := .cons rowck_sound (.cons (sty_sound glW) (.cons (half_sound glW) (.cons (chEr_sound glW) (.nil _ _))))
set_option maxHeartbeats 2000000 in
set_option maxRecDepth 10000 in
theorem erase_sound : Sound Tryd.prog glW 23 eraseSpec := by
  refine sound_fn (N := Tryd.f23.ntmps) (rs := Tryd.f23.results.toList) mixed tok G_erase_ok Tryd.func23 rfl rfl rfl rfl rfl ?_ ?_ ?_
  · rintro args ⟨r,x,y,s,rfl,hr,hs⟩; simp [rowV,styV,rowOf_C,stOf_C, Tryd.f23]
  · rintro args ⟨r,x,y,s,rfl,hr,hs⟩; simp [rowV,styV,rowOf_C,stOf_C, eraseSpec, Tryd.f23]
  · rintro args ⟨r,x,y,s,rfl,hr,hs⟩ bs hgl hh hro
    have hE : Env.OK ⟨Tryd.prog, T, G_erase, bs⟩ := ⟨tok, by rw [hgl]; exact G_erase_ok⟩
    simp only [eraseSpec, rowV,styV,rowOf_C,stOf_C]
    unfold eraseRowF
    rcases Decidable.em (rowF r = 0) with h1 | h1
    rotate_left
    · simp [and_assoc, eraseSpec, chErSpec, halfSpec, rowckSpec, stySpec, Tryd.f23, hr, h1, nilR_C]
    by_cases h2 : x < 0
    · simp [and_assoc, eraseSpec, chErSpec, halfSpec, rowckSpec, stySpec, Tryd.f23, hr, h1, h2, nilR_C]
    by_cases h3 : y < x
    · simp [and_assoc, eraseSpec, chErSpec, halfSpec, rowckSpec, stySpec, Tryd.f23, hr, h1, h2, h3, nilR_C]
    by_cases h4 : (r.cells.length : Int) < y
    · simp [and_assoc, eraseSpec, chErSpec, halfSpec, rowckSpec, stySpec, Tryd.f23, hr, h1, h2, h3, h4, nilR_C]
    rcases Decidable.em (styF s = 0) with h5 | h5
    rotate_left
    · simp [and_assoc, eraseSpec, chErSpec, halfSpec, rowckSpec, stySpec, Tryd.f23, hr, hs, h1, h2, h3, h4, h5, nilR_C]
    by_cases h6 : x = y
    · subst h6
      simp [and_assoc, eraseSpec, chErSpec, halfSpec, rowckSpec, stySpec, Tryd.f23, hr, hs, h1, h2, h4, h5, nilR_C]
    obtain ⟨a, rfl⟩ : ∃ a : Nat, x = a := ⟨x.toNat, by omega⟩
    obtain ⟨b, rfl⟩ : ∃ b : Nat, y = b := ⟨y.toNat, by omega⟩
    obtain ⟨_, l80, hch⟩ := row_len h1
    have hv := chain_val hch
    have hab : a < b := by omega
    have hbl : b ≤ r.cells.length := by omega
    obtain ⟨k1, k2, k3, k4⟩ := lo_hi hv hab hbl
    have ha : a < r.cells.length := by omega
    have hd := celsC_at ha
    rw [← cat_eq ha] at hd
    have wa : halfF (cat r.cells a) = true → IntKind.i64.wrap ((a : Int) - 1) = ((a - 1 : Nat) : Int) := fun q => by have := k4 q; rw [wrap64 _ (by omega) (by omega)]; omega
    have wb : IntKind.i64.wrap ((b : Int) + 1) = ((b + 1 : Nat) : Int) := wrap64 _ (by omega) (by omega)
    have nab : ¬ (a : Int) = b := by omega
    have nab' : ¬ a = b := by omega
    rcases Nat.lt_or_ge b r.cells.length with hb | hb
    · have hdb := celsC_at hb
      rw [← cat_eq hb] at hdb
      have hb' : (b : Int) < r.cells.length := by omega
      cases qa : halfF (cat r.cells a) <;> cases qb : halfF (cat r.cells b)
      · have e1 : loF r.cells a = a := by unfold loF; rw [qa]; rfl
        have e2 : hiF r.cells b = b := by unfold hiF; rw [qb]; simp
        simp [and_assoc, eraseSpec, chErSpec, halfSpec, rowckSpec, stySpec, Tryd.f23, hr, hs, h1, h2, h3, h4, h5, nab, nab', hd, hdb, ha, hb, hb', qa, qb, e1, e2, styV, celV]
        exact ⟨a, rfl, b, rfl, by omega, by omega, by omega⟩
      · have e1 : loF r.cells a = a := by unfold loF; rw [qa]; rfl
        have e2 : hiF r.cells b = b + 1 := by unfold hiF; rw [if_pos ⟨hb, qb⟩]
        simp [and_assoc, eraseSpec, chErSpec, halfSpec, rowckSpec, stySpec, Tryd.f23, hr, hs, h1, h2, h3, h4, h5, nab, nab', hd, hdb, ha, hb, hb', qa, qb, e1, e2, wb, styV, celV]
        exact ⟨⟨a, rfl, b + 1, by simp, by omega, by omega, by omega⟩, by congr 1; rw [decide_eq_decide]; omega⟩
      · have e1 : loF r.cells a = a - 1 := by unfold loF; rw [if_pos qa]
        have e2 : hiF r.cells b = b := by unfold hiF; rw [qb]; simp
        simp [and_assoc, eraseSpec, chErSpec, halfSpec, rowckSpec, stySpec, Tryd.f23, hr, hs, h1, h2, h3, h4, h5, nab, nab', hd, hdb, ha, hb, hb', qa, qb, e1, e2, wa qa, styV, celV]
        exact ⟨a - 1, rfl, b, rfl, by omega, by omega, by omega⟩
      · have e1 : loF r.cells a = a - 1 := by unfold loF; rw [if_pos qa]
        have e2 : hiF r.cells b = b + 1 := by unfold hiF; rw [if_pos ⟨hb, qb⟩]
        simp [and_assoc, eraseSpec, chErSpec, halfSpec, rowckSpec, stySpec, Tryd.f23, hr, hs, h1, h2, h3, h4, h5, nab, nab', hd, hdb, ha, hb, hb', qa, qb, e1, e2, wa qa, wb, styV, celV]
        exact ⟨⟨a - 1, rfl, b + 1, by simp, by omega, by omega, by omega⟩, by congr 1; rw [decide_eq_decide]; omega⟩
    · have hb' : ¬ (b : Int) < r.cells.length := by omega
      have hbe : b = r.cells.length := by omega
      have e2 : hiF r.cells b = b := by unfold hiF; rw [if_neg (by omega)]
      cases qa : halfF (cat r.cells a)
      · have e1 : loF r.cells a = a := by unfold loF; rw [qa]; rfl
        simp [and_assoc, eraseSpec, chErSpec, halfSpec, rowckSpec, stySpec, Tryd.f23, hr, hs, h1, h2, h3, h4, h5, nab, nab', hd, ha, hb', qa, e1, e2, styV, celV]
        exact ⟨⟨a, rfl, b, rfl, by omega, by omega, by omega⟩, fun _ => by omega⟩
      · have e1 : loF r.cells a = a - 1 := by unfold loF; rw [if_pos qa]
        simp [and_assoc, eraseSpec, chErSpec, halfSpec, rowckSpec, stySpec, Tryd.f23, hr, hs, h1, h2, h3, h4, h5, nab, nab', hd, ha, hb', qa, e1, e2, wa qa, styV, celV]
        exact ⟨⟨a - 1, rfl, b, rfl, by omega, by omega, by omega⟩, fun _ => by omega⟩
end Fen

namespace Fen
open Go Go.Proofs

/-- is the cell at a place made blank -/
def goneB (l : List Cel) (a b i : Nat) : Bool := decide (loF l a ≤ i) && decide (i < hiF l b)
theorem erase_at {l : List Cel} {a b i : Nat} (s : Sty) (ha : a ≤ b) (hb : b ≤ l.length) (hi : i < l.length) : (eraseF l a b s)[i]? = some (if a ≤ i ∧ i < b then blankF s else cat l i) := by
  unfold eraseF
  rcases Nat.lt_or_ge i a with h | h
  · rw [if_neg (by omega), List.append_assoc, List.getElem?_append_left (by simp; omega), List.getElem?_take_of_lt h, List.getElem?_eq_getElem hi, cat_eq hi]
  · rcases Nat.lt_or_ge i b with h2 | h2
    · rw [if_pos ⟨h, h2⟩, List.append_assoc, List.getElem?_append_right (by simp; omega), List.getElem?_append_left (by simp; omega), List.getElem?_replicate, if_pos (by simp; omega)]
    · rw [if_neg (by omega), List.getElem?_append_right (by simp; omega), List.getElem?_drop, cat_eq hi, ← List.getElem?_eq_getElem hi]
      congr 1; simp; omega
theorem erase_next {l : List Cel} {a b i : Nat} (s : Sty) (ha : a ≤ b) (hb : b ≤ l.length) (hi : i < l.length) : (eraseF l a b s).take (i + 1) = (eraseF l a b s).take i ++ [if a ≤ i ∧ i < b then blankF s else cat l i] := by
  rw [List.take_add_one, erase_at s ha hb hi]; rfl

theorem celsC_get {l : List Cel} {i : Nat} (h : i < l.length) (j : Nat) (hj : j < 12) : (celsC l)[i * 12 + j]? = (celC (cat l i))[j]? := by
  rw [← List.getElem?_drop, celsC_at h, List.getElem?_append_left (by simpa using hj), cat_eq h]
@[simp] theorem maprow_tail (r : Rw) : (List.map X.val (rowC r)).tail = [.val (.bool r.wrapped)] := rfl
/-- the first rounds: is the last cell made blank -/
def re1S (r : Rw) (s : Sty) (a b : Int) (x : Nat × Bool) : St :=
  ⟨195, [(1, .val (.int .i64 a)), (2, .val (.int .i64 b)), (7, .ptr 0 0 0), (8, .ptr 1 0 0), (11, .ref 2 0), (12, .ptr 3 0 0), (13, .val (.int .i64 x.1))],
    [.box 32 ((styC s).map .val), .box 27 [.nil, .val (.bool false)], .sl 34 0 false 12 r.cells.length (celsC r.cells), .box 27 ((rowC ⟨r.cells, x.2⟩).map .val)]⟩
def re2S (r : Rw) (s : Sty) (a b : Int) (w : Bool) (L : List Cel) (i : Nat) : St :=
  ⟨195, [(1, .val (.int .i64 a)), (2, .val (.int .i64 b)), (7, .ptr 0 0 0), (8, .ptr 1 0 0), (11, .ref 2 0), (12, .ptr 3 0 0), (17, .val (.int .i64 i))],
    [.box 32 ((styC s).map .val), .box 27 [.nil, .val (.bool false)], .sl 34 0 false 12 r.cells.length (celsC r.cells), .box 27 [if i = 0 then .nil else .ref 4 0, .val (.bool w)]] ++ if i = 0 then [] else [.sl 34 0 true 12 i (celsC (L.take i))]⟩
def G_rerase : Specs := [(36, rowckSpec), (60, stySpec), (42, blankSpec)]
@[simp] theorem G_rerase_live : Specs.live G_rerase = false := rfl
@[simp] theorem G_rerase_nils : Specs.nils G_rerase = false := rfl
@[simp] theorem G_rerase_froz : Specs.froz G_rerase = false := rfl
@[simp] theorem G_rerase_36 : G_rerase.find 36 = some rowckSpec := rfl
@[simp] theorem G_rerase_60 : G_rerase.find 60 = some stySpec := rfl
@[simp] theorem G_rerase_42 : G_rerase.find 42 = some blankSpec := rfl
theorem G_rerase_ok (gl : Gl) : SpecsOK Tryd.prog gl G_rerase := .cons (rrowck_sound gl) (.cons (rsty_sound gl) (.cons (blank_sound gl) (.nil _ _)))
set_option maxHeartbeats 2000000 in
set_option maxRecDepth 10000 in
theorem rerase_sound (gl : Gl) : Sound Tryd.prog gl 24 eraseSpec := by
  refine sound_fn (N := Tryd.f24.ntmps) (rs := Tryd.f24.results.toList) mixed tok (G_rerase_ok gl) Tryd.func24 rfl rfl rfl rfl rfl ?_ ?_ ?_
  · rintro args ⟨r,x,y,s,rfl,hr,hs⟩; simp [rowV,styV,rowOf_C,stOf_C, Tryd.f24]
  · rintro args ⟨r,x,y,s,rfl,hr,hs⟩; simp [rowV,styV,rowOf_C,stOf_C, eraseSpec, Tryd.f24]
  · rintro args ⟨r,x,y,s,rfl,hr,hs⟩ bs hgl hh hro
    have hE : Env.OK ⟨Tryd.prog, T, G_rerase, bs⟩ := ⟨tok, by rw [hgl]; exact G_rerase_ok gl⟩
    simp only [eraseSpec, rowV,styV,rowOf_C,stOf_C]
    unfold eraseRowF
    rcases Decidable.em (rowF r = 0) with h1 | h1
    rotate_left
    · simp [and_assoc, eraseSpec, blankSpec, rowckSpec, stySpec, Tryd.f24, hr, h1, nilR_C]
    by_cases h2 : x < 0
    · simp [and_assoc, eraseSpec, blankSpec, rowckSpec, stySpec, Tryd.f24, hr, h1, h2, nilR_C]
    by_cases h3 : y < x
    · simp [and_assoc, eraseSpec, blankSpec, rowckSpec, stySpec, Tryd.f24, hr, h1, h2, h3, nilR_C]
    by_cases h4 : (r.cells.length : Int) < y
    · simp [and_assoc, eraseSpec, blankSpec, rowckSpec, stySpec, Tryd.f24, hr, h1, h2, h3, h4, nilR_C]
    rcases Decidable.em (styF s = 0) with h5 | h5
    rotate_left
    · simp [and_assoc, eraseSpec, blankSpec, rowckSpec, stySpec, Tryd.f24, hr, hs, h1, h2, h3, h4, h5, nilR_C]
    by_cases h6 : x = y
    · subst h6
      simp [and_assoc, eraseSpec, blankSpec, rowckSpec, stySpec, Tryd.f24, hr, hs, h1, h2, h4, h5, nilR_C]
    obtain ⟨a, rfl⟩ : ∃ a : Nat, x = a := ⟨x.toNat, by omega⟩
    obtain ⟨b, rfl⟩ : ∃ b : Nat, y = b := ⟨y.toNat, by omega⟩
    obtain ⟨l2, l80, hch⟩ := row_len h1
    have hv := chain_val hch
    have hab : a < b := by omega
    have hbl : b ≤ r.cells.length := by omega
    have nab : ¬ (a : Int) = b := by omega
    have nab' : ¬ a = b := by omega
    have lim : r.cells.length * 96 ≤ 140737488355328 := by omega
    have lim2 : r.cells.length ≤ 9223372036854775807 := by omega
    simp [and_assoc, eraseSpec, blankSpec, rowckSpec, stySpec, Tryd.f24, hr, hs, h1, h2, h3, h4, h5, nab, nab', lim, lim2, styV, celV]
    obtain ⟨k1, k2, k3, _⟩ := lo_hi hv hab hbl
    refine AWP.rounds (fun x => x.1 ≤ r.cells.length ∧ x.2 = if x.1 = r.cells.length ∧ hiF r.cells b = r.cells.length then false else r.wrapped) (re1S r s a b) (fun x => r.cells.length - x.1) (0, r.wrapped) ⟨by simp, by simp only; rw [if_neg (by omega)]⟩ ?_ ?_
    · refine Weak.ren [some 1, some 2, some 3, some 4] (baseOK.nil hh) (by simp) ?_ ?_
      · simp
      · simp
    · rintro ⟨i, w⟩ ⟨hi, hw⟩
      simp only at hi hw
      refine wpc_ok hE mixed _ _ _ ?_
      rcases Nat.lt_or_ge i r.cells.length with h | h
      · have w1 : IntKind.i64.wrap ((i : Int) + 1) = i + 1 := wrap64 _ (by omega) (by omega)
        have w2 : IntKind.i64.wrap ((i : Int) - 1) = i - 1 := wrap64 _ (by omega) (by omega)
        have w3 : IntKind.i64.wrap ((r.cells.length : Int) - 1) = r.cells.length - 1 := wrap64 _ (by omega) (by omega)
        have hd := celsC_at h
        rw [← cat_eq h] at hd
        have hcnd := erase_cond hv hab hbl h
        have h3 : (celsC r.cells)[i * 12 + 3]? = some (.int .i64 (cat r.cells i).wide) := celsC_get h 3 (by decide)
        have hp : 0 < r.cells.length * 12 - (i * 12 + 3) := by omega
        simp [re1S, hd, h, h3, hp, w1, w2, w3]
        refine ⟨by omega, by omega, fun q => ?_, fun q1 q2 q3 => ?_⟩
        · have hc := hcnd.1 (by omega)
          refine ⟨fun qe => ?_, fun qe => ?_⟩
          · refine Next.mk (i + 1, false) ⟨h, ?_⟩ (by simp only; omega) (Weak.keep ?_)
            · have g1 : i + 1 = r.cells.length := by omega
              have g2 : hiF r.cells b = r.cells.length := by omega
              simp [g1, g2]
            · simp [re1S]
          · refine Next.mk (i + 1, w) ⟨h, ?_⟩ (by simp only; omega) (Weak.keep ?_)
            · have g1 : ¬ i + 1 = r.cells.length := by omega
              rw [hw, if_neg (by omega)]
              simp [g1]
            · simp [re1S]
        · have hc : ¬ (loF r.cells a ≤ i ∧ i < hiF r.cells b) := fun k => by have := hcnd.2 k; omega
          refine Next.mk (i + 1, w) ⟨h, ?_⟩ (by simp only; omega) (Weak.keep ?_)
          · have g1 : ¬ (i + 1 = r.cells.length ∧ hiF r.cells b = r.cells.length) := by omega
            rw [hw, if_neg (by omega)]
            by_cases g2 : i + 1 = r.cells.length
            · have g3 : ¬ hiF r.cells b = r.cells.length := fun k => g1 ⟨g2, k⟩
              simp [g2, g3]
            · simp [g2]
          · simp [re1S]
      · obtain rfl : i = r.cells.length := by omega
        have hwF : w = (r.wrapped && decide (hiF r.cells b < r.cells.length)) := by
          rw [hw]
          by_cases q : hiF r.cells b = r.cells.length
          · rw [if_pos ⟨rfl, q⟩]; simp [q]
          · rw [if_neg (fun k => q k.2)]
            have : hiF r.cells b < r.cells.length := by omega
            simp [this]
        rw [← hwF]
        obtain ⟨L, hL⟩ : ∃ L, eraseF r.cells (loF r.cells a) (hiF r.cells b) s = L := ⟨_, rfl⟩
        have hLl : L.length = r.cells.length := by rw [← hL]; exact erase_len s (by omega) k3
        have hnx : ∀ i, i < r.cells.length → L.take (i + 1) = L.take i ++ [if loF r.cells a ≤ i ∧ i < hiF r.cells b then blankF s else cat r.cells i] := fun i q => by rw [← hL]; exact erase_next s (by omega) k3 q
        rw [hL]
        simp [re1S]
        refine AWP.rounds (fun i => i ≤ r.cells.length) (re2S r s a b w L) (fun i => r.cells.length - i) 0 (by simp) ?_ ?_
        · refine Weak.keep ?_
          simp [re2S]
        · intro i hi
          refine wpc_ok hE mixed _ _ _ ?_
          rcases Nat.lt_or_ge i r.cells.length with h | h
          · have w1 : IntKind.i64.wrap ((i : Int) + 1) = i + 1 := wrap64 _ (by omega) (by omega)
            have w2 : IntKind.i64.wrap ((i : Int) - 1) = i - 1 := wrap64 _ (by omega) (by omega)
            have hd := celsC_at h
            rw [← cat_eq h] at hd
            have hcnd := erase_cond hv hab hbl h
            have h3 : (celsC r.cells)[i * 12 + 3]? = some (.int .i64 (cat r.cells i).wide) := celsC_get h 3 (by decide)
            have hp : 0 < r.cells.length * 12 - (i * 12 + 3) := by omega
            have hn := hnx i h
            rcases Nat.eq_zero_or_pos i with h0 | h0
            · subst h0
              simp at hd h3 hp hcnd hn
              simp [re2S, and_assoc, blankSpec, rowckSpec, stySpec, styV, celV, hd, h, h3, hp, w1, w2]
              refine ⟨by omega, by omega, fun q => ⟨rfl, ?_⟩, fun q1 q2 q3 => ⟨rfl, ?_⟩⟩
              · have hc := hcnd.1 (by omega)
                rw [if_pos hc] at hn
                refine Next.mk 1 h (by omega) (Weak.ren [some 0, some 1, some 2, some 3, some 4] (baseOK.nil hh) (by simp) ?_ ?_)
                · simp [re2S, hn, hd, celsC_one]
                · simp [re2S]
              · have hc : ¬ (loF r.cells a = 0 ∧ 0 < hiF r.cells b) := fun k => by have := hcnd.2 k; omega
                rw [if_neg hc] at hn
                refine Next.mk 1 h (by omega) (Weak.ren [some 0, some 1, some 2, some 3, some 4] (baseOK.nil hh) (by simp) ?_ ?_)
                · simp [re2S, hn, hd, celsC_one]
                · simp [re2S]
            · have h0' : ¬ i = 0 := by omega
              have tl : (L.take i).length = i := by simp; omega
              simp [re2S, and_assoc, blankSpec, rowckSpec, stySpec, styV, celV, hd, h, h3, hp, w1, w2, h0']
              refine ⟨by omega, by omega, fun q => ⟨by omega, by omega, rfl, ?_⟩, fun q1 q2 q3 => ⟨by omega, by omega, rfl, ?_⟩⟩
              · have hc := hcnd.1 (by omega)
                rw [if_pos hc] at hn
                refine Next.mk (i + 1) h (by omega) (Weak.ren [some 0, some 1, some 2, some 3, some 4] (baseOK.nil hh) (by simp) ?_ ?_)
                · simp [re2S, hn, ← celsC_snoc]
                · simp [re2S]
              · have hc : ¬ (loF r.cells a ≤ i ∧ i < hiF r.cells b) := fun k => by have := hcnd.2 k; omega
                rw [if_neg hc] at hn
                refine Next.mk (i + 1) h (by omega) (Weak.ren [some 0, some 1, some 2, some 3, some 4] (baseOK.nil hh) (by simp) ?_ ?_)
                · simp [re2S, hn, ← celsC_snoc]
                · simp [re2S]
          · obtain rfl : i = r.cells.length := by omega
            have h0' : ¬ r.cells = [] := fun e => by rw [e] at l2; simp at l2
            have hLt : L.take r.cells.length = L := List.take_of_length_le (by omega)
            simp [re2S, h0', hLt, rowC, hLl]
            done
end Fen

namespace Fen
open Go Go.Proofs

/-! ### parting -/
def remF (c : Cel) : Cel := blankF ⟨0, 0, 0, 0, c.st.bk, c.st.bn, 0, 0⟩
def partF (l : List Cel) (at_ : Int) : List Cel :=
  if 0 < at_ ∧ at_ < l.length ∧ halfF (cat l at_.toNat) = true then (l.set (at_.toNat - 1) (remF (cat l (at_.toNat - 1)))).set at_.toNat (remF (cat l at_.toNat)) else l
@[simp] theorem part_len (l : List Cel) (x : Int) : (partF l x).length = l.length := by unfold partF; split <;> simp

@[simp] theorem backC (c : Cel) : List.take 4 (styC sty0) ++ (List.take 2 (List.drop 8 (celC c)) ++ [C.int .i64 sty0.lk, C.int .i64 sty0.ln]) = styC ⟨0, 0, 0, 0, c.st.bk, c.st.bn, 0, 0⟩ := rfl
def remSpec : Spec := { pre := fun args => ∃ c : Cel, args = [celV c], res := fun args => match args with
  | [.agg c] => .one (.val (celV (remF (celOf c))))
  | _ => .many [] }
def G_remains : Specs := [(42, blankSpec)]
@[simp] theorem G_remains_live : Specs.live G_remains = false := rfl
@[simp] theorem G_remains_nils : Specs.nils G_remains = false := rfl
@[simp] theorem G_remains_froz : Specs.froz G_remains = false := rfl
@[simp] theorem G_remains_42 : G_remains.find 42 = some blankSpec := rfl
theorem G_remains_ok (gl : Gl) : SpecsOK Tryd.prog gl G_remains := .cons (blank_sound gl) (.nil _ _)
set_option maxRecDepth 10000 in
theorem remains_sound (gl : Gl) : Sound Tryd.prog gl 72 remSpec := by
  refine sound_fn (N := Tryd.f72.ntmps) (rs := Tryd.f72.results.toList) mixed tok (G_remains_ok gl) Tryd.func72 rfl rfl rfl rfl rfl ?_ ?_ ?_
  · rintro args ⟨c,rfl⟩; simp [celV,celOf_C, Tryd.f72]
  · rintro args ⟨c,rfl⟩; simp [celV,celOf_C, remSpec, Tryd.f72]
  · rintro args ⟨c,rfl⟩ bs hgl hh hro
    have hE : Env.OK ⟨Tryd.prog, T, G_remains, bs⟩ := ⟨tok, by rw [hgl]; exact G_remains_ok gl⟩
    simp only [remSpec, celV,celOf_C]
    have e : remF c = blankF ⟨0, 0, 0, 0, c.st.bk, c.st.bn, 0, 0⟩ := rfl
    simp [and_assoc, remSpec, blankSpec, Tryd.f72, e, celV, styV]

def partedSpec : Spec := { pre := fun args => ∃ (l : List Cel) (x : Int), args = [celsV l, .c (.int .i64 x)] ∧ l.length ≤ 1000, res := fun args => match args with
  | [.c (.sl _ l), .c (.int _ x)] => .one (.own 34 true 12 (celsOf l).length (celsC (partF (celsOf l) x)))
  | _ => .many [] }
def G_parted : Specs := [(53, halfSpec), (72, remSpec)]
@[simp] theorem G_parted_live : Specs.live G_parted = false := rfl
@[simp] theorem G_parted_nils : Specs.nils G_parted = false := rfl
@[simp] theorem G_parted_froz : Specs.froz G_parted = false := rfl
@[simp] theorem G_parted_53 : G_parted.find 53 = some halfSpec := rfl
@[simp] theorem G_parted_72 : G_parted.find 72 = some remSpec := rfl
theorem G_parted_ok (gl : Gl) : SpecsOK Tryd.prog gl G_parted := .cons (second_sound gl) (.cons (remains_sound gl) (.nil _ _))
set_option maxHeartbeats 1000000 in
set_option maxRecDepth 10000 in
theorem parted_sound (gl : Gl) : Sound Tryd.prog gl 54 partedSpec := by
  refine sound_fn (N := Tryd.f54.ntmps) (rs := Tryd.f54.results.toList) mixed tok (G_parted_ok gl) Tryd.func54 rfl rfl rfl rfl rfl ?_ ?_ ?_
  · rintro args ⟨l,x,rfl,h⟩; simp [celsV,celsOf_C, Tryd.f54]
  · rintro args ⟨l,x,rfl,h⟩; simp [celsV,celsOf_C, partedSpec, Tryd.f54]
  · rintro args ⟨l,x,rfl,h⟩ bs hgl hh hro
    have hE : Env.OK ⟨Tryd.prog, T, G_parted, bs⟩ := ⟨tok, by rw [hgl]; exact G_parted_ok gl⟩
    simp only [partedSpec, celsV,celsOf_C]
    by_cases h1 : 0 < x
    · by_cases h2 : x < l.length
      · obtain ⟨k, rfl⟩ : ∃ k : Nat, x = k := ⟨x.toNat, by omega⟩
        have hk : k < l.length := by omega
        have hk0 : 0 < k := by omega
        have hd := celsC_at hk
        rw [← cat_eq hk] at hd
        have hd1 := celsC_at (k := k - 1) (l := l) (by omega)
        rw [← cat_eq (by omega)] at hd1
        have w1 : IntKind.i64.wrap ((k : Int) - 1) = ((k - 1 : Nat) : Int) := by rw [wrap64 _ (by omega) (by omega)]; omega
        cases hf : halfF (cat l k)
        · have e : partF l k = l := by unfold partF; rw [if_neg (by simp [hf])]
          simp [and_assoc, partedSpec, halfSpec, remSpec, Tryd.f54, hk, hk0, hd, hf, e, w1, celV]
          omega
        · have e : partF l k = (l.set (k - 1) (remF (cat l (k - 1)))).set k (remF (cat l k)) := by unfold partF; rw [if_pos ⟨by omega, by omega, hf⟩]; rfl
          simp [and_assoc, partedSpec, halfSpec, remSpec, Tryd.f54, hk, hk0, hd, hd1, hf, e, w1, celV]
          refine ⟨by omega, by omega, by omega, by omega, by omega, rfl, ?_⟩
          rw [celsC_set (by omega), celsC_set (by simpa using hk)]
      · have e : partF l x = l := by unfold partF; rw [if_neg (by omega)]
        simp [and_assoc, partedSpec, halfSpec, remSpec, Tryd.f54, h1, h2, e]
        omega
    · have e : partF l x = l := by unfold partF; rw [if_neg (by omega)]
      simp [and_assoc, partedSpec, halfSpec, remSpec, Tryd.f54, h1, e]
      omega

theorem backC2 (a b : Int) : List.take 4 (styC sty0) ++ [C.int .i64 a, C.int .i64 b, C.int .i64 sty0.lk, C.int .i64 sty0.ln] = styC ⟨0, 0, 0, 0, a, b, 0, 0⟩ := rfl
theorem cels_back {l : List Cel} {k : Nat} (h : k < l.length) : List.take 2 (List.drop (k * 12 + 4 + 4) (celsC l)) = [C.int .i64 (cat l k).st.bk, C.int .i64 (cat l k).st.bn] := by
  rw [show k * 12 + 4 + 4 = k * 12 + 8 by omega, ← List.drop_drop, celsC_at h, cat_eq h]; rfl
theorem cat_set_ne {l : List Cel} {i j : Nat} (c : Cel) (h : i ≠ j) : cat (l.set i c) j = cat l j := by
  unfold cat
  rw [List.getD_eq_getElem?_getD, List.getD_eq_getElem?_getD, List.getElem?_set_ne h]
def partHS : HS := { wr := true, eff := fun xs h => match xs with
  | [.ref id v, .ex sz n [.int q1 x, .int q2 y]] =>
    ((∃ l : List Cel, h[id]? = some (.sl 34 v true 12 l.length (celsC l)) ∧ sz = 1 ∧ n = 2 ∧ q1 = .i64 ∧ q2 = .i64 ∧ l.length ≤ 1000), .tup [],
      match h[id]? with | some (.sl ty v' p sz n cs) => h.set id (.sl ty v' p sz n (celsC (partF (partF (celsOf cs) x) y))) | _ => h)
  | _ => (False, .dead, h) }
def partL (l : List Cel) (x y : Int) (i : Nat) : List Cel := if i = 0 then l else if i = 1 then partF l x else partF (partF l x) y
def partS (id v : Nat) (l : List Cel) (x y : Int) (h : List Blk) (i : Nat) : St :=
  ⟨52, [(0, .ref id v), (6, .ex 1 2 [.int .i64 x, .int .i64 y]), (7, .val (.int .i64 2)), (8, .val (.int .i64 i))], h.set id (.sl 34 v true 12 l.length (celsC (partL l x y i)))⟩
def partSpec : Spec := { pre := fun _ => False, res := fun _ => .many [], hp := some partHS }
def G_part : Specs := [(49, halfSpec), (41, blankSpec)]
@[simp] theorem G_part_live : Specs.live G_part = false := rfl
@[simp] theorem G_part_nils : Specs.nils G_part = false := rfl
@[simp] theorem G_part_froz : Specs.froz G_part = false := rfl
@[simp] theorem G_part_49 : G_part.find 49 = some halfSpec := rfl
@[simp] theorem G_part_41 : G_part.find 41 = some blankSpec := rfl
theorem G_part_ok (gl : Gl) : SpecsOK Tryd.prog gl G_part := .cons (half_sound gl) (.cons (rowblank_sound gl) (.nil _ _))
set_option maxHeartbeats 1000000 in
set_option maxRecDepth 10000 in
theorem part_sound (gl : Gl) : Sound Tryd.prog gl 52 partSpec := by
  refine sound_heap (hs := partHS) (N := Tryd.f52.ntmps) (rs := Tryd.f52.results.toList) mixed tok (G_part_ok gl) Tryd.func52 rfl rfl rfl rfl rfl ?_ ?_
  · intro xs h hp
    simp only [partHS] at hp
    split at hp
    all_goals first | exact hp.elim | simp [Tryd.f52]
  · intro xs h hp bs hgl hh hro
    have hE : Env.OK ⟨Tryd.prog, T, G_part, bs⟩ := ⟨tok, by rw [hgl]; exact G_part_ok gl⟩
    simp only [partHS] at hp
    split at hp
    · rename_i id v sz n q1 x q2 y
      obtain ⟨l, hget, rfl, rfl, rfl, rfl, hl⟩ := hp
      have hid := lt_of_get hget
      simp [Tryd.f52, hcEff, partHS, hget, celsOf_C]
      refine AWP.rounds (fun i => i ≤ 2) (partS id v l x y h) (fun i => 2 - i) 0 (by simp) ?_ ?_
      · refine Weak.heap ?_ ?_
        · rw [show partL l x y 0 = l from rfl, set_same hget]
        · simp
          done
      · intro i hi
        refine wpc_ok hE mixed _ _ _ ?_
        have g := fun y => get_set_self (y := y) hget
        by_cases hi2 : i < 2
        · obtain ⟨z, hz, hn⟩ : ∃ z, [C.int .i64 x, .int .i64 y][i]? = some (.int .i64 z) ∧ partL l x y (i + 1) = partF (partL l x y i) z := by
            obtain rfl | rfl : i = 0 ∨ i = 1 := by omega
            · exact ⟨x, rfl, rfl⟩
            · exact ⟨y, rfl, rfl⟩
          have hL : (partL l x y i).length = l.length := by
            unfold partL
            split
            · rfl
            · split <;> simp
          obtain ⟨L, hLe⟩ : ∃ L, partL l x y i = L := ⟨_, rfl⟩
          have w1 : IntKind.i64.wrap ((i : Int) + 1) = i + 1 := wrap64 _ (by omega) (by omega)
          have hi2' : (i : Int) < 2 := by omega
          rw [hLe] at hL hn
          have hz' : ∀ q, [C.int .i64 x, .int .i64 y][i]'q = .int .i64 z := fun q => by rw [List.getElem?_eq_getElem q] at hz; exact Option.some.inj hz
          have h20 : 0 < 2 - i := by omega
          by_cases h1 : 0 < z
          · by_cases h2 : z < L.length
            · obtain ⟨k, rfl⟩ : ∃ k : Nat, z = k := ⟨z.toNat, by omega⟩
              have hk : k < L.length := by omega
              have hkl : k < l.length := by omega
              have hk0 : 0 < k := by omega
              have hd := celsC_at hk
              rw [← cat_eq hk] at hd
              have hd1 := celsC_at (k := k - 1) (l := L) (by omega)
              rw [← cat_eq (by omega)] at hd1
              have w2 : IntKind.i64.wrap ((k : Int) - 1) = ((k - 1 : Nat) : Int) := by rw [wrap64 _ (by omega) (by omega)]; omega
              cases hf : halfF (cat L k)
              · have e : partF L k = L := by unfold partF; rw [if_neg (by simp [hf])]
                rw [e] at hn
                simp [partS, and_assoc, blankSpec, halfSpec, styV, celV, g, hi2, hi2', h20, w1, w2, hz', hLe, hk, hkl, hk0, hd, hf]
                exact Next.mk (i + 1) (by omega) (by omega) (Weak.heap (by rw [hn]) (by simp))
              · have e : partF L k = (L.set (k - 1) (remF (cat L (k - 1)))).set k (remF (cat L k)) := by unfold partF; rw [if_pos ⟨by omega, by omega, hf⟩]; rfl
                rw [e] at hn
                have hk1 : k - 1 < L.length := by omega
                have f1 := cels_back hk1
                have s1 := celsC_set hk1
                have f2 : ∀ c, List.take 2 (List.drop (k * 12 + 4 + 4) (celsC (L.set (k - 1) c))) = [C.int .i64 (cat L k).st.bk, C.int .i64 (cat L k).st.bn] := fun c => by rw [cels_back (by simpa using hk), cat_set_ne c (by omega)]
                have s2 := fun c => celsC_set (l := L.set (k - 1) c) (k := k) (by simpa using hk)
                simp [partS, and_assoc, blankSpec, halfSpec, styV, celV, g, hi2, hi2', h20, w1, w2, hz', hLe, hk, hkl, hk0, hd, hd1, hf, f1, f2, s1, s2, backC2]
                exact ⟨by omega, by omega, by omega, by omega, by omega, by omega, Next.mk (i + 1) (by omega) (by omega) (Weak.heap (by rw [hn]; rfl) (by simp))⟩
            · have e : partF L z = L := by unfold partF; rw [if_neg (by omega)]
              rw [e] at hn
              have h2' : ¬ z < l.length := by omega
              simp [partS, and_assoc, blankSpec, halfSpec, styV, celV, g, hi2, hi2', h20, w1, hz', hLe, h1, h2, h2']
              exact Next.mk (i + 1) (by omega) (by omega) (Weak.heap (by rw [hn]) (by simp))
          · have e : partF L z = L := by unfold partF; rw [if_neg (by omega)]
            rw [e] at hn
            simp [partS, and_assoc, blankSpec, halfSpec, styV, celV, g, hi2, hi2', h20, w1, hz', hLe, h1]
            exact Next.mk (i + 1) (by omega) (by omega) (Weak.heap (by rw [hn]) (by simp))
        · obtain rfl : i = 2 := by omega
          simp [partS, and_assoc, blankSpec, halfSpec]
          rw [show partL l x y 2 = partF (partF l x) y from rfl]
          exact RetTo.same ⟨rfl, rfl⟩
    · exact hp.elim
end Fen

namespace Fen
open Go Go.Proofs

/-! ### Put -/
def putF (l : List Cel) (k : Nat) (c : Cel) : List Cel :=
  if c.wide = 1 then ((partF (partF l k) (k + 1 + c.wide)).set k c).set (k + 1) (secondF c.st) else (partF (partF l k) (k + 1 + c.wide)).set k c
theorem put_len (l : List Cel) (k : Nat) (c : Cel) : (putF l k c).length = l.length := by unfold putF; split <;> simp
def put1HS : HS := { wr := true, eff := fun xs h => match xs with
  | [.ref id v, .fptr [.int q a], .fptr c] =>
    ((∃ (l : List Cel) (d : Cel) (a' : Nat), h[id]? = some (.sl 34 v true 12 l.length (celsC l)) ∧ c = celC d ∧ a = a' ∧ q = .i64 ∧ a' < l.length ∧ l.length ≤ 1000 ∧ 0 ≤ d.wide ∧ d.wide ≤ 1 ∧ (d.wide = 1 → a' + 1 < l.length)), .tup [],
      match h[id]? with | some (.sl ty v' p sz n cs) => h.set id (.sl ty v' p sz n (celsC (putF (celsOf cs) a.toNat (celOf c)))) | _ => h)
  | _ => (False, .dead, h) }
def put1Spec : Spec := { pre := fun _ => False, res := fun _ => .many [], hp := some put1HS }
def G_put1 : Specs := [(52, partSpec)]
@[simp] theorem G_put1_live : Specs.live G_put1 = false := rfl
@[simp] theorem G_put1_nils : Specs.nils G_put1 = false := rfl
@[simp] theorem G_put1_froz : Specs.froz G_put1 = false := rfl
@[simp] theorem G_put1_52 : G_put1.find 52 = some partSpec := rfl
theorem G_put1_ok (gl : Gl) : SpecsOK Tryd.prog gl G_put1 := .cons (part_sound gl) (.nil _ _)
set_option maxHeartbeats 1000000 in
set_option maxRecDepth 10000 in
theorem put1_sound (gl : Gl) : Sound Tryd.prog gl 51 put1Spec := by
  refine sound_heap (hs := put1HS) (N := Tryd.f51.ntmps) (rs := Tryd.f51.results.toList) mixed tok (G_put1_ok gl) Tryd.func51 rfl rfl rfl rfl rfl ?_ ?_
  · intro xs h hp
    simp only [put1HS] at hp
    split at hp
    all_goals first | exact hp.elim | simp [Tryd.f51]
  · intro xs h hp bs hgl hh hro
    have hE : Env.OK ⟨Tryd.prog, T, G_put1, bs⟩ := ⟨tok, by rw [hgl]; exact G_put1_ok gl⟩
    simp only [put1HS] at hp
    split at hp
    · rename_i id v q a0 c0
      obtain ⟨l, d, a, hget, rfl, rfl, rfl, hal, hl, hw0, hw1, hw2⟩ := hp
      have hid := lt_of_get hget
      have g := fun y => get_set_self (y := y) hget
      have w1 : IntKind.i64.wrap ((a : Int) + 1) = (a : Int) + 1 := wrap64 _ (by omega) (by omega)
      have e1 : ((a : Int) + 1).toNat = a + 1 := by omega
      by_cases hw : d.wide = 1
      · have ha1 := hw2 hw
        have ha1' : (a : Int) + 1 < l.length := by omega
        have ha0 : (0 : Int) ≤ (a : Int) + 1 := by omega
        have w2 : IntKind.i64.wrap ((a : Int) + 1 + 1) = (a : Int) + 1 + 1 := wrap64 _ (by omega) (by omega)
        obtain ⟨P, hP, hPl⟩ : ∃ P, partF (partF l a) (a + 1 + 1) = P ∧ P.length = l.length := ⟨_, rfl, by simp⟩
        have e : putF l a d = (P.set a d).set (a + 1) (secondF d.st) := by unfold putF; rw [if_pos hw, hw, hP]
        have s1 := celsC_set (l := P) (k := a) (by omega)
        have s2 := fun c => celsC_set (l := P.set a c) (k := a + 1) (by simp; omega)
        have e2 : (⟨0, 0, 0, 2, d.st⟩ : Cel) = secondF d.st := rfl
        simp [Tryd.f51, hcEff, put1HS, and_assoc, partSpec, partHS, hget, g, celsOf_C, celOf_C, w1, w2, hal, ha1, ha1', ha0, e1, hw, e, hP, hPl, s1, s2, e2]
        exact ⟨⟨l, rfl, rfl, hl⟩, by omega, by omega, RetTo.same ⟨rfl, rfl⟩⟩
      · have w2 : IntKind.i64.wrap ((a : Int) + 1 + d.wide) = (a : Int) + 1 + d.wide := wrap64 _ (by omega) (by omega)
        obtain ⟨P, hP, hPl⟩ : ∃ P, partF (partF l a) (a + 1 + d.wide) = P ∧ P.length = l.length := ⟨_, rfl, by simp⟩
        have e : putF l a d = P.set a d := by unfold putF; rw [if_neg hw, hP]
        have s1 := celsC_set (l := P) (k := a) (by omega)
        simp [Tryd.f51, hcEff, put1HS, and_assoc, partSpec, partHS, hget, g, celsOf_C, celOf_C, w1, w2, hal, hw, e, hP, hPl, s1]
        exact ⟨⟨l, rfl, rfl, hl⟩, by omega, RetTo.same ⟨rfl, rfl⟩⟩
    · exact hp.elim

def chPutSpec : Spec := { pre := fun args => ∃ (r : Rw) (a : Nat) (d : Cel), args = [rowV r, .c (.fn 51 [.ptr [.int .i64 a], .ptr (celC d)])] ∧ a < r.cells.length ∧ r.cells.length ≤ 1000 ∧ 0 ≤ d.wide ∧ d.wide ≤ 1 ∧ (d.wide = 1 → a + 1 < r.cells.length), res := fun args => match args with
  | [.agg r, .c (.fn _ [.ptr [.int _ a], .ptr c])] => .one (.val (rowV ⟨putF (rowOf r).cells a.toNat (celOf c), (rowOf r).wrapped⟩))
  | _ => .many [] }
def G_chPut : Specs := [(51, put1Spec)]
@[simp] theorem G_chPut_live : Specs.live G_chPut = false := rfl
@[simp] theorem G_chPut_nils : Specs.nils G_chPut = false := rfl
@[simp] theorem G_chPut_froz : Specs.froz G_chPut = false := rfl
@[simp] theorem G_chPut_51 : G_chPut.find 51 = some put1Spec := rfl
theorem G_chPut_ok (gl : Gl) : SpecsOK Tryd.prog gl G_chPut := .cons (put1_sound gl) (.nil _ _)
set_option maxRecDepth 10000 in
theorem chPut_sound (gl : Gl) : Sound Tryd.prog gl 50 chPutSpec := by
  refine sound_fn (N := Tryd.f50.ntmps) (rs := Tryd.f50.results.toList) mixed tok (G_chPut_ok gl) Tryd.func50 rfl rfl rfl rfl rfl ?_ ?_ ?_
  · rintro args ⟨r,a,d,rfl,h1,h2,h3,h4,h5⟩; simp [rowV,rowOf_C,celOf_C, Tryd.f50]
  · rintro args ⟨r,a,d,rfl,h1,h2,h3,h4,h5⟩; simp [rowV,rowOf_C,celOf_C, chPutSpec, Tryd.f50]
  · rintro args ⟨r,a,d,rfl,h1,h2,h3,h4,h5⟩ bs hgl hh hro
    have hE : Env.OK ⟨Tryd.prog, T, G_chPut, bs⟩ := ⟨tok, by rw [hgl]; exact G_chPut_ok gl⟩
    simp only [chPutSpec, rowV,rowOf_C,celOf_C]
    have tk : List.take (r.cells.length * 12) (celsC r.cells) = celsC r.cells := List.take_of_length_le (by simp)
    have dk : List.drop (r.cells.length * 12) (celsC (List.replicate r.cells.length ⟨0, 0, 0, 0, sty0⟩)) = [] := List.drop_eq_nil_of_le (by simp)
    have el := put_len r.cells a d
    simp [and_assoc, chPutSpec, put1Spec, Tryd.f50, put1HS, rep_cel, tk, dk, el, rowC]
    exact ⟨by omega, by omega, r.cells, rfl, rfl, a, rfl, h1, h2, h3, h4, h5⟩
def putRowF (r : Rw) (col : Int) (c : Cel) : Rw × Int :=
  if wrongF r col ≠ 0 then (nilR, wrongF r col) else if halfF c = true ∨ cellF c ≠ 0 then (nilR, 221) else if c.wide = 1 ∧ col = r.cells.length - 1 then (nilR, 2) else (⟨putF r.cells col.toNat c, r.wrapped⟩, 0)
def putSpec : Spec := { pre := fun args => ∃ (r : Rw) (col : Int) (c : Cel), args = [rowV r, .c (.int .i64 col), celV c] ∧ r.ok ∧ c.ok, res := fun args => match args with
  | [.agg r, .c (.int _ a), .agg c] => .many [.val (rowV (putRowF (rowOf r) a (celOf c)).1), .val (.c (.int .i64 (putRowF (rowOf r) a (celOf c)).2))]
  | _ => .many [] }
theorem cell_wide {c : Cel} (h : cellF c = 0) (h2 : ¬ halfF c = true) : c.wide = 0 ∨ c.wide = 1 := by
  unfold cellF at h
  split at h
  · cases h
  · split at h
    · rename_i q
      rcases q with q | ⟨_, ⟨q, _⟩ | ⟨q, _⟩⟩
      · exact absurd q h2
      · exact .inl q
      · exact .inr q
    · cases h
theorem wrong_ok {r : Rw} {x : Int} (h : wrongF r x = 0) : rowF r = 0 ∧ 0 ≤ x ∧ x < r.cells.length := by
  unfold wrongF at h
  split at h
  · rename_i q; exact absurd h q
  · split at h
    · cases h
    · rename_i q1 q2; exact ⟨by omega, by omega, by omega⟩
def G_put : Specs := [(48, wrongSpec), (49, halfSpec), (33, cellSpec), (50, chPutSpec)]
@[simp] theorem G_put_live : Specs.live G_put = false := rfl
@[simp] theorem G_put_nils : Specs.nils G_put = false := rfl
@[simp] theorem G_put_froz : Specs.froz G_put = false := rfl
@[simp] theorem G_put_48 : G_put.find 48 = some wrongSpec := rfl
@[simp] theorem G_put_49 : G_put.find 49 = some halfSpec := rfl
@[simp] theorem G_put_33 : G_put.find 33 = some cellSpec := rfl
@[simp] theorem G_put_50 : G_put.find 50 = some chPutSpec := rfl
theorem G_put_ok : SpecsOK Tryd.prog glW G_put := .cons wrong_sound (.cons (half_sound glW) (.cons cell_sound (.cons (chPut_sound glW) (.nil _ _))))
set_option maxHeartbeats 2000000 in
set_option maxRecDepth 10000 in
theorem put_sound : Sound Tryd.prog glW 16 putSpec := by
  refine sound_fn (N := Tryd.f16.ntmps) (rs := Tryd.f16.results.toList) mixed tok G_put_ok Tryd.func16 rfl rfl rfl rfl rfl ?_ ?_ ?_
  · rintro args ⟨r,x,c,rfl,hr,hc⟩; simp [rowV,celV,rowOf_C,celOf_C, Tryd.f16]
  · rintro args ⟨r,x,c,rfl,hr,hc⟩; simp [rowV,celV,rowOf_C,celOf_C, putSpec, Tryd.f16]
  · rintro args ⟨r,x,c,rfl,hr,hc⟩ bs hgl hh hro
    have hE : Env.OK ⟨Tryd.prog, T, G_put, bs⟩ := ⟨tok, by rw [hgl]; exact G_put_ok⟩
    simp only [putSpec, rowV,celV,rowOf_C,celOf_C]
    unfold putRowF
    rcases Decidable.em (wrongF r x = 0) with h1 | h1
    rotate_left
    · simp [and_assoc, putSpec, cellSpec, chPutSpec, halfSpec, wrongSpec, Tryd.f16, hr, h1, nilR_C]
      done
    cases h2 : halfF c
    rotate_left
    · simp [and_assoc, putSpec, cellSpec, chPutSpec, halfSpec, wrongSpec, Tryd.f16, hr, hc, h1, h2, nilR_C]
      done
    rcases Decidable.em (cellF c = 0) with h3 | h3
    rotate_left
    · simp [and_assoc, putSpec, cellSpec, chPutSpec, halfSpec, wrongSpec, Tryd.f16, hr, hc, h1, h2, h3, nilR_C]
      done
    obtain ⟨q1, q2, q3⟩ := wrong_ok h1
    obtain ⟨a, rfl⟩ : ∃ a : Nat, x = a := ⟨x.toNat, by omega⟩
    obtain ⟨l2, l80, _⟩ := row_len q1
    have w1 : IntKind.i64.wrap ((r.cells.length : Int) - 1) = (r.cells.length : Int) - 1 := wrap64 _ (by omega) (by omega)
    have hal : a < r.cells.length := by omega
    rcases cell_wide h3 (by simp [h2]) with h4 | h4
    · simp [and_assoc, putSpec, cellSpec, chPutSpec, halfSpec, wrongSpec, Tryd.f16, hr, hc, h1, h2, h3, h4, w1, nilR_C]
      exact ⟨a, rfl, hal, by omega⟩
    · by_cases h5 : (a : Int) = r.cells.length - 1
      · rw [h5] at h1
        simp [and_assoc, putSpec, cellSpec, chPutSpec, halfSpec, wrongSpec, Tryd.f16, hr, hc, h1, h2, h3, h4, h5, w1, nilR_C]
      · simp [and_assoc, putSpec, cellSpec, chPutSpec, halfSpec, wrongSpec, Tryd.f16, hr, hc, h1, h2, h3, h4, h5, w1, nilR_C]
        exact ⟨a, rfl, hal, by omega, by omega⟩
end Fen

namespace Fen
open Go Go.Proofs

def G_rput : Specs := [(36, rowckSpec), (38, cellSpec), (53, halfSpec), (54, partedSpec)]
@[simp] theorem G_rput_live : Specs.live G_rput = false := rfl
@[simp] theorem G_rput_nils : Specs.nils G_rput = false := rfl
@[simp] theorem G_rput_froz : Specs.froz G_rput = false := rfl
@[simp] theorem G_rput_36 : G_rput.find 36 = some rowckSpec := rfl
@[simp] theorem G_rput_38 : G_rput.find 38 = some cellSpec := rfl
@[simp] theorem G_rput_53 : G_rput.find 53 = some halfSpec := rfl
@[simp] theorem G_rput_54 : G_rput.find 54 = some partedSpec := rfl
theorem G_rput_ok (gl : Gl) : SpecsOK Tryd.prog gl G_rput := .cons (rrowck_sound gl) (.cons (rcell_sound gl) (.cons (second_sound gl) (.cons (parted_sound gl) (.nil _ _))))
set_option maxHeartbeats 2000000 in
set_option maxRecDepth 10000 in
theorem rput_sound (gl : Gl) : Sound Tryd.prog gl 17 putSpec := by
  refine sound_fn (N := Tryd.f17.ntmps) (rs := Tryd.f17.results.toList) mixed tok (G_rput_ok gl) Tryd.func17 rfl rfl rfl rfl rfl ?_ ?_ ?_
  · rintro args ⟨r,x,c,rfl,hr,hc⟩; simp [rowV,celV,rowOf_C,celOf_C, Tryd.f17]
  · rintro args ⟨r,x,c,rfl,hr,hc⟩; simp [rowV,celV,rowOf_C,celOf_C, putSpec, Tryd.f17]
  · rintro args ⟨r,x,c,rfl,hr,hc⟩ bs hgl hh hro
    have hE : Env.OK ⟨Tryd.prog, T, G_rput, bs⟩ := ⟨tok, by rw [hgl]; exact G_rput_ok gl⟩
    simp only [putSpec, rowV,celV,rowOf_C,celOf_C]
    unfold putRowF wrongF
    rcases Decidable.em (rowF r = 0) with q1 | q1
    rotate_left
    · simp [and_assoc, putSpec, cellSpec, halfSpec, partedSpec, rowckSpec, Tryd.f17, hr, q1, nilR_C]
      done
    by_cases n1 : x < 0
    · simp [and_assoc, putSpec, cellSpec, halfSpec, partedSpec, rowckSpec, Tryd.f17, hr, q1, n1, nilR_C]
      done
    by_cases n2 : (r.cells.length : Int) ≤ x
    · simp [and_assoc, putSpec, cellSpec, halfSpec, partedSpec, rowckSpec, Tryd.f17, hr, q1, n1, n2, nilR_C]
      done
    have n3 : ¬ (x < 0 ∨ (r.cells.length : Int) ≤ x) := by omega
    cases h2 : halfF c
    rotate_left
    · rcases Decidable.em (cellF c = 0) with h3 | h3
      · simp [and_assoc, putSpec, cellSpec, halfSpec, partedSpec, rowckSpec, Tryd.f17, hr, hc, q1, n1, n2, h2, h3, nilR_C]
        done
      · simp [and_assoc, putSpec, cellSpec, halfSpec, partedSpec, rowckSpec, Tryd.f17, hr, hc, q1, n1, n2, h2, h3, nilR_C]
        done
    rcases Decidable.em (cellF c = 0) with h3 | h3
    rotate_left
    · simp [and_assoc, putSpec, cellSpec, halfSpec, partedSpec, rowckSpec, Tryd.f17, hr, hc, q1, n1, n2, h2, h3, nilR_C]
      done
    obtain ⟨a, rfl⟩ : ∃ a : Nat, x = a := ⟨x.toNat, by omega⟩
    obtain ⟨l2, l80, _⟩ := row_len q1
    have w1 : IntKind.i64.wrap ((r.cells.length : Int) - 1) = (r.cells.length : Int) - 1 := wrap64 _ (by omega) (by omega)
    have w2 : IntKind.i64.wrap ((a : Int) + 1) = (a : Int) + 1 := wrap64 _ (by omega) (by omega)
    have e1 : ((a : Int) + 1).toNat = a + 1 := by omega
    have hal : a < r.cells.length := by omega
    have l1000 : r.cells.length ≤ 1000 := by omega
    have n4 : ¬ r.cells.length ≤ a := by omega
    rcases cell_wide h3 (by simp [h2]) with h4 | h4
    · obtain ⟨P, hP, hPl⟩ : ∃ P, partF (partF r.cells a) (a + 1) = P ∧ P.length = r.cells.length := ⟨_, rfl, by simp⟩
      have e : putF r.cells a c = P.set a c := by unfold putF; rw [if_neg (by omega), h4, ← hP]; simp
      have s1 := celsC_set (l := P) (k := a) (by omega)
      simp [and_assoc, putSpec, cellSpec, halfSpec, partedSpec, rowckSpec, Tryd.f17, hr, hc, q1, n1, n2, n4, h2, h3, h4, w1, w2, nilR_C, hal, l1000, e1, hP, hPl, s1, e]
      exact ⟨rfl, by omega, by simp [rowC, hPl]⟩
    · by_cases h5 : (a : Int) = r.cells.length - 1
      · have k1 : (1 : Int) ≤ r.cells.length := by omega
        have k2 : ¬ (r.cells.length : Int) ≤ r.cells.length - 1 := by omega
        have k3 : ¬ (r.cells.length : Int) - 1 < 0 := by omega
        have k4 : (r.cells.length : Int) - 1 < r.cells.length := by omega
        simp [and_assoc, putSpec, cellSpec, halfSpec, partedSpec, rowckSpec, Tryd.f17, hr, hc, q1, n1, n2, n4, h2, h3, h4, h5, w1, nilR_C, k1, k2, k3, k4]
      · have ha1 : a + 1 < r.cells.length := by omega
        have ha1' : (a : Int) + 1 < r.cells.length := by omega
        have ha0 : (0 : Int) ≤ (a : Int) + 1 := by omega
        have w3 : IntKind.i64.wrap ((a : Int) + 1 + 1) = (a : Int) + 1 + 1 := wrap64 _ (by omega) (by omega)
        obtain ⟨P, hP, hPl⟩ : ∃ P, partF (partF r.cells a) (a + 1 + 1) = P ∧ P.length = r.cells.length := ⟨_, rfl, by simp⟩
        have e : putF r.cells a c = (P.set a c).set (a + 1) (secondF c.st) := by unfold putF; rw [if_pos h4, h4, hP]
        have s1 := celsC_set (l := P) (k := a) (by omega)
        have s2 := fun c => celsC_set (l := P.set a c) (k := a + 1) (by simp; omega)
        have e2 : (⟨0, 0, 0, 2, c.st⟩ : Cel) = secondF c.st := rfl
        simp [and_assoc, putSpec, cellSpec, halfSpec, partedSpec, rowckSpec, Tryd.f17, hr, hc, q1, n1, n2, n4, h2, h3, h4, h5, w1, w2, w3, nilR_C, hal, ha1, ha1', ha0, l1000, e1, hP, hPl, s1, s2, e, e2]
        exact ⟨rfl, by omega, by omega, by simp [rowC, hPl]⟩

/-! ### Mark -/
def markF (c : Cel) (cp : Int) : Cel := if c.m0 = 0 then { c with m0 := cp } else if c.m1 = 0 then { c with m1 := cp } else c
/-- a mark's place among a cell's two -/
def setM (c : Cel) (k : Nat) (cp : Int) : Cel := if k = 0 then { c with m0 := cp } else { c with m1 := cp }
def mark1HS : HS := { wr := true, eff := fun xs h => match xs with
  | [.ref id v, .fptr [.int q1 m], .fptr [.int q2 a], .fptr [.int q3 k]] =>
    ((∃ (l : List Cel) (a' k' : Nat), h[id]? = some (.sl 34 v true 12 l.length (celsC l)) ∧ a = a' ∧ k = k' ∧ q1 = .i64 ∧ q2 = .i64 ∧ q3 = .i64 ∧ a' < l.length ∧ k' < 2 ∧ l.length ≤ 1000), .tup [],
      match h[id]? with | some (.sl ty v' p sz n cs) => h.set id (.sl ty v' p sz n (celsC ((celsOf cs).set a.toNat (setM (cat (celsOf cs) a.toNat) k.toNat m)))) | _ => h)
  | _ => (False, .dead, h) }
theorem cels_mark {l : List Cel} {a k : Nat} (m : Int) (h : a < l.length) (hk : k < 2) : List.take (a * 12 + 1 + k) (celsC l) ++ C.int .i64 m :: List.drop (a * 12 + 1 + k + 1) (celsC l) = celsC (l.set a (setM (cat l a) k m)) := by
  have hd := celsC_at h
  rw [← cat_eq h] at hd
  rw [← celsC_set h, List.take_add (l := celsC l) (i := a * 12 + 1) (j := k), List.take_add (l := celsC l) (i := a * 12) (j := 1)]
  have e1 : List.drop (a * 12 + 1) (celsC l) = List.drop 1 (List.drop (a * 12) (celsC l)) := by rw [List.drop_drop]
  have e2 : List.drop (a * 12 + 1 + k + 1) (celsC l) = List.drop (1 + k + 1) (List.drop (a * 12) (celsC l)) := by rw [List.drop_drop]; congr 1; omega
  have e3 : List.drop (a * 12 + 12) (celsC l) = List.drop 12 (List.drop (a * 12) (celsC l)) := by rw [List.drop_drop]
  rw [e1, e2, e3, hd, List.append_assoc, List.append_assoc]
  congr 1
  obtain rfl | rfl : k = 0 ∨ k = 1 := by omega
  · rfl
  · rfl
def mark1Spec : Spec := { pre := fun _ => False, res := fun _ => .many [], hp := some mark1HS }
def G_mark1 : Specs := []
@[simp] theorem G_mark1_live : Specs.live G_mark1 = false := rfl
@[simp] theorem G_mark1_nils : Specs.nils G_mark1 = false := rfl
@[simp] theorem G_mark1_froz : Specs.froz G_mark1 = false := rfl
theorem G_mark1_ok (gl : Gl) : SpecsOK Tryd.prog gl G_mark1 := .nil _ _
set_option maxHeartbeats 1000000 in
set_option maxRecDepth 10000 in
theorem mark1_sound (gl : Gl) : Sound Tryd.prog gl 57 mark1Spec := by
  refine sound_heap (hs := mark1HS) (N := Tryd.f57.ntmps) (rs := Tryd.f57.results.toList) mixed tok (G_mark1_ok gl) Tryd.func57 rfl rfl rfl rfl rfl ?_ ?_
  · intro xs h hp
    simp only [mark1HS] at hp
    split at hp
    all_goals first | exact hp.elim | simp [Tryd.f57]
  · intro xs h hp bs hgl hh hro
    have hE : Env.OK ⟨Tryd.prog, T, G_mark1, bs⟩ := ⟨tok, by rw [hgl]; exact G_mark1_ok gl⟩
    simp only [mark1HS] at hp
    split at hp
    · rename_i id v q1 m q2 a0 q3 k0
      obtain ⟨l, a, k, hget, rfl, rfl, rfl, rfl, rfl, hal, hk, hl⟩ := hp
      have hid := lt_of_get hget
      have hk0 : (k : Int) < 2 := by omega
      have s1 := fun m => cels_mark m hal hk
      simp [Tryd.f57, hcEff, mark1HS, hget, celsOf_C, hal, hk, hk0, s1]
      exact ⟨by omega, rfl, RetTo.same ⟨rfl, rfl⟩⟩
    · exact hp.elim
end Fen

namespace Fen
open Go Go.Proofs

/-! ### Mark -/
def chMarkSpec : Spec := { pre := fun args => ∃ (r : Rw) (m : Int) (a k : Nat), args = [rowV r, .c (.fn 57 [.ptr [.int .i64 m], .ptr [.int .i64 a], .ptr [.int .i64 k]])] ∧ a < r.cells.length ∧ k < 2 ∧ r.cells.length ≤ 1000, res := fun args => match args with
  | [.agg r, .c (.fn _ [.ptr [.int _ m], .ptr [.int _ a], .ptr [.int _ k]])] => .one (.val (rowV ⟨(rowOf r).cells.set a.toNat (setM (cat (rowOf r).cells a.toNat) k.toNat m), (rowOf r).wrapped⟩))
  | _ => .many [] }
def G_chMark : Specs := [(57, mark1Spec)]
@[simp] theorem G_chMark_live : Specs.live G_chMark = false := rfl
@[simp] theorem G_chMark_nils : Specs.nils G_chMark = false := rfl
@[simp] theorem G_chMark_froz : Specs.froz G_chMark = false := rfl
@[simp] theorem G_chMark_57 : G_chMark.find 57 = some mark1Spec := rfl
theorem G_chMark_ok (gl : Gl) : SpecsOK Tryd.prog gl G_chMark := .cons (mark1_sound gl) (.nil _ _)
set_option maxRecDepth 10000 in
theorem chMark_sound (gl : Gl) : Sound Tryd.prog gl 50 chMarkSpec := by
  refine sound_fn (N := Tryd.f50.ntmps) (rs := Tryd.f50.results.toList) mixed tok (G_chMark_ok gl) Tryd.func50 rfl rfl rfl rfl rfl ?_ ?_ ?_
  · rintro args ⟨r,m,a,k,rfl,h1,h2,h3⟩; simp [rowV,rowOf_C, Tryd.f50]
  · rintro args ⟨r,m,a,k,rfl,h1,h2,h3⟩; simp [rowV,rowOf_C, chMarkSpec, Tryd.f50]
  · rintro args ⟨r,m,a,k,rfl,h1,h2,h3⟩ bs hgl hh hro
    have hE : Env.OK ⟨Tryd.prog, T, G_chMark, bs⟩ := ⟨tok, by rw [hgl]; exact G_chMark_ok gl⟩
    simp only [chMarkSpec, rowV,rowOf_C]
    have tk : List.take (r.cells.length * 12) (celsC r.cells) = celsC r.cells := List.take_of_length_le (by simp)
    have dk : List.drop (r.cells.length * 12) (celsC (List.replicate r.cells.length ⟨0, 0, 0, 0, sty0⟩)) = [] := List.drop_eq_nil_of_le (by simp)
    simp [and_assoc, chMarkSpec, mark1Spec, Tryd.f50, mark1HS, rep_cel, tk, dk, rowC]
    exact ⟨by omega, by omega, r.cells, rfl, rfl, a, rfl, k, rfl, h1, h2, h3⟩

def idxF (a b : Int) (x : Int) : Int := if a = x then 0 else if b = x then 1 else -1
def idxSpec : Spec := { pre := fun args => ∃ a b x : Int, args = [.c (.sl 2 [.int .i64 a, .int .i64 b]), .c (.int .i64 x)], res := fun args => match args with
  | [.c (.sl _ [.int _ a, .int _ b]), .c (.int _ x)] => .one (.val (.c (.int .i64 (idxF a b x))))
  | _ => .many [] }
def G_idx : Specs := []
@[simp] theorem G_idx_live : Specs.live G_idx = false := rfl
@[simp] theorem G_idx_nils : Specs.nils G_idx = false := rfl
@[simp] theorem G_idx_froz : Specs.froz G_idx = false := rfl
theorem G_idx_ok (gl : Gl) : SpecsOK Tryd.prog gl G_idx := .nil _ _
set_option maxRecDepth 10000 in
theorem idx_sound (gl : Gl) : Sound Tryd.prog gl 56 idxSpec := by
  refine sound_fn (N := Tryd.f56.ntmps) (rs := Tryd.f56.results.toList) mixed tok (G_idx_ok gl) Tryd.func56 rfl rfl rfl rfl rfl ?_ ?_ ?_
  · rintro args ⟨a,b,x,rfl⟩; simp [Tryd.f56]
  · rintro args ⟨a,b,x,rfl⟩; simp [idxSpec, Tryd.f56]
  · rintro args ⟨a,b,x,rfl⟩ bs hgl hh hro
    have hE : Env.OK ⟨Tryd.prog, T, G_idx, bs⟩ := ⟨tok, by rw [hgl]; exact G_idx_ok gl⟩
    simp [and_assoc, idxSpec, Tryd.f56, idxF]
    refine AWP.unroll hE mixed 3 ?_
    by_cases h1 : x = a
    · subst h1; simp
    · have h1' : ¬ a = x := fun e => h1 e.symm
      by_cases h2 : x = b
      · subst h2; simp [h1, h1']
      · have h2' : ¬ b = x := fun e => h2 e.symm
        simp [h1, h1', h2, h2']

theorem OpW.arr2 {P : Program} {T : TT} {bs : Base} {ops : Array Oper} {dst : Option Tmp} {ty : TypeId} {pos : String} {af : Array Edge} {st : St} {K : St → Prop} (hT : TOK P T) {t n e : Nat} {ti ei : TI} (ht : T t = some ti) (hk : ti.k = .array n e) (he : T e = some ei)
    {x : Operand} {cs : List C} (hx : evO bs.gl st.r x = .fptr cs) (cs' : List C) (hc : cs.take (n * ei.size) = cs') (hl : n * ei.size ≤ cs.length) (hn : n ≤ maxLen) (hd : dstOK st.n dst) (hK : K (st.put dst (.val (.sl n cs')) st.h)) :
    OpW P bs ops ⟨dst, .slice t x none none none, ty, pos, af, none⟩ st K := by
  subst hc
  refine OpW.at rfl hd (.val (.sl n (cs.take (n * ei.size)))) (fun g a w R => ?_) hK
  have hv := R.ev x
  rw [hx] at hv
  simp only [RelX] at hv
  obtain ⟨b, o, vs, hv, hS, hr⟩ := hv
  obtain ⟨d, i, z, hdd, hi, hf, _⟩ := hT.get ht
  rw [hk] at hf
  simp only [TK.fits] at hf
  subst hf
  refine ⟨.slice (some ⟨b, o, none⟩) n n, ?_, ?_⟩
  · simp [execOp, Instr.sliceAt, run_underlying hdd, hv, Instr.sureAddr, Instr.sliceBounds, hT.sizeOf he]
    intro _; rfl
  · simp only [RelX, RepV]
    refine .inr ⟨b, o, n, vs.take (n * ei.size), rfl, Nat.le_refl _, hn, fun j u hj => hS j u ?_, hr.take _⟩
    rw [List.getElem?_take] at hj
    split at hj
    · exact hj
    · cases hj

def markRowF (r : Rw) (col cp : Int) : Rw × Int :=
  if wrongF r col ≠ 0 then (nilR, wrongF r col) else if widthF cp ≠ 0 then (nilR, 2) else
  (⟨r.cells.set (loF r.cells col.toNat) (markF (cat r.cells (loF r.cells col.toNat)) cp), r.wrapped⟩, 0)
def markSpec : Spec := { pre := fun args => ∃ (r : Rw) (col cp : Int), args = [rowV r, .c (.int .i64 col), .c (.int .i64 cp)] ∧ r.ok, res := fun args => match args with
  | [.agg r, .c (.int _ a), .c (.int _ m)] => .many [.val (rowV (markRowF (rowOf r) a m).1), .val (.c (.int .i64 (markRowF (rowOf r) a m).2))]
  | _ => .many [] }
theorem mark_same {c : Cel} {cp : Int} (h0 : ¬ c.m0 = 0) (h1 : ¬ c.m1 = 0) : markF c cp = c := by unfold markF; rw [if_neg h0, if_neg h1]
theorem set_cat {l : List Cel} {i : Nat} (h : i < l.length) : l.set i (cat l i) = l := by rw [cat_eq h, List.set_getElem_self]
def G_mark : Specs := [(48, wrongSpec), (55, ofSpec), (49, halfSpec), (56, idxSpec), (50, chMarkSpec)]
@[simp] theorem G_mark_live : Specs.live G_mark = false := rfl
@[simp] theorem G_mark_nils : Specs.nils G_mark = false := rfl
@[simp] theorem G_mark_froz : Specs.froz G_mark = false := rfl
@[simp] theorem G_mark_48 : G_mark.find 48 = some wrongSpec := rfl
@[simp] theorem G_mark_55 : G_mark.find 55 = some ofSpec := rfl
@[simp] theorem G_mark_49 : G_mark.find 49 = some halfSpec := rfl
@[simp] theorem G_mark_56 : G_mark.find 56 = some idxSpec := rfl
@[simp] theorem G_mark_50 : G_mark.find 50 = some chMarkSpec := rfl
theorem G_mark_ok : SpecsOK Tryd.prog glW G_mark := .cons wrong_sound (.cons of_sound (.cons (half_sound glW) (.cons (idx_sound glW) (.cons (chMark_sound glW) (.nil _ _)))))
set_option maxHeartbeats 2000000 in
set_option maxRecDepth 10000 in
theorem mark_sound : Sound Tryd.prog glW 20 markSpec := by
  refine sound_fn (N := Tryd.f20.ntmps) (rs := Tryd.f20.results.toList) mixed tok G_mark_ok Tryd.func20 rfl rfl rfl rfl rfl ?_ ?_ ?_
  · rintro args ⟨r,x,m,rfl,hr⟩; simp [rowV,rowOf_C, Tryd.f20]
  · rintro args ⟨r,x,m,rfl,hr⟩; simp [rowV,rowOf_C, markSpec, Tryd.f20]
  · rintro args ⟨r,x,m,rfl,hr⟩ bs hgl hh hro
    have hE : Env.OK ⟨Tryd.prog, T, G_mark, bs⟩ := ⟨tok, by rw [hgl]; exact G_mark_ok⟩
    simp only [markSpec, rowV,rowOf_C]
    unfold markRowF
    rcases Decidable.em (wrongF r x = 0) with h1 | h1
    rotate_left
    · simp [and_assoc, markSpec, chMarkSpec, halfSpec, idxSpec, ofSpec, wrongSpec, Tryd.f20, hr, h1, nilR_C]
      done
    rcases Decidable.em (widthF m = 0) with h2 | h2
    rotate_left
    · simp [and_assoc, markSpec, chMarkSpec, halfSpec, idxSpec, ofSpec, wrongSpec, Tryd.f20, hr, h1, h2, nilR_C]
      done
    obtain ⟨q1, q2, q3⟩ := wrong_ok h1
    obtain ⟨a, rfl⟩ : ∃ a : Nat, x = a := ⟨x.toNat, by omega⟩
    obtain ⟨l2, l80, hch⟩ := row_len q1
    have hv := chain_val hch
    have hal : a < r.cells.length := by omega
    have hd := celsC_at hal
    rw [← cat_eq hal] at hd
    obtain ⟨b, hb, hbl, hw⟩ : ∃ b, loF r.cells a = b ∧ b < r.cells.length ∧ (halfF (cat r.cells a) = true → IntKind.i64.wrap ((a : Int) - 1) = (b : Int)) ∧ (halfF (cat r.cells a) = false → b = a) := by
      refine ⟨_, rfl, ?_, fun q => ?_, fun q => ?_⟩
      · unfold loF; split <;> omega
      · have := (hv.down a hal ((hv.half a hal).1 q)).1
        unfold loF; rw [if_pos q, wrap64 _ (by omega) (by omega)]; omega
      · unfold loF; rw [q]; rfl
    have hdb := celsC_at hbl
    rw [← cat_eq hbl] at hdb
    cases hf : halfF (cat r.cells a)
    · obtain rfl := hw.2 hf
      simp [and_assoc, markSpec, chMarkSpec, halfSpec, idxSpec, ofSpec, wrongSpec, Tryd.f20, hr, h1, h2, hal, hd, hf, hb, celV]
      refine OpW.arr2 tok T_28 rfl T_3 rfl [.int .i64 (cat r.cells b).m0, .int .i64 (cat r.cells b).m1] rfl (by simp) (by decide) (by simp [dstOK]) ?_
      by_cases k0 : (cat r.cells b).m0 = 0
      · have e : markF (cat r.cells b) m = setM (cat r.cells b) 0 m := by unfold markF setM; rw [if_pos k0]; rfl
        simp [and_assoc, chMarkSpec, halfSpec, idxSpec, ofSpec, wrongSpec, idxF, k0, rowV, e]
        exact ⟨b, rfl, 0, rfl, hbl, by omega, by omega⟩
      · by_cases k1 : (cat r.cells b).m1 = 0
        · have e : markF (cat r.cells b) m = setM (cat r.cells b) 1 m := by unfold markF setM; rw [if_neg k0, if_pos k1]; rfl
          simp [and_assoc, chMarkSpec, halfSpec, idxSpec, ofSpec, wrongSpec, idxF, k0, k1, rowV, e]
          exact ⟨b, rfl, 1, rfl, hbl, by omega, by omega⟩
        · have e := mark_same (cp := m) k0 k1
          simp [and_assoc, chMarkSpec, halfSpec, idxSpec, ofSpec, wrongSpec, idxF, k0, k1, rowV, e, set_cat hbl]
    · have hw1 := hw.1 hf
      simp [and_assoc, markSpec, chMarkSpec, halfSpec, idxSpec, ofSpec, wrongSpec, Tryd.f20, hr, h1, h2, hal, hd, hf, hb, hw1, hbl, hdb, celV]
      refine OpW.arr2 tok T_28 rfl T_3 rfl [.int .i64 (cat r.cells b).m0, .int .i64 (cat r.cells b).m1] rfl (by simp) (by decide) (by simp [dstOK]) ?_
      by_cases k0 : (cat r.cells b).m0 = 0
      · have e : markF (cat r.cells b) m = setM (cat r.cells b) 0 m := by unfold markF setM; rw [if_pos k0]; rfl
        simp [and_assoc, chMarkSpec, halfSpec, idxSpec, ofSpec, wrongSpec, idxF, k0, rowV, e]
        exact ⟨b, rfl, 0, rfl, hbl, by omega, by omega⟩
      · by_cases k1 : (cat r.cells b).m1 = 0
        · have e : markF (cat r.cells b) m = setM (cat r.cells b) 1 m := by unfold markF setM; rw [if_neg k0, if_pos k1]; rfl
          simp [and_assoc, chMarkSpec, halfSpec, idxSpec, ofSpec, wrongSpec, idxF, k0, k1, rowV, e]
          exact ⟨b, rfl, 1, rfl, hbl, by omega, by omega⟩
        · have e := mark_same (cp := m) k0 k1
          simp [and_assoc, chMarkSpec, halfSpec, idxSpec, ofSpec, wrongSpec, idxF, k0, k1, rowV, e, set_cat hbl]
end Fen

namespace Fen
open Go Go.Proofs

def G_rmark : Specs := [(36, rowckSpec), (47, ofSpec), (53, halfSpec)]
@[simp] theorem G_rmark_live : Specs.live G_rmark = false := rfl
@[simp] theorem G_rmark_nils : Specs.nils G_rmark = false := rfl
@[simp] theorem G_rmark_froz : Specs.froz G_rmark = false := rfl
@[simp] theorem G_rmark_36 : G_rmark.find 36 = some rowckSpec := rfl
@[simp] theorem G_rmark_47 : G_rmark.find 47 = some ofSpec := rfl
@[simp] theorem G_rmark_53 : G_rmark.find 53 = some halfSpec := rfl
theorem G_rmark_ok (gl : Gl) : SpecsOK Tryd.prog gl G_rmark := .cons (rrowck_sound gl) (.cons (rof_sound gl) (.cons (second_sound gl) (.nil _ _)))
set_option maxHeartbeats 2000000 in
set_option maxRecDepth 10000 in
theorem rmark_sound (gl : Gl) : Sound Tryd.prog gl 21 markSpec := by
  refine sound_fn (N := Tryd.f21.ntmps) (rs := Tryd.f21.results.toList) mixed tok (G_rmark_ok gl) Tryd.func21 rfl rfl rfl rfl rfl ?_ ?_ ?_
  · rintro args ⟨r,x,m,rfl,hr⟩; simp [rowV,rowOf_C, Tryd.f21]
  · rintro args ⟨r,x,m,rfl,hr⟩; simp [rowV,rowOf_C, markSpec, Tryd.f21]
  · rintro args ⟨r,x,m,rfl,hr⟩ bs hgl hh hro
    have hE : Env.OK ⟨Tryd.prog, T, G_rmark, bs⟩ := ⟨tok, by rw [hgl]; exact G_rmark_ok gl⟩
    simp only [markSpec, rowV,rowOf_C]
    unfold markRowF wrongF
    rcases Decidable.em (rowF r = 0) with q1 | q1
    rotate_left
    · simp [and_assoc, markSpec, halfSpec, ofSpec, rowckSpec, Tryd.f21, hr, q1, nilR_C]
      done
    by_cases n1 : x < 0
    · simp [and_assoc, markSpec, halfSpec, ofSpec, rowckSpec, Tryd.f21, hr, q1, n1, nilR_C]
      done
    by_cases n2 : (r.cells.length : Int) ≤ x
    · simp [and_assoc, markSpec, halfSpec, ofSpec, rowckSpec, Tryd.f21, hr, q1, n1, n2, nilR_C]
      done
    rcases Decidable.em (widthF m = 0) with h2 | h2
    rotate_left
    · simp [and_assoc, markSpec, halfSpec, ofSpec, rowckSpec, Tryd.f21, hr, q1, n1, n2, h2, nilR_C]
      done
    obtain ⟨a, rfl⟩ : ∃ a : Nat, x = a := ⟨x.toNat, by omega⟩
    obtain ⟨l2, l80, hch⟩ := row_len q1
    have hv := chain_val hch
    have hal : a < r.cells.length := by omega
    have n4 : ¬ r.cells.length ≤ a := by omega
    have hd := celsC_at hal
    rw [← cat_eq hal] at hd
    obtain ⟨b, hb, hbl, hw⟩ : ∃ b, loF r.cells a = b ∧ b < r.cells.length ∧ (halfF (cat r.cells a) = true → IntKind.i64.wrap ((a : Int) - 1) = (b : Int)) ∧ (halfF (cat r.cells a) = false → b = a) := by
      refine ⟨_, rfl, ?_, fun q => ?_, fun q => ?_⟩
      · unfold loF; split <;> omega
      · have := (hv.down a hal ((hv.half a hal).1 q)).1
        unfold loF; rw [if_pos q, wrap64 _ (by omega) (by omega)]; omega
      · unfold loF; rw [q]; rfl
    have hdb := celsC_at hbl
    rw [← cat_eq hbl] at hdb
    have l1 : r.cells.length * 96 ≤ 140737488355328 := by omega
    have l3 : r.cells.length ≤ 9223372036854775807 := by omega
    have g0 : (celsC r.cells)[b * 12 + 1]? = some (.int .i64 (cat r.cells b).m0) := celsC_get hbl 1 (by decide)
    have g1 : (celsC r.cells)[b * 12 + 1 + 1]? = some (.int .i64 (cat r.cells b).m1) := celsC_get hbl 2 (by decide)
    have s0 := cels_mark (l := r.cells) (k := 0) m hbl (by decide)
    have s1 := cels_mark (l := r.cells) (k := 1) m hbl (by decide)
    have p0 : 0 < r.cells.length * 12 - (b * 12 + 1) := by omega
    have p1 : 0 < r.cells.length * 12 - (b * 12 + 1 + 1) := by omega
    rw [Nat.add_zero] at s0
    have i1 : IntKind.i64.wrap 1 = 1 := by decide
    have i2 : IntKind.i64.wrap 2 = 2 := by decide
    cases hf : halfF (cat r.cells a)
    · obtain rfl := hw.2 hf
      simp [and_assoc, markSpec, halfSpec, ofSpec, rowckSpec, Tryd.f21, hr, q1, n1, n2, n4, h2, hal, hd, hf, hb, l1, l3, celV]
      refine AWP.unroll hE mixed 3 ?_
      by_cases k0 : (cat r.cells b).m0 = 0
      · have e : markF (cat r.cells b) m = setM (cat r.cells b) 0 m := by unfold markF setM; rw [if_pos k0]; rfl
        simp [and_assoc, halfSpec, ofSpec, rowckSpec, k0, rowV, e, g0, g1, s0, s1, p0, p1, i1, i2, hbl]
        exact ⟨by omega, by simp [rowC]⟩
      · by_cases k1 : (cat r.cells b).m1 = 0
        · have e : markF (cat r.cells b) m = setM (cat r.cells b) 1 m := by unfold markF setM; rw [if_neg k0, if_pos k1]; rfl
          simp [and_assoc, halfSpec, ofSpec, rowckSpec, k0, k1, rowV, e, g0, g1, s0, s1, p0, p1, i1, i2, hbl]
          exact ⟨by omega, by simp [rowC]⟩
        · have e := mark_same (cp := m) k0 k1
          simp [and_assoc, halfSpec, ofSpec, rowckSpec, k0, k1, rowV, e, set_cat hbl, g0, g1, s0, s1, p0, p1, i1, i2, hbl]
    · have hw1 := hw.1 hf
      simp [and_assoc, markSpec, halfSpec, ofSpec, rowckSpec, Tryd.f21, hr, q1, n1, n2, n4, h2, hal, hd, hf, hb, hw1, l1, l3, celV]
      refine AWP.unroll hE mixed 3 ?_
      by_cases k0 : (cat r.cells b).m0 = 0
      · have e : markF (cat r.cells b) m = setM (cat r.cells b) 0 m := by unfold markF setM; rw [if_pos k0]; rfl
        simp [and_assoc, halfSpec, ofSpec, rowckSpec, k0, rowV, e, g0, g1, s0, s1, p0, p1, i1, i2, hbl]
        exact ⟨by omega, by simp [rowC]⟩
      · by_cases k1 : (cat r.cells b).m1 = 0
        · have e : markF (cat r.cells b) m = setM (cat r.cells b) 1 m := by unfold markF setM; rw [if_neg k0, if_pos k1]; rfl
          simp [and_assoc, halfSpec, ofSpec, rowckSpec, k0, k1, rowV, e, g0, g1, s0, s1, p0, p1, i1, i2, hbl]
          exact ⟨by omega, by simp [rowC]⟩
        · have e := mark_same (cp := m) k0 k1
          simp [and_assoc, halfSpec, ofSpec, rowckSpec, k0, k1, rowV, e, set_cat hbl, g0, g1, s0, s1, p0, p1, i1, i2, hbl]
end Fen
