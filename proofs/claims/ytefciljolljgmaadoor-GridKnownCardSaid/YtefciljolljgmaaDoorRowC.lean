/- A part of the proof; no statement is proved here: GRowK, GRowL, GRowM, GRowN, GRowO, GRowP, GRowQ, GRowR. -/
import Derived.Test.YtefciljolljgmaaDoorRowB

set_option linter.unusedVariables false
set_option linter.unusedSimpArgs false

namespace Fen
open Go Go.Proofs

/-! ### valid rows, place by place -/
def cat (l : List Cel) (i : Nat) : Cel := l.getD i cel0
theorem cat_eq {l : List Cel} {i : Nat} (h : i < l.length) : cat l i = l[i] := by simp [cat, h]
theorem chain_at : ∀ (l : List Cel) (a : Cel), chainF a l = true → (∀ i, i < l.length → offF (cat (a :: l) i) (cat l i) = false) ∧ (cat (a :: l) l.length).wide ≠ 1
  | [], a, h => ⟨fun i hi => by simp at hi, by simpa [cat, chainF] using h⟩
  | c :: l, a, h => by
    simp only [chainF, Bool.and_eq_true, Bool.not_eq_true'] at h
    obtain ⟨k1, k2⟩ := chain_at l c h.2
    refine ⟨fun i hi => ?_, by simpa [cat] using k2⟩
    cases i with
    | zero => simpa [cat] using h.1
    | succ i => simpa [cat] using k1 i (by simpa using hi)
structure Val (l : List Cel) : Prop where
  up : ∀ i, i < l.length → (cat l i).wide = 1 → i + 1 < l.length ∧ (cat l (i + 1)).wide = 2
  down : ∀ i, i < l.length → (cat l i).wide = 2 → 1 ≤ i ∧ (cat l (i - 1)).wide = 1
  half : ∀ i, i < l.length → (halfF (cat l i) = true ↔ (cat l i).wide = 2)
  ok : ∀ i, i < l.length → cellF (cat l i) = 0
  sty : ∀ i, i < l.length → (cat l i).wide = 2 → (cat l i).st = (cat l (i - 1)).st
theorem row_len {r : Rw} (h : rowF r = 0) : 2 ≤ r.cells.length ∧ r.cells.length ≤ 80 ∧ chainF cel0 r.cells = true := by
  unfold rowF at h
  split at h
  · rename_i q; exact q
  · cases h
theorem chain_val {l : List Cel} (h : chainF cel0 l = true) : Val l := by
  obtain ⟨k1, k2⟩ := chain_at l cel0 h
  have p : ∀ i, 0 < i → cat (cel0 :: l) i = cat l (i - 1) := fun i hi => by
    obtain ⟨j, rfl⟩ : ∃ j, i = j + 1 := ⟨i - 1, by omega⟩
    simp [cat]
  have p0 : cat (cel0 :: l) 0 = cel0 := rfl
  have k3 := fun i hi => (offF_iff _ _).1 (k1 i hi)
  have iff : ∀ i, i < l.length → ((cat (cel0 :: l) i).wide = 1 ↔ (cat l i).wide = 2) := fun i hi => by
    have := (k3 i hi).2.1
    rw [Bool.eq_iff_iff] at this
    simpa using this
  refine ⟨fun i hi hw => ?_, fun i hi hw => ?_, fun i hi => ⟨fun q => ((halfF_iff _).1 q).2.2.2, fun hw => ?_⟩, fun i hi => (k3 i hi).1, fun i hi hw => ?_⟩
  · rcases Nat.lt_or_ge (i + 1) l.length with q | q
    · refine ⟨q, (iff (i + 1) q).1 ?_⟩
      rw [p _ (by omega)]; exact hw
    · refine absurd ?_ k2
      rw [show l.length = i + 1 by omega, p _ (by omega)]; simpa using hw
  · have q := (iff i hi).2 hw
    rcases Nat.eq_zero_or_pos i with h0 | h0
    · subst h0; rw [p0] at q; cases q
    · rw [p i h0] at q; exact ⟨h0, q⟩
  · have hc := (k3 i hi).1
    unfold cellF at hc
    split at hc
    · cases hc
    · split at hc
      · rename_i q
        rcases q with q | ⟨_, ⟨q, _⟩ | ⟨q, _⟩⟩
        · exact q
        · omega
        · omega
      · cases hc
  · have q := (iff i hi).2 hw
    rcases Nat.eq_zero_or_pos i with h0 | h0
    · subst h0; exact absurd q (by rw [p0]; decide)
    · have := (k3 i hi).2.2 q
      rw [p i h0] at this; exact this

/-! ### Erase -/
def nilR : Rw := ⟨[], false⟩
theorem nilR_C : rowC nilR = [.sl 0 [], .bool false] := rfl
def loF (l : List Cel) (a : Nat) : Nat := if halfF (cat l a) = true then a - 1 else a
def hiF (l : List Cel) (b : Nat) : Nat := if b < l.length ∧ halfF (cat l b) = true then b + 1 else b
def eraseRowF (r : Rw) (from_ to : Int) (s : Sty) : Rw × Int :=
  if rowF r ≠ 0 then (nilR, rowF r) else if from_ < 0 ∨ to < from_ ∨ (r.cells.length : Int) < to then (nilR, 2) else if styF s ≠ 0 then (nilR, styF s) else if from_ = to then (r, 0)
  else (⟨eraseF r.cells (loF r.cells from_.toNat) (hiF r.cells to.toNat) s, r.wrapped && decide (hiF r.cells to.toNat < r.cells.length)⟩, 0)
theorem lo_hi {l : List Cel} (h : Val l) {a b : Nat} (hab : a < b) (hb : b ≤ l.length) : loF l a ≤ a ∧ b ≤ hiF l b ∧ hiF l b ≤ l.length ∧ (halfF (cat l a) = true → 1 ≤ a) := by
  unfold loF hiF
  refine ⟨by split <;> omega, by split <;> omega, by split <;> omega, fun q => (h.down a (by omega) ((h.half a (by omega)).1 q)).1⟩
/-- which cells go -/
theorem erase_cond {l : List Cel} (h : Val l) {a b i : Nat} (hab : a < b) (hb : b ≤ l.length) (hi : i < l.length) :
    ((a ≤ i ∧ i < b) ∨ ((cat l i).wide = 1 ∧ a ≤ i + 1 ∧ i + 1 < b) ∨ ((cat l i).wide = 2 ∧ a + 1 ≤ i ∧ i < b + 1)) ↔ (loF l a ≤ i ∧ i < hiF l b) := by
  have ha : a < l.length := by omega
  have g := h.half a ha
  constructor
  · rintro (⟨q1, q2⟩ | ⟨q0, q1, q2⟩ | ⟨q0, q1, q2⟩)
    · obtain ⟨k1, k2, _⟩ := lo_hi h hab hb; omega
    · rcases Nat.lt_or_ge i a with c | c
      · obtain rfl : a = i + 1 := by omega
        have := (h.up i hi q0).2
        have hl : loF l (i + 1) = i := by unfold loF; rw [if_pos (g.2 this)]; omega
        obtain ⟨k1, k2, _⟩ := lo_hi h hab hb; omega
      · obtain ⟨k1, k2, _⟩ := lo_hi h hab hb; omega
    · rcases Nat.lt_or_ge i b with c | c
      · obtain ⟨k1, k2, _⟩ := lo_hi h hab hb; omega
      · obtain rfl : i = b := by omega
        have hh : hiF l i = i + 1 := by unfold hiF; rw [if_pos ⟨hi, (h.half i hi).2 q0⟩]
        obtain ⟨k1, k2, _⟩ := lo_hi h hab hb; omega
  · rintro ⟨q1, q2⟩
    rcases Nat.lt_or_ge i a with c | c
    · have hhalf : halfF (cat l a) = true := by
        cases q : halfF (cat l a) with
        | true => rfl
        | false => unfold loF at q1; rw [q] at q1; simp at q1; omega
      have hl : loF l a = a - 1 := by unfold loF; rw [if_pos hhalf]
      obtain ⟨d1, d2⟩ := h.down a ha (g.1 hhalf)
      have : i = a - 1 := by omega
      subst this
      exact .inr (.inl ⟨d2, by omega, by omega⟩)
    · rcases Nat.lt_or_ge i b with c2 | c2
      · exact .inl ⟨c, c2⟩
      · have hc : b < l.length ∧ halfF (cat l b) = true := by
          unfold hiF at q2
          split at q2
          · assumption
          · omega
        have hh : hiF l b = b + 1 := by unfold hiF; rw [if_pos hc]
        obtain rfl : i = b := by omega
        exact .inr (.inr ⟨(h.half i hi).1 hc.2, by omega, by omega⟩)
end Fen

namespace Fen
open Go Go.Proofs

@[simp] theorem row_set1' (r : Rw) (b : Bool) : List.take 1 (List.map X.val (rowC r)) ++ [X.val (.bool b)] = List.map X.val (rowC { r with wrapped := b }) := rfl
@[simp] theorem row_set1 (r : Rw) (b : Bool) : List.take 1 (List.map X.val (rowC r)) ++ X.val (.bool b) :: List.drop 2 (List.map X.val (rowC r)) = List.map X.val (rowC { r with wrapped := b }) := rfl

def eraseSpec : Spec := { pre := fun args => ∃ (r : Rw) (a b : Int) (s : Sty), args = [rowV r, .c (.int .i64 a), .c (.int .i64 b), styV s] ∧ r.ok ∧ s.ok, res := fun args => match args with
  | [.agg r, .c (.int _ a), .c (.int _ b), .agg s] => .many [.val (rowV (eraseRowF (rowOf r) a b (stOf s)).1), .val (.c (.int .i64 (eraseRowF (rowOf r) a b (stOf s)).2))]
  | _ => .many [] }
def G_erase : Specs := [(51, rowckSpec), (44, stySpec), (65, halfSpec), (66, chErSpec)]
@[simp] theorem G_erase_live : Specs.live G_erase = false := rfl
@[simp] theorem G_erase_51 : G_erase.find 51 = some rowckSpec := rfl
@[simp] theorem G_erase_44 : G_erase.find 44 = some stySpec := rfl
@[simp] theorem G_erase_65 : G_erase.find 65 = some halfSpec := rfl
@[simp] theorem G_erase_66 : G_erase.find 66 = some chErSpec := rfl
theorem G_erase_ok : SpecsOK Tryd.prog glW G_erase := .cons rowck_sound (.cons (sty_sound glW) (.cons (half_sound glW) (.cons (chEr_sound glW) (.nil _ _))))
set_option maxHeartbeats 2000000 in
set_option maxRecDepth 10000 in
theorem erase_sound : Sound Tryd.prog glW 48 eraseSpec := by
  refine sound_fn (N := Tryd.f48.ntmps) (rs := Tryd.f48.results.toList) mixed tok G_erase_ok Tryd.func48 rfl rfl rfl rfl rfl ?_ ?_ ?_
  · rintro args ⟨r,x,y,s,rfl,hr,hs⟩; simp [rowV,styV,rowOf_C,stOf_C, Tryd.f48]
  · rintro args ⟨r,x,y,s,rfl,hr,hs⟩; simp [rowV,styV,rowOf_C,stOf_C, eraseSpec, Tryd.f48]
  · rintro args ⟨r,x,y,s,rfl,hr,hs⟩ bs hgl hh hro
    have hE : Env.OK ⟨Tryd.prog, T, G_erase, bs⟩ := ⟨tok, by rw [hgl]; exact G_erase_ok⟩
    simp only [eraseSpec, rowV,styV,rowOf_C,stOf_C]
    unfold eraseRowF
    rcases Decidable.em (rowF r = 0) with h1 | h1
    rotate_left
    · simp [and_assoc, eraseSpec, chErSpec, halfSpec, rowckSpec, stySpec, Tryd.f48, hr, h1, nilR_C]
    by_cases h2 : x < 0
    · simp [and_assoc, eraseSpec, chErSpec, halfSpec, rowckSpec, stySpec, Tryd.f48, hr, h1, h2, nilR_C]
    by_cases h3 : y < x
    · simp [and_assoc, eraseSpec, chErSpec, halfSpec, rowckSpec, stySpec, Tryd.f48, hr, h1, h2, h3, nilR_C]
    by_cases h4 : (r.cells.length : Int) < y
    · simp [and_assoc, eraseSpec, chErSpec, halfSpec, rowckSpec, stySpec, Tryd.f48, hr, h1, h2, h3, h4, nilR_C]
    rcases Decidable.em (styF s = 0) with h5 | h5
    rotate_left
    · simp [and_assoc, eraseSpec, chErSpec, halfSpec, rowckSpec, stySpec, Tryd.f48, hr, hs, h1, h2, h3, h4, h5, nilR_C]
    by_cases h6 : x = y
    · subst h6
      simp [and_assoc, eraseSpec, chErSpec, halfSpec, rowckSpec, stySpec, Tryd.f48, hr, hs, h1, h2, h4, h5, nilR_C]
    obtain ⟨a, rfl⟩ : ∃ a : Nat, x = a := ⟨x.toNat, by omega⟩
    obtain ⟨b, rfl⟩ : ∃ b : Nat, y = b := ⟨y.toNat, by omega⟩
    obtain ⟨_, l80, hch⟩ := row_len h1
    have hv := chain_val hch
    have hab : a < b := by omega
    have hbl : b ≤ r.cells.length := by omega
    obtain ⟨k1, k2, k3, k4⟩ := lo_hi hv hab hbl
    have ha : a < r.cells.length := by omega
    have hd := celsC_at ha
    rw [← cat_eq ha] at hd
    have wa : halfF (cat r.cells a) = true → IntKind.i64.wrap ((a : Int) - 1) = ((a - 1 : Nat) : Int) := fun q => by have := k4 q; rw [wrap64 _ (by omega) (by omega)]; omega
    have wb : IntKind.i64.wrap ((b : Int) + 1) = ((b + 1 : Nat) : Int) := wrap64 _ (by omega) (by omega)
    have nab : ¬ (a : Int) = b := by omega
    have nab' : ¬ a = b := by omega
    rcases Nat.lt_or_ge b r.cells.length with hb | hb
    · have hdb := celsC_at hb
      rw [← cat_eq hb] at hdb
      have hb' : (b : Int) < r.cells.length := by omega
      cases qa : halfF (cat r.cells a) <;> cases qb : halfF (cat r.cells b)
      · have e1 : loF r.cells a = a := by unfold loF; rw [qa]; rfl
        have e2 : hiF r.cells b = b := by unfold hiF; rw [qb]; simp
        simp [and_assoc, eraseSpec, chErSpec, halfSpec, rowckSpec, stySpec, Tryd.f48, hr, hs, h1, h2, h3, h4, h5, nab, nab', hd, hdb, ha, hb, hb', qa, qb, e1, e2, styV, celV]
        exact ⟨a, rfl, b, rfl, by omega, by omega, by omega⟩
      · have e1 : loF r.cells a = a := by unfold loF; rw [qa]; rfl
        have e2 : hiF r.cells b = b + 1 := by unfold hiF; rw [if_pos ⟨hb, qb⟩]
        simp [and_assoc, eraseSpec, chErSpec, halfSpec, rowckSpec, stySpec, Tryd.f48, hr, hs, h1, h2, h3, h4, h5, nab, nab', hd, hdb, ha, hb, hb', qa, qb, e1, e2, wb, styV, celV]
        exact ⟨⟨a, rfl, b + 1, by simp, by omega, by omega, by omega⟩, by congr 1; rw [decide_eq_decide]; omega⟩
      · have e1 : loF r.cells a = a - 1 := by unfold loF; rw [if_pos qa]
        have e2 : hiF r.cells b = b := by unfold hiF; rw [qb]; simp
        simp [and_assoc, eraseSpec, chErSpec, halfSpec, rowckSpec, stySpec, Tryd.f48, hr, hs, h1, h2, h3, h4, h5, nab, nab', hd, hdb, ha, hb, hb', qa, qb, e1, e2, wa qa, styV, celV]
        exact ⟨a - 1, rfl, b, rfl, by omega, by omega, by omega⟩
      · have e1 : loF r.cells a = a - 1 := by unfold loF; rw [if_pos qa]
        have e2 : hiF r.cells b = b + 1 := by unfold hiF; rw [if_pos ⟨hb, qb⟩]
        simp [and_assoc, eraseSpec, chErSpec, halfSpec, rowckSpec, stySpec, Tryd.f48, hr, hs, h1, h2, h3, h4, h5, nab, nab', hd, hdb, ha, hb, hb', qa, qb, e1, e2, wa qa, wb, styV, celV]
        exact ⟨⟨a - 1, rfl, b + 1, by simp, by omega, by omega, by omega⟩, by congr 1; rw [decide_eq_decide]; omega⟩
    · have hb' : ¬ (b : Int) < r.cells.length := by omega
      have hbe : b = r.cells.length := by omega
      have e2 : hiF r.cells b = b := by unfold hiF; rw [if_neg (by omega)]
      cases qa : halfF (cat r.cells a)
      · have e1 : loF r.cells a = a := by unfold loF; rw [qa]; rfl
        simp [and_assoc, eraseSpec, chErSpec, halfSpec, rowckSpec, stySpec, Tryd.f48, hr, hs, h1, h2, h3, h4, h5, nab, nab', hd, ha, hb', qa, e1, e2, styV, celV]
        exact ⟨⟨a, rfl, b, rfl, by omega, by omega, by omega⟩, fun _ => by omega⟩
      · have e1 : loF r.cells a = a - 1 := by unfold loF; rw [if_pos qa]
        simp [and_assoc, eraseSpec, chErSpec, halfSpec, rowckSpec, stySpec, Tryd.f48, hr, hs, h1, h2, h3, h4, h5, nab, nab', hd, ha, hb', qa, e1, e2, wa qa, styV, celV]
        exact ⟨⟨a - 1, rfl, b, rfl, by omega, by omega, by omega⟩, fun _ => by omega⟩
end Fen

namespace Fen
open Go Go.Proofs

/-- is the cell at a place made blank -/
def goneB (l : List Cel) (a b i : Nat) : Bool := decide (loF l a ≤ i) && decide (i < hiF l b)
theorem erase_at {l : List Cel} {a b i : Nat} (s : Sty) (ha : a ≤ b) (hb : b ≤ l.length) (hi : i < l.length) : (eraseF l a b s)[i]? = some (if a ≤ i ∧ i < b then blankF s else cat l i) := by
  unfold eraseF
  rcases Nat.lt_or_ge i a with h | h
  · rw [if_neg (by omega), List.append_assoc, List.getElem?_append_left (by simp; omega), List.getElem?_take_of_lt h, List.getElem?_eq_getElem hi, cat_eq hi]
  · rcases Nat.lt_or_ge i b with h2 | h2
    · rw [if_pos ⟨h, h2⟩, List.append_assoc, List.getElem?_append_right (by simp; omega), List.getElem?_append_left (by simp; omega), List.getElem?_replicate, if_pos (by simp; omega)]
    · rw [if_neg (by omega), List.getElem?_append_right (by simp; omega), List.getElem?_drop, cat_eq hi, ← List.getElem?_eq_getElem hi]
      congr 1; simp; omega
theorem erase_next {l : List Cel} {a b i : Nat} (s : Sty) (ha : a ≤ b) (hb : b ≤ l.length) (hi : i < l.length) : (eraseF l a b s).take (i + 1) = (eraseF l a b s).take i ++ [if a ≤ i ∧ i < b then blankF s else cat l i] := by
  rw [List.take_add_one, erase_at s ha hb hi]; rfl

theorem celsC_get {l : List Cel} {i : Nat} (h : i < l.length) (j : Nat) (hj : j < 12) : (celsC l)[i * 12 + j]? = (celC (cat l i))[j]? := by
  rw [← List.getElem?_drop, celsC_at h, List.getElem?_append_left (by simpa using hj), cat_eq h]
@[simp] theorem maprow_tail (r : Rw) : (List.map X.val (rowC r)).tail = [.val (.bool r.wrapped)] := rfl
/-- the first rounds: is the last cell made blank -/
def re1S (r : Rw) (s : Sty) (a b : Int) (x : Nat × Bool) : St :=
  ⟨195, [(1, .val (.int .i64 a)), (2, .val (.int .i64 b)), (7, .ptr 0 0 0), (8, .ptr 1 0 0), (11, .ref 2 0), (12, .ptr 3 0 0), (13, .val (.int .i64 x.1))],
    [.box 32 ((styC s).map .val), .box 27 [.nil, .val (.bool false)], .sl 67 0 false 12 r.cells.length (celsC r.cells), .box 27 ((rowC ⟨r.cells, x.2⟩).map .val)]⟩
def re2S (r : Rw) (s : Sty) (a b : Int) (w : Bool) (L : List Cel) (i : Nat) : St :=
  ⟨195, [(1, .val (.int .i64 a)), (2, .val (.int .i64 b)), (7, .ptr 0 0 0), (8, .ptr 1 0 0), (11, .ref 2 0), (12, .ptr 3 0 0), (17, .val (.int .i64 i))],
    [.box 32 ((styC s).map .val), .box 27 [.nil, .val (.bool false)], .sl 67 0 false 12 r.cells.length (celsC r.cells), .box 27 [if i = 0 then .nil else .ref 4 0, .val (.bool w)]] ++ if i = 0 then [] else [.sl 67 0 true 12 i (celsC (L.take i))]⟩
def G_rerase : Specs := [(56, rowckSpec), (38, stySpec), (53, blankSpec)]
@[simp] theorem G_rerase_live : Specs.live G_rerase = false := rfl
@[simp] theorem G_rerase_56 : G_rerase.find 56 = some rowckSpec := rfl
@[simp] theorem G_rerase_38 : G_rerase.find 38 = some stySpec := rfl
@[simp] theorem G_rerase_53 : G_rerase.find 53 = some blankSpec := rfl
theorem G_rerase_ok (gl : Gl) : SpecsOK Tryd.prog gl G_rerase := .cons (rrowck_sound gl) (.cons (rsty_sound gl) (.cons (blank_sound gl) (.nil _ _)))
set_option maxHeartbeats 2000000 in
set_option maxRecDepth 10000 in
theorem rerase_sound (gl : Gl) : Sound Tryd.prog gl 50 eraseSpec := by
  refine sound_fn (N := Tryd.f50.ntmps) (rs := Tryd.f50.results.toList) mixed tok (G_rerase_ok gl) Tryd.func50 rfl rfl rfl rfl rfl ?_ ?_ ?_
  · rintro args ⟨r,x,y,s,rfl,hr,hs⟩; simp [rowV,styV,rowOf_C,stOf_C, Tryd.f50]
  · rintro args ⟨r,x,y,s,rfl,hr,hs⟩; simp [rowV,styV,rowOf_C,stOf_C, eraseSpec, Tryd.f50]
  · rintro args ⟨r,x,y,s,rfl,hr,hs⟩ bs hgl hh hro
    have hE : Env.OK ⟨Tryd.prog, T, G_rerase, bs⟩ := ⟨tok, by rw [hgl]; exact G_rerase_ok gl⟩
    simp only [eraseSpec, rowV,styV,rowOf_C,stOf_C]
    unfold eraseRowF
    rcases Decidable.em (rowF r = 0) with h1 | h1
    rotate_left
    · simp [and_assoc, eraseSpec, blankSpec, rowckSpec, stySpec, Tryd.f50, hr, h1, nilR_C]
    by_cases h2 : x < 0
    · simp [and_assoc, eraseSpec, blankSpec, rowckSpec, stySpec, Tryd.f50, hr, h1, h2, nilR_C]
    by_cases h3 : y < x
    · simp [and_assoc, eraseSpec, blankSpec, rowckSpec, stySpec, Tryd.f50, hr, h1, h2, h3, nilR_C]
    by_cases h4 : (r.cells.length : Int) < y
    · simp [and_assoc, eraseSpec, blankSpec, rowckSpec, stySpec, Tryd.f50, hr, h1, h2, h3, h4, nilR_C]
    rcases Decidable.em (styF s = 0) with h5 | h5
    rotate_left
    · simp [and_assoc, eraseSpec, blankSpec, rowckSpec, stySpec, Tryd.f50, hr, hs, h1, h2, h3, h4, h5, nilR_C]
    by_cases h6 : x = y
    · subst h6
      simp [and_assoc, eraseSpec, blankSpec, rowckSpec, stySpec, Tryd.f50, hr, hs, h1, h2, h4, h5, nilR_C]
    obtain ⟨a, rfl⟩ : ∃ a : Nat, x = a := ⟨x.toNat, by omega⟩
    obtain ⟨b, rfl⟩ : ∃ b : Nat, y = b := ⟨y.toNat, by omega⟩
    obtain ⟨l2, l80, hch⟩ := row_len h1
    have hv := chain_val hch
    have hab : a < b := by omega
    have hbl : b ≤ r.cells.length := by omega
    have nab : ¬ (a : Int) = b := by omega
    have nab' : ¬ a = b := by omega
    have lim : r.cells.length * 96 ≤ 140737488355328 := by omega
    have lim2 : r.cells.length ≤ 9223372036854775807 := by omega
    simp [and_assoc, eraseSpec, blankSpec, rowckSpec, stySpec, Tryd.f50, hr, hs, h1, h2, h3, h4, h5, nab, nab', lim, lim2, styV, celV]
    obtain ⟨k1, k2, k3, _⟩ := lo_hi hv hab hbl
    refine AWP.rounds (fun x => x.1 ≤ r.cells.length ∧ x.2 = if x.1 = r.cells.length ∧ hiF r.cells b = r.cells.length then false else r.wrapped) (re1S r s a b) (fun x => r.cells.length - x.1) (0, r.wrapped) ⟨by simp, by simp only; rw [if_neg (by omega)]⟩ ?_ ?_
    · refine Weak.ren [some 1, some 2, some 3, some 4] (baseOK.nil hh) (by simp) ?_ ?_
      · simp
      · simp
    · rintro ⟨i, w⟩ ⟨hi, hw⟩
      simp only at hi hw
      refine wpc_ok hE mixed _ _ _ ?_
      rcases Nat.lt_or_ge i r.cells.length with h | h
      · have w1 : IntKind.i64.wrap ((i : Int) + 1) = i + 1 := wrap64 _ (by omega) (by omega)
        have w2 : IntKind.i64.wrap ((i : Int) - 1) = i - 1 := wrap64 _ (by omega) (by omega)
        have w3 : IntKind.i64.wrap ((r.cells.length : Int) - 1) = r.cells.length - 1 := wrap64 _ (by omega) (by omega)
        have hd := celsC_at h
        rw [← cat_eq h] at hd
        have hcnd := erase_cond hv hab hbl h
        have h3 : (celsC r.cells)[i * 12 + 3]? = some (.int .i64 (cat r.cells i).wide) := celsC_get h 3 (by decide)
        have hp : 0 < r.cells.length * 12 - (i * 12 + 3) := by omega
        simp [re1S, hd, h, h3, hp, w1, w2, w3]
        refine ⟨by omega, by omega, fun q => ?_, fun q1 q2 q3 => ?_⟩
        · have hc := hcnd.1 (by omega)
          refine ⟨fun qe => ?_, fun qe => ?_⟩
          · refine Next.mk (i + 1, false) ⟨h, ?_⟩ (by simp only; omega) (Weak.keep ?_)
            · have g1 : i + 1 = r.cells.length := by omega
              have g2 : hiF r.cells b = r.cells.length := by omega
              simp [g1, g2]
            · simp [re1S]
          · refine Next.mk (i + 1, w) ⟨h, ?_⟩ (by simp only; omega) (Weak.keep ?_)
            · have g1 : ¬ i + 1 = r.cells.length := by omega
              rw [hw, if_neg (by omega)]
              simp [g1]
            · simp [re1S]
        · have hc : ¬ (loF r.cells a ≤ i ∧ i < hiF r.cells b) := fun k => by have := hcnd.2 k; omega
          refine Next.mk (i + 1, w) ⟨h, ?_⟩ (by simp only; omega) (Weak.keep ?_)
          · have g1 : ¬ (i + 1 = r.cells.length ∧ hiF r.cells b = r.cells.length) := by omega
            rw [hw, if_neg (by omega)]
            by_cases g2 : i + 1 = r.cells.length
            · have g3 : ¬ hiF r.cells b = r.cells.length := fun k => g1 ⟨g2, k⟩
              simp [g2, g3]
            · simp [g2]
          · simp [re1S]
      · obtain rfl : i = r.cells.length := by omega
        have hwF : w = (r.wrapped && decide (hiF r.cells b < r.cells.length)) := by
          rw [hw]
          by_cases q : hiF r.cells b = r.cells.length
          · rw [if_pos ⟨rfl, q⟩]; simp [q]
          · rw [if_neg (fun k => q k.2)]
            have : hiF r.cells b < r.cells.length := by omega
            simp [this]
        rw [← hwF]
        obtain ⟨L, hL⟩ : ∃ L, eraseF r.cells (loF r.cells a) (hiF r.cells b) s = L := ⟨_, rfl⟩
        have hLl : L.length = r.cells.length := by rw [← hL]; exact erase_len s (by omega) k3
        have hnx : ∀ i, i < r.cells.length → L.take (i + 1) = L.take i ++ [if loF r.cells a ≤ i ∧ i < hiF r.cells b then blankF s else cat r.cells i] := fun i q => by rw [← hL]; exact erase_next s (by omega) k3 q
        rw [hL]
        simp [re1S]
        refine AWP.rounds (fun i => i ≤ r.cells.length) (re2S r s a b w L) (fun i => r.cells.length - i) 0 (by simp) ?_ ?_
        · refine Weak.keep ?_
          simp [re2S]
        · intro i hi
          refine wpc_ok hE mixed _ _ _ ?_
          rcases Nat.lt_or_ge i r.cells.length with h | h
          · have w1 : IntKind.i64.wrap ((i : Int) + 1) = i + 1 := wrap64 _ (by omega) (by omega)
            have w2 : IntKind.i64.wrap ((i : Int) - 1) = i - 1 := wrap64 _ (by omega) (by omega)
            have hd := celsC_at h
            rw [← cat_eq h] at hd
            have hcnd := erase_cond hv hab hbl h
            have h3 : (celsC r.cells)[i * 12 + 3]? = some (.int .i64 (cat r.cells i).wide) := celsC_get h 3 (by decide)
            have hp : 0 < r.cells.length * 12 - (i * 12 + 3) := by omega
            have hn := hnx i h
            rcases Nat.eq_zero_or_pos i with h0 | h0
            · subst h0
              simp at hd h3 hp hcnd hn
              simp [re2S, and_assoc, blankSpec, rowckSpec, stySpec, styV, celV, hd, h, h3, hp, w1, w2]
              refine ⟨by omega, by omega, fun q => ⟨rfl, ?_⟩, fun q1 q2 q3 => ⟨rfl, ?_⟩⟩
              · have hc := hcnd.1 (by omega)
                rw [if_pos hc] at hn
                refine Next.mk 1 h (by omega) (Weak.ren [some 0, some 1, some 2, some 3, some 4] (baseOK.nil hh) (by simp) ?_ ?_)
                · simp [re2S, hn, hd, celsC_one]
                · simp [re2S]
              · have hc : ¬ (loF r.cells a = 0 ∧ 0 < hiF r.cells b) := fun k => by have := hcnd.2 k; omega
                rw [if_neg hc] at hn
                refine Next.mk 1 h (by omega) (Weak.ren [some 0, some 1, some 2, some 3, some 4] (baseOK.nil hh) (by simp) ?_ ?_)
                · simp [re2S, hn, hd, celsC_one]
                · simp [re2S]
            · have h0' : ¬ i = 0 := by omega
              have tl : (L.take i).length = i := by simp; omega
              simp [re2S, and_assoc, blankSpec, rowckSpec, stySpec, styV, celV, hd, h, h3, hp, w1, w2, h0']
              refine ⟨by omega, by omega, fun q => ⟨by omega, by omega, rfl, ?_⟩, fun q1 q2 q3 => ⟨by omega, by omega, rfl, ?_⟩⟩
              · have hc := hcnd.1 (by omega)
                rw [if_pos hc] at hn
                refine Next.mk (i + 1) h (by omega) (Weak.ren [some 0, some 1, some 2, some 3, some 4] (baseOK.nil hh) (by simp) ?_ ?_)
                · simp [re2S, hn, ← celsC_snoc]
                · simp [re2S]
              · have hc : ¬ (loF r.cells a ≤ i ∧ i < hiF r.cells b) := fun k => by have := hcnd.2 k; omega
                rw [if_neg hc] at hn
                refine Next.mk (i + 1) h (by omega) (Weak.ren [some 0, some 1, some 2, some 3, some 4] (baseOK.nil hh) (by simp) ?_ ?_)
                · simp [re2S, hn, ← celsC_snoc]
                · simp [re2S]
          · obtain rfl : i = r.cells.length := by omega
            have h0' : ¬ r.cells = [] := fun e => by rw [e] at l2; simp at l2
            have hLt : L.take r.cells.length = L := List.take_of_length_le (by omega)
            simp [re2S, h0', hLt, rowC, hLl]
            done
end Fen

namespace Fen
open Go Go.Proofs

/-! ### parting -/
def remF (c : Cel) : Cel := blankF ⟨0, 0, 0, 0, c.st.bk, c.st.bn, 0, 0⟩
def partF (l : List Cel) (at_ : Int) : List Cel :=
  if 0 < at_ ∧ at_ < l.length ∧ halfF (cat l at_.toNat) = true then (l.set (at_.toNat - 1) (remF (cat l (at_.toNat - 1)))).set at_.toNat (remF (cat l at_.toNat)) else l
@[simp] theorem part_len (l : List Cel) (x : Int) : (partF l x).length = l.length := by unfold partF; split <;> simp

@[simp] theorem backC (c : Cel) : List.take 4 (styC sty0) ++ (List.take 2 (List.drop 8 (celC c)) ++ [C.int .i64 sty0.lk, C.int .i64 sty0.ln]) = styC ⟨0, 0, 0, 0, c.st.bk, c.st.bn, 0, 0⟩ := rfl
def remSpec : Spec := { pre := fun args => ∃ c : Cel, args = [celV c], res := fun args => match args with
  | [.agg c] => .one (.val (celV (remF (celOf c))))
  | _ => .many [] }

def partedSpec : Spec := { pre := fun args => ∃ (l : List Cel) (x : Int), args = [celsV l, .c (.int .i64 x)] ∧ l.length ≤ 1000, res := fun args => match args with
  | [.c (.sl _ l), .c (.int _ x)] => .one (.own 67 true 12 (celsOf l).length (celsC (partF (celsOf l) x)))
  | _ => .many [] }

theorem backC2 (a b : Int) : List.take 4 (styC sty0) ++ [C.int .i64 a, C.int .i64 b, C.int .i64 sty0.lk, C.int .i64 sty0.ln] = styC ⟨0, 0, 0, 0, a, b, 0, 0⟩ := rfl
theorem cels_back {l : List Cel} {k : Nat} (h : k < l.length) : List.take 2 (List.drop (k * 12 + 4 + 4) (celsC l)) = [C.int .i64 (cat l k).st.bk, C.int .i64 (cat l k).st.bn] := by
  rw [show k * 12 + 4 + 4 = k * 12 + 8 by omega, ← List.drop_drop, celsC_at h, cat_eq h]; rfl
theorem cat_set_ne {l : List Cel} {i j : Nat} (c : Cel) (h : i ≠ j) : cat (l.set i c) j = cat l j := by
  unfold cat
  rw [List.getD_eq_getElem?_getD, List.getD_eq_getElem?_getD, List.getElem?_set_ne h]
def partHS : HS := { wr := true, eff := fun xs h => match xs with
  | [.ref id v, .ex sz n [.int q1 x, .int q2 y]] =>
    ((∃ l : List Cel, h[id]? = some (.sl 67 v true 12 l.length (celsC l)) ∧ sz = 1 ∧ n = 2 ∧ q1 = .i64 ∧ q2 = .i64 ∧ l.length ≤ 1000), .tup [],
      match h[id]? with | some (.sl ty v' p sz n cs) => h.set id (.sl ty v' p sz n (celsC (partF (partF (celsOf cs) x) y))) | _ => h)
  | _ => (False, .dead, h) }
def partL (l : List Cel) (x y : Int) (i : Nat) : List Cel := if i = 0 then l else if i = 1 then partF l x else partF (partF l x) y
def partS (id v : Nat) (l : List Cel) (x y : Int) (h : List Blk) (i : Nat) : St :=
  ⟨52, [(0, .ref id v), (6, .ex 1 2 [.int .i64 x, .int .i64 y]), (7, .val (.int .i64 2)), (8, .val (.int .i64 i))], h.set id (.sl 67 v true 12 l.length (celsC (partL l x y i)))⟩
end Fen

namespace Fen
open Go Go.Proofs

/-! ### Put -/
def putF (l : List Cel) (k : Nat) (c : Cel) : List Cel :=
  if c.wide = 1 then ((partF (partF l k) (k + 1 + c.wide)).set k c).set (k + 1) (secondF c.st) else (partF (partF l k) (k + 1 + c.wide)).set k c
theorem put_len (l : List Cel) (k : Nat) (c : Cel) : (putF l k c).length = l.length := by unfold putF; split <;> simp
def put1HS : HS := { wr := true, eff := fun xs h => match xs with
  | [.ref id v, .fptr [.int q a], .fptr c] =>
    ((∃ (l : List Cel) (d : Cel) (a' : Nat), h[id]? = some (.sl 67 v true 12 l.length (celsC l)) ∧ c = celC d ∧ a = a' ∧ q = .i64 ∧ a' < l.length ∧ l.length ≤ 1000 ∧ 0 ≤ d.wide ∧ d.wide ≤ 1 ∧ (d.wide = 1 → a' + 1 < l.length)), .tup [],
      match h[id]? with | some (.sl ty v' p sz n cs) => h.set id (.sl ty v' p sz n (celsC (putF (celsOf cs) a.toNat (celOf c)))) | _ => h)
  | _ => (False, .dead, h) }

def chPutSpec : Spec := { pre := fun args => ∃ (r : Rw) (a : Nat) (d : Cel), args = [rowV r, .c (.fn 999999 [.ptr [.int .i64 a], .ptr (celC d)])] ∧ a < r.cells.length ∧ r.cells.length ≤ 1000 ∧ 0 ≤ d.wide ∧ d.wide ≤ 1 ∧ (d.wide = 1 → a + 1 < r.cells.length), res := fun args => match args with
  | [.agg r, .c (.fn _ [.ptr [.int _ a], .ptr c])] => .one (.val (rowV ⟨putF (rowOf r).cells a.toNat (celOf c), (rowOf r).wrapped⟩))
  | _ => .many [] }
def putRowF (r : Rw) (col : Int) (c : Cel) : Rw × Int :=
  if wrongF r col ≠ 0 then (nilR, wrongF r col) else if halfF c = true ∨ cellF c ≠ 0 then (nilR, 221) else if c.wide = 1 ∧ col = r.cells.length - 1 then (nilR, 2) else (⟨putF r.cells col.toNat c, r.wrapped⟩, 0)
def putSpec : Spec := { pre := fun args => ∃ (r : Rw) (col : Int) (c : Cel), args = [rowV r, .c (.int .i64 col), celV c] ∧ r.ok ∧ c.ok, res := fun args => match args with
  | [.agg r, .c (.int _ a), .agg c] => .many [.val (rowV (putRowF (rowOf r) a (celOf c)).1), .val (.c (.int .i64 (putRowF (rowOf r) a (celOf c)).2))]
  | _ => .many [] }
theorem cell_wide {c : Cel} (h : cellF c = 0) (h2 : ¬ halfF c = true) : c.wide = 0 ∨ c.wide = 1 := by
  unfold cellF at h
  split at h
  · cases h
  · split at h
    · rename_i q
      rcases q with q | ⟨_, ⟨q, _⟩ | ⟨q, _⟩⟩
      · exact absurd q h2
      · exact .inl q
      · exact .inr q
    · cases h
theorem wrong_ok {r : Rw} {x : Int} (h : wrongF r x = 0) : rowF r = 0 ∧ 0 ≤ x ∧ x < r.cells.length := by
  unfold wrongF at h
  split at h
  · rename_i q; exact absurd h q
  · split at h
    · cases h
    · rename_i q1 q2; exact ⟨by omega, by omega, by omega⟩
end Fen

namespace Fen
open Go Go.Proofs


/-! ### Mark -/
def markF (c : Cel) (cp : Int) : Cel := if c.m0 = 0 then { c with m0 := cp } else if c.m1 = 0 then { c with m1 := cp } else c
/-- a mark's place among a cell's two -/
def setM (c : Cel) (k : Nat) (cp : Int) : Cel := if k = 0 then { c with m0 := cp } else { c with m1 := cp }
def mark1HS : HS := { wr := true, eff := fun xs h => match xs with
  | [.ref id v, .fptr [.int q1 m], .fptr [.int q2 a], .fptr [.int q3 k]] =>
    ((∃ (l : List Cel) (a' k' : Nat), h[id]? = some (.sl 67 v true 12 l.length (celsC l)) ∧ a = a' ∧ k = k' ∧ q1 = .i64 ∧ q2 = .i64 ∧ q3 = .i64 ∧ a' < l.length ∧ k' < 2 ∧ l.length ≤ 1000), .tup [],
      match h[id]? with | some (.sl ty v' p sz n cs) => h.set id (.sl ty v' p sz n (celsC ((celsOf cs).set a.toNat (setM (cat (celsOf cs) a.toNat) k.toNat m)))) | _ => h)
  | _ => (False, .dead, h) }
theorem cels_mark {l : List Cel} {a k : Nat} (m : Int) (h : a < l.length) (hk : k < 2) : List.take (a * 12 + 1 + k) (celsC l) ++ C.int .i64 m :: List.drop (a * 12 + 1 + k + 1) (celsC l) = celsC (l.set a (setM (cat l a) k m)) := by
  have hd := celsC_at h
  rw [← cat_eq h] at hd
  rw [← celsC_set h, List.take_add (l := celsC l) (i := a * 12 + 1) (j := k), List.take_add (l := celsC l) (i := a * 12) (j := 1)]
  have e1 : List.drop (a * 12 + 1) (celsC l) = List.drop 1 (List.drop (a * 12) (celsC l)) := by rw [List.drop_drop]
  have e2 : List.drop (a * 12 + 1 + k + 1) (celsC l) = List.drop (1 + k + 1) (List.drop (a * 12) (celsC l)) := by rw [List.drop_drop]; congr 1; omega
  have e3 : List.drop (a * 12 + 12) (celsC l) = List.drop 12 (List.drop (a * 12) (celsC l)) := by rw [List.drop_drop]
  rw [e1, e2, e3, hd, List.append_assoc, List.append_assoc]
  congr 1
  obtain rfl | rfl : k = 0 ∨ k = 1 := by omega
  · rfl
  · rfl
end Fen

namespace Fen
open Go Go.Proofs

/-! ### Mark -/
def chMarkSpec : Spec := { pre := fun args => ∃ (r : Rw) (m : Int) (a k : Nat), args = [rowV r, .c (.fn 999999 [.ptr [.int .i64 m], .ptr [.int .i64 a], .ptr [.int .i64 k]])] ∧ a < r.cells.length ∧ k < 2 ∧ r.cells.length ≤ 1000, res := fun args => match args with
  | [.agg r, .c (.fn _ [.ptr [.int _ m], .ptr [.int _ a], .ptr [.int _ k]])] => .one (.val (rowV ⟨(rowOf r).cells.set a.toNat (setM (cat (rowOf r).cells a.toNat) k.toNat m), (rowOf r).wrapped⟩))
  | _ => .many [] }

def idxF (a b : Int) (x : Int) : Int := if a = x then 0 else if b = x then 1 else -1
def idxSpec : Spec := { pre := fun args => ∃ a b x : Int, args = [.c (.sl 2 [.int .i64 a, .int .i64 b]), .c (.int .i64 x)], res := fun args => match args with
  | [.c (.sl _ [.int _ a, .int _ b]), .c (.int _ x)] => .one (.val (.c (.int .i64 (idxF a b x))))
  | _ => .many [] }

theorem OpW.arr2 {P : Program} {T : TT} {bs : Base} {ops : Array Oper} {dst : Option Tmp} {ty : TypeId} {pos : String} {af : Array Edge} {st : St} {K : St → Prop} (hT : TOK P T) {t n e : Nat} {ti ei : TI} (ht : T t = some ti) (hk : ti.k = .array n e) (he : T e = some ei)
    {x : Operand} {cs : List C} (hx : evO bs.gl st.r x = .fptr cs) (cs' : List C) (hc : cs.take (n * ei.size) = cs') (hl : n * ei.size ≤ cs.length) (hn : n ≤ maxLen) (hd : dstOK st.n dst) (hK : K (st.put dst (.val (.sl n cs')) st.h)) :
    OpW P bs ops ⟨dst, .slice t x none none none, ty, pos, af, none⟩ st K := by
  subst hc
  refine OpW.at rfl hd (.val (.sl n (cs.take (n * ei.size)))) (fun g a w R => ?_) hK
  have hv := R.ev x
  rw [hx] at hv
  simp only [RelX] at hv
  obtain ⟨b, o, vs, hv, hS, hr⟩ := hv
  obtain ⟨d, i, z, hdd, hi, hf, _⟩ := hT.get ht
  rw [hk] at hf
  simp only [TK.fits] at hf
  subst hf
  refine ⟨.slice (some ⟨b, o, none⟩) n n, ?_, ?_⟩
  · simp [execOp, Instr.sliceAt, run_underlying hdd, hv, Instr.sureAddr, Instr.sliceBounds, hT.sizeOf he]
    intro _; rfl
  · simp only [RelX, RepV]
    refine .inr ⟨b, o, n, vs.take (n * ei.size), rfl, Nat.le_refl _, hn, fun j u hj => hS j u ?_, hr.take _⟩
    rw [List.getElem?_take] at hj
    split at hj
    · exact hj
    · cases hj

def markRowF (r : Rw) (col cp : Int) : Rw × Int :=
  if wrongF r col ≠ 0 then (nilR, wrongF r col) else if widthF cp ≠ 0 then (nilR, 2) else
  (⟨r.cells.set (loF r.cells col.toNat) (markF (cat r.cells (loF r.cells col.toNat)) cp), r.wrapped⟩, 0)
def markSpec : Spec := { pre := fun args => ∃ (r : Rw) (col cp : Int), args = [rowV r, .c (.int .i64 col), .c (.int .i64 cp)] ∧ r.ok, res := fun args => match args with
  | [.agg r, .c (.int _ a), .c (.int _ m)] => .many [.val (rowV (markRowF (rowOf r) a m).1), .val (.c (.int .i64 (markRowF (rowOf r) a m).2))]
  | _ => .many [] }
theorem mark_same {c : Cel} {cp : Int} (h0 : ¬ c.m0 = 0) (h1 : ¬ c.m1 = 0) : markF c cp = c := by unfold markF; rw [if_neg h0, if_neg h1]
theorem set_cat {l : List Cel} {i : Nat} (h : i < l.length) : l.set i (cat l i) = l := by rw [cat_eq h, List.set_getElem_self]
end Fen

namespace Fen
open Go Go.Proofs

end Fen
