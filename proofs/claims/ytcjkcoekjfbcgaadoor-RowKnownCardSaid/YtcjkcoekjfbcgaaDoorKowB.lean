/- A part of the proof; no statement is proved here: RPastA, RRowC, RRowD, RRowE, RRowF, RRowG, RRowH, RRowI, RRowJ. -/
import Derived.Test.YtcjkcoekjfbcgaaDoorKowA

set_option linter.unusedVariables false
set_option linter.unusedSimpArgs false

namespace Fen
open Go

/-! ### rows, histories: what the program and the reference say of them -/
def sty0 : Sty := ⟨0, 0, 0, 0, 0, 0, 0, 0⟩
def cel0 : Cel := ⟨0, 0, 0, 0, sty0⟩
def blankF (s : Sty) : Cel := ⟨32, 0, 0, 0, s⟩
def secondF (s : Sty) : Cel := ⟨0, 0, 0, 2, s⟩

/-- is the next cell wrong, behind that one -/
def offF (last c : Cel) : Bool := decide (cellF c ≠ 0) || (decide (last.wide = 1) != decide (c.wide = 2)) || (decide (c.wide = 2) && decide (c.st ≠ last.st))
def chainF (last : Cel) : List Cel → Bool
  | [] => decide (last.wide ≠ 1)
  | c :: l => !offF last c && chainF c l
def rowF (r : Rw) : Int := if 2 ≤ r.cells.length ∧ r.cells.length ≤ 80 ∧ chainF cel0 r.cells = true then 0 else 220

def okRows (cols : Int) (p : List Rw) : Bool := p.all fun r => decide ((r.cells.length : Int) = cols) && decide (rowF r = 0)
def pastF (cols : Int) (p : List Rw) : Int := if cols < 2 ∨ 80 < cols then 2 else if p.length ≤ 100 ∧ okRows cols p = true then 0 else 280
def bothF (cols : Int) (a b : List Rw) : Int := if pastF cols a ≠ 0 then pastF cols a else pastF cols b
def joinF (p w : List Rw) : List Rw := (p ++ w).drop ((p ++ w).length - 100)
def pushF (cols : Int) (p w : List Rw) : List Rw × Int := if bothF cols p w ≠ 0 then ([], bothF cols p w) else (joinF p w, 0)
def popF (cols : Int) (p : List Rw) (n : Int) : List Rw × List Rw × Int :=
  if pastF cols p ≠ 0 then ([], [], pastF cols p) else if n < 0 then ([], [], 2) else (p.take (p.length - n.toNat), p.drop (p.length - n.toNat), 0)
def viewF (cols : Int) (p rows : List Rw) (off : Int) : List Rw × Int :=
  if bothF cols p rows ≠ 0 then ([], bothF cols p rows) else if off < 0 then ([], 2) else (((p ++ rows).drop (p.length - off.toNat)).take rows.length, 0)

theorem cellF_or (c : Cel) : cellF c = 0 ∨ cellF c = 221 := by unfold cellF; (repeat' split) <;> simp
theorem rowF_or (r : Rw) : rowF r = 0 ∨ rowF r = 220 := by unfold rowF; split <;> simp
theorem pastF_or (cols : Int) (p : List Rw) : pastF cols p = 0 ∨ pastF cols p = 2 ∨ pastF cols p = 280 := by unfold pastF; (repeat' split) <;> simp

/-! ### rows out of small numbers -/
def styleF (b : Int) : Sty :=
  if b % 8 = 0 then sty0 else if b % 8 = 1 then sty0 else if b % 8 = 2 then ⟨1, 0, 0, 0, 0, 0, 0, 0⟩ else if b % 8 = 3 then ⟨0, 0, 0, 0, 1, 4, 0, 0⟩
  else if b % 8 = 4 then ⟨17, 0, 2, 1056816, 0, 0, 0, 0⟩ else if b % 8 = 5 then ⟨0, 3, 0, 0, 0, 0, 1, 200⟩ else if b % 8 = 6 then ⟨2, 0, 0, 0, 2, 16777215, 0, 0⟩ else ⟨255, 5, 0, 0, 0, 0, 0, 0⟩
def codeF (b : Int) : Int :=
  if b % 8 = 0 then 32 else if b % 8 = 1 then 97 else if b % 8 = 2 then 122 else if b % 8 = 3 then 233
  else if b % 8 = 4 then 20013 else if b % 8 = 5 then 128512 else if b % 8 = 6 then 65533 else 69
def marksF (b : Int) : Int × Int := if b / 8 % 8 = 5 then (768, 8400) else if b / 8 % 4 = 1 then (769, 0) else (0, 0)
def signF (b s : Int) : Cel := ⟨codeF b, (marksF b).1, (marksF b).2, widthF (codeF b) - 1, styleF s⟩
/-- the sign that comes next in a row of so many cells -/
def nextF (cols : Nat) (B : List Int) (n : Nat) : Cel :=
  match B with
  | [] => blankF sty0
  | b :: _ => if (signF b (b / 32)).wide = 1 ∧ n + 1 = cols then blankF (signF b (b / 32)).st else signF b (b / 32)
def drawF (cols : Nat) : Nat → List Int → List Cel → List Cel
  | 0, _, l => l
  | k + 1, B, l =>
    if l.length < cols then
      drawF cols k (B.drop 1) (if (nextF cols B l.length).wide = 1 then l ++ [nextF cols B l.length, secondF (nextF cols B l.length).st] else l ++ [nextF cols B l.length])
    else l
/-- a draft's row: cols, B, wrapped -/
def draftF (c : Int) (B : List Int) (w : Bool) : Rw := ⟨drawF (2 + c.toNat % 79) 80 B [], w⟩

def lettersF (cols : Int) (l : List Int) : List Rw := l.map fun b => draftF (cols - 2) [b] (decide (b % 3 = 0))

/-! ### validity -/
theorem styF_style (b : Int) : styF (styleF b) = 0 := by
  unfold styleF
  (repeat' split) <;> rfl
theorem widthF_code (b : Int) : widthF (codeF b) = 1 ∨ widthF (codeF b) = 2 := by
  unfold codeF
  (repeat' split) <;> first | (left; decide +kernel) | (right; decide +kernel)
theorem markedF_marks (b : Int) : markedF (marksF b).1 (marksF b).2 = true := by
  unfold marksF
  (repeat' split) <;> decide +kernel
theorem cellF_sign (b s : Int) : cellF (signF b s) = 0 := by
  have h1 : styF (signF b s).st = 0 := styF_style s
  have h2 := widthF_code b
  have h3 : markedF (signF b s).m0 (signF b s).m1 = true := markedF_marks b
  unfold cellF
  rw [if_neg (by simpa using h1), if_pos]
  refine .inr ⟨h3, ?_⟩
  rcases h2 with h | h
  · exact .inl ⟨by simp [signF, h], by simp [signF, h]⟩
  · exact .inr ⟨by simp [signF, h], by simp [signF, h]⟩
theorem wide_sign (b s : Int) : (signF b s).wide = 0 ∨ (signF b s).wide = 1 := by
  rcases widthF_code b with h | h <;> simp [signF, h]
theorem cellF_blank {s : Sty} (h : styF s = 0) : cellF (blankF s) = 0 := by
  have h3 : markedF 0 0 = true := by decide +kernel
  have h4 : widthF 32 = 1 := by decide +kernel
  unfold cellF
  rw [if_neg (by simpa [blankF] using h), if_pos]
  exact .inr ⟨h3, .inl ⟨rfl, h4⟩⟩
theorem cellF_second {s : Sty} (h : styF s = 0) : cellF (secondF s) = 0 := by
  unfold cellF
  rw [if_neg (by simpa [secondF] using h), if_pos]
  exact .inl ((halfF_iff _).2 ⟨rfl, rfl, rfl, rfl⟩)
theorem next_ok (cols : Nat) (B : List Int) (n : Nat) : cellF (nextF cols B n) = 0 ∧ styF (nextF cols B n).st = 0 ∧ ((nextF cols B n).wide = 0 ∨ ((nextF cols B n).wide = 1 ∧ n + 1 ≠ cols)) := by
  unfold nextF
  split
  · exact ⟨cellF_blank rfl, rfl, .inl rfl⟩
  · rename_i b _
    have hs : styF (signF b (b / 32)).st = 0 := styF_style _
    split
    · exact ⟨cellF_blank hs, hs, .inl rfl⟩
    · rename_i h
      refine ⟨cellF_sign _ _, hs, ?_⟩
      rcases wide_sign b (b / 32) with q | q
      · exact .inl q
      · exact .inr ⟨q, fun e => h ⟨q, e⟩⟩

/-- how far it goes: the last cell, if all went well -/
def linkF (last : Cel) : List Cel → Option Cel
  | [] => some last
  | c :: l => if offF last c = true then none else linkF c l
theorem chain_link : ∀ (l : List Cel) (a : Cel), chainF a l = match linkF a l with | some q => decide (q.wide ≠ 1) | none => false
  | [], a => rfl
  | c :: l, a => by
    cases h : offF a c
    · simp only [chainF, linkF, h, Bool.not_false, Bool.true_and, Bool.false_eq_true, if_false]; exact chain_link l c
    · simp [chainF, linkF, h]
theorem link_app : ∀ (l m : List Cel) (a q : Cel), linkF a l = some q → linkF a (l ++ m) = linkF q m
  | [], m, a, q, h => by simp only [linkF, Option.some.injEq] at h; subst h; rfl
  | c :: l, m, a, q, h => by
    simp only [linkF, List.cons_append] at h ⊢
    split at h
    · cases h
    · rename_i h1; rw [if_neg h1]; exact link_app l m c q h
theorem draw_ok (cols : Nat) : ∀ (k : Nat) (B : List Int) (l : List Cel), (∃ q, linkF cel0 l = some q ∧ q.wide ≠ 1) → l.length ≤ cols → cols ≤ l.length + k →
    (drawF cols k B l).length = cols ∧ chainF cel0 (drawF cols k B l) = true
  | 0, B, l, ⟨q, h1, h2⟩, h3, h4 => ⟨by simp only [drawF]; omega, by simp only [drawF]; rw [chain_link, h1]; simpa using h2⟩
  | k + 1, B, l, ⟨q, h1, h2⟩, h3, h4 => by
    unfold drawF
    split
    · rename_i hlt
      obtain ⟨c1, c2, c3⟩ := next_ok cols B l.length
      generalize nextF cols B l.length = c at *
      have hoff : c.wide ≠ 2 → offF q c = false := fun h => by simp [offF, c1, h2, h]
      rcases c3 with c3 | ⟨c3, c4⟩
      · rw [if_neg (by omega)]
        refine draw_ok cols k _ _ ⟨c, ?_, by omega⟩ (by simp; omega) (by simp; omega)
        rw [link_app l [c] _ _ h1]
        simp [linkF, hoff (by omega)]
      · rw [if_pos c3]
        refine draw_ok cols k _ _ ⟨secondF c.st, ?_, by simp [secondF]⟩ (by simp; omega) (by simp; omega)
        rw [link_app l _ _ _ h1]
        have h5 : offF c (secondF c.st) = false := by simp only [offF, cellF_second c2, c3]; simp [secondF]
        simp [linkF, hoff (by omega), h5]
    · exact ⟨by omega, by rw [chain_link, h1]; simpa using h2⟩
theorem draft_len (c : Int) (B : List Int) (w : Bool) : (draftF c B w).cells.length = 2 + c.toNat % 79 :=
  (draw_ok _ 80 B [] ⟨cel0, rfl, by decide⟩ (by simp) (by simp; omega)).1
theorem draft_ok (c : Int) (B : List Int) (w : Bool) : rowF (draftF c B w) = 0 := by
  have h := draw_ok (2 + c.toNat % 79) 80 B [] ⟨cel0, rfl, by decide⟩ (by simp) (by simp; omega)
  unfold rowF
  rw [if_pos]
  refine ⟨?_, ?_, h.2⟩
  · rw [draft_len]; omega
  · rw [draft_len]; omega
theorem letters_len (cols : Int) (l : List Int) : (lettersF cols l).length = l.length := by simp [lettersF]
theorem letters_ok {cols : Int} (h : 2 ≤ cols ∧ cols ≤ 80) (l : List Int) : okRows cols (lettersF cols l) = true := by
  simp only [okRows, lettersF, List.all_map, List.all_eq_true, Function.comp_apply]
  intro b _
  simp only [draft_len, draft_ok, decide_true, Bool.and_true, decide_eq_true_eq]
  omega

theorem okRows_app (cols : Int) (a b : List Rw) : okRows cols (a ++ b) = (okRows cols a && okRows cols b) := by simp [okRows]
theorem okRows_drop {cols : Int} {a : List Rw} (h : okRows cols a = true) (k : Nat) : okRows cols (a.drop k) = true := by
  simp only [okRows, List.all_eq_true] at h ⊢
  exact fun r hr => h r (List.mem_of_mem_drop hr)
theorem okRows_take {cols : Int} {a : List Rw} (h : okRows cols a = true) (k : Nat) : okRows cols (a.take k) = true := by
  simp only [okRows, List.all_eq_true] at h ⊢
  exact fun r hr => h r (List.mem_of_mem_take hr)
theorem pastF_ok {cols : Int} {p : List Rw} (h : 2 ≤ cols ∧ cols ≤ 80) (hl : p.length ≤ 100) (hp : okRows cols p = true) : pastF cols p = 0 := by
  unfold pastF; rw [if_neg (by omega), if_pos ⟨hl, hp⟩]
theorem joinF_len (p w : List Rw) : (joinF p w).length = min (p.length + w.length) 100 := by simp [joinF]; omega
theorem joinF_nil (p : List Rw) (h : p.length ≤ 100) : joinF p [] = p := by simp [joinF, h]
theorem drop_le {α : Type} (l m : List α) (k : Nat) (h : l.length ≤ k) : (l ++ m).drop k = m.drop (k - l.length) := by
  rw [List.drop_append, List.drop_of_length_le h, List.nil_append]
theorem joinF_assoc (p a b : List Rw) : joinF (joinF p a) b = joinF p (a ++ b) := by
  unfold joinF
  rw [← List.append_assoc, List.length_append, List.length_drop, List.length_append (bs := b)]
  generalize p ++ a = q
  rcases Nat.le_total q.length 100 with h | h
  · rw [show q.length - 100 = 0 by omega, List.drop_zero]; congr 1
  · have e : List.drop (q.length - 100) q ++ b = List.drop (q.length - 100) (q ++ b) := by rw [List.drop_append_of_le_length (by omega)]
    rw [e, List.drop_drop]; congr 1; omega
end Fen

namespace Fen
open Go Go.Proofs

@[simp] theorem mapcel_d12 (c : Cel) : List.drop 12 (List.map X.val (celC c)) = [] := rfl
@[simp] theorem maprow_d2 (r : Rw) : List.drop 2 (List.map X.val (rowC r)) = [] := rfl
@[simp] theorem mapsty_d8 (s : Sty) : List.drop 8 (List.map X.val (styC s)) = [] := rfl

@[simp] theorem renXs_map {h h' : List Blk} {ids : List (Option Nat)} : ∀ l : List C, renXs h h' ids (l.map X.val) (l.map X.val) = True
  | [] => by simp
  | c :: l => by simp [renXs_map l]
@[simp] theorem cel_set3 (c : Cel) (n : Int) : List.take 3 (List.map X.val (celC c)) ++ X.val (.int .i64 n) :: List.drop 4 (List.map X.val (celC c)) = List.map X.val (celC { c with wide := n }) := rfl
@[simp] theorem cel_set1 (c : Cel) (n : Int) : List.take 1 (List.map X.val (celC c)) ++ X.val (.int .i64 n) :: List.drop 2 (List.map X.val (celC c)) = List.map X.val (celC { c with m0 := n }) := rfl
@[simp] theorem cel_set2 (c : Cel) (n : Int) : List.take 2 (List.map X.val (celC c)) ++ X.val (.int .i64 n) :: List.drop 3 (List.map X.val (celC c)) = List.map X.val (celC { c with m1 := n }) := rfl
@[simp] theorem cel_set12 (c : Cel) (n m : Int) : List.take 1 (List.map X.val (celC c)) ++ X.val (.int .i64 n) :: X.val (.int .i64 m) :: List.drop 3 (List.map X.val (celC c)) = List.map X.val (celC { c with m0 := n, m1 := m }) := rfl
@[simp] theorem cel_set0 (c : Cel) (n : Int) : X.val (.int .i64 n) :: List.drop 1 (List.map X.val (celC c)) = List.map X.val (celC { c with base := n }) := rfl
@[simp] theorem cel_setst (c : Cel) (s : Sty) : List.take 4 (List.map X.val (celC c)) ++ List.map X.val (styC s) = List.map X.val (celC { c with st := s }) := rfl
@[simp] theorem sty_zero : [C.int .i64 0, .int .i64 0, .int .i64 0, .int .i64 0, .int .i64 0, .int .i64 0, .int .i64 0, .int .i64 0] = styC sty0 := rfl
@[simp] theorem cel_zero : [C.int .i64 0, .int .i64 0, .int .i64 0, .int .i64 0, .int .i64 0, .int .i64 0, .int .i64 0, .int .i64 0, .int .i64 0, .int .i64 0, .int .i64 0, .int .i64 0] = celC cel0 := rfl
@[simp] theorem cel_zero' (a b c d : Int) : [C.int .i64 a, .int .i64 b, .int .i64 c, .int .i64 d, .int .i64 0, .int .i64 0, .int .i64 0, .int .i64 0, .int .i64 0, .int .i64 0, .int .i64 0, .int .i64 0] = celC ⟨a, b, c, d, sty0⟩ := rfl
@[simp] theorem cel_d12 (c : Cel) : (celC c).drop 12 = [] := rfl
@[simp] theorem sty_d8 (s : Sty) : (styC s).drop 8 = [] := rfl
@[simp] theorem row_d2 (r : Rw) : (rowC r).drop 2 = [] := rfl
@[simp] theorem cel_t1 (c : Cel) : (celC c).take 1 = [.int .i64 c.base] := rfl
@[simp] theorem cel_t2 (c : Cel) : (celC c).take 2 = [.int .i64 c.base, .int .i64 c.m0] := rfl
@[simp] theorem cel_t3 (c : Cel) : (celC c).take 3 = [.int .i64 c.base, .int .i64 c.m0, .int .i64 c.m1] := rfl
@[simp] theorem cel_t4 (c : Cel) : (celC c).take 4 = [.int .i64 c.base, .int .i64 c.m0, .int .i64 c.m1, .int .i64 c.wide] := rfl
theorem offF_iff (last c : Cel) : offF last c = false ↔ cellF c = 0 ∧ (last.wide == 1) = (c.wide == 2) ∧ (last.wide = 1 → c.st = last.st) := by
  unfold offF
  rcases Decidable.em (cellF c = 0) with h1 | h1 <;> rcases Decidable.em (last.wide = 1) with h2 | h2 <;> rcases Decidable.em (c.wide = 2) with h3 | h3 <;> simp [h1, h2, h3]
  rw [beq_eq_false_iff_ne.2 h2, beq_eq_false_iff_ne.2 h3]
theorem offF_true (last c : Cel) : offF last c = true ↔ ¬ (cellF c = 0 ∧ (last.wide == 1) = (c.wide == 2) ∧ (last.wide = 1 → c.st = last.st)) := by
  rw [← offF_iff]; simp

def Rw.ok (r : Rw) : Prop := ∀ c ∈ r.cells, c.ok
def rowckSpec : Spec := { pre := fun args => ∃ r : Rw, args = [rowV r] ∧ r.ok, res := fun args => .one (.val (.c (.int .i64 (rowF (rowOf (args.headD default).cs))))) }
def rowckS (cs : List Cel) (x : Nat × Cel) : St :=
  ⟨52, [(4, .ptr 0 0 0), (17, .val (.sl cs.length (celsC cs))), (18, .val (.int .i64 cs.length)), (19, .val (.int .i64 x.1))], [.box 34 ((celC x.2).map .val)]⟩

def G_rowck : Specs := [(33, cellSpec)]
@[simp] theorem G_rowck_live : Specs.live G_rowck = false := rfl
@[simp] theorem G_rowck_nils : Specs.nils G_rowck = false := rfl
@[simp] theorem G_rowck_froz : Specs.froz G_rowck = false := rfl
@[simp] theorem G_rowck_33 : G_rowck.find 33 = some cellSpec := rfl
theorem G_rowck_ok : SpecsOK Tryd.prog glW G_rowck := .cons cell_sound (.nil _ _)
set_option maxRecDepth 10000 in
theorem rowck_sound : Sound Tryd.prog glW 29 rowckSpec := by
  refine sound_fn (N := Tryd.f29.ntmps) (rs := Tryd.f29.results.toList) mixed tok G_rowck_ok Tryd.func29 rfl rfl rfl rfl rfl ?_ ?_ ?_
  · rintro args ⟨r,rfl,hr⟩; simp [Tryd.f29]
  · rintro args ⟨r,rfl,hr⟩; simp [rowckSpec, Tryd.f29]
  · rintro args ⟨r,rfl,hr⟩ bs hgl hh hro
    have hE : Env.OK ⟨Tryd.prog, T, G_rowck, bs⟩ := ⟨tok, by rw [hgl]; exact G_rowck_ok⟩
    obtain ⟨cs, w⟩ := r
    simp only [rowckSpec, List.headD_cons, V.cs_row, rowOf_C]
    unfold rowF
    by_cases h2 : (cs.length : Int) < 2
    · rw [if_neg (by simp only; omega)]
      simp [rowckSpec, cellSpec, Tryd.f29, rowV, rowC, h2]
    by_cases h80 : 80 < (cs.length : Int)
    · rw [if_neg (by simp only; omega)]
      simp [rowckSpec, cellSpec, Tryd.f29, rowV, rowC, h2, h80]
    simp [rowckSpec, cellSpec, Tryd.f29, rowV, rowC, h2, h80]
    refine AWP.rounds (fun x => x.1 ≤ cs.length ∧ chainF cel0 cs = chainF x.2 (cs.drop x.1)) (rowckS cs) (fun x => cs.length - x.1) (0, cel0) ⟨by simp, by simp⟩ ?_ ?_
    · refine Weak.ren [some 1] (baseOK.nil hh) (by simp) (by simp [-sty_zero, -cel_zero, -cel_zero', rowckS, cel0, celC, styC, sty0]) ?_
      simp [rowckS]
    · rintro ⟨k, last⟩ ⟨hk, hc⟩
      refine wpc_ok hE mixed _ _ _ ?_
      simp only at hk hc
      rcases Nat.lt_or_ge k cs.length with h | h
      · have w1 : IntKind.i64.wrap ((k : Int) + 1) = k + 1 := wrap64 _ (by omega) (by omega)
        have hd := celsC_at h
        have hok : (cs[k]).ok := hr _ (List.getElem_mem h)
        rw [List.drop_eq_getElem_cons h] at hc
        generalize cs[k] = c at *
        simp [rowckS, cellSpec, hd, w1, h, hok]
        refine ⟨fun a b => ⟨⟨a, b⟩, fun d => ⟨⟨a, b⟩, d⟩⟩, fun hbad _ _ => ?_, fun h1 h3 h4 => ?_⟩
        · rw [hc]
          have : offF last c = true := by
            simp only [offF, Bool.or_eq_true, decide_eq_true_eq, Bool.and_eq_true, bne_iff_ne, ne_eq]
            rcases hbad with (q | q) | q
            · exact .inl (.inl q)
            · refine .inl (.inr fun e => q ?_)
              rw [Bool.eq_iff_iff]; simpa using e
            · exact .inr q
          simp [chainF, this]
        · have : offF last c = false := by
            rw [Bool.eq_iff_iff] at h3
            simp only [beq_iff_eq] at h3
            simp [offF, h1, h3]
            exact h4
          refine Next.mk (k + 1, c) ⟨by omega, by rw [hc]; simp [chainF, this]⟩ (by simp only; omega) (Weak.ren [some 0] (baseOK.nil hh) (by simp) (by simp [rowckS]) (by simp [rowckS]))
      · have : k = cs.length := by omega
        subst this
        have hc : chainF cel0 cs = decide (last.wide ≠ 1) := by rw [hc]; simp [chainF]
        simp [rowckS, cellSpec]
        have q1 : 2 ≤ cs.length := by omega
        have q2 : cs.length ≤ 80 := by omega
        simp [q1, q2, hc]
end Fen

namespace Fen
open Go Go.Proofs

theorem rowF_eq {cs : List Cel} {w : Bool} (h2 : ¬ (cs.length : Int) < 2) (h80 : ¬ 80 < (cs.length : Int)) : rowF ⟨cs, w⟩ = if chainF cel0 cs = true then 0 else 220 := by
  unfold rowF
  by_cases h : chainF cel0 cs = true
  · rw [if_pos h, if_pos ⟨by simp only; omega, by simp only; omega, h⟩]
  · rw [if_neg h, if_neg (fun q => h q.2.2)]
theorem rowF_out {cs : List Cel} {w : Bool} (h : (cs.length : Int) < 2 ∨ 80 < (cs.length : Int)) : rowF ⟨cs, w⟩ = 220 := by
  unfold rowF
  rw [if_neg (by simp only; omega)]

def rrckS (cs : List Cel) (k : Nat) : St := ⟨79, [(3, .val (.sl cs.length (celsC cs))), (4, .val (.int .i64 k))], []⟩

def G_rrowck : Specs := [(38, cellSpec)]
@[simp] theorem G_rrowck_live : Specs.live G_rrowck = false := rfl
@[simp] theorem G_rrowck_nils : Specs.nils G_rrowck = false := rfl
@[simp] theorem G_rrowck_froz : Specs.froz G_rrowck = false := rfl
@[simp] theorem G_rrowck_38 : G_rrowck.find 38 = some cellSpec := rfl
theorem G_rrowck_ok (gl : Gl) : SpecsOK Tryd.prog gl G_rrowck := .cons (rcell_sound gl) (.nil _ _)
set_option maxRecDepth 10000 in
theorem rrowck_sound (gl : Gl) : Sound Tryd.prog gl 36 rowckSpec := by
  refine sound_fn (N := Tryd.f36.ntmps) (rs := Tryd.f36.results.toList) mixed tok (G_rrowck_ok gl) Tryd.func36 rfl rfl rfl rfl rfl ?_ ?_ ?_
  · rintro args ⟨r,rfl,hr⟩; simp [Tryd.f36]
  · rintro args ⟨r,rfl,hr⟩; simp [rowckSpec, Tryd.f36]
  · rintro args ⟨r,rfl,hr⟩ bs hgl hh hro
    have hE : Env.OK ⟨Tryd.prog, T, G_rrowck, bs⟩ := ⟨tok, by rw [hgl]; exact G_rrowck_ok gl⟩
    obtain ⟨cs, w⟩ := r
    simp only [rowckSpec, List.headD_cons, V.cs_row, rowOf_C]
    by_cases h2 : (cs.length : Int) < 2
    · rw [rowF_out (.inl h2)]
      simp [rowckSpec, cellSpec, Tryd.f36, rowV, rowC, h2]
    by_cases h80 : 80 < (cs.length : Int)
    · rw [rowF_out (.inr h80)]
      simp [rowckSpec, cellSpec, Tryd.f36, rowV, rowC, h2, h80]
    rw [rowF_eq h2 h80]
    simp [rowckSpec, cellSpec, Tryd.f36, rowV, rowC, h2, h80]
    refine AWP.rounds (fun k => k ≤ cs.length ∧ ∃ last, (k = 0 → last = cel0) ∧ (∀ j, k = j + 1 → cs[j]? = some last) ∧ chainF cel0 cs = chainF last (cs.drop k) ∧ (k = cs.length → last.wide ≠ 1)) (rrckS cs) (fun k => cs.length - k) 0 ⟨by simp, cel0, by simp, by simp, by simp, fun _ => by decide⟩ ?_ ?_
    · refine Weak.ren [] (baseOK.nil hh) (by simp) (by simp) ?_
      simp [rrckS]
    · rintro k ⟨hk, last, l0, l1, hc, hend⟩
      refine wpc_ok hE mixed _ _ _ ?_
      rcases Nat.lt_or_ge k cs.length with h | h
      · have w1 : IntKind.i64.wrap ((k : Int) + 1) = k + 1 := wrap64 _ (by omega) (by omega)
        have w2 : IntKind.i64.wrap ((cs.length : Int) - 1) = cs.length - 1 := wrap64 _ (by omega) (by omega)
        have hd := celsC_at h
        have hok : (cs[k]).ok := hr _ (List.getElem_mem h)
        have hnext : cs[k]? = some cs[k] := List.getElem?_eq_getElem h
        rw [List.drop_eq_getElem_cons h] at hc
        generalize cs[k] = c at *
        have fin : ∀ st, Weak bs st (rrckS cs (k + 1)) → offF last c = false → ¬ (c.wide = 1 ∧ k + 1 = cs.length) → Next bs (fun k => k ≤ cs.length ∧ ∃ last, (k = 0 → last = cel0) ∧ (∀ j, k = j + 1 → cs[j]? = some last) ∧ chainF cel0 cs = chainF last (cs.drop k) ∧ (k = cs.length → last.wide ≠ 1)) (rrckS cs) (fun k => cs.length - k) k st := fun st hw e1 e2 =>
          Next.mk (k + 1) ⟨by omega, c, by omega, fun j hj => Nat.succ.inj hj ▸ hnext, by rw [hc]; simp [chainF, e1], fun e3 e4 => e2 ⟨e4, e3⟩⟩ (by omega) hw
        have bad1 : offF last c = true → chainF cel0 cs = false := fun q => by rw [hc]; simp [chainF, q]
        have bad2 : k + 1 = cs.length → c.wide = 1 → chainF cel0 cs = false := fun q q2 => by rw [hc]; simp [chainF, q, q2]
        cases k with
        | zero =>
          obtain rfl := l0 rfl
          have e1 : ¬ (0 : Int) = (cs.length : Int) - 1 := by omega
          have e2 : cel0.wide = 0 := rfl
          simp [rrckS, cellSpec, hd, w1, w2, h, hok, e1]
          repeat' (first | (refine And.intro ?_ ?_) | (intro _))
          all_goals first | rfl | omega | (refine bad1 ?_; simp_all [offF]; done) | (refine fin _ (Weak.keep (by simp [rrckS])) (by simp_all [offF]) (fun q => by omega))
        | succ j =>
          have hj : j < cs.length := by omega
          have hdj := celsC_at hj
          have w3 : IntKind.i64.wrap (j : Int) = j := wrap64 _ (by omega) (by omega)
          have hl := l1 j rfl
          rw [List.getElem?_eq_getElem hj] at hl
          rw [Option.some.inj hl] at hdj
          have e1 : (j : Int) + 1 < cs.length := by omega
          have e3 : (0 : Int) ≤ (j : Int) + 1 := by omega
          have w4 : IntKind.i64.wrap ((j : Int) + 1 + 1) = j + 1 + 1 := wrap64 _ (by omega) (by omega)
          simp [rrckS, cellSpec, hd, hdj, w1, w2, w3, w4, h, hok, hj, e1, e3]
          repeat' (first | (refine And.intro ?_ ?_) | (intro _))
          all_goals first | rfl | omega | assumption | exact Decidable.not_or_of_imp ‹_› | (refine bad1 ((offF_true _ _).2 ?_); rintro ⟨q, _⟩; exact absurd q ‹_›) | skip
          · rename_i a0 a1
            rcases a1 with (q | ⟨q, q2⟩) | ⟨q, q2⟩
            · exact bad1 ((offF_true _ _).2 fun k => q k.2.1)
            · exact bad1 ((offF_true _ _).2 fun k => q2 (k.2.2 q))
            · exact bad2 (by omega) q
          · rename_i a0 a1 a2 a3
            exact fin _ (Weak.keep (by simp [rrckS])) ((offF_iff _ _).2 ⟨a0, a1, a2⟩) (fun q => a3 q.1 (by omega))
      · have : k = cs.length := by omega
        subst this
        have hc : chainF cel0 cs = true := by rw [hc]; simp [chainF, hend rfl]
        simp [rrckS, cellSpec, hc]

def sameSpec : Spec := { pre := fun args => ∃ a b : Rw, args = [rowV a, rowV b] ∧ a.cells.length ≤ 1000, res := fun args => match args with
  | [.agg a, .agg b] => .one (.val (.c (.bool (decide (rowOf a = rowOf b)))))
  | _ => .many [] }
def sameS (a b : Rw) (k : Nat) : St := ⟨38, [(2, .ptr 0 0 0), (3, .ptr 1 0 0), (5, .val (.int .i64 k))], [.box 27 ((rowC a).map .val), .box 27 ((rowC b).map .val)]⟩
def G_same : Specs := []
@[simp] theorem G_same_live : Specs.live G_same = false := rfl
@[simp] theorem G_same_nils : Specs.nils G_same = false := rfl
@[simp] theorem G_same_froz : Specs.froz G_same = false := rfl
theorem G_same_ok (gl : Gl) : SpecsOK Tryd.prog gl G_same := .nil _ _
set_option maxRecDepth 10000 in
theorem same_sound (gl : Gl) : Sound Tryd.prog gl 30 sameSpec := by
  refine sound_fn (N := Tryd.f30.ntmps) (rs := Tryd.f30.results.toList) mixed tok (G_same_ok gl) Tryd.func30 rfl rfl rfl rfl rfl ?_ ?_ ?_
  · rintro args ⟨a,b,rfl,ha⟩; simp [rowV, Tryd.f30]
  · rintro args ⟨a,b,rfl,ha⟩; simp [rowV, sameSpec, Tryd.f30]
  · rintro args ⟨a,b,rfl,ha⟩ bs hgl hh hro
    have hE : Env.OK ⟨Tryd.prog, T, G_same, bs⟩ := ⟨tok, by rw [hgl]; exact G_same_ok gl⟩
    simp only [sameSpec, rowV]
    rcases Decidable.em (a.cells.length = b.cells.length) with h1 | h1
    rotate_left
    · have e : decide (a = b) = false := by simp; rintro rfl; exact h1 rfl
      have h1' : ¬ (a.cells.length : Int) = b.cells.length := by omega
      simp [sameSpec, Tryd.f30, rowV, h1', e]
    rcases Decidable.em (a.wrapped = b.wrapped) with h2 | h2
    rotate_left
    · have e : decide (a = b) = false := by simp; rintro rfl; exact h2 rfl
      simp [sameSpec, Tryd.f30, rowV, h1, h2, e]
      done
    simp [sameSpec, Tryd.f30, rowV, h1, h2]
    refine AWP.rounds (fun k => k ≤ a.cells.length ∧ a.cells.take k = b.cells.take k) (sameS a b) (fun k => a.cells.length - k) 0 ⟨by simp, by simp⟩ ?_ ?_
    · refine Weak.keep ?_
      simp [sameS]
    · rintro k ⟨hk, hc⟩
      refine wpc_ok hE mixed _ _ _ ?_
      rcases Nat.lt_or_ge k a.cells.length with h | h
      · have w1 : IntKind.i64.wrap ((k : Int) + 1) = k + 1 := wrap64 _ (by omega) (by omega)
        have hb : k < b.cells.length := by omega
        have hd := celsC_at h
        have hdb := celsC_at hb
        have ht := List.take_add_one (l := a.cells) (i := k)
        have htb := List.take_add_one (l := b.cells) (i := k)
        rw [List.getElem?_eq_getElem h] at ht
        rw [List.getElem?_eq_getElem hb] at htb
        have hne : ¬ a.cells[k] = b.cells[k] → ¬ a = b := fun q e => by subst e; exact q rfl
        generalize a.cells[k] = x at *
        generalize b.cells[k] = y at *
        simp [sameS, hd, hdb, w1, h, hb]
        refine ⟨rfl, hne, fun e => Next.mk (k + 1) ⟨h, by rw [ht, htb, hc, e]⟩ (by omega) (Weak.keep (by simp [sameS]))⟩
      · have : k = a.cells.length := by omega
        subst this
        have e : a = b := by
          rw [List.take_length, h1, List.take_length] at hc
          cases a; cases b; simp_all
        subst e
        simp [sameS]
end Fen

namespace Fen
open Go Go.Proofs

def RowsOK (p : List Rw) : Prop := ∀ r ∈ p, r.ok

def blankSpec : Spec := { pre := fun args => ∃ s : Sty, args = [styV s], res := fun args => .one (.val (celV (blankF (stOf (args.headD default).cs)))) }
def G_blank : Specs := []
@[simp] theorem G_blank_live : Specs.live G_blank = false := rfl
@[simp] theorem G_blank_nils : Specs.nils G_blank = false := rfl
@[simp] theorem G_blank_froz : Specs.froz G_blank = false := rfl
theorem G_blank_ok (gl : Gl) : SpecsOK Tryd.prog gl G_blank := .nil _ _
set_option maxRecDepth 10000 in
theorem blank_sound (gl : Gl) : Sound Tryd.prog gl 42 blankSpec := by
  refine sound_fn (N := Tryd.f42.ntmps) (rs := Tryd.f42.results.toList) mixed tok (G_blank_ok gl) Tryd.func42 rfl rfl rfl rfl rfl ?_ ?_ ?_
  · rintro args ⟨s,rfl⟩; simp [Tryd.f42]
  · rintro args ⟨s,rfl⟩; simp [blankSpec, Tryd.f42]
  · rintro args ⟨s,rfl⟩ bs hgl hh hro
    have hE : Env.OK ⟨Tryd.prog, T, G_blank, bs⟩ := ⟨tok, by rw [hgl]; exact G_blank_ok gl⟩
    simp [blankSpec, Tryd.f42, blankF]
    done
def codeSpec : Spec := { pre := fun args => ∃ b : Int, args = [.c (.int .u8 b)] ∧ 0 ≤ b ∧ b < 256, res := fun args => .one (.val (.c (.int .i64 (codeF (args.headD default).int)))) }
def G_code : Specs := []
@[simp] theorem G_code_live : Specs.live G_code = false := rfl
@[simp] theorem G_code_nils : Specs.nils G_code = false := rfl
@[simp] theorem G_code_froz : Specs.froz G_code = false := rfl
theorem G_code_ok (gl : Gl) : SpecsOK Tryd.prog gl G_code := .nil _ _
set_option maxRecDepth 10000 in
theorem code_sound (gl : Gl) : Sound Tryd.prog gl 46 codeSpec := by
  refine sound_fn (N := Tryd.f46.ntmps) (rs := Tryd.f46.results.toList) mixed tok (G_code_ok gl) Tryd.func46 rfl rfl rfl rfl rfl ?_ ?_ ?_
  · rintro args ⟨b,rfl,h0,h1⟩; simp [Tryd.f46]
  · rintro args ⟨b,rfl,h0,h1⟩; simp [codeSpec, Tryd.f46]
  · rintro args ⟨b,rfl,h0,h1⟩ bs hgl hh hro
    have hE : Env.OK ⟨Tryd.prog, T, G_code, bs⟩ := ⟨tok, by rw [hgl]; exact G_code_ok gl⟩
    unfold codeSpec codeF
    obtain h | h | h | h | h | h | h | h : b % 8 = 0 ∨ b % 8 = 1 ∨ b % 8 = 2 ∨ b % 8 = 3 ∨ b % 8 = 4 ∨ b % 8 = 5 ∨ b % 8 = 6 ∨ b % 8 = 7 := by omega
    all_goals
      have e : b.tmod 8 = _ := (Int.tmod_eq_emod_of_nonneg h0).trans h
      simp [Tryd.f46, e, h]
def styleSpec : Spec := { pre := fun args => ∃ b : Int, args = [.c (.int .u8 b)] ∧ 0 ≤ b ∧ b < 256, res := fun args => .one (.val (styV (styleF (args.headD default).int))) }
def G_style : Specs := []
@[simp] theorem G_style_live : Specs.live G_style = false := rfl
@[simp] theorem G_style_nils : Specs.nils G_style = false := rfl
@[simp] theorem G_style_froz : Specs.froz G_style = false := rfl
theorem G_style_ok (gl : Gl) : SpecsOK Tryd.prog gl G_style := .nil _ _
set_option maxRecDepth 10000 in
theorem style_sound (gl : Gl) : Sound Tryd.prog gl 22 styleSpec := by
  refine sound_fn (N := Tryd.f22.ntmps) (rs := Tryd.f22.results.toList) mixed tok (G_style_ok gl) Tryd.func22 rfl rfl rfl rfl rfl ?_ ?_ ?_
  · rintro args ⟨b,rfl,h0,h1⟩; simp [Tryd.f22]
  · rintro args ⟨b,rfl,h0,h1⟩; simp [styleSpec, Tryd.f22]
  · rintro args ⟨b,rfl,h0,h1⟩ bs hgl hh hro
    have hE : Env.OK ⟨Tryd.prog, T, G_style, bs⟩ := ⟨tok, by rw [hgl]; exact G_style_ok gl⟩
    unfold styleSpec styleF
    obtain h | h | h | h | h | h | h | h : b % 8 = 0 ∨ b % 8 = 1 ∨ b % 8 = 2 ∨ b % 8 = 3 ∨ b % 8 = 4 ∨ b % 8 = 5 ∨ b % 8 = 6 ∨ b % 8 = 7 := by omega
    all_goals
      have e : b.tmod 8 = _ := (Int.tmod_eq_emod_of_nonneg h0).trans h
      simp [-sty_zero, -cel_zero, -cel_zero', Tryd.f22, e, h, styC, sty0]
end Fen

namespace Fen
open Go Go.Proofs

def signSpec : Spec := { pre := fun args => ∃ b s : Int, args = [.c (.int .u8 b), .c (.int .u8 s)] ∧ 0 ≤ b ∧ b < 256 ∧ 0 ≤ s ∧ s < 256, res := fun args => match args with
  | [.c (.int _ b), .c (.int _ s)] => .one (.val (celV (signF b s)))
  | _ => .many [] }
def G_sign : Specs := [(46, codeSpec), (22, styleSpec), (47, ofSpec)]
@[simp] theorem G_sign_live : Specs.live G_sign = false := rfl
@[simp] theorem G_sign_nils : Specs.nils G_sign = false := rfl
@[simp] theorem G_sign_froz : Specs.froz G_sign = false := rfl
@[simp] theorem G_sign_46 : G_sign.find 46 = some codeSpec := rfl
@[simp] theorem G_sign_22 : G_sign.find 22 = some styleSpec := rfl
@[simp] theorem G_sign_47 : G_sign.find 47 = some ofSpec := rfl
theorem G_sign_ok (gl : Gl) : SpecsOK Tryd.prog gl G_sign := .cons (code_sound gl) (.cons (style_sound gl) (.cons (rof_sound gl) (.nil _ _)))
set_option maxRecDepth 10000 in
theorem sign_sound (gl : Gl) : Sound Tryd.prog gl 14 signSpec := by
  refine sound_fn (N := Tryd.f14.ntmps) (rs := Tryd.f14.results.toList) mixed tok (G_sign_ok gl) Tryd.func14 rfl rfl rfl rfl rfl ?_ ?_ ?_
  · rintro args ⟨b,s,rfl,h0,h1,h2,h3⟩; simp [V.int_c, Tryd.f14]
  · rintro args ⟨b,s,rfl,h0,h1,h2,h3⟩; simp [V.int_c, signSpec, Tryd.f14]
  · rintro args ⟨b,s,rfl,h0,h1,h2,h3⟩ bs hgl hh hro
    have hE : Env.OK ⟨Tryd.prog, T, G_sign, bs⟩ := ⟨tok, by rw [hgl]; exact G_sign_ok gl⟩
    simp only [signSpec, V.int_c]
    have w1 : IntKind.u8.wrap (b.tdiv 8) = b / 8 := by rw [Int.tdiv_eq_ediv_of_nonneg h0]; exact wrap8 _ (by omega) (by omega)
    have e4 : (b / 8).tmod 4 = b / 8 % 4 := Int.tmod_eq_emod_of_nonneg (by omega)
    have e8 : (b / 8).tmod 8 = b / 8 % 8 := Int.tmod_eq_emod_of_nonneg (by omega)
    have w2 : IntKind.i64.wrap (widthF (codeF b) - 1) = widthF (codeF b) - 1 := by
      rcases widthF_code b with h | h <;> rw [h] <;> rfl
    by_cases c5 : b / 8 % 8 = 5
    · have c1 : b / 8 % 4 = 1 := by omega
      simp [and_assoc, signSpec, codeSpec, ofSpec, styleSpec, Tryd.f14, h0, h1, h2, h3, w1, w2, e4, e8, c1, c5, signF, marksF, styV, celV]
    · by_cases c1 : b / 8 % 4 = 1
      · simp [and_assoc, signSpec, codeSpec, ofSpec, styleSpec, Tryd.f14, h0, h1, h2, h3, w1, w2, e4, e8, c1, c5, signF, marksF, styV, celV]
      · simp [and_assoc, signSpec, codeSpec, ofSpec, styleSpec, Tryd.f14, h0, h1, h2, h3, w1, w2, e4, e8, c1, c5, signF, marksF, styV, celV]

def draftSpec : Spec := { pre := fun args => ∃ (c : Int) (B : List Int) (w : Bool), args = [.agg [.int .u8 c, .sl B.length (ints .u8 B), .bool w]] ∧ 0 ≤ c ∧ c < 256 ∧ Bytes B, res := fun args => match args with
  | [.agg [.int _ c, .sl _ B, .bool w]] => .one (.val (rowV (draftF c (B.map toI) w)))
  | _ => .many [] }
def draftS (cols : Nat) (c : Int) (B : List Int) (w : Bool) (x : Nat × List Cel) : St :=
  ⟨67, [(1, .ptr 0 0 0), (2, .ptr 1 0 0), (3, .val (.int .i64 cols)), (4, if x.2 = [] then .nil else .ref 2 0), (5, .val (.int .i64 x.1))],
    if x.2 = [] then [.box 24 [.val (.int .u8 c), .val (.sl B.length (ints .u8 B)), .val (.bool w)], .box 27 [.nil, .val (.bool false)]]
    else [.box 24 [.val (.int .u8 c), .val (.sl B.length (ints .u8 B)), .val (.bool w)], .box 27 [.nil, .val (.bool false)], .sl 34 0 true 12 x.2.length (celsC x.2)]⟩
theorem celsC_one (c : Cel) : celsC [c] = celC c := by simp [celsC]
theorem celsC_ca (a : Cel) (l m : List Cel) : celsC (a :: (l ++ m)) = celsC (a :: l) ++ celsC m := celsC_app (a :: l) m
theorem celsC_snoc (l : List Cel) (c : Cel) : celsC l ++ celC c = celsC (l ++ [c]) := by rw [celsC_app, celsC_one]
theorem celsC_two (c d : Cel) : celC c ++ celC d = celsC [c, d] := by simp [celsC]
theorem celsC_cons (c : Cel) (l : List Cel) : celC c ++ celsC l = celsC (c :: l) := rfl
theorem blankF_eq (s : Sty) : blankF s = ⟨32, 0, 0, 0, s⟩ := rfl
theorem secondF_eq (s : Sty) : secondF s = ⟨0, 0, 0, 2, s⟩ := rfl
theorem drawF_step {cols i : Nat} {B : List Int} {l : List Cel} (h : l.length < cols) (hi : i < 80) : drawF cols (80 - i) (B.drop i) l =
    drawF cols (80 - (i + 1)) (B.drop (i + 1)) (if (nextF cols (B.drop i) l.length).wide = 1 then l ++ [nextF cols (B.drop i) l.length, secondF (nextF cols (B.drop i) l.length).st] else l ++ [nextF cols (B.drop i) l.length]) := by
  rw [show 80 - i = (80 - (i + 1)) + 1 by omega, drawF, if_pos h, List.drop_drop]
theorem drawF_end {cols k : Nat} {B : List Int} {l : List Cel} (h : ¬ l.length < cols) : drawF cols k B l = l := by
  cases k with
  | zero => rfl
  | succ k => rw [drawF, if_neg h]
def G_draft : Specs := [(42, blankSpec), (14, signSpec)]
@[simp] theorem G_draft_live : Specs.live G_draft = false := rfl
@[simp] theorem G_draft_nils : Specs.nils G_draft = false := rfl
@[simp] theorem G_draft_froz : Specs.froz G_draft = false := rfl
@[simp] theorem G_draft_42 : G_draft.find 42 = some blankSpec := rfl
@[simp] theorem G_draft_14 : G_draft.find 14 = some signSpec := rfl
theorem G_draft_ok (gl : Gl) : SpecsOK Tryd.prog gl G_draft := .cons (blank_sound gl) (.cons (sign_sound gl) (.nil _ _))
set_option maxHeartbeats 2000000 in
set_option maxRecDepth 10000 in
theorem draft_sound (gl : Gl) : Sound Tryd.prog gl 13 draftSpec := by
  refine sound_fn (N := Tryd.f13.ntmps) (rs := Tryd.f13.results.toList) mixed tok (G_draft_ok gl) Tryd.func13 rfl rfl rfl rfl rfl ?_ ?_ ?_
  · rintro args ⟨c,B,w,rfl,h0,h1,hB⟩; simp [toI_int, Tryd.f13]
  · rintro args ⟨c,B,w,rfl,h0,h1,hB⟩; simp [toI_int, draftSpec, Tryd.f13]
  · rintro args ⟨c,B,w,rfl,h0,h1,hB⟩ bs hgl hh hro
    have hE : Env.OK ⟨Tryd.prog, T, G_draft, bs⟩ := ⟨tok, by rw [hgl]; exact G_draft_ok gl⟩
    simp only [draftSpec, toI_int]
    obtain ⟨cols, hcols⟩ : ∃ cols, cols = 2 + c.toNat % 79 := ⟨_, rfl⟩
    have hres : draftF c B w = ⟨drawF cols 80 B [], w⟩ := by rw [hcols]; rfl
    have w0 : IntKind.i64.wrap c = c := wrap64 _ (by omega) (by omega)
    have e79 : c.tmod 79 = c % 79 := Int.tmod_eq_emod_of_nonneg h0
    have w1 : IntKind.i64.wrap (2 + c % 79) = (cols : Int) := by rw [wrap64 _ (by omega) (by omega)]; omega
    have w2 : IntKind.i64.wrap ((cols : Int) - 1) = cols - 1 := wrap64 _ (by omega) (by omega)
    simp [and_assoc, draftSpec, blankSpec, signSpec, Tryd.f13, w0, e79, w1, hres]
    refine AWP.rounds (fun x => drawF cols 80 B [] = drawF cols (80 - x.1) (B.drop x.1) x.2 ∧ x.2.length ≤ cols ∧ x.1 ≤ x.2.length ∧ cols ≤ x.2.length + (80 - x.1)) (draftS cols c B w) (fun x => cols - x.2.length) (0, []) ⟨by simp, by simp, by simp, by simp; omega⟩ ?_ ?_
    · refine Weak.keep ?_
      simp [draftS]
    · rintro ⟨i, l⟩ ⟨hx, hl, hil, hf⟩
      simp only at hx hl hil hf
      refine wpc_ok hE mixed _ _ _ ?_
      rcases Nat.lt_or_ge l.length cols with h | h
      · rw [drawF_step h (by omega)] at hx
        have w3 : IntKind.i64.wrap ((i : Int) + 1) = i + 1 := wrap64 _ (by omega) (by omega)
        have hlc : (l.length : Int) < cols := by omega
        rcases Nat.lt_or_ge i B.length with hi | hi
        · have hd : B.drop i = B[i] :: B.drop (i + 1) := List.drop_eq_getElem_cons hi
          have hb : 0 ≤ B[i] ∧ B[i] < 256 := hB _ (List.getElem_mem hi)
          have hgi : (B[i]?).map (C.int .u8) = some (C.int .u8 B[i]) := by rw [List.getElem?_eq_getElem hi]; rfl
          rw [hd] at hx
          generalize B[i] = b at *
          have w4 : IntKind.u8.wrap (b.tdiv 32) = b / 32 := by rw [Int.tdiv_eq_ediv_of_nonneg hb.1]; exact wrap8 _ (by omega) (by omega)
          have hb2 : 0 ≤ b / 32 ∧ b / 32 < 256 := by omega
          obtain ⟨q, hq⟩ : ∃ q, signF b (b / 32) = q := ⟨_, rfl⟩
          have hwq := wide_sign b (b / 32)
          have hn : nextF cols (b :: B.drop (i + 1)) l.length = if q.wide = 1 ∧ l.length + 1 = cols then blankF q.st else q := by simp [nextF, hq]
          rw [hq] at hwq
          rw [hn] at hx
          have hb0 := hb.1
          have hb1 := hb.2
          have hb2' := hb2.1
          have hb3' := hb2.2
          have wb : (blankF q.st).wide = 0 := rfl
          rcases hwq with hw | hw
          · have hv : (if q.wide = 1 ∧ l.length + 1 = cols then blankF q.st else q) = q := if_neg fun k => by omega
            rw [hv, if_neg (by omega)] at hx
            cases l with
            | nil =>
              simp only [List.length_nil] at h hil hf
              simp [draftS, blankSpec, signSpec, styV, celV, and_assoc, h, hi, hd, hb0, hb1, hb2', hb3', w2, w3, w4, hq, hw]
              refine ⟨rfl, Next.mk (i + 1, [q]) ⟨hx, by simp; omega, by simp; omega, by simp; omega⟩ (by simp; omega) (Weak.ren [some 0, some 1, some 3] (baseOK.nil hh) (by simp) (by simp [draftS, celsC_one]) (by simp [draftS]))⟩
            | cons a l =>
              simp at hlc
              have h' : l.length + 1 < cols := h
              have hl' : (a :: l ++ [q]).length = l.length + 2 := by simp
              simp [draftS, blankSpec, signSpec, styV, celV, and_assoc, h', hlc, hi, hd, hb0, hb1, hb2', hb3', w2, w3, w4, hq, hw]
              simp at hil hf
              refine ⟨rfl, by omega, by omega, Next.mk (i + 1, a :: l ++ [q]) ⟨hx, by simp; omega, by simp; omega, by simp; omega⟩ (by simp; omega) (Weak.ren [some 0, some 1, some 2] (baseOK.nil hh) (by simp) (by simp [draftS, celsC_ca, celsC_one]) (by simp [draftS]))⟩
          · by_cases hc : l.length + 1 = cols
            · have hv : (if q.wide = 1 ∧ l.length + 1 = cols then blankF q.st else q) = blankF q.st := if_pos ⟨hw, hc⟩
              rw [hv, if_neg (by rw [wb]; decide)] at hx
              cases l with
              | nil => simp at hc; omega
              | cons a l =>
                have hlc' : (l.length : Int) + 1 < cols := by simp at hlc; exact hlc
                have hci : (l.length : Int) + 1 = cols - 1 := by simp at hc; omega
                have h' : l.length + 1 < cols := h
                have h2' : (cols : Int) - 1 < cols := by omega
                simp [draftS, blankSpec, signSpec, styV, celV, and_assoc, h', hci, h2', hi, hd, hb0, hb1, hb2', hb3', w2, w3, w4, hq, hw, wb]
                simp at hil hf
                refine ⟨rfl, by omega, by omega, Next.mk (i + 1, a :: l ++ [blankF q.st]) ⟨hx, by simp; omega, by simp; omega, by simp; omega⟩ (by simp; omega) (Weak.ren [some 0, some 1, some 2] (baseOK.nil hh) (by simp) (by simp [draftS, celsC_ca, celsC_one]) (by simp [draftS]))⟩
            · have hv : (if q.wide = 1 ∧ l.length + 1 = cols then blankF q.st else q) = q := if_neg fun k => hc k.2
              rw [hv, if_pos hw] at hx
              cases l with
              | nil =>
                have hci : ¬ (0 : Int) = cols - 1 := by simp at hc; omega
                simp only [List.length_nil] at h hil hf
                simp [draftS, blankSpec, signSpec, styV, celV, and_assoc, h, hci, hi, hd, hb0, hb1, hb2', hb3', w2, w3, w4, hq, hw]
                refine ⟨rfl, Next.mk (i + 1, [q, secondF q.st]) ⟨hx, by simp; omega, by simp; omega, by simp; omega⟩ (by simp; omega) (Weak.ren [some 0, some 1, some 3] (baseOK.nil hh) (by simp) (by simp [draftS, celsC_two, secondF_eq]) (by simp [draftS]))⟩
              | cons a l =>
                have hlc' : (l.length : Int) + 1 < cols := by simp at hlc; exact hlc
                have hci : ¬ (l.length : Int) + 1 = cols - 1 := by simp at hc; omega
                have h' : l.length + 1 < cols := h
                simp [draftS, blankSpec, signSpec, styV, celV, and_assoc, h', hlc', hci, hi, hd, hb0, hb1, hb2', hb3', w2, w3, w4, hq, hw]
                simp at hil hf hc
                refine ⟨rfl, by omega, by omega, by omega, by omega, Next.mk (i + 1, a :: l ++ [q, secondF q.st]) ⟨hx, by simp; omega, by simp; omega, by simp; omega⟩ (by simp; omega) (Weak.ren [some 0, some 1, some 2] (baseOK.nil hh) (by simp) (by simp [draftS, celsC_two, celsC_ca, secondF_eq]) (by simp [draftS]))⟩
        · have hd : B.drop i = [] := List.drop_eq_nil_of_le hi
          have hi' : ¬ i < B.length := by omega
          have wb : (blankF sty0).wide = 0 := rfl
          rw [hd] at hx
          rw [show nextF cols [] l.length = blankF sty0 from rfl, if_neg (by rw [wb]; decide)] at hx
          cases l with
          | nil =>
            simp only [List.length_nil] at h hil hf
            simp [draftS, blankSpec, signSpec, styV, celV, and_assoc, h, hi', w2, w3, wb]
            exact Next.mk (i + 1, [blankF sty0]) ⟨hx, by simp; omega, by simp; omega, by simp; omega⟩ (by simp; omega) (Weak.ren [some 0, some 1, some 3] (baseOK.nil hh) (by simp) (by simp [draftS, celsC_one]) (by simp [draftS]))
          | cons a l =>
            have hlc' : (l.length : Int) + 1 < cols := by simp at hlc; exact hlc
            have h' : l.length + 1 < cols := h
            simp [draftS, blankSpec, signSpec, styV, celV, and_assoc, h', hlc', hi', w2, w3, wb]
            simp at hil hf
            refine ⟨by omega, by omega, Next.mk (i + 1, a :: l ++ [blankF sty0]) ⟨hx, by simp; omega, by simp; omega, by simp; omega⟩ (by simp; omega) (Weak.ren [some 0, some 1, some 2] (baseOK.nil hh) (by simp) (by simp [draftS, celsC_ca, celsC_one]) (by simp [draftS]))⟩
      · rw [drawF_end (l := l) (by omega)] at hx
        have hle : l.length = cols := by omega
        cases l with
        | nil => simp at hle; omega
        | cons a l =>
          have hle' : (l.length : Int) + 1 = cols := by simp at hle; omega
          simp [draftS, hx, hle', rowV, rowC]
end Fen

namespace Fen
open Go Go.Proofs

def wrongF (r : Rw) (col : Int) : Int := if rowF r ≠ 0 then rowF r else if col < 0 ∨ (r.cells.length : Int) ≤ col then 2 else 0
def wrongSpec : Spec := { pre := fun args => ∃ (r : Rw) (col : Int), args = [rowV r, .c (.int .i64 col)] ∧ r.ok, res := fun args => match args with
  | [.agg r, .c (.int _ col)] => .one (.val (.c (.int .i64 (wrongF (rowOf r) col))))
  | _ => .many [] }
def G_wrong : Specs := [(29, rowckSpec)]
@[simp] theorem G_wrong_live : Specs.live G_wrong = false := rfl
@[simp] theorem G_wrong_nils : Specs.nils G_wrong = false := rfl
@[simp] theorem G_wrong_froz : Specs.froz G_wrong = false := rfl
@[simp] theorem G_wrong_29 : G_wrong.find 29 = some rowckSpec := rfl
theorem G_wrong_ok : SpecsOK Tryd.prog glW G_wrong := .cons rowck_sound (.nil _ _)
set_option maxRecDepth 10000 in
theorem wrong_sound : Sound Tryd.prog glW 48 wrongSpec := by
  refine sound_fn (N := Tryd.f48.ntmps) (rs := Tryd.f48.results.toList) mixed tok G_wrong_ok Tryd.func48 rfl rfl rfl rfl rfl ?_ ?_ ?_
  · rintro args ⟨r,col,rfl,h⟩; simp [rowV,rowOf_C, Tryd.f48]
  · rintro args ⟨r,col,rfl,h⟩; simp [rowV,rowOf_C, wrongSpec, Tryd.f48]
  · rintro args ⟨r,col,rfl,h⟩ bs hgl hh hro
    have hE : Env.OK ⟨Tryd.prog, T, G_wrong, bs⟩ := ⟨tok, by rw [hgl]; exact G_wrong_ok⟩
    simp only [wrongSpec, rowV,rowOf_C]
    unfold wrongF
    by_cases h1 : rowF r = 0
    · by_cases h2 : col < 0
      · simp [and_assoc, wrongSpec, rowckSpec, Tryd.f48, h, h1, h2]
      · by_cases h3 : (r.cells.length : Int) ≤ col <;> simp [and_assoc, wrongSpec, rowckSpec, Tryd.f48, h, h1, h2, h3]
    · simp [and_assoc, wrongSpec, rowckSpec, Tryd.f48, h, h1]
def G_rowblank : Specs := []
@[simp] theorem G_rowblank_live : Specs.live G_rowblank = false := rfl
@[simp] theorem G_rowblank_nils : Specs.nils G_rowblank = false := rfl
@[simp] theorem G_rowblank_froz : Specs.froz G_rowblank = false := rfl
theorem G_rowblank_ok (gl : Gl) : SpecsOK Tryd.prog gl G_rowblank := .nil _ _
set_option maxRecDepth 10000 in
theorem rowblank_sound (gl : Gl) : Sound Tryd.prog gl 41 blankSpec := by
  refine sound_fn (N := Tryd.f41.ntmps) (rs := Tryd.f41.results.toList) mixed tok (G_rowblank_ok gl) Tryd.func41 rfl rfl rfl rfl rfl ?_ ?_ ?_
  · rintro args ⟨s,rfl⟩; simp [Tryd.f41]
  · rintro args ⟨s,rfl⟩; simp [blankSpec, Tryd.f41]
  · rintro args ⟨s,rfl⟩ bs hgl hh hro
    have hE : Env.OK ⟨Tryd.prog, T, G_rowblank, bs⟩ := ⟨tok, by rw [hgl]; exact G_rowblank_ok gl⟩
    simp [blankSpec, Tryd.f41, blankF]
def isblankSpec : Spec := { pre := fun args => ∃ c : Cel, args = [celV c], res := fun args => .one (.val (.c (.bool (decide (celOf (args.headD default).cs = blankF (celOf (args.headD default).cs).st))))) }
def G_isblank : Specs := [(41, blankSpec)]
@[simp] theorem G_isblank_live : Specs.live G_isblank = false := rfl
@[simp] theorem G_isblank_nils : Specs.nils G_isblank = false := rfl
@[simp] theorem G_isblank_froz : Specs.froz G_isblank = false := rfl
@[simp] theorem G_isblank_41 : G_isblank.find 41 = some blankSpec := rfl
theorem G_isblank_ok (gl : Gl) : SpecsOK Tryd.prog gl G_isblank := .cons (rowblank_sound gl) (.nil _ _)
set_option maxRecDepth 10000 in
theorem isblank_sound (gl : Gl) : Sound Tryd.prog gl 39 isblankSpec := by
  refine sound_fn (N := Tryd.f39.ntmps) (rs := Tryd.f39.results.toList) mixed tok (G_isblank_ok gl) Tryd.func39 rfl rfl rfl rfl rfl ?_ ?_ ?_
  · rintro args ⟨c,rfl⟩; simp [Tryd.f39]
  · rintro args ⟨c,rfl⟩; simp [isblankSpec, Tryd.f39]
  · rintro args ⟨c,rfl⟩ bs hgl hh hro
    have hE : Env.OK ⟨Tryd.prog, T, G_isblank, bs⟩ := ⟨tok, by rw [hgl]; exact G_isblank_ok gl⟩
    simp [and_assoc, isblankSpec, blankSpec, Tryd.f39, celV, styV]
    exact ⟨rfl, rfl⟩
def G_risblank : Specs := [(42, blankSpec)]
@[simp] theorem G_risblank_live : Specs.live G_risblank = false := rfl
@[simp] theorem G_risblank_nils : Specs.nils G_risblank = false := rfl
@[simp] theorem G_risblank_froz : Specs.froz G_risblank = false := rfl
@[simp] theorem G_risblank_42 : G_risblank.find 42 = some blankSpec := rfl
theorem G_risblank_ok (gl : Gl) : SpecsOK Tryd.prog gl G_risblank := .cons (blank_sound gl) (.nil _ _)
set_option maxRecDepth 10000 in
theorem risblank_sound (gl : Gl) : Sound Tryd.prog gl 40 isblankSpec := by
  refine sound_fn (N := Tryd.f40.ntmps) (rs := Tryd.f40.results.toList) mixed tok (G_risblank_ok gl) Tryd.func40 rfl rfl rfl rfl rfl ?_ ?_ ?_
  · rintro args ⟨c,rfl⟩; simp [Tryd.f40]
  · rintro args ⟨c,rfl⟩; simp [isblankSpec, Tryd.f40]
  · rintro args ⟨c,rfl⟩ bs hgl hh hro
    have hE : Env.OK ⟨Tryd.prog, T, G_risblank, bs⟩ := ⟨tok, by rw [hgl]; exact G_risblank_ok gl⟩
    simp [and_assoc, isblankSpec, blankSpec, Tryd.f40, celV, styV]
    exact ⟨rfl, rfl⟩

def longF (l : List Cel) : Nat := (l.reverse.dropWhile fun c => decide (c = blankF sty0)).length
theorem long_le (l : List Cel) : longF l ≤ l.length := by
  unfold longF
  have := (List.dropWhile_suffix (l := l.reverse) fun c => decide (c = blankF sty0)).length_le
  simpa using this
theorem long_step {l : List Cel} {n : Nat} (h : n < l.length) : longF (l.take (n + 1)) = if l[n] = blankF sty0 then longF (l.take n) else n + 1 := by
  unfold longF
  rw [List.take_add_one, List.getElem?_eq_getElem h]
  simp only [Option.toList_some, List.reverse_append, List.reverse_cons, List.reverse_nil, List.nil_append, List.singleton_append, List.dropWhile_cons]
  by_cases e : l[n] = blankF sty0
  · simp [e]
  · simp [e]; omega
def longSpec : Spec := { pre := fun args => ∃ r : Rw, args = [rowV r] ∧ r.cells.length ≤ 1000000, res := fun args => .one (.val (.c (.int .i64 (longF (rowOf (args.headD default).cs).cells)))) }
def longS (r : Rw) (n : Nat) : St := ⟨23, [(1, .ptr 0 0 0), (3, .val (.int .i64 n))], [.box 27 ((rowC r).map .val)]⟩
def G_long : Specs := [(41, blankSpec)]
@[simp] theorem G_long_live : Specs.live G_long = false := rfl
@[simp] theorem G_long_nils : Specs.nils G_long = false := rfl
@[simp] theorem G_long_froz : Specs.froz G_long = false := rfl
@[simp] theorem G_long_41 : G_long.find 41 = some blankSpec := rfl
theorem G_long_ok (gl : Gl) : SpecsOK Tryd.prog gl G_long := .cons (rowblank_sound gl) (.nil _ _)
set_option maxRecDepth 10000 in
theorem long_sound (gl : Gl) : Sound Tryd.prog gl 35 longSpec := by
  refine sound_fn (N := Tryd.f35.ntmps) (rs := Tryd.f35.results.toList) mixed tok (G_long_ok gl) Tryd.func35 rfl rfl rfl rfl rfl ?_ ?_ ?_
  · rintro args ⟨r,rfl,hl⟩; simp [Tryd.f35]
  · rintro args ⟨r,rfl,hl⟩; simp [longSpec, Tryd.f35]
  · rintro args ⟨r,rfl,hl⟩ bs hgl hh hro
    have hE : Env.OK ⟨Tryd.prog, T, G_long, bs⟩ := ⟨tok, by rw [hgl]; exact G_long_ok gl⟩
    simp [and_assoc, longSpec, blankSpec, Tryd.f35, rowV]
    refine AWP.rounds (fun n => n ≤ r.cells.length ∧ longF r.cells = longF (r.cells.take n)) (longS r) (fun n => n) r.cells.length ⟨by omega, by rw [List.take_length]⟩ ?_ ?_
    · refine Weak.keep ?_
      simp [longS]
    · rintro n ⟨hn, hc⟩
      refine wpc_ok hE mixed _ _ _ ?_
      cases n with
      | zero =>
        have hc : longF r.cells = 0 := by rw [hc]; rfl
        simp [longS, and_assoc, blankSpec, hc]
        rfl
      | succ k =>
        have hk : k < r.cells.length := by omega
        have hd := celsC_at hk
        rw [long_step hk] at hc
        have w1 : IntKind.i64.wrap (k : Int) = k := wrap64 _ (by omega) (by omega)
        generalize r.cells[k] = c at *
        by_cases e : c = blankF sty0
        · rw [if_pos e] at hc
          simp [longS, and_assoc, blankSpec, styV, celV, hd, w1, hk, e]
          exact ⟨rfl, Next.mk k ⟨by omega, hc⟩ (by omega) (Weak.keep (by simp [longS]))⟩
        · rw [if_neg e] at hc
          simp [longS, and_assoc, blankSpec, styV, celV, hd, w1, hk, e, hc]
          rfl
def G_rlong : Specs := [(42, blankSpec)]
@[simp] theorem G_rlong_live : Specs.live G_rlong = false := rfl
@[simp] theorem G_rlong_nils : Specs.nils G_rlong = false := rfl
@[simp] theorem G_rlong_froz : Specs.froz G_rlong = false := rfl
@[simp] theorem G_rlong_42 : G_rlong.find 42 = some blankSpec := rfl
theorem G_rlong_ok (gl : Gl) : SpecsOK Tryd.prog gl G_rlong := .cons (blank_sound gl) (.nil _ _)
set_option maxRecDepth 10000 in
theorem rlong_sound (gl : Gl) : Sound Tryd.prog gl 37 longSpec := by
  refine sound_fn (N := Tryd.f37.ntmps) (rs := Tryd.f37.results.toList) mixed tok (G_rlong_ok gl) Tryd.func37 rfl rfl rfl rfl rfl ?_ ?_ ?_
  · rintro args ⟨r,rfl,hl⟩; simp [Tryd.f37]
  · rintro args ⟨r,rfl,hl⟩; simp [longSpec, Tryd.f37]
  · rintro args ⟨r,rfl,hl⟩ bs hgl hh hro
    have hE : Env.OK ⟨Tryd.prog, T, G_rlong, bs⟩ := ⟨tok, by rw [hgl]; exact G_rlong_ok gl⟩
    simp [and_assoc, longSpec, blankSpec, Tryd.f37, rowV]
    refine AWP.rounds (fun n => n ≤ r.cells.length ∧ longF r.cells = longF (r.cells.take n)) (longS r) (fun n => n) r.cells.length ⟨by omega, by rw [List.take_length]⟩ ?_ ?_
    · refine Weak.keep ?_
      simp [longS]
    · rintro n ⟨hn, hc⟩
      refine wpc_ok hE mixed _ _ _ ?_
      cases n with
      | zero =>
        have hc : longF r.cells = 0 := by rw [hc]; rfl
        simp [longS, and_assoc, blankSpec, hc]
        rfl
      | succ k =>
        have hk : k < r.cells.length := by omega
        have hd := celsC_at hk
        rw [long_step hk] at hc
        have w1 : IntKind.i64.wrap (k : Int) = k := wrap64 _ (by omega) (by omega)
        generalize r.cells[k] = c at *
        by_cases e : c = blankF sty0
        · rw [if_pos e] at hc
          simp [longS, and_assoc, blankSpec, styV, celV, hd, w1, hk, e]
          exact ⟨rfl, Next.mk k ⟨by omega, hc⟩ (by omega) (Weak.keep (by simp [longS]))⟩
        · rw [if_neg e] at hc
          simp [longS, and_assoc, blankSpec, styV, celV, hd, w1, hk, e, hc]
          rfl
end Fen

namespace Fen
open Go Go.Proofs

def celsSpec2 : Spec := { pre := fun args => ∃ a b : List Cel, args = [celsV a, celsV b] ∧ a.length ≤ 1000, res := fun args => match args with
  | [.c (.sl _ a), .c (.sl _ b)] => .one (.val (.c (.bool (decide (celsOf a = celsOf b)))))
  | _ => .many [] }
def equalS (a b : List Cel) (k : Nat) : St := ⟨26, [(0, .val (.sl a.length (celsC a))), (1, .val (.sl b.length (celsC b))), (12, .val (.int .i64 a.length)), (13, .val (.int .i64 k))], []⟩
def G_equal : Specs := []
@[simp] theorem G_equal_live : Specs.live G_equal = false := rfl
@[simp] theorem G_equal_nils : Specs.nils G_equal = false := rfl
@[simp] theorem G_equal_froz : Specs.froz G_equal = false := rfl
theorem G_equal_ok (gl : Gl) : SpecsOK Tryd.prog gl G_equal := .nil _ _
set_option maxRecDepth 10000 in
theorem equal_sound (gl : Gl) : Sound Tryd.prog gl 66 celsSpec2 := by
  refine sound_fn (N := Tryd.f66.ntmps) (rs := Tryd.f66.results.toList) mixed tok (G_equal_ok gl) Tryd.func66 rfl rfl rfl rfl rfl ?_ ?_ ?_
  · rintro args ⟨a,b,rfl,ha⟩; simp [celsV,celsOf_C, Tryd.f66]
  · rintro args ⟨a,b,rfl,ha⟩; simp [celsV,celsOf_C, celsSpec2, Tryd.f66]
  · rintro args ⟨a,b,rfl,ha⟩ bs hgl hh hro
    have hE : Env.OK ⟨Tryd.prog, T, G_equal, bs⟩ := ⟨tok, by rw [hgl]; exact G_equal_ok gl⟩
    simp only [celsSpec2, celsV,celsOf_C]
    rcases Decidable.em (a.length = b.length) with h1 | h1
    rotate_left
    · have e : decide (a = b) = false := by simp; rintro rfl; exact h1 rfl
      have h1' : ¬ (a.length : Int) = b.length := by omega
      simp [celsSpec2, Tryd.f66, h1', e]
    simp [celsSpec2, Tryd.f66, h1]
    refine AWP.rounds (fun k => k ≤ a.length ∧ a.take k = b.take k) (equalS a b) (fun k => a.length - k) 0 ⟨by simp, by simp⟩ ?_ ?_
    · refine Weak.keep ?_
      simp [equalS, h1]
    · rintro k ⟨hk, hc⟩
      refine wpc_ok hE mixed _ _ _ ?_
      rcases Nat.lt_or_ge k a.length with h | h
      · have w1 : IntKind.i64.wrap ((k : Int) + 1) = k + 1 := wrap64 _ (by omega) (by omega)
        have hb : k < b.length := by omega
        have hd := celsC_at h
        have hdb := celsC_at hb
        have ht := List.take_add_one (l := a) (i := k)
        have htb := List.take_add_one (l := b) (i := k)
        rw [List.getElem?_eq_getElem h] at ht
        rw [List.getElem?_eq_getElem hb] at htb
        have hne : ¬ a[k] = b[k] → ¬ a = b := fun q e => by subst e; exact q rfl
        generalize a[k] = x at *
        generalize b[k] = y at *
        simp [equalS, hd, hdb, w1, h, hb]
        refine ⟨rfl, hne, fun e => Next.mk (k + 1) ⟨h, by rw [ht, htb, hc, e]⟩ (by omega) (Weak.keep (by simp [equalS]))⟩
      · have : k = a.length := by omega
        subst this
        have e : a = b := by
          rw [List.take_length, h1, List.take_length] at hc
          exact hc
        subst e
        simp [equalS]
def G_rowsame : Specs := [(66, celsSpec2)]
@[simp] theorem G_rowsame_live : Specs.live G_rowsame = false := rfl
@[simp] theorem G_rowsame_nils : Specs.nils G_rowsame = false := rfl
@[simp] theorem G_rowsame_froz : Specs.froz G_rowsame = false := rfl
@[simp] theorem G_rowsame_66 : G_rowsame.find 66 = some celsSpec2 := rfl
theorem G_rowsame_ok (gl : Gl) : SpecsOK Tryd.prog gl G_rowsame := .cons (equal_sound gl) (.nil _ _)
set_option maxRecDepth 10000 in
theorem rowsame_sound (gl : Gl) : Sound Tryd.prog gl 43 sameSpec := by
  refine sound_fn (N := Tryd.f43.ntmps) (rs := Tryd.f43.results.toList) mixed tok (G_rowsame_ok gl) Tryd.func43 rfl rfl rfl rfl rfl ?_ ?_ ?_
  · rintro args ⟨a,b,rfl,ha⟩; simp [rowV, Tryd.f43]
  · rintro args ⟨a,b,rfl,ha⟩; simp [rowV, sameSpec, Tryd.f43]
  · rintro args ⟨a,b,rfl,ha⟩ bs hgl hh hro
    have hE : Env.OK ⟨Tryd.prog, T, G_rowsame, bs⟩ := ⟨tok, by rw [hgl]; exact G_rowsame_ok gl⟩
    simp only [sameSpec, rowV]
    by_cases h : a.wrapped = b.wrapped
    · have e : decide (a = b) = decide (a.cells = b.cells) := by
        rw [decide_eq_decide]
        cases a; cases b; simp at h; simp [h]
      simp [and_assoc, sameSpec, celsSpec2, Tryd.f43, h, e, ha]
    · have e : decide (a = b) = false := by simp; rintro rfl; exact h rfl
      simp [and_assoc, sameSpec, celsSpec2, Tryd.f43, h, e, ha]

def indexF (a b v : Int) : Int := if a = v then 0 else if b = v then 1 else -1
def indexSpec : Spec := { pre := fun args => ∃ a b v : Int, args = [.c (.sl 2 [.int .i64 a, .int .i64 b]), .c (.int .i64 v)], res := fun args => match args with
  | [.c (.sl _ [.int _ a, .int _ b]), .c (.int _ v)] => .one (.val (.c (.int .i64 (indexF a b v))))
  | _ => .many [] }
def G_index : Specs := []
@[simp] theorem G_index_live : Specs.live G_index = false := rfl
@[simp] theorem G_index_nils : Specs.nils G_index = false := rfl
@[simp] theorem G_index_froz : Specs.froz G_index = false := rfl
theorem G_index_ok (gl : Gl) : SpecsOK Tryd.prog gl G_index := .nil _ _
set_option maxRecDepth 10000 in
theorem index_sound (gl : Gl) : Sound Tryd.prog gl 56 indexSpec := by
  refine sound_fn (N := Tryd.f56.ntmps) (rs := Tryd.f56.results.toList) mixed tok (G_index_ok gl) Tryd.func56 rfl rfl rfl rfl rfl ?_ ?_ ?_
  · rintro args ⟨a,b,v,rfl⟩; simp [Tryd.f56]
  · rintro args ⟨a,b,v,rfl⟩; simp [indexSpec, Tryd.f56]
  · rintro args ⟨a,b,v,rfl⟩ bs hgl hh hro
    have hE : Env.OK ⟨Tryd.prog, T, G_index, bs⟩ := ⟨tok, by rw [hgl]; exact G_index_ok gl⟩
    simp [indexSpec, Tryd.f56]
    refine AWP.unroll hE mixed 3 ?_
    unfold indexF
    by_cases h : a = v
    · subst h
      simp
    · have h' : ¬ v = a := fun e => h e.symm
      by_cases h2 : b = v
      · subst h2
        simp [h, h']
      · have h2' : ¬ v = b := fun e => h2 e.symm
        simp [h, h', h2, h2']

theorem mask_u64 (n : Int) (h0 : 0 ≤ n) (h1 : n ≤ 100) : bits2 (fun _ x y => x &&& y) .u64 n 4294967295 = n := by
  have k : ∀ k : Fin 101, bits2 (fun _ x y => x &&& y) .u64 ((k.val : Nat) : Int) 4294967295 = ((k.val : Nat) : Int) := by decide +kernel
  have := k ⟨n.toNat, by omega⟩
  simpa [Int.toNat_of_nonneg h0] using this
theorem shr_u64 (n : Int) (h0 : 0 ≤ n) (h1 : n ≤ 100) : n.fdiv (2 ^ min 32 IntKind.u64.bits) = 0 := by
  have k : ∀ k : Fin 101, ((k.val : Nat) : Int).fdiv (2 ^ min 32 IntKind.u64.bits) = 0 := by decide +kernel
  have := k ⟨n.toNat, by omega⟩
  simpa [Int.toNat_of_nonneg h0] using this
def mulSpec : Spec := { pre := fun args => ∃ n : Int, args = [.c (.int .u64 1), .c (.int .u64 n)] ∧ 0 ≤ n ∧ n ≤ 100, res := fun args => match args with
  | [_, .c (.int _ n)] => .many [.val (.c (.int .u64 0)), .val (.c (.int .u64 n))]
  | _ => .many [] }
def G_mul64 : Specs := []
@[simp] theorem G_mul64_live : Specs.live G_mul64 = false := rfl
@[simp] theorem G_mul64_nils : Specs.nils G_mul64 = false := rfl
@[simp] theorem G_mul64_froz : Specs.froz G_mul64 = false := rfl
theorem G_mul64_ok (gl : Gl) : SpecsOK Tryd.prog gl G_mul64 := .nil _ _
set_option maxRecDepth 10000 in
theorem mul64_sound (gl : Gl) : Sound Tryd.prog gl 81 mulSpec := by
  refine sound_fn (N := Tryd.f81.ntmps) (rs := Tryd.f81.results.toList) mixed tok (G_mul64_ok gl) Tryd.func81 rfl rfl rfl rfl rfl ?_ ?_ ?_
  · rintro args ⟨n,rfl,h0,h1⟩; simp [Tryd.f81]
  · rintro args ⟨n,rfl,h0,h1⟩; simp [mulSpec, Tryd.f81]
  · rintro args ⟨n,rfl,h0,h1⟩ bs hgl hh hro
    have hE : Env.OK ⟨Tryd.prog, T, G_mul64, bs⟩ := ⟨tok, by rw [hgl]; exact G_mul64_ok gl⟩
    have a1 := mask_u64 1 (by decide) (by decide)
    have a2 := mask_u64 n h0 h1
    have a3 := shr_u64 1 (by decide) (by decide)
    have a4 := shr_u64 n h0 h1
    have a5 := mask_u64 0 (by decide) (by decide)
    have a6 := shr_u64 0 (by decide) (by decide)
    have w : IntKind.u64.wrap n = n := by simp [IntKind.wrap, IntKind.signed, IntKind.bits]; omega
    have w0 : IntKind.u64.wrap 0 = 0 := by decide
    simp only [mulSpec]
    simp [mulSpec, Tryd.f81, a1, a2, a3, a4, a5, a6, w, w0]
def G_mul : Specs := [(81, mulSpec)]
@[simp] theorem G_mul_live : Specs.live G_mul = false := rfl
@[simp] theorem G_mul_nils : Specs.nils G_mul = false := rfl
@[simp] theorem G_mul_froz : Specs.froz G_mul = false := rfl
@[simp] theorem G_mul_81 : G_mul.find 81 = some mulSpec := rfl
theorem G_mul_ok (gl : Gl) : SpecsOK Tryd.prog gl G_mul := .cons (mul64_sound gl) (.nil _ _)
set_option maxRecDepth 10000 in
theorem mul_sound (gl : Gl) : Sound Tryd.prog gl 78 mulSpec := by
  refine sound_fn (N := Tryd.f78.ntmps) (rs := Tryd.f78.results.toList) mixed tok (G_mul_ok gl) Tryd.func78 rfl rfl rfl rfl rfl ?_ ?_ ?_
  · rintro args ⟨n,rfl,h0,h1⟩; simp [Tryd.f78]
  · rintro args ⟨n,rfl,h0,h1⟩; simp [mulSpec, Tryd.f78]
  · rintro args ⟨n,rfl,h0,h1⟩ bs hgl hh hro
    have hE : Env.OK ⟨Tryd.prog, T, G_mul, bs⟩ := ⟨tok, by rw [hgl]; exact G_mul_ok gl⟩
    simp only [mulSpec]
    simp [and_assoc, mulSpec, Tryd.f78, h0, h1]
end Fen

namespace Fen
open Go Go.Proofs

theorem rep_cel (c : Cel) : ∀ n, rep n (celC c) = celsC (List.replicate n c)
  | 0 => rfl
  | n + 1 => by simp only [rep, List.replicate_succ, celsC]; rw [rep_cel c n]
/-- cells laid over cells -/
theorem cels_lay (L A : List Cel) (m k : Nat) (hk : A.length = k) : List.take (m * 12) (celsC L) ++ (celsC A ++ List.drop (m * 12 + k * 12) (celsC L)) = celsC (L.take m ++ A ++ L.drop (m + k)) := by
  rw [celsC_take, ← Nat.add_mul, celsC_drop, celsC_app, celsC_app, List.append_assoc]
theorem rep_lay (c z : Cel) (n m k : Nat) (h : m + k ≤ n) : (List.replicate m c ++ List.replicate (n - m) z).take m ++ List.replicate k c ++ (List.replicate m c ++ List.replicate (n - m) z).drop (m + k) = List.replicate (m + k) c ++ List.replicate (n - (m + k)) z := by
  have e1 : (List.replicate m c ++ List.replicate (n - m) z).take m = List.replicate m c := by rw [List.take_left' (by simp)]
  have e2 : (List.replicate m c ++ List.replicate (n - m) z).drop (m + k) = List.replicate (n - (m + k)) z := by
    rw [List.drop_append, List.drop_of_length_le (by simp), List.nil_append, List.drop_replicate]
    congr 1; simp; omega
  rw [e1, e2, List.replicate_append_replicate]

def repeatSpec : Spec := { pre := fun args => ∃ (c : Cel) (n : Nat), args = [.c (.sl 1 (celC c)), .c (.int .i64 n)] ∧ 1 ≤ n ∧ n ≤ 100, res := fun args => match args with
  | [.c (.sl _ cs), .c (.int _ n)] => .one (.val (celsV (List.replicate n.toNat (celOf cs))))
  | _ => .many [] }
def repeatS (c : Cel) (n : Nat) (m : Nat) : St :=
  ⟨48, [(7, .ref 0 0), (8, .val (.int .i64 m))], [.sl 34 0 true 12 n (celsC (List.replicate m c ++ List.replicate (n - m) cel0))]⟩
def G_repeat : Specs := [(78, mulSpec)]
@[simp] theorem G_repeat_live : Specs.live G_repeat = false := rfl
@[simp] theorem G_repeat_nils : Specs.nils G_repeat = false := rfl
@[simp] theorem G_repeat_froz : Specs.froz G_repeat = false := rfl
@[simp] theorem G_repeat_78 : G_repeat.find 78 = some mulSpec := rfl
theorem G_repeat_ok (gl : Gl) : SpecsOK Tryd.prog gl G_repeat := .cons (mul_sound gl) (.nil _ _)
set_option maxRecDepth 10000 in
theorem repeat_sound (gl : Gl) : Sound Tryd.prog gl 67 repeatSpec := by
  refine sound_fn (N := Tryd.f67.ntmps) (rs := Tryd.f67.results.toList) mixed tok (G_repeat_ok gl) Tryd.func67 rfl rfl rfl rfl rfl ?_ ?_ ?_
  · rintro args ⟨c,n,rfl,h1,h2⟩; simp [Tryd.f67]
  · rintro args ⟨c,n,rfl,h1,h2⟩; simp [repeatSpec, Tryd.f67]
  · rintro args ⟨c,n,rfl,h1,h2⟩ bs hgl hh hro
    have hE : Env.OK ⟨Tryd.prog, T, G_repeat, bs⟩ := ⟨tok, by rw [hgl]; exact G_repeat_ok gl⟩
    have u1 : IntKind.u64.wrap 1 = 1 := by decide
    have un : IntKind.u64.wrap (n : Int) = n := by simp [IntKind.wrap, IntKind.signed, IntKind.bits]; omega
    have w1 : IntKind.i64.wrap (n : Int) = n := wrap64 _ (by omega) (by omega)
    have n0 : ¬ (n : Int) < 0 := by omega
    have nb : ¬ (9223372036854775807 : Int) < n := by omega
    have nb2 : n * 96 ≤ 140737488355328 := by omega
    have mn : min 1 n = 1 := by omega
    have c0 := celOf_C c
    simp only [repeatSpec]
    simp [and_assoc, repeatSpec, mulSpec, Tryd.f67, u1, un, w1, h1, h2, n0, nb, nb2, mn, c0, rep_cel]
    refine ⟨by omega, by omega, by omega, ?_⟩
    refine AWP.rounds (fun m => 1 ≤ m ∧ m ≤ n) (repeatS c n) (fun m => n - m) 1 ⟨by omega, h1⟩ ?_ ?_
    · refine Weak.heap ?_ ?_
      · have q : celsC (List.replicate n cel0) = celC cel0 ++ celsC (List.replicate (n - 1) cel0) := by
          conv => lhs; rw [show n = (n - 1) + 1 by omega, List.replicate_succ]
          rfl
        rw [show (⟨0, 0, 0, 0, sty0⟩ : Cel) = cel0 from rfl, q, drop_cel12]
        simp [celsC]
      · simp
    · rintro m ⟨hm1, hm2⟩
      refine wpc_ok hE mixed _ _ _ ?_
      rcases Nat.lt_or_ge m n with h | h
      · obtain ⟨k, hk, hk1, hk2⟩ : ∃ k, min m (n - m) = k ∧ 1 ≤ k ∧ m + k ≤ n := ⟨_, rfl, by omega, by omega⟩
        have e1 : ((n : Int) - m).toNat = n - m := by omega
        have w2 : IntKind.i64.wrap ((m : Int) + k) = ((m + k : Nat) : Int) := by rw [wrap64 _ (by omega) (by omega)]; omega
        have t1 : List.take (m * 12) (celsC (List.replicate m c ++ List.replicate (n - m) cel0)) = celsC (List.replicate m c) := by
          rw [celsC_take, List.take_left' (by simp)]
        have t2 : List.take (k * 12) (celsC (List.replicate m c)) = celsC (List.replicate k c) := by
          rw [celsC_take, List.take_replicate, Nat.min_eq_left (by omega)]
        simp [repeatS, h, e1, hk, t1, t2, w2]
        refine ⟨hm2, by omega, rfl, Next.mk (m + k) ⟨by omega, hk2⟩ (by omega) (Weak.heap ?_ (by simp))⟩
        rw [← t1, cels_lay _ _ _ _ (by simp), rep_lay _ _ _ _ _ hk2]
      · obtain rfl : m = n := by omega
        simp [repeatS, celsV]
        done

def newF (cols : Int) (s : Sty) : Rw × Int := if cols < 2 ∨ 80 < cols then (⟨[], false⟩, 2) else if styF s ≠ 0 then (⟨[], false⟩, styF s) else (⟨List.replicate cols.toNat (blankF s), false⟩, 0)
def newSpec : Spec := { pre := fun args => ∃ (cols : Int) (s : Sty), args = [.c (.int .i64 cols), styV s] ∧ s.ok, res := fun args => match args with
  | [.c (.int _ cols), .agg s] => .many [.val (rowV (newF cols (stOf s)).1), .val (.c (.int .i64 (newF cols (stOf s)).2))]
  | _ => .many [] }
theorem rowC_nil : rowC ⟨[], false⟩ = [.sl 0 [], .bool false] := rfl
def G_new : Specs := [(58, stySpec), (41, blankSpec), (67, repeatSpec)]
@[simp] theorem G_new_live : Specs.live G_new = false := rfl
@[simp] theorem G_new_nils : Specs.nils G_new = false := rfl
@[simp] theorem G_new_froz : Specs.froz G_new = false := rfl
@[simp] theorem G_new_58 : G_new.find 58 = some stySpec := rfl
@[simp] theorem G_new_41 : G_new.find 41 = some blankSpec := rfl
@[simp] theorem G_new_67 : G_new.find 67 = some repeatSpec := rfl
theorem G_new_ok (gl : Gl) : SpecsOK Tryd.prog gl G_new := .cons (sty_sound gl) (.cons (rowblank_sound gl) (.cons (repeat_sound gl) (.nil _ _)))
set_option maxRecDepth 10000 in
theorem new_sound (gl : Gl) : Sound Tryd.prog gl 44 newSpec := by
  refine sound_fn (N := Tryd.f44.ntmps) (rs := Tryd.f44.results.toList) mixed tok (G_new_ok gl) Tryd.func44 rfl rfl rfl rfl rfl ?_ ?_ ?_
  · rintro args ⟨cols,s,rfl,h⟩; simp [styV,stOf_C, Tryd.f44]
  · rintro args ⟨cols,s,rfl,h⟩; simp [styV,stOf_C, newSpec, Tryd.f44]
  · rintro args ⟨cols,s,rfl,h⟩ bs hgl hh hro
    have hE : Env.OK ⟨Tryd.prog, T, G_new, bs⟩ := ⟨tok, by rw [hgl]; exact G_new_ok gl⟩
    simp only [newSpec, styV,stOf_C]
    unfold newF
    by_cases h2 : cols < 2
    · simp [and_assoc, newSpec, blankSpec, repeatSpec, stySpec, Tryd.f44, h2, rowV, rowC_nil]
      done
    · by_cases h80 : 80 < cols
      · simp [and_assoc, newSpec, blankSpec, repeatSpec, stySpec, Tryd.f44, h2, h80, rowV, rowC_nil]
        done
      · by_cases hs : styF s = 0
        · obtain ⟨n, rfl⟩ : ∃ n : Nat, cols = n := ⟨cols.toNat, by omega⟩
          simp [and_assoc, newSpec, blankSpec, repeatSpec, stySpec, Tryd.f44, h, h2, h80, hs, rowV, rowC, styV, celV]
          exact ⟨n, rfl, by omega, by omega⟩
        · simp [and_assoc, newSpec, blankSpec, repeatSpec, stySpec, Tryd.f44, h, h2, h80, hs, rowV, rowC_nil, styV]
          done

def blanksSpec : Spec := { pre := fun args => ∃ (n : Nat) (s : Sty), args = [.c (.int .i64 n), styV s] ∧ n ≤ 1000, res := fun args => match args with
  | [.c (.int _ n), .agg s] => .one (.val (celsV (List.replicate n.toNat (blankF (stOf s)))))
  | _ => .many [] }
def blanksS (n : Nat) (s : Sty) (i : Nat) : St :=
  ⟨18, [(0, .val (.int .i64 n)), (3, .ptr 0 0 0), (5, if i = 0 then .nil else .ref 1 0), (6, .val (.int .i64 i))],
    .box 32 ((styC s).map .val) :: if i = 0 then [] else [.sl 34 0 true 12 i (celsC (List.replicate i (blankF s)))]⟩
def G_blanks : Specs := [(42, blankSpec)]
@[simp] theorem G_blanks_live : Specs.live G_blanks = false := rfl
@[simp] theorem G_blanks_nils : Specs.nils G_blanks = false := rfl
@[simp] theorem G_blanks_froz : Specs.froz G_blanks = false := rfl
@[simp] theorem G_blanks_42 : G_blanks.find 42 = some blankSpec := rfl
theorem G_blanks_ok (gl : Gl) : SpecsOK Tryd.prog gl G_blanks := .cons (blank_sound gl) (.nil _ _)
set_option maxRecDepth 10000 in
theorem blanks_sound (gl : Gl) : Sound Tryd.prog gl 63 blanksSpec := by
  refine sound_fn (N := Tryd.f63.ntmps) (rs := Tryd.f63.results.toList) mixed tok (G_blanks_ok gl) Tryd.func63 rfl rfl rfl rfl rfl ?_ ?_ ?_
  · rintro args ⟨n,s,rfl,h⟩; simp [styV,stOf_C, Tryd.f63]
  · rintro args ⟨n,s,rfl,h⟩; simp [styV,stOf_C, blanksSpec, Tryd.f63]
  · rintro args ⟨n,s,rfl,h⟩ bs hgl hh hro
    have hE : Env.OK ⟨Tryd.prog, T, G_blanks, bs⟩ := ⟨tok, by rw [hgl]; exact G_blanks_ok gl⟩
    simp only [blanksSpec, styV,stOf_C]
    simp [and_assoc, blanksSpec, blankSpec, Tryd.f63]
    refine AWP.rounds (fun i => i ≤ n) (blanksS n s) (fun i => n - i) 0 (by simp) ?_ ?_
    · refine Weak.keep ?_
      simp [blanksS]
    · intro i hi
      refine wpc_ok hE mixed _ _ _ ?_
      rcases Nat.lt_or_ge i n with hl | hl
      · have w1 : IntKind.i64.wrap ((i : Int) + 1) = i + 1 := wrap64 _ (by omega) (by omega)
        have e : celsC (List.replicate (i + 1) (blankF s)) = celsC (List.replicate i (blankF s)) ++ celC (blankF s) := by
          rw [List.replicate_succ', celsC_app, celsC_one]
        rcases Nat.eq_zero_or_pos i with h0 | h0
        · subst h0
          simp [blanksS, and_assoc, blankSpec, styV, celV, hl, w1]
          exact Next.mk 1 (by omega) (by omega) (Weak.ren [some 0, some 1] (baseOK.nil hh) (by simp) (by simp [blanksS, celsC]) (by simp [blanksS]))
        · have h0' : ¬ i = 0 := by omega
          simp [blanksS, and_assoc, blankSpec, styV, celV, hl, w1, h0']
          exact ⟨by omega, by omega, Next.mk (i + 1) (by omega) (by omega) (Weak.ren [some 0, some 1] (baseOK.nil hh) (by simp) (by simp [blanksS, e]) (by simp [blanksS]))⟩
      · obtain rfl : i = n := by omega
        rcases Nat.eq_zero_or_pos i with h0 | h0
        · subst h0
          simp [blanksS, celsV]
        · have h0' : ¬ i = 0 := by omega
          simp [blanksS, celsV, h0']
def G_rnew : Specs := [(60, stySpec), (63, blanksSpec)]
@[simp] theorem G_rnew_live : Specs.live G_rnew = false := rfl
@[simp] theorem G_rnew_nils : Specs.nils G_rnew = false := rfl
@[simp] theorem G_rnew_froz : Specs.froz G_rnew = false := rfl
@[simp] theorem G_rnew_60 : G_rnew.find 60 = some stySpec := rfl
@[simp] theorem G_rnew_63 : G_rnew.find 63 = some blanksSpec := rfl
theorem G_rnew_ok (gl : Gl) : SpecsOK Tryd.prog gl G_rnew := .cons (rsty_sound gl) (.cons (blanks_sound gl) (.nil _ _))
set_option maxRecDepth 10000 in
theorem rnew_sound (gl : Gl) : Sound Tryd.prog gl 45 newSpec := by
  refine sound_fn (N := Tryd.f45.ntmps) (rs := Tryd.f45.results.toList) mixed tok (G_rnew_ok gl) Tryd.func45 rfl rfl rfl rfl rfl ?_ ?_ ?_
  · rintro args ⟨cols,s,rfl,h⟩; simp [styV,stOf_C, Tryd.f45]
  · rintro args ⟨cols,s,rfl,h⟩; simp [styV,stOf_C, newSpec, Tryd.f45]
  · rintro args ⟨cols,s,rfl,h⟩ bs hgl hh hro
    have hE : Env.OK ⟨Tryd.prog, T, G_rnew, bs⟩ := ⟨tok, by rw [hgl]; exact G_rnew_ok gl⟩
    simp only [newSpec, styV,stOf_C]
    unfold newF
    by_cases h2 : cols < 2
    · simp [and_assoc, newSpec, blanksSpec, stySpec, Tryd.f45, h2, rowV, rowC_nil]
    · by_cases h80 : 80 < cols
      · simp [and_assoc, newSpec, blanksSpec, stySpec, Tryd.f45, h2, h80, rowV, rowC_nil]
      · by_cases hs : styF s = 0
        · obtain ⟨n, rfl⟩ : ∃ n : Nat, cols = n := ⟨cols.toNat, by omega⟩
          simp [and_assoc, newSpec, blanksSpec, stySpec, Tryd.f45, h, h2, h80, hs, rowV, rowC, styV, celV]
          exact ⟨n, rfl, by omega⟩
        · simp [and_assoc, newSpec, blanksSpec, stySpec, Tryd.f45, h, h2, h80, hs, rowV, rowC_nil, styV]
end Fen

namespace Fen
open Go Go.Proofs

theorem set_same {α : Type} {l : List α} {i : Nat} {x : α} (h : l[i]? = some x) : l.set i x = l := by
  have hl := (List.getElem?_eq_some_iff.1 h)
  obtain ⟨hl, e⟩ := hl
  rw [← e]; exact List.set_getElem_self hl
theorem get_set_self {α : Type} {l : List α} {i : Nat} {x y : α} (h : l[i]? = some x) : (l.set i y)[i]? = some y := by
  rw [List.getElem?_set_self (List.getElem?_eq_some_iff.1 h).1]

/-- cells of a part made blank -/
def eraseF (l : List Cel) (a b : Nat) (s : Sty) : List Cel := l.take a ++ List.replicate (b - a) (blankF s) ++ l.drop b
theorem erase_len {l : List Cel} {a b : Nat} (s : Sty) (h : a ≤ b) (h2 : b ≤ l.length) : (eraseF l a b s).length = l.length := by simp [eraseF]; omega
theorem erase_same (l : List Cel) (a : Nat) (s : Sty) : eraseF l a a s = l := by simp [eraseF]
theorem erase_step {l : List Cel} {a i : Nat} (s : Sty) (h : a + i < l.length) : (eraseF l a (a + i) s).set (a + i) (blankF s) = eraseF l a (a + (i + 1)) s := by
  unfold eraseF
  rw [List.set_append_right _ _ (by simp; omega)]
  have e : a + i - (l.take a ++ List.replicate (a + i - a) (blankF s)).length = 0 := by simp; omega
  rw [e, List.drop_eq_getElem_cons h, List.set_cons_zero, show a + (i + 1) - a = (a + i - a) + 1 by omega, List.replicate_succ']
  simp [Nat.add_assoc]

def er1HS : HS := { wr := true, eff := fun xs h => match xs with
  | [.ref id v, .fptr [.int q1 a], .fptr [.int q2 b], .fptr s] =>
    ((∃ (l : List Cel) (st : Sty) (a' b' : Nat), h[id]? = some (.sl 34 v true 12 l.length (celsC l)) ∧ s = styC st ∧ a = a' ∧ b = b' ∧ q1 = .i64 ∧ q2 = .i64 ∧ a' ≤ b' ∧ b' ≤ l.length ∧ l.length ≤ 1000), .tup [],
      match h[id]? with | some (.sl ty v' p sz n cs) => h.set id (.sl ty v' p sz n (celsC (eraseF (celsOf cs) a.toNat b.toNat (stOf s)))) | _ => h)
  | _ => (False, .dead, h) }
def er1S (id v : Nat) (l : List Cel) (st : Sty) (a b : Nat) (h : List Blk) (i : Nat) : St :=
  ⟨22, [(0, .ref id v), (1, .fptr [.int .i64 a]), (2, .fptr [.int .i64 b]), (3, .fptr (styC st)), (10, .val (.int .i64 ((b - a : Nat) : Int))), (11, .val (.int .i64 i))], h.set id (.sl 34 v true 12 l.length (celsC (eraseF l a (a + i) st)))⟩
def er1Spec : Spec := { pre := fun _ => False, res := fun _ => .many [], hp := some er1HS }
def G_er1 : Specs := [(41, blankSpec)]
@[simp] theorem G_er1_live : Specs.live G_er1 = false := rfl
@[simp] theorem G_er1_nils : Specs.nils G_er1 = false := rfl
@[simp] theorem G_er1_froz : Specs.froz G_er1 = false := rfl
@[simp] theorem G_er1_41 : G_er1.find 41 = some blankSpec := rfl
theorem G_er1_ok (gl : Gl) : SpecsOK Tryd.prog gl G_er1 := .cons (rowblank_sound gl) (.nil _ _)
set_option maxRecDepth 10000 in
theorem er1_sound (gl : Gl) : Sound Tryd.prog gl 59 er1Spec := by
  refine sound_heap (hs := er1HS) (N := Tryd.f59.ntmps) (rs := Tryd.f59.results.toList) mixed tok (G_er1_ok gl) Tryd.func59 rfl rfl rfl rfl rfl ?_ ?_
  · intro xs h hp
    simp only [er1HS] at hp
    split at hp
    all_goals first | exact hp.elim | simp [Tryd.f59]
  · intro xs h hp bs hgl hh hro
    have hE : Env.OK ⟨Tryd.prog, T, G_er1, bs⟩ := ⟨tok, by rw [hgl]; exact G_er1_ok gl⟩
    simp only [er1HS] at hp
    split at hp
    · rename_i id v q1 a0 q2 b0 s
      obtain ⟨l, st, a, b, hget, rfl, rfl, rfl, rfl, rfl, hab, hbl, hl⟩ := hp
      have hid := lt_of_get hget
      have eb : ((b : Int) - a).toNat = b - a := by omega
      have hab' : (a : Int) ≤ b := by omega
      simp [Tryd.f59, hcEff, er1HS, hget, celsOf_C, eb, hab, hbl, hab']
      refine AWP.rounds (fun i => i ≤ b - a) (er1S id v l st a b h) (fun i => b - a - i) 0 (by simp) ?_ ?_
      · refine Weak.heap ?_ ?_
        · rw [Nat.add_zero, erase_same, set_same hget]
        · simp
          done
      · intro i hi
        refine wpc_ok hE mixed _ _ _ ?_
        have g := fun y => get_set_self (y := y) hget
        by_cases hil : i < b - a
        · have w1 : IntKind.i64.wrap ((i : Int) + 1) = i + 1 := wrap64 _ (by omega) (by omega)
          have w2 : IntKind.i64.wrap ((a : Int) + i) = ((a + i : Nat) : Int) := by rw [wrap64 _ (by omega) (by omega)]; omega
          have e2 : ((a : Int) + i).toNat = a + i := by omega
          have el := erase_len (l := l) (a := a) (b := a + i) st (by omega) (by omega)
          simp [er1S, and_assoc, blankSpec, styV, celV, g, hil, w1, w2, e2]
          refine ⟨by omega, by omega, by rw [el]; omega, rfl, Next.mk (i + 1) (by omega) (by omega) (Weak.heap ?_ (by simp))⟩
          rw [celsC_set (by rw [el]; omega), erase_step st (by omega)]
        · obtain rfl : i = b - a := by omega
          simp [er1S, and_assoc, blankSpec]
          rw [show a + (b - a) = b by omega]
          exact RetTo.same ⟨rfl, rfl⟩
    · exact hp.elim

def chErSpec : Spec := { pre := fun args => ∃ (r : Rw) (a b : Nat) (st : Sty), args = [rowV r, .c (.fn 59 [.ptr [.int .i64 a], .ptr [.int .i64 b], .ptr (styC st)])] ∧ a ≤ b ∧ b ≤ r.cells.length ∧ r.cells.length ≤ 1000, res := fun args => match args with
  | [.agg r, .c (.fn _ [.ptr [.int _ a], .ptr [.int _ b], .ptr s])] => .one (.val (rowV ⟨eraseF (rowOf r).cells a.toNat b.toNat (stOf s), (rowOf r).wrapped⟩))
  | _ => .many [] }
def G_chEr : Specs := [(59, er1Spec)]
@[simp] theorem G_chEr_live : Specs.live G_chEr = false := rfl
@[simp] theorem G_chEr_nils : Specs.nils G_chEr = false := rfl
@[simp] theorem G_chEr_froz : Specs.froz G_chEr = false := rfl
@[simp] theorem G_chEr_59 : G_chEr.find 59 = some er1Spec := rfl
theorem G_chEr_ok (gl : Gl) : SpecsOK Tryd.prog gl G_chEr := .cons (er1_sound gl) (.nil _ _)
set_option maxRecDepth 10000 in
theorem chEr_sound (gl : Gl) : Sound Tryd.prog gl 50 chErSpec := by
  refine sound_fn (N := Tryd.f50.ntmps) (rs := Tryd.f50.results.toList) mixed tok (G_chEr_ok gl) Tryd.func50 rfl rfl rfl rfl rfl ?_ ?_ ?_
  · rintro args ⟨r,a,b,st,rfl,h1,h2,h3⟩; simp [rowV,rowOf_C,stOf_C, Tryd.f50]
  · rintro args ⟨r,a,b,st,rfl,h1,h2,h3⟩; simp [rowV,rowOf_C,stOf_C, chErSpec, Tryd.f50]
  · rintro args ⟨r,a,b,st,rfl,h1,h2,h3⟩ bs hgl hh hro
    have hE : Env.OK ⟨Tryd.prog, T, G_chEr, bs⟩ := ⟨tok, by rw [hgl]; exact G_chEr_ok gl⟩
    simp only [chErSpec, rowV,rowOf_C,stOf_C]
    have tk : List.take (r.cells.length * 12) (celsC r.cells) = celsC r.cells := List.take_of_length_le (by simp)
    have dk : List.drop (r.cells.length * 12) (celsC (List.replicate r.cells.length ⟨0, 0, 0, 0, sty0⟩)) = [] := List.drop_eq_nil_of_le (by simp)
    have el := erase_len (l := r.cells) (a := a) (b := b) st h1 h2
    simp [and_assoc, chErSpec, er1Spec, Tryd.f50, er1HS, rep_cel, tk, dk, el, rowC]
    exact ⟨by omega, by omega, r.cells, rfl, rfl, a, rfl, b, rfl, h1, h2, h3⟩
end Fen
