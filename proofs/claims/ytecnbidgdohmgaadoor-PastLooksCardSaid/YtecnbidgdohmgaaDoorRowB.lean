/- A part of the proof; no statement is proved here: PPastA, PRowC, PRowD, PRowE, PRowF. -/
import Derived.Test.YtecnbidgdohmgaaDoorRowA

set_option linter.unusedVariables false
set_option linter.unusedSimpArgs false

namespace Fen
open Go

/-! ### rows, histories: what the program and the reference say of them -/
def sty0 : Sty := ⟨0, 0, 0, 0, 0, 0, 0, 0⟩
def cel0 : Cel := ⟨0, 0, 0, 0, sty0⟩
def blankF (s : Sty) : Cel := ⟨32, 0, 0, 0, s⟩
def secondF (s : Sty) : Cel := ⟨0, 0, 0, 2, s⟩

/-- is the next cell wrong, behind that one -/
def offF (last c : Cel) : Bool := decide (cellF c ≠ 0) || (decide (last.wide = 1) != decide (c.wide = 2)) || (decide (c.wide = 2) && decide (c.st ≠ last.st))
def chainF (last : Cel) : List Cel → Bool
  | [] => decide (last.wide ≠ 1)
  | c :: l => !offF last c && chainF c l
def rowF (r : Rw) : Int := if 2 ≤ r.cells.length ∧ r.cells.length ≤ 80 ∧ chainF cel0 r.cells = true then 0 else 220

def okRows (cols : Int) (p : List Rw) : Bool := p.all fun r => decide ((r.cells.length : Int) = cols) && decide (rowF r = 0)
def pastF (cols : Int) (p : List Rw) : Int := if cols < 2 ∨ 80 < cols then 2 else if p.length ≤ 100 ∧ okRows cols p = true then 0 else 280
def bothF (cols : Int) (a b : List Rw) : Int := if pastF cols a ≠ 0 then pastF cols a else pastF cols b
def joinF (p w : List Rw) : List Rw := (p ++ w).drop ((p ++ w).length - 100)
def pushF (cols : Int) (p w : List Rw) : List Rw × Int := if bothF cols p w ≠ 0 then ([], bothF cols p w) else (joinF p w, 0)
def popF (cols : Int) (p : List Rw) (n : Int) : List Rw × List Rw × Int :=
  if pastF cols p ≠ 0 then ([], [], pastF cols p) else if n < 0 then ([], [], 2) else (p.take (p.length - n.toNat), p.drop (p.length - n.toNat), 0)
def viewF (cols : Int) (p rows : List Rw) (off : Int) : List Rw × Int :=
  if bothF cols p rows ≠ 0 then ([], bothF cols p rows) else if off < 0 then ([], 2) else (((p ++ rows).drop (p.length - off.toNat)).take rows.length, 0)

theorem cellF_or (c : Cel) : cellF c = 0 ∨ cellF c = 221 := by unfold cellF; (repeat' split) <;> simp
theorem rowF_or (r : Rw) : rowF r = 0 ∨ rowF r = 220 := by unfold rowF; split <;> simp
theorem pastF_or (cols : Int) (p : List Rw) : pastF cols p = 0 ∨ pastF cols p = 2 ∨ pastF cols p = 280 := by unfold pastF; (repeat' split) <;> simp

/-! ### rows out of small numbers -/
def styleF (b : Int) : Sty :=
  if b % 8 = 0 then sty0 else if b % 8 = 1 then sty0 else if b % 8 = 2 then ⟨1, 0, 0, 0, 0, 0, 0, 0⟩ else if b % 8 = 3 then ⟨0, 0, 0, 0, 1, 4, 0, 0⟩
  else if b % 8 = 4 then ⟨17, 0, 2, 1056816, 0, 0, 0, 0⟩ else if b % 8 = 5 then ⟨0, 3, 0, 0, 0, 0, 1, 200⟩ else if b % 8 = 6 then ⟨2, 0, 0, 0, 2, 16777215, 0, 0⟩ else ⟨255, 5, 0, 0, 0, 0, 0, 0⟩
def codeF (b : Int) : Int :=
  if b % 8 = 0 then 32 else if b % 8 = 1 then 97 else if b % 8 = 2 then 122 else if b % 8 = 3 then 233
  else if b % 8 = 4 then 20013 else if b % 8 = 5 then 128512 else if b % 8 = 6 then 65533 else 69
def marksF (b : Int) : Int × Int := if b / 8 % 8 = 5 then (768, 8400) else if b / 8 % 4 = 1 then (769, 0) else (0, 0)
def signF (b s : Int) : Cel := ⟨codeF b, (marksF b).1, (marksF b).2, widthF (codeF b) - 1, styleF s⟩
/-- the sign that comes next in a row of so many cells -/
def nextF (cols : Nat) (B : List Int) (n : Nat) : Cel :=
  match B with
  | [] => blankF sty0
  | b :: _ => if (signF b (b / 32)).wide = 1 ∧ n + 1 = cols then blankF (signF b (b / 32)).st else signF b (b / 32)
def drawF (cols : Nat) : Nat → List Int → List Cel → List Cel
  | 0, _, l => l
  | k + 1, B, l =>
    if l.length < cols then
      drawF cols k (B.drop 1) (if (nextF cols B l.length).wide = 1 then l ++ [nextF cols B l.length, secondF (nextF cols B l.length).st] else l ++ [nextF cols B l.length])
    else l
/-- a draft's row: cols, B, wrapped -/
def draftF (c : Int) (B : List Int) (w : Bool) : Rw := ⟨drawF (2 + c.toNat % 79) 80 B [], w⟩

def lettersF (cols : Int) (l : List Int) : List Rw := l.map fun b => draftF (cols - 2) [b] (decide (b % 3 = 0))

/-! ### validity -/
theorem styF_style (b : Int) : styF (styleF b) = 0 := by
  unfold styleF
  (repeat' split) <;> rfl
theorem widthF_code (b : Int) : widthF (codeF b) = 1 ∨ widthF (codeF b) = 2 := by
  unfold codeF
  (repeat' split) <;> first | (left; decide +kernel) | (right; decide +kernel)
theorem markedF_marks (b : Int) : markedF (marksF b).1 (marksF b).2 = true := by
  unfold marksF
  (repeat' split) <;> decide +kernel
theorem cellF_sign (b s : Int) : cellF (signF b s) = 0 := by
  have h1 : styF (signF b s).st = 0 := styF_style s
  have h2 := widthF_code b
  have h3 : markedF (signF b s).m0 (signF b s).m1 = true := markedF_marks b
  unfold cellF
  rw [if_neg (by simpa using h1), if_pos]
  refine .inr ⟨h3, ?_⟩
  rcases h2 with h | h
  · exact .inl ⟨by simp [signF, h], by simp [signF, h]⟩
  · exact .inr ⟨by simp [signF, h], by simp [signF, h]⟩
theorem wide_sign (b s : Int) : (signF b s).wide = 0 ∨ (signF b s).wide = 1 := by
  rcases widthF_code b with h | h <;> simp [signF, h]
theorem cellF_blank {s : Sty} (h : styF s = 0) : cellF (blankF s) = 0 := by
  have h3 : markedF 0 0 = true := by decide +kernel
  have h4 : widthF 32 = 1 := by decide +kernel
  unfold cellF
  rw [if_neg (by simpa [blankF] using h), if_pos]
  exact .inr ⟨h3, .inl ⟨rfl, h4⟩⟩
theorem cellF_second {s : Sty} (h : styF s = 0) : cellF (secondF s) = 0 := by
  unfold cellF
  rw [if_neg (by simpa [secondF] using h), if_pos]
  exact .inl ((halfF_iff _).2 ⟨rfl, rfl, rfl, rfl⟩)
theorem next_ok (cols : Nat) (B : List Int) (n : Nat) : cellF (nextF cols B n) = 0 ∧ styF (nextF cols B n).st = 0 ∧ ((nextF cols B n).wide = 0 ∨ ((nextF cols B n).wide = 1 ∧ n + 1 ≠ cols)) := by
  unfold nextF
  split
  · exact ⟨cellF_blank rfl, rfl, .inl rfl⟩
  · rename_i b _
    have hs : styF (signF b (b / 32)).st = 0 := styF_style _
    split
    · exact ⟨cellF_blank hs, hs, .inl rfl⟩
    · rename_i h
      refine ⟨cellF_sign _ _, hs, ?_⟩
      rcases wide_sign b (b / 32) with q | q
      · exact .inl q
      · exact .inr ⟨q, fun e => h ⟨q, e⟩⟩

/-- how far it goes: the last cell, if all went well -/
def linkF (last : Cel) : List Cel → Option Cel
  | [] => some last
  | c :: l => if offF last c = true then none else linkF c l
theorem chain_link : ∀ (l : List Cel) (a : Cel), chainF a l = match linkF a l with | some q => decide (q.wide ≠ 1) | none => false
  | [], a => rfl
  | c :: l, a => by
    cases h : offF a c
    · simp only [chainF, linkF, h, Bool.not_false, Bool.true_and, Bool.false_eq_true, if_false]; exact chain_link l c
    · simp [chainF, linkF, h]
theorem link_app : ∀ (l m : List Cel) (a q : Cel), linkF a l = some q → linkF a (l ++ m) = linkF q m
  | [], m, a, q, h => by simp only [linkF, Option.some.injEq] at h; subst h; rfl
  | c :: l, m, a, q, h => by
    simp only [linkF, List.cons_append] at h ⊢
    split at h
    · cases h
    · rename_i h1; rw [if_neg h1]; exact link_app l m c q h
theorem draw_ok (cols : Nat) : ∀ (k : Nat) (B : List Int) (l : List Cel), (∃ q, linkF cel0 l = some q ∧ q.wide ≠ 1) → l.length ≤ cols → cols ≤ l.length + k →
    (drawF cols k B l).length = cols ∧ chainF cel0 (drawF cols k B l) = true
  | 0, B, l, ⟨q, h1, h2⟩, h3, h4 => ⟨by simp only [drawF]; omega, by simp only [drawF]; rw [chain_link, h1]; simpa using h2⟩
  | k + 1, B, l, ⟨q, h1, h2⟩, h3, h4 => by
    unfold drawF
    split
    · rename_i hlt
      obtain ⟨c1, c2, c3⟩ := next_ok cols B l.length
      generalize nextF cols B l.length = c at *
      have hoff : c.wide ≠ 2 → offF q c = false := fun h => by simp [offF, c1, h2, h]
      rcases c3 with c3 | ⟨c3, c4⟩
      · rw [if_neg (by omega)]
        refine draw_ok cols k _ _ ⟨c, ?_, by omega⟩ (by simp; omega) (by simp; omega)
        rw [link_app l [c] _ _ h1]
        simp [linkF, hoff (by omega)]
      · rw [if_pos c3]
        refine draw_ok cols k _ _ ⟨secondF c.st, ?_, by simp [secondF]⟩ (by simp; omega) (by simp; omega)
        rw [link_app l _ _ _ h1]
        have h5 : offF c (secondF c.st) = false := by simp only [offF, cellF_second c2, c3]; simp [secondF]
        simp [linkF, hoff (by omega), h5]
    · exact ⟨by omega, by rw [chain_link, h1]; simpa using h2⟩
theorem draft_len (c : Int) (B : List Int) (w : Bool) : (draftF c B w).cells.length = 2 + c.toNat % 79 :=
  (draw_ok _ 80 B [] ⟨cel0, rfl, by decide⟩ (by simp) (by simp; omega)).1
theorem draft_ok (c : Int) (B : List Int) (w : Bool) : rowF (draftF c B w) = 0 := by
  have h := draw_ok (2 + c.toNat % 79) 80 B [] ⟨cel0, rfl, by decide⟩ (by simp) (by simp; omega)
  unfold rowF
  rw [if_pos]
  refine ⟨?_, ?_, h.2⟩
  · rw [draft_len]; omega
  · rw [draft_len]; omega
theorem letters_len (cols : Int) (l : List Int) : (lettersF cols l).length = l.length := by simp [lettersF]
theorem letters_ok {cols : Int} (h : 2 ≤ cols ∧ cols ≤ 80) (l : List Int) : okRows cols (lettersF cols l) = true := by
  simp only [okRows, lettersF, List.all_map, List.all_eq_true, Function.comp_apply]
  intro b _
  simp only [draft_len, draft_ok, decide_true, Bool.and_true, decide_eq_true_eq]
  omega

theorem okRows_app (cols : Int) (a b : List Rw) : okRows cols (a ++ b) = (okRows cols a && okRows cols b) := by simp [okRows]
theorem okRows_drop {cols : Int} {a : List Rw} (h : okRows cols a = true) (k : Nat) : okRows cols (a.drop k) = true := by
  simp only [okRows, List.all_eq_true] at h ⊢
  exact fun r hr => h r (List.mem_of_mem_drop hr)
theorem okRows_take {cols : Int} {a : List Rw} (h : okRows cols a = true) (k : Nat) : okRows cols (a.take k) = true := by
  simp only [okRows, List.all_eq_true] at h ⊢
  exact fun r hr => h r (List.mem_of_mem_take hr)
theorem pastF_ok {cols : Int} {p : List Rw} (h : 2 ≤ cols ∧ cols ≤ 80) (hl : p.length ≤ 100) (hp : okRows cols p = true) : pastF cols p = 0 := by
  unfold pastF; rw [if_neg (by omega), if_pos ⟨hl, hp⟩]
theorem joinF_len (p w : List Rw) : (joinF p w).length = min (p.length + w.length) 100 := by simp [joinF]; omega
theorem joinF_nil (p : List Rw) (h : p.length ≤ 100) : joinF p [] = p := by simp [joinF, h]
theorem drop_le {α : Type} (l m : List α) (k : Nat) (h : l.length ≤ k) : (l ++ m).drop k = m.drop (k - l.length) := by
  rw [List.drop_append, List.drop_of_length_le h, List.nil_append]
theorem joinF_assoc (p a b : List Rw) : joinF (joinF p a) b = joinF p (a ++ b) := by
  unfold joinF
  rw [← List.append_assoc, List.length_append, List.length_drop, List.length_append (bs := b)]
  generalize p ++ a = q
  rcases Nat.le_total q.length 100 with h | h
  · rw [show q.length - 100 = 0 by omega, List.drop_zero]; congr 1
  · have e : List.drop (q.length - 100) q ++ b = List.drop (q.length - 100) (q ++ b) := by rw [List.drop_append_of_le_length (by omega)]
    rw [e, List.drop_drop]; congr 1; omega
end Fen

namespace Fen
open Go Go.Proofs

@[simp] theorem mapcel_d12 (c : Cel) : List.drop 12 (List.map X.val (celC c)) = [] := rfl
@[simp] theorem maprow_d2 (r : Rw) : List.drop 2 (List.map X.val (rowC r)) = [] := rfl
@[simp] theorem mapsty_d8 (s : Sty) : List.drop 8 (List.map X.val (styC s)) = [] := rfl

@[simp] theorem renXs_map {h h' : List Blk} {ids : List (Option Nat)} : ∀ l : List C, renXs h h' ids (l.map X.val) (l.map X.val) = True
  | [] => by simp
  | c :: l => by simp [renXs_map l]
@[simp] theorem cel_set3 (c : Cel) (n : Int) : List.take 3 (List.map X.val (celC c)) ++ X.val (.int .i64 n) :: List.drop 4 (List.map X.val (celC c)) = List.map X.val (celC { c with wide := n }) := rfl
@[simp] theorem cel_set1 (c : Cel) (n : Int) : List.take 1 (List.map X.val (celC c)) ++ X.val (.int .i64 n) :: List.drop 2 (List.map X.val (celC c)) = List.map X.val (celC { c with m0 := n }) := rfl
@[simp] theorem cel_set2 (c : Cel) (n : Int) : List.take 2 (List.map X.val (celC c)) ++ X.val (.int .i64 n) :: List.drop 3 (List.map X.val (celC c)) = List.map X.val (celC { c with m1 := n }) := rfl
@[simp] theorem cel_set12 (c : Cel) (n m : Int) : List.take 1 (List.map X.val (celC c)) ++ X.val (.int .i64 n) :: X.val (.int .i64 m) :: List.drop 3 (List.map X.val (celC c)) = List.map X.val (celC { c with m0 := n, m1 := m }) := rfl
@[simp] theorem cel_set0 (c : Cel) (n : Int) : X.val (.int .i64 n) :: List.drop 1 (List.map X.val (celC c)) = List.map X.val (celC { c with base := n }) := rfl
@[simp] theorem cel_setst (c : Cel) (s : Sty) : List.take 4 (List.map X.val (celC c)) ++ List.map X.val (styC s) = List.map X.val (celC { c with st := s }) := rfl
@[simp] theorem sty_zero : [C.int .i64 0, .int .i64 0, .int .i64 0, .int .i64 0, .int .i64 0, .int .i64 0, .int .i64 0, .int .i64 0] = styC sty0 := rfl
@[simp] theorem cel_zero : [C.int .i64 0, .int .i64 0, .int .i64 0, .int .i64 0, .int .i64 0, .int .i64 0, .int .i64 0, .int .i64 0, .int .i64 0, .int .i64 0, .int .i64 0, .int .i64 0] = celC cel0 := rfl
@[simp] theorem cel_zero' (a b c d : Int) : [C.int .i64 a, .int .i64 b, .int .i64 c, .int .i64 d, .int .i64 0, .int .i64 0, .int .i64 0, .int .i64 0, .int .i64 0, .int .i64 0, .int .i64 0, .int .i64 0] = celC ⟨a, b, c, d, sty0⟩ := rfl
@[simp] theorem cel_d12 (c : Cel) : (celC c).drop 12 = [] := rfl
@[simp] theorem sty_d8 (s : Sty) : (styC s).drop 8 = [] := rfl
@[simp] theorem row_d2 (r : Rw) : (rowC r).drop 2 = [] := rfl
@[simp] theorem cel_t1 (c : Cel) : (celC c).take 1 = [.int .i64 c.base] := rfl
@[simp] theorem cel_t2 (c : Cel) : (celC c).take 2 = [.int .i64 c.base, .int .i64 c.m0] := rfl
@[simp] theorem cel_t3 (c : Cel) : (celC c).take 3 = [.int .i64 c.base, .int .i64 c.m0, .int .i64 c.m1] := rfl
@[simp] theorem cel_t4 (c : Cel) : (celC c).take 4 = [.int .i64 c.base, .int .i64 c.m0, .int .i64 c.m1, .int .i64 c.wide] := rfl
theorem offF_iff (last c : Cel) : offF last c = false ↔ cellF c = 0 ∧ (last.wide == 1) = (c.wide == 2) ∧ (last.wide = 1 → c.st = last.st) := by
  unfold offF
  rcases Decidable.em (cellF c = 0) with h1 | h1 <;> rcases Decidable.em (last.wide = 1) with h2 | h2 <;> rcases Decidable.em (c.wide = 2) with h3 | h3 <;> simp [h1, h2, h3]
  rw [beq_eq_false_iff_ne.2 h2, beq_eq_false_iff_ne.2 h3]
theorem offF_true (last c : Cel) : offF last c = true ↔ ¬ (cellF c = 0 ∧ (last.wide == 1) = (c.wide == 2) ∧ (last.wide = 1 → c.st = last.st)) := by
  rw [← offF_iff]; simp

def Rw.ok (r : Rw) : Prop := ∀ c ∈ r.cells, c.ok
def rowckSpec : Spec := { pre := fun args => ∃ r : Rw, args = [rowV r] ∧ r.ok, res := fun args => .one (.val (.c (.int .i64 (rowF (rowOf (args.headD default).cs))))) }
def rowckS (cs : List Cel) (x : Nat × Cel) : St :=
  ⟨52, [(4, .ptr 0 0 0), (17, .val (.sl cs.length (celsC cs))), (18, .val (.int .i64 cs.length)), (19, .val (.int .i64 x.1))], [.box 71 ((celC x.2).map .val)]⟩

def G_rowck : Specs := [(36, cellSpec)]
@[simp] theorem G_rowck_36 : G_rowck.find 36 = some cellSpec := rfl
theorem G_rowck_ok : SpecsOK Tryd.prog glW G_rowck := .cons cell_sound (.nil _ _)
set_option maxRecDepth 10000 in
theorem rowck_sound : Sound Tryd.prog glW 29 rowckSpec := by
  refine sound_fn (N := Tryd.f29.ntmps) (rs := Tryd.f29.results.toList) mixed tok G_rowck_ok Tryd.func29 rfl rfl rfl rfl rfl ?_ ?_ ?_
  · rintro args ⟨r,rfl,hr⟩; simp [Tryd.f29]
  · rintro args ⟨r,rfl,hr⟩; simp [rowckSpec, Tryd.f29]
  · rintro args ⟨r,rfl,hr⟩ bs hgl hh hro
    have hE : Env.OK ⟨Tryd.prog, T, G_rowck, bs⟩ := ⟨tok, by rw [hgl]; exact G_rowck_ok⟩
    obtain ⟨cs, w⟩ := r
    simp only [rowckSpec, List.headD_cons, V.cs_row, rowOf_C]
    unfold rowF
    by_cases h2 : (cs.length : Int) < 2
    · rw [if_neg (by simp only; omega)]
      simp [rowckSpec, cellSpec, Tryd.f29, rowV, rowC, h2]
    by_cases h80 : 80 < (cs.length : Int)
    · rw [if_neg (by simp only; omega)]
      simp [rowckSpec, cellSpec, Tryd.f29, rowV, rowC, h2, h80]
    simp [rowckSpec, cellSpec, Tryd.f29, rowV, rowC, h2, h80]
    refine AWP.rounds (fun x => x.1 ≤ cs.length ∧ chainF cel0 cs = chainF x.2 (cs.drop x.1)) (rowckS cs) (fun x => cs.length - x.1) (0, cel0) ⟨by simp, by simp⟩ ?_ ?_
    · refine Weak.ren [some 1] (baseOK.nil hh) (by simp) (by simp [-sty_zero, -cel_zero, -cel_zero', rowckS, cel0, celC, styC, sty0]) ?_
      simp [rowckS]
    · rintro ⟨k, last⟩ ⟨hk, hc⟩
      refine wpc_ok hE mixed _ _ _ ?_
      simp only at hk hc
      rcases Nat.lt_or_ge k cs.length with h | h
      · have w1 : IntKind.i64.wrap ((k : Int) + 1) = k + 1 := wrap64 _ (by omega) (by omega)
        have hd := celsC_at h
        have hok : (cs[k]).ok := hr _ (List.getElem_mem h)
        rw [List.drop_eq_getElem_cons h] at hc
        generalize cs[k] = c at *
        simp [rowckS, cellSpec, hd, w1, h, hok]
        refine ⟨fun a b => ⟨⟨a, b⟩, fun d => ⟨⟨a, b⟩, d⟩⟩, fun hbad _ _ => ?_, fun h1 h3 h4 => ?_⟩
        · rw [hc]
          have : offF last c = true := by
            simp only [offF, Bool.or_eq_true, decide_eq_true_eq, Bool.and_eq_true, bne_iff_ne, ne_eq]
            rcases hbad with (q | q) | q
            · exact .inl (.inl q)
            · refine .inl (.inr fun e => q ?_)
              rw [Bool.eq_iff_iff]; simpa using e
            · exact .inr q
          simp [chainF, this]
        · have : offF last c = false := by
            rw [Bool.eq_iff_iff] at h3
            simp only [beq_iff_eq] at h3
            simp [offF, h1, h3]
            exact h4
          refine Next.mk (k + 1, c) ⟨by omega, by rw [hc]; simp [chainF, this]⟩ (by simp only; omega) (Weak.ren [some 0] (baseOK.nil hh) (by simp) (by simp [rowckS]) (by simp [rowckS]))
      · have : k = cs.length := by omega
        subst this
        have hc : chainF cel0 cs = decide (last.wide ≠ 1) := by rw [hc]; simp [chainF]
        simp [rowckS, cellSpec]
        have q1 : 2 ≤ cs.length := by omega
        have q2 : cs.length ≤ 80 := by omega
        simp [q1, q2, hc]
end Fen

namespace Fen
open Go Go.Proofs

theorem rowF_eq {cs : List Cel} {w : Bool} (h2 : ¬ (cs.length : Int) < 2) (h80 : ¬ 80 < (cs.length : Int)) : rowF ⟨cs, w⟩ = if chainF cel0 cs = true then 0 else 220 := by
  unfold rowF
  by_cases h : chainF cel0 cs = true
  · rw [if_pos h, if_pos ⟨by simp only; omega, by simp only; omega, h⟩]
  · rw [if_neg h, if_neg (fun q => h q.2.2)]
theorem rowF_out {cs : List Cel} {w : Bool} (h : (cs.length : Int) < 2 ∨ 80 < (cs.length : Int)) : rowF ⟨cs, w⟩ = 220 := by
  unfold rowF
  rw [if_neg (by simp only; omega)]

def rrckS (cs : List Cel) (k : Nat) : St := ⟨79, [(3, .val (.sl cs.length (celsC cs))), (4, .val (.int .i64 k))], []⟩

def G_rrowck : Specs := [(51, cellSpec)]
@[simp] theorem G_rrowck_51 : G_rrowck.find 51 = some cellSpec := rfl
theorem G_rrowck_ok (gl : Gl) : SpecsOK Tryd.prog gl G_rrowck := .cons (rcell_sound gl) (.nil _ _)
set_option maxRecDepth 10000 in
theorem rrowck_sound (gl : Gl) : Sound Tryd.prog gl 44 rowckSpec := by
  refine sound_fn (N := Tryd.f44.ntmps) (rs := Tryd.f44.results.toList) mixed tok (G_rrowck_ok gl) Tryd.func44 rfl rfl rfl rfl rfl ?_ ?_ ?_
  · rintro args ⟨r,rfl,hr⟩; simp [Tryd.f44]
  · rintro args ⟨r,rfl,hr⟩; simp [rowckSpec, Tryd.f44]
  · rintro args ⟨r,rfl,hr⟩ bs hgl hh hro
    have hE : Env.OK ⟨Tryd.prog, T, G_rrowck, bs⟩ := ⟨tok, by rw [hgl]; exact G_rrowck_ok gl⟩
    obtain ⟨cs, w⟩ := r
    simp only [rowckSpec, List.headD_cons, V.cs_row, rowOf_C]
    by_cases h2 : (cs.length : Int) < 2
    · rw [rowF_out (.inl h2)]
      simp [rowckSpec, cellSpec, Tryd.f44, rowV, rowC, h2]
    by_cases h80 : 80 < (cs.length : Int)
    · rw [rowF_out (.inr h80)]
      simp [rowckSpec, cellSpec, Tryd.f44, rowV, rowC, h2, h80]
    rw [rowF_eq h2 h80]
    simp [rowckSpec, cellSpec, Tryd.f44, rowV, rowC, h2, h80]
    refine AWP.rounds (fun k => k ≤ cs.length ∧ ∃ last, (k = 0 → last = cel0) ∧ (∀ j, k = j + 1 → cs[j]? = some last) ∧ chainF cel0 cs = chainF last (cs.drop k) ∧ (k = cs.length → last.wide ≠ 1)) (rrckS cs) (fun k => cs.length - k) 0 ⟨by simp, cel0, by simp, by simp, by simp, fun _ => by decide⟩ ?_ ?_
    · refine Weak.ren [] (baseOK.nil hh) (by simp) (by simp) ?_
      simp [rrckS]
    · rintro k ⟨hk, last, l0, l1, hc, hend⟩
      refine wpc_ok hE mixed _ _ _ ?_
      rcases Nat.lt_or_ge k cs.length with h | h
      · have w1 : IntKind.i64.wrap ((k : Int) + 1) = k + 1 := wrap64 _ (by omega) (by omega)
        have w2 : IntKind.i64.wrap ((cs.length : Int) - 1) = cs.length - 1 := wrap64 _ (by omega) (by omega)
        have hd := celsC_at h
        have hok : (cs[k]).ok := hr _ (List.getElem_mem h)
        have hnext : cs[k]? = some cs[k] := List.getElem?_eq_getElem h
        rw [List.drop_eq_getElem_cons h] at hc
        generalize cs[k] = c at *
        have fin : ∀ st, Weak bs st (rrckS cs (k + 1)) → offF last c = false → ¬ (c.wide = 1 ∧ k + 1 = cs.length) → Next bs (fun k => k ≤ cs.length ∧ ∃ last, (k = 0 → last = cel0) ∧ (∀ j, k = j + 1 → cs[j]? = some last) ∧ chainF cel0 cs = chainF last (cs.drop k) ∧ (k = cs.length → last.wide ≠ 1)) (rrckS cs) (fun k => cs.length - k) k st := fun st hw e1 e2 =>
          Next.mk (k + 1) ⟨by omega, c, by omega, fun j hj => Nat.succ.inj hj ▸ hnext, by rw [hc]; simp [chainF, e1], fun e3 e4 => e2 ⟨e4, e3⟩⟩ (by omega) hw
        have bad1 : offF last c = true → chainF cel0 cs = false := fun q => by rw [hc]; simp [chainF, q]
        have bad2 : k + 1 = cs.length → c.wide = 1 → chainF cel0 cs = false := fun q q2 => by rw [hc]; simp [chainF, q, q2]
        cases k with
        | zero =>
          obtain rfl := l0 rfl
          have e1 : ¬ (0 : Int) = (cs.length : Int) - 1 := by omega
          have e2 : cel0.wide = 0 := rfl
          simp [rrckS, cellSpec, hd, w1, w2, h, hok, e1]
          repeat' (first | (refine And.intro ?_ ?_) | (intro _))
          all_goals first | rfl | omega | (refine bad1 ?_; simp_all [offF]; done) | (refine fin _ (Weak.keep (by simp [rrckS])) (by simp_all [offF]) (fun q => by omega))
        | succ j =>
          have hj : j < cs.length := by omega
          have hdj := celsC_at hj
          have w3 : IntKind.i64.wrap (j : Int) = j := wrap64 _ (by omega) (by omega)
          have hl := l1 j rfl
          rw [List.getElem?_eq_getElem hj] at hl
          rw [Option.some.inj hl] at hdj
          have e1 : (j : Int) + 1 < cs.length := by omega
          have e3 : (0 : Int) ≤ (j : Int) + 1 := by omega
          have w4 : IntKind.i64.wrap ((j : Int) + 1 + 1) = j + 1 + 1 := wrap64 _ (by omega) (by omega)
          simp [rrckS, cellSpec, hd, hdj, w1, w2, w3, w4, h, hok, hj, e1, e3]
          repeat' (first | (refine And.intro ?_ ?_) | (intro _))
          all_goals first | rfl | omega | assumption | exact Decidable.not_or_of_imp ‹_› | (refine bad1 ((offF_true _ _).2 ?_); rintro ⟨q, _⟩; exact absurd q ‹_›) | skip
          · rename_i a0 a1
            rcases a1 with (q | ⟨q, q2⟩) | ⟨q, q2⟩
            · exact bad1 ((offF_true _ _).2 fun k => q k.2.1)
            · exact bad1 ((offF_true _ _).2 fun k => q2 (k.2.2 q))
            · exact bad2 (by omega) q
          · rename_i a0 a1 a2 a3
            exact fin _ (Weak.keep (by simp [rrckS])) ((offF_iff _ _).2 ⟨a0, a1, a2⟩) (fun q => a3 q.1 (by omega))
      · have : k = cs.length := by omega
        subst this
        have hc : chainF cel0 cs = true := by rw [hc]; simp [chainF, hend rfl]
        simp [rrckS, cellSpec, hc]

def rrightSpec : Spec := { pre := fun args => ∃ r : Rw, args = [rowV r] ∧ r.ok, res := fun args => .one (.val (.c (.bool (decide (rowF (rowOf (args.headD default).cs) = 0))))) }
def G_rright : Specs := [(44, rowckSpec)]
@[simp] theorem G_rright_44 : G_rright.find 44 = some rowckSpec := rfl
theorem G_rright_ok (gl : Gl) : SpecsOK Tryd.prog gl G_rright := .cons (rrowck_sound gl) (.nil _ _)
set_option maxRecDepth 10000 in
theorem rright_sound (gl : Gl) : Sound Tryd.prog gl 37 rrightSpec := by
  refine sound_fn (N := Tryd.f37.ntmps) (rs := Tryd.f37.results.toList) mixed tok (G_rright_ok gl) Tryd.func37 rfl rfl rfl rfl rfl ?_ ?_ ?_
  · rintro args ⟨r,rfl,hr⟩; simp [Tryd.f37]
  · rintro args ⟨r,rfl,hr⟩; simp [rrightSpec, Tryd.f37]
  · rintro args ⟨r,rfl,hr⟩ bs hgl hh hro
    have hE : Env.OK ⟨Tryd.prog, T, G_rright, bs⟩ := ⟨tok, by rw [hgl]; exact G_rright_ok gl⟩
    simp [rrightSpec, rowckSpec, Tryd.f37, rowV, hr]
    rfl

def RowsOK (p : List Rw) : Prop := ∀ r ∈ p, r.ok
def pastckSpec : Spec := { pre := fun args => ∃ (cols : Int) (p : List Rw), args = [.c (.int .i64 cols), rowsV p] ∧ RowsOK p, res := fun args => match args with
  | [.c (.int _ cols), .c (.sl _ cs)] => .one (.val (.c (.int .i64 (pastF cols (rowsOf cs)))))
  | _ => .many [] }
def pastckS (cols : Int) (p : List Rw) (k : Nat) : St := ⟨33, [(0, .val (.int .i64 cols)), (16, .val (.sl p.length (rowsC p))), (17, .val (.int .i64 p.length)), (18, .val (.int .i64 k))], []⟩
def G_pastck : Specs := [(29, rowckSpec)]
@[simp] theorem G_pastck_29 : G_pastck.find 29 = some rowckSpec := rfl
theorem G_pastck_ok : SpecsOK Tryd.prog glW G_pastck := .cons rowck_sound (.nil _ _)
set_option maxRecDepth 10000 in
theorem pastck_sound : Sound Tryd.prog glW 13 pastckSpec := by
  refine sound_fn (N := Tryd.f13.ntmps) (rs := Tryd.f13.results.toList) mixed tok G_pastck_ok Tryd.func13 rfl rfl rfl rfl rfl ?_ ?_ ?_
  · rintro args ⟨cols,p,rfl,hp⟩; simp [rowsV, Tryd.f13]
  · rintro args ⟨cols,p,rfl,hp⟩; simp [rowsV, pastckSpec, Tryd.f13]
  · rintro args ⟨cols,p,rfl,hp⟩ bs hgl hh hro
    have hE : Env.OK ⟨Tryd.prog, T, G_pastck, bs⟩ := ⟨tok, by rw [hgl]; exact G_pastck_ok⟩
    simp only [pastckSpec, rowsV]
    by_cases h2 : cols < 2
    · have e : pastF cols p = 2 := by unfold pastF; rw [if_pos (.inl h2)]
      simp [pastckSpec, rowckSpec, Tryd.f13, rowsV, h2, e]
    by_cases h80 : 80 < cols
    · have e : pastF cols p = 2 := by unfold pastF; rw [if_pos (.inr h80)]
      simp [pastckSpec, rowckSpec, Tryd.f13, rowsV, h2, h80, e]
    by_cases h100 : 100 < (p.length : Int)
    · have e : pastF cols p = 280 := by unfold pastF; rw [if_neg (by omega), if_neg (by omega)]
      simp [pastckSpec, rowckSpec, Tryd.f13, rowsV, h2, h80, h100, e]
    have q : p.length ≤ 100 := by omega
    have e : pastF cols p = if okRows cols p = true then 0 else 280 := by
      unfold pastF
      rw [if_neg (by omega)]
      simp only [q, true_and]
    simp [pastckSpec, rowckSpec, Tryd.f13, rowsV, h2, h80, h100, e]
    refine AWP.rounds (fun k => k ≤ p.length ∧ okRows cols p = okRows cols (p.drop k)) (pastckS cols p) (fun k => p.length - k) 0 ⟨by simp, by simp⟩ ?_ ?_
    · refine Weak.ren [] (baseOK.nil hh) (by simp) (by simp) ?_
      simp [pastckS]
    · rintro k ⟨hk, hc⟩
      refine wpc_ok hE mixed _ _ _ ?_
      rcases Nat.lt_or_ge k p.length with h | h
      · have w1 : IntKind.i64.wrap ((k : Int) + 1) = k + 1 := wrap64 _ (by omega) (by omega)
        have hd := rowsC_at h
        have hok : (p[k]).ok := hp _ (List.getElem_mem h)
        rw [List.drop_eq_getElem_cons h] at hc
        generalize p[k] = r at *
        simp [pastckS, rowckSpec, hd, w1, h, hok]
        refine ⟨fun q => ?_, fun q1 q2 => Next.mk (k + 1) ⟨h, by rw [hc]; simp [okRows, q1, q2]⟩ (by omega) (Weak.ren [] (baseOK.nil hh) (by simp) (by simp) (by simp [pastckS]))⟩
        rw [hc]
        simp only [okRows, List.all_cons, Bool.and_eq_false_imp, Bool.and_eq_true, decide_eq_true_eq]
        rintro ⟨k1, k2⟩
        rcases q with q | q
        · exact absurd k1 q
        · exact absurd k2 q
      · have : k = p.length := by omega
        subst this
        have hc : okRows cols p = true := by rw [hc]; simp [okRows]
        simp [pastckS, hc]

def sameSpec : Spec := { pre := fun args => ∃ a b : Rw, args = [rowV a, rowV b] ∧ a.cells.length ≤ 1000, res := fun args => match args with
  | [.agg a, .agg b] => .one (.val (.c (.bool (decide (rowOf a = rowOf b)))))
  | _ => .many [] }
def sameS (a b : Rw) (k : Nat) : St := ⟨38, [(2, .ptr 0 0 0), (3, .ptr 1 0 0), (5, .val (.int .i64 k))], [.box 25 ((rowC a).map .val), .box 25 ((rowC b).map .val)]⟩
def G_same : Specs := []
theorem G_same_ok (gl : Gl) : SpecsOK Tryd.prog gl G_same := .nil _ _
set_option maxRecDepth 10000 in
theorem same_sound (gl : Gl) : Sound Tryd.prog gl 28 sameSpec := by
  refine sound_fn (N := Tryd.f28.ntmps) (rs := Tryd.f28.results.toList) mixed tok (G_same_ok gl) Tryd.func28 rfl rfl rfl rfl rfl ?_ ?_ ?_
  · rintro args ⟨a,b,rfl,ha⟩; simp [rowV, Tryd.f28]
  · rintro args ⟨a,b,rfl,ha⟩; simp [rowV, sameSpec, Tryd.f28]
  · rintro args ⟨a,b,rfl,ha⟩ bs hgl hh hro
    have hE : Env.OK ⟨Tryd.prog, T, G_same, bs⟩ := ⟨tok, by rw [hgl]; exact G_same_ok gl⟩
    simp only [sameSpec, rowV]
    rcases Decidable.em (a.cells.length = b.cells.length) with h1 | h1
    rotate_left
    · have e : decide (a = b) = false := by simp; rintro rfl; exact h1 rfl
      have h1' : ¬ (a.cells.length : Int) = b.cells.length := by omega
      simp [sameSpec, Tryd.f28, rowV, h1', e]
    rcases Decidable.em (a.wrapped = b.wrapped) with h2 | h2
    rotate_left
    · have e : decide (a = b) = false := by simp; rintro rfl; exact h2 rfl
      simp [sameSpec, Tryd.f28, rowV, h1, h2, e]
      done
    simp [sameSpec, Tryd.f28, rowV, h1, h2]
    refine AWP.rounds (fun k => k ≤ a.cells.length ∧ a.cells.take k = b.cells.take k) (sameS a b) (fun k => a.cells.length - k) 0 ⟨by simp, by simp⟩ ?_ ?_
    · refine Weak.keep ?_
      simp [sameS]
    · rintro k ⟨hk, hc⟩
      refine wpc_ok hE mixed _ _ _ ?_
      rcases Nat.lt_or_ge k a.cells.length with h | h
      · have w1 : IntKind.i64.wrap ((k : Int) + 1) = k + 1 := wrap64 _ (by omega) (by omega)
        have hb : k < b.cells.length := by omega
        have hd := celsC_at h
        have hdb := celsC_at hb
        have ht := List.take_add_one (l := a.cells) (i := k)
        have htb := List.take_add_one (l := b.cells) (i := k)
        rw [List.getElem?_eq_getElem h] at ht
        rw [List.getElem?_eq_getElem hb] at htb
        have hne : ¬ a.cells[k] = b.cells[k] → ¬ a = b := fun q e => by subst e; exact q rfl
        generalize a.cells[k] = x at *
        generalize b.cells[k] = y at *
        simp [sameS, hd, hdb, w1, h, hb]
        refine ⟨rfl, hne, fun e => Next.mk (k + 1) ⟨h, by rw [ht, htb, hc, e]⟩ (by omega) (Weak.keep (by simp [sameS]))⟩
      · have : k = a.cells.length := by omega
        subst this
        have e : a = b := by
          rw [List.take_length, h1, List.take_length] at hc
          cases a; cases b; simp_all
        subst e
        simp [sameS]
end Fen

namespace Fen
open Go Go.Proofs

def rrightsSpec : Spec := { pre := fun args => ∃ (cols : Int) (p : List Rw), args = [.c (.int .i64 cols), rowsV p] ∧ RowsOK p, res := fun args => match args with
  | [.c (.int _ cols), .c (.sl n cs)] => .one (.val (.c (.bool (decide (n ≤ 100) && okRows cols (rowsOf cs)))))
  | _ => .many [] }
def rrightsS (cols : Int) (p : List Rw) (k : Nat) : St := ⟨31, [(0, .val (.int .i64 cols)), (1, .val (.sl p.length (rowsC p))), (5, .val (.int .i64 k))], []⟩
def G_rrights : Specs := [(37, rrightSpec)]
@[simp] theorem G_rrights_37 : G_rrights.find 37 = some rrightSpec := rfl
theorem G_rrights_ok (gl : Gl) : SpecsOK Tryd.prog gl G_rrights := .cons (rright_sound gl) (.nil _ _)
set_option maxRecDepth 10000 in
theorem rrights_sound (gl : Gl) : Sound Tryd.prog gl 30 rrightsSpec := by
  refine sound_fn (N := Tryd.f30.ntmps) (rs := Tryd.f30.results.toList) mixed tok (G_rrights_ok gl) Tryd.func30 rfl rfl rfl rfl rfl ?_ ?_ ?_
  · rintro args ⟨cols,p,rfl,hp⟩; simp [rowsV, Tryd.f30]
  · rintro args ⟨cols,p,rfl,hp⟩; simp [rowsV, rrightsSpec, Tryd.f30]
  · rintro args ⟨cols,p,rfl,hp⟩ bs hgl hh hro
    have hE : Env.OK ⟨Tryd.prog, T, G_rrights, bs⟩ := ⟨tok, by rw [hgl]; exact G_rrights_ok gl⟩
    simp only [rrightsSpec, rowsV]
    by_cases h100 : 100 < (p.length : Int)
    · have e : ¬ p.length ≤ 100 := by omega
      simp [rrightsSpec, rrightSpec, Tryd.f30, h100, e]
    have q : p.length ≤ 100 := by omega
    simp [rrightsSpec, rrightSpec, Tryd.f30, h100, q]
    refine AWP.rounds (fun k => k ≤ p.length ∧ okRows cols p = okRows cols (p.drop k)) (rrightsS cols p) (fun k => p.length - k) 0 ⟨by simp, by simp⟩ ?_ ?_
    · refine Weak.keep ?_
      simp [rrightsS]
    · rintro k ⟨hk, hc⟩
      refine wpc_ok hE mixed _ _ _ ?_
      rcases Nat.lt_or_ge k p.length with h | h
      · have w1 : IntKind.i64.wrap ((k : Int) + 1) = k + 1 := wrap64 _ (by omega) (by omega)
        have hd := rowsC_at h
        have hok : (p[k]).ok := hp _ (List.getElem_mem h)
        rw [List.drop_eq_getElem_cons h] at hc
        generalize p[k] = r at *
        simp [rrightsS, rrightSpec, hd, w1, h, hok]
        refine ⟨fun q => ⟨q, by omega⟩, fun q => ?_, fun q1 q2 => Next.mk (k + 1) ⟨h, by rw [hc]; simp [okRows, q1, q2]⟩ (by omega) (Weak.keep (by simp [rrightsS]))⟩
        rw [hc]
        simp only [okRows, List.all_cons, Bool.and_eq_false_imp, Bool.and_eq_true, decide_eq_true_eq]
        rintro ⟨k1, k2⟩
        rcases q with q | q
        · exact absurd k2 q
        · exact absurd k1 q
      · have : k = p.length := by omega
        subst this
        have hc : okRows cols p = true := by rw [hc]; simp [okRows]
        simp [rrightsS, hc]

def G_rpastck : Specs := [(30, rrightsSpec)]
@[simp] theorem G_rpastck_30 : G_rpastck.find 30 = some rrightsSpec := rfl
theorem G_rpastck_ok (gl : Gl) : SpecsOK Tryd.prog gl G_rpastck := .cons (rrights_sound gl) (.nil _ _)
set_option maxRecDepth 10000 in
theorem rpastck_sound (gl : Gl) : Sound Tryd.prog gl 14 pastckSpec := by
  refine sound_fn (N := Tryd.f14.ntmps) (rs := Tryd.f14.results.toList) mixed tok (G_rpastck_ok gl) Tryd.func14 rfl rfl rfl rfl rfl ?_ ?_ ?_
  · rintro args ⟨cols,p,rfl,hp⟩; simp [rowsV, Tryd.f14]
  · rintro args ⟨cols,p,rfl,hp⟩; simp [rowsV, pastckSpec, Tryd.f14]
  · rintro args ⟨cols,p,rfl,hp⟩ bs hgl hh hro
    have hE : Env.OK ⟨Tryd.prog, T, G_rpastck, bs⟩ := ⟨tok, by rw [hgl]; exact G_rpastck_ok gl⟩
    simp only [pastckSpec, rowsV]
    by_cases h2 : cols < 2
    · have e : pastF cols p = 2 := by unfold pastF; rw [if_pos (.inl h2)]
      simp [pastckSpec, rrightsSpec, Tryd.f14, h2, e]
    by_cases h80 : 80 < cols
    · have e : pastF cols p = 2 := by unfold pastF; rw [if_pos (.inr h80)]
      simp [pastckSpec, rrightsSpec, Tryd.f14, h2, h80, e]
    have e : pastF cols p = if p.length ≤ 100 ∧ okRows cols p = true then 0 else 280 := by
      unfold pastF
      rw [if_neg (by omega)]
    by_cases h : p.length ≤ 100 <;> cases h3 : okRows cols p <;> simp [and_assoc, pastckSpec, rrightsSpec, Tryd.f14, h2, h80, e, h, h3, hp]

def bothSpec : Spec := { pre := fun args => ∃ (cols : Int) (p w : List Rw), args = [.c (.int .i64 cols), rowsV p, rowsV w] ∧ RowsOK p ∧ RowsOK w, res := fun args => match args with
  | [.c (.int _ cols), .c (.sl _ a), .c (.sl _ b)] => .one (.val (.c (.int .i64 (bothF cols (rowsOf a) (rowsOf b)))))
  | _ => .many [] }
def G_both : Specs := [(14, pastckSpec)]
@[simp] theorem G_both_14 : G_both.find 14 = some pastckSpec := rfl
theorem G_both_ok (gl : Gl) : SpecsOK Tryd.prog gl G_both := .cons (rpastck_sound gl) (.nil _ _)
set_option maxRecDepth 10000 in
theorem both_sound (gl : Gl) : Sound Tryd.prog gl 26 bothSpec := by
  refine sound_fn (N := Tryd.f26.ntmps) (rs := Tryd.f26.results.toList) mixed tok (G_both_ok gl) Tryd.func26 rfl rfl rfl rfl rfl ?_ ?_ ?_
  · rintro args ⟨cols,p,w,rfl,hp,hw⟩; simp [rowsV, Tryd.f26]
  · rintro args ⟨cols,p,w,rfl,hp,hw⟩; simp [rowsV, bothSpec, Tryd.f26]
  · rintro args ⟨cols,p,w,rfl,hp,hw⟩ bs hgl hh hro
    have hE : Env.OK ⟨Tryd.prog, T, G_both, bs⟩ := ⟨tok, by rw [hgl]; exact G_both_ok gl⟩
    simp only [bothSpec, rowsV]
    simp only [V.cs_rows, rowsOf_C]
    unfold bothF
    by_cases h : pastF cols p = 0 <;> simp [and_assoc, bothSpec, pastckSpec, Tryd.f26, h, hp, hw]

def rightSpec : Spec := { pre := fun args => ∃ (cols : Int) (p w : List Rw), args = [.c (.int .i64 cols), .c (.sl 2 [.sl p.length (rowsC p), .sl w.length (rowsC w)])] ∧ RowsOK p ∧ RowsOK w, res := fun args => match args with
  | [.c (.int _ cols), .c (.sl _ [.sl _ a, .sl _ b])] => .one (.val (.c (.int .i64 (bothF cols (rowsOf a) (rowsOf b)))))
  | _ => .many [] }
def G_right : Specs := [(13, pastckSpec)]
@[simp] theorem G_right_13 : G_right.find 13 = some pastckSpec := rfl
theorem G_right_ok : SpecsOK Tryd.prog glW G_right := .cons pastck_sound (.nil _ _)
set_option maxRecDepth 10000 in
theorem right_sound : Sound Tryd.prog glW 23 rightSpec := by
  refine sound_fn (N := Tryd.f23.ntmps) (rs := Tryd.f23.results.toList) mixed tok G_right_ok Tryd.func23 rfl rfl rfl rfl rfl ?_ ?_ ?_
  · rintro args ⟨cols,p,w,rfl,hp,hw⟩; simp [rowsOf_C, Tryd.f23]
  · rintro args ⟨cols,p,w,rfl,hp,hw⟩; simp [rowsOf_C, rightSpec, Tryd.f23]
  · rintro args ⟨cols,p,w,rfl,hp,hw⟩ bs hgl hh hro
    have hE : Env.OK ⟨Tryd.prog, T, G_right, bs⟩ := ⟨tok, by rw [hgl]; exact G_right_ok⟩
    simp only [rightSpec, rowsOf_C]
    simp [Tryd.f23]
    refine AWP.unroll hE mixed 3 ?_
    unfold bothF
    by_cases h : pastF cols p = 0
    · by_cases h2 : pastF cols w = 0 <;> simp [pastckSpec, and_assoc, h, h2, hp, hw]
    · simp [pastckSpec, and_assoc, h, hp, hw]

def RowsFin (p : List Rw) : Prop := p.length ≤ 1000000 ∧ ∀ r ∈ p, r.cells.length ≤ 1000
def samesSpec : Spec := { pre := fun args => ∃ a b : List Rw, args = [rowsV a, rowsV b] ∧ RowsFin a, res := fun args => match args with
  | [.c (.sl _ a), .c (.sl _ b)] => .one (.val (.c (.bool (decide (rowsOf a = rowsOf b)))))
  | _ => .many [] }
def samesS (a b : List Rw) (k : Nat) : St := ⟨27, [(0, .val (.sl a.length (rowsC a))), (1, .val (.sl b.length (rowsC b))), (5, .val (.int .i64 k))], []⟩
def G_sames : Specs := [(28, sameSpec)]
@[simp] theorem G_sames_28 : G_sames.find 28 = some sameSpec := rfl
theorem G_sames_ok (gl : Gl) : SpecsOK Tryd.prog gl G_sames := .cons (same_sound gl) (.nil _ _)
set_option maxRecDepth 10000 in
theorem sames_sound (gl : Gl) : Sound Tryd.prog gl 12 samesSpec := by
  refine sound_fn (N := Tryd.f12.ntmps) (rs := Tryd.f12.results.toList) mixed tok (G_sames_ok gl) Tryd.func12 rfl rfl rfl rfl rfl ?_ ?_ ?_
  · rintro args ⟨a,b,rfl,ha1,ha2⟩; simp [rowsV, Tryd.f12]
  · rintro args ⟨a,b,rfl,ha1,ha2⟩; simp [rowsV, samesSpec, Tryd.f12]
  · rintro args ⟨a,b,rfl,ha1,ha2⟩ bs hgl hh hro
    have hE : Env.OK ⟨Tryd.prog, T, G_sames, bs⟩ := ⟨tok, by rw [hgl]; exact G_sames_ok gl⟩
    simp only [samesSpec, rowsV]
    rcases Decidable.em (a.length = b.length) with h1 | h1
    rotate_left
    · have e : decide (a = b) = false := by simp; rintro rfl; exact h1 rfl
      have h1' : ¬ (a.length : Int) = b.length := by omega
      simp [samesSpec, sameSpec, Tryd.f12, h1', e]
    simp [samesSpec, sameSpec, Tryd.f12, h1]
    refine AWP.rounds (fun k => k ≤ a.length ∧ a.take k = b.take k) (samesS a b) (fun k => a.length - k) 0 ⟨by simp, by simp⟩ ?_ ?_
    · refine Weak.keep ?_
      simp [samesS, h1]
    · rintro k ⟨hk, hc⟩
      refine wpc_ok hE mixed _ _ _ ?_
      rcases Nat.lt_or_ge k a.length with h | h
      · have w1 : IntKind.i64.wrap ((k : Int) + 1) = k + 1 := wrap64 _ (by omega) (by omega)
        have hb : k < b.length := by omega
        have hd := rowsC_at h
        have hdb := rowsC_at hb
        have ht := List.take_add_one (l := a) (i := k)
        have htb := List.take_add_one (l := b) (i := k)
        rw [List.getElem?_eq_getElem h] at ht
        rw [List.getElem?_eq_getElem hb] at htb
        have hne : ¬ a[k] = b[k] → ¬ a = b := fun q e => by subst e; exact q rfl
        have hx : (a[k]).cells.length ≤ 1000 := ha2 _ (List.getElem_mem h)
        generalize a[k] = x at *
        generalize b[k] = y at *
        have e1 : (∃ a b : Rw, ((x = a ∧ y = b) ∧ a.cells.length ≤ 1000)) := ⟨x, y, ⟨rfl, rfl⟩, hx⟩
        simp [samesS, sameSpec, rowV, hd, hdb, w1, h, hb, hx]
        refine ⟨rfl, hne, fun e => Next.mk (k + 1) ⟨h, by rw [ht, htb, hc, e]⟩ (by omega) (Weak.keep (by simp [samesS]))⟩
      · have : k = a.length := by omega
        subst this
        have e : a = b := by
          rw [List.take_length, h1, List.take_length] at hc
          exact hc
        subst e
        simp [samesS]

def joinSpec : Spec := { pre := fun args => ∃ p w : List Rw, args = [rowsV p, rowsV w] ∧ p.length ≤ 100 ∧ w.length ≤ 100, res := fun args => match args with
  | [.c (.sl _ a), .c (.sl _ b)] => .one (.val (rowsV (joinF (rowsOf a) (rowsOf b))))
  | _ => .many [] }
def G_join : Specs := []
theorem G_join_ok (gl : Gl) : SpecsOK Tryd.prog gl G_join := .nil _ _
set_option maxRecDepth 10000 in
theorem join_sound (gl : Gl) : Sound Tryd.prog gl 27 joinSpec := by
  refine sound_fn (N := Tryd.f27.ntmps) (rs := Tryd.f27.results.toList) mixed tok (G_join_ok gl) Tryd.func27 rfl rfl rfl rfl rfl ?_ ?_ ?_
  · rintro args ⟨p,w,rfl,hp,hw⟩; simp [rowsV, Tryd.f27]
  · rintro args ⟨p,w,rfl,hp,hw⟩; simp [rowsV, joinSpec, Tryd.f27]
  · rintro args ⟨p,w,rfl,hp,hw⟩ bs hgl hh hro
    have hE : Env.OK ⟨Tryd.prog, T, G_join, bs⟩ := ⟨tok, by rw [hgl]; exact G_join_ok gl⟩
    simp only [joinSpec, rowsV]
    have w1 : IntKind.i64.wrap ((p.length : Int) + w.length - 100) = p.length + w.length - 100 := wrap64 _ (by omega) (by omega)
    by_cases h : 100 < (p.length : Int) + w.length
    · have e : ((p.length : Int) + w.length - 100).toNat = (p ++ w).length - 100 := by simp; omega
      have e2 : ((p.length : Int) + w.length - (p.length + w.length - 100)).toNat = 100 := by omega
      have e3 : joinF p w = ((p ++ w).drop ((p ++ w).length - 100)).take 100 := by
        unfold joinF
        rw [List.take_of_length_le (by simp; omega)]
      simp [joinSpec, Tryd.f27, w1, h, e, e2, rowsV]
      repeat' (first | (refine And.intro ?_ ?_) | (intro _))
      all_goals first | omega | skip
      · rw [joinF_len]; omega
      · rw [e3, ← rowsC_app, rowsC_drop, show 200 = 100 * 2 from rfl, rowsC_take, List.length_append]
    · have e3 : joinF p w = p ++ w := by
        unfold joinF
        rw [show (p ++ w).length - 100 = 0 by simp; omega, List.drop_zero]
      simp [joinSpec, Tryd.f27, w1, h, rowsV]
      repeat' (first | (refine And.intro ?_ ?_) | (intro _))
      all_goals first | omega | skip
      · rw [joinF_len]; omega
      · rw [e3, ← rowsC_app, List.take_of_length_le (by simp; omega)]

def blankSpec : Spec := { pre := fun args => ∃ s : Sty, args = [styV s], res := fun args => .one (.val (celV (blankF (stOf (args.headD default).cs)))) }
def G_blank : Specs := []
theorem G_blank_ok (gl : Gl) : SpecsOK Tryd.prog gl G_blank := .nil _ _
set_option maxRecDepth 10000 in
theorem blank_sound (gl : Gl) : Sound Tryd.prog gl 38 blankSpec := by
  refine sound_fn (N := Tryd.f38.ntmps) (rs := Tryd.f38.results.toList) mixed tok (G_blank_ok gl) Tryd.func38 rfl rfl rfl rfl rfl ?_ ?_ ?_
  · rintro args ⟨s,rfl⟩; simp [Tryd.f38]
  · rintro args ⟨s,rfl⟩; simp [blankSpec, Tryd.f38]
  · rintro args ⟨s,rfl⟩ bs hgl hh hro
    have hE : Env.OK ⟨Tryd.prog, T, G_blank, bs⟩ := ⟨tok, by rw [hgl]; exact G_blank_ok gl⟩
    simp [blankSpec, Tryd.f38, blankF]
    done
def codeSpec : Spec := { pre := fun args => ∃ b : Int, args = [.c (.int .u8 b)] ∧ 0 ≤ b ∧ b < 256, res := fun args => .one (.val (.c (.int .i64 (codeF (args.headD default).int)))) }
def G_code : Specs := []
theorem G_code_ok (gl : Gl) : SpecsOK Tryd.prog gl G_code := .nil _ _
set_option maxRecDepth 10000 in
theorem code_sound (gl : Gl) : Sound Tryd.prog gl 45 codeSpec := by
  refine sound_fn (N := Tryd.f45.ntmps) (rs := Tryd.f45.results.toList) mixed tok (G_code_ok gl) Tryd.func45 rfl rfl rfl rfl rfl ?_ ?_ ?_
  · rintro args ⟨b,rfl,h0,h1⟩; simp [Tryd.f45]
  · rintro args ⟨b,rfl,h0,h1⟩; simp [codeSpec, Tryd.f45]
  · rintro args ⟨b,rfl,h0,h1⟩ bs hgl hh hro
    have hE : Env.OK ⟨Tryd.prog, T, G_code, bs⟩ := ⟨tok, by rw [hgl]; exact G_code_ok gl⟩
    unfold codeSpec codeF
    obtain h | h | h | h | h | h | h | h : b % 8 = 0 ∨ b % 8 = 1 ∨ b % 8 = 2 ∨ b % 8 = 3 ∨ b % 8 = 4 ∨ b % 8 = 5 ∨ b % 8 = 6 ∨ b % 8 = 7 := by omega
    all_goals
      have e : b.tmod 8 = _ := (Int.tmod_eq_emod_of_nonneg h0).trans h
      simp [Tryd.f45, e, h]
def styleSpec : Spec := { pre := fun args => ∃ b : Int, args = [.c (.int .u8 b)] ∧ 0 ≤ b ∧ b < 256, res := fun args => .one (.val (styV (styleF (args.headD default).int))) }
def G_style : Specs := []
theorem G_style_ok (gl : Gl) : SpecsOK Tryd.prog gl G_style := .nil _ _
set_option maxRecDepth 10000 in
theorem style_sound (gl : Gl) : Sound Tryd.prog gl 46 styleSpec := by
  refine sound_fn (N := Tryd.f46.ntmps) (rs := Tryd.f46.results.toList) mixed tok (G_style_ok gl) Tryd.func46 rfl rfl rfl rfl rfl ?_ ?_ ?_
  · rintro args ⟨b,rfl,h0,h1⟩; simp [Tryd.f46]
  · rintro args ⟨b,rfl,h0,h1⟩; simp [styleSpec, Tryd.f46]
  · rintro args ⟨b,rfl,h0,h1⟩ bs hgl hh hro
    have hE : Env.OK ⟨Tryd.prog, T, G_style, bs⟩ := ⟨tok, by rw [hgl]; exact G_style_ok gl⟩
    unfold styleSpec styleF
    obtain h | h | h | h | h | h | h | h : b % 8 = 0 ∨ b % 8 = 1 ∨ b % 8 = 2 ∨ b % 8 = 3 ∨ b % 8 = 4 ∨ b % 8 = 5 ∨ b % 8 = 6 ∨ b % 8 = 7 := by omega
    all_goals
      have e : b.tmod 8 = _ := (Int.tmod_eq_emod_of_nonneg h0).trans h
      simp [-sty_zero, -cel_zero, -cel_zero', Tryd.f46, e, h, styC, sty0]
end Fen

namespace Fen
open Go Go.Proofs

def signSpec : Spec := { pre := fun args => ∃ b s : Int, args = [.c (.int .u8 b), .c (.int .u8 s)] ∧ 0 ≤ b ∧ b < 256 ∧ 0 ≤ s ∧ s < 256, res := fun args => match args with
  | [.c (.int _ b), .c (.int _ s)] => .one (.val (celV (signF b s)))
  | _ => .many [] }
def G_sign : Specs := [(45, codeSpec), (46, styleSpec), (47, ofSpec)]
@[simp] theorem G_sign_45 : G_sign.find 45 = some codeSpec := rfl
@[simp] theorem G_sign_46 : G_sign.find 46 = some styleSpec := rfl
@[simp] theorem G_sign_47 : G_sign.find 47 = some ofSpec := rfl
theorem G_sign_ok (gl : Gl) : SpecsOK Tryd.prog gl G_sign := .cons (code_sound gl) (.cons (style_sound gl) (.cons (rof_sound gl) (.nil _ _)))
set_option maxRecDepth 10000 in
theorem sign_sound (gl : Gl) : Sound Tryd.prog gl 39 signSpec := by
  refine sound_fn (N := Tryd.f39.ntmps) (rs := Tryd.f39.results.toList) mixed tok (G_sign_ok gl) Tryd.func39 rfl rfl rfl rfl rfl ?_ ?_ ?_
  · rintro args ⟨b,s,rfl,h0,h1,h2,h3⟩; simp [V.int_c, Tryd.f39]
  · rintro args ⟨b,s,rfl,h0,h1,h2,h3⟩; simp [V.int_c, signSpec, Tryd.f39]
  · rintro args ⟨b,s,rfl,h0,h1,h2,h3⟩ bs hgl hh hro
    have hE : Env.OK ⟨Tryd.prog, T, G_sign, bs⟩ := ⟨tok, by rw [hgl]; exact G_sign_ok gl⟩
    simp only [signSpec, V.int_c]
    have w1 : IntKind.u8.wrap (b.tdiv 8) = b / 8 := by rw [Int.tdiv_eq_ediv_of_nonneg h0]; exact wrap8 _ (by omega) (by omega)
    have e4 : (b / 8).tmod 4 = b / 8 % 4 := Int.tmod_eq_emod_of_nonneg (by omega)
    have e8 : (b / 8).tmod 8 = b / 8 % 8 := Int.tmod_eq_emod_of_nonneg (by omega)
    have w2 : IntKind.i64.wrap (widthF (codeF b) - 1) = widthF (codeF b) - 1 := by
      rcases widthF_code b with h | h <;> rw [h] <;> rfl
    by_cases c5 : b / 8 % 8 = 5
    · have c1 : b / 8 % 4 = 1 := by omega
      simp [and_assoc, signSpec, codeSpec, ofSpec, styleSpec, Tryd.f39, h0, h1, h2, h3, w1, w2, e4, e8, c1, c5, signF, marksF, styV, celV]
    · by_cases c1 : b / 8 % 4 = 1
      · simp [and_assoc, signSpec, codeSpec, ofSpec, styleSpec, Tryd.f39, h0, h1, h2, h3, w1, w2, e4, e8, c1, c5, signF, marksF, styV, celV]
      · simp [and_assoc, signSpec, codeSpec, ofSpec, styleSpec, Tryd.f39, h0, h1, h2, h3, w1, w2, e4, e8, c1, c5, signF, marksF, styV, celV]

def draftSpec : Spec := { pre := fun args => ∃ (c : Int) (B : List Int) (w : Bool), args = [.agg [.int .u8 c, .sl B.length (ints .u8 B), .bool w]] ∧ 0 ≤ c ∧ c < 256 ∧ Bytes B, res := fun args => match args with
  | [.agg [.int _ c, .sl _ B, .bool w]] => .one (.val (rowV (draftF c (B.map toI) w)))
  | _ => .many [] }
def draftS (cols : Nat) (c : Int) (B : List Int) (w : Bool) (x : Nat × List Cel) : St :=
  ⟨67, [(1, .ptr 0 0 0), (2, .ptr 1 0 0), (3, .val (.int .i64 cols)), (4, if x.2 = [] then .nil else .ref 2 0), (5, .val (.int .i64 x.1))],
    if x.2 = [] then [.box 64 [.val (.int .u8 c), .val (.sl B.length (ints .u8 B)), .val (.bool w)], .box 25 [.nil, .val (.bool false)]]
    else [.box 64 [.val (.int .u8 c), .val (.sl B.length (ints .u8 B)), .val (.bool w)], .box 25 [.nil, .val (.bool false)], .sl 71 0 true 12 x.2.length (celsC x.2)]⟩
theorem celsC_one (c : Cel) : celsC [c] = celC c := by simp [celsC]
theorem celsC_ca (a : Cel) (l m : List Cel) : celsC (a :: (l ++ m)) = celsC (a :: l) ++ celsC m := celsC_app (a :: l) m
theorem celsC_snoc (l : List Cel) (c : Cel) : celsC l ++ celC c = celsC (l ++ [c]) := by rw [celsC_app, celsC_one]
theorem celsC_two (c d : Cel) : celC c ++ celC d = celsC [c, d] := by simp [celsC]
theorem celsC_cons (c : Cel) (l : List Cel) : celC c ++ celsC l = celsC (c :: l) := rfl
theorem blankF_eq (s : Sty) : blankF s = ⟨32, 0, 0, 0, s⟩ := rfl
theorem secondF_eq (s : Sty) : secondF s = ⟨0, 0, 0, 2, s⟩ := rfl
theorem drawF_step {cols i : Nat} {B : List Int} {l : List Cel} (h : l.length < cols) (hi : i < 80) : drawF cols (80 - i) (B.drop i) l =
    drawF cols (80 - (i + 1)) (B.drop (i + 1)) (if (nextF cols (B.drop i) l.length).wide = 1 then l ++ [nextF cols (B.drop i) l.length, secondF (nextF cols (B.drop i) l.length).st] else l ++ [nextF cols (B.drop i) l.length]) := by
  rw [show 80 - i = (80 - (i + 1)) + 1 by omega, drawF, if_pos h, List.drop_drop]
theorem drawF_end {cols k : Nat} {B : List Int} {l : List Cel} (h : ¬ l.length < cols) : drawF cols k B l = l := by
  cases k with
  | zero => rfl
  | succ k => rw [drawF, if_neg h]
def G_draft : Specs := [(38, blankSpec), (39, signSpec)]
@[simp] theorem G_draft_38 : G_draft.find 38 = some blankSpec := rfl
@[simp] theorem G_draft_39 : G_draft.find 39 = some signSpec := rfl
theorem G_draft_ok (gl : Gl) : SpecsOK Tryd.prog gl G_draft := .cons (blank_sound gl) (.cons (sign_sound gl) (.nil _ _))
set_option maxHeartbeats 2000000 in
set_option maxRecDepth 10000 in
theorem draft_sound (gl : Gl) : Sound Tryd.prog gl 33 draftSpec := by
  refine sound_fn (N := Tryd.f33.ntmps) (rs := Tryd.f33.results.toList) mixed tok (G_draft_ok gl) Tryd.func33 rfl rfl rfl rfl rfl ?_ ?_ ?_
  · rintro args ⟨c,B,w,rfl,h0,h1,hB⟩; simp [toI_int, Tryd.f33]
  · rintro args ⟨c,B,w,rfl,h0,h1,hB⟩; simp [toI_int, draftSpec, Tryd.f33]
  · rintro args ⟨c,B,w,rfl,h0,h1,hB⟩ bs hgl hh hro
    have hE : Env.OK ⟨Tryd.prog, T, G_draft, bs⟩ := ⟨tok, by rw [hgl]; exact G_draft_ok gl⟩
    simp only [draftSpec, toI_int]
    obtain ⟨cols, hcols⟩ : ∃ cols, cols = 2 + c.toNat % 79 := ⟨_, rfl⟩
    have hres : draftF c B w = ⟨drawF cols 80 B [], w⟩ := by rw [hcols]; rfl
    have w0 : IntKind.i64.wrap c = c := wrap64 _ (by omega) (by omega)
    have e79 : c.tmod 79 = c % 79 := Int.tmod_eq_emod_of_nonneg h0
    have w1 : IntKind.i64.wrap (2 + c % 79) = (cols : Int) := by rw [wrap64 _ (by omega) (by omega)]; omega
    have w2 : IntKind.i64.wrap ((cols : Int) - 1) = cols - 1 := wrap64 _ (by omega) (by omega)
    simp [and_assoc, draftSpec, blankSpec, signSpec, Tryd.f33, w0, e79, w1, hres]
    refine AWP.rounds (fun x => drawF cols 80 B [] = drawF cols (80 - x.1) (B.drop x.1) x.2 ∧ x.2.length ≤ cols ∧ x.1 ≤ x.2.length ∧ cols ≤ x.2.length + (80 - x.1)) (draftS cols c B w) (fun x => cols - x.2.length) (0, []) ⟨by simp, by simp, by simp, by simp; omega⟩ ?_ ?_
    · refine Weak.keep ?_
      simp [draftS]
    · rintro ⟨i, l⟩ ⟨hx, hl, hil, hf⟩
      simp only at hx hl hil hf
      refine wpc_ok hE mixed _ _ _ ?_
      rcases Nat.lt_or_ge l.length cols with h | h
      · rw [drawF_step h (by omega)] at hx
        have w3 : IntKind.i64.wrap ((i : Int) + 1) = i + 1 := wrap64 _ (by omega) (by omega)
        have hlc : (l.length : Int) < cols := by omega
        rcases Nat.lt_or_ge i B.length with hi | hi
        · have hd : B.drop i = B[i] :: B.drop (i + 1) := List.drop_eq_getElem_cons hi
          have hb : 0 ≤ B[i] ∧ B[i] < 256 := hB _ (List.getElem_mem hi)
          have hgi : (B[i]?).map (C.int .u8) = some (C.int .u8 B[i]) := by rw [List.getElem?_eq_getElem hi]; rfl
          rw [hd] at hx
          generalize B[i] = b at *
          have w4 : IntKind.u8.wrap (b.tdiv 32) = b / 32 := by rw [Int.tdiv_eq_ediv_of_nonneg hb.1]; exact wrap8 _ (by omega) (by omega)
          have hb2 : 0 ≤ b / 32 ∧ b / 32 < 256 := by omega
          obtain ⟨q, hq⟩ : ∃ q, signF b (b / 32) = q := ⟨_, rfl⟩
          have hwq := wide_sign b (b / 32)
          have hn : nextF cols (b :: B.drop (i + 1)) l.length = if q.wide = 1 ∧ l.length + 1 = cols then blankF q.st else q := by simp [nextF, hq]
          rw [hq] at hwq
          rw [hn] at hx
          have hb0 := hb.1
          have hb1 := hb.2
          have hb2' := hb2.1
          have hb3' := hb2.2
          have wb : (blankF q.st).wide = 0 := rfl
          rcases hwq with hw | hw
          · have hv : (if q.wide = 1 ∧ l.length + 1 = cols then blankF q.st else q) = q := if_neg fun k => by omega
            rw [hv, if_neg (by omega)] at hx
            cases l with
            | nil =>
              simp only [List.length_nil] at h hil hf
              simp [draftS, blankSpec, signSpec, styV, celV, and_assoc, h, hi, hd, hb0, hb1, hb2', hb3', w2, w3, w4, hq, hw]
              refine ⟨rfl, Next.mk (i + 1, [q]) ⟨hx, by simp; omega, by simp; omega, by simp; omega⟩ (by simp; omega) (Weak.ren [some 0, some 1, some 3] (baseOK.nil hh) (by simp) (by simp [draftS, celsC_one]) (by simp [draftS]))⟩
            | cons a l =>
              simp at hlc
              have h' : l.length + 1 < cols := h
              have hl' : (a :: l ++ [q]).length = l.length + 2 := by simp
              simp [draftS, blankSpec, signSpec, styV, celV, and_assoc, h', hlc, hi, hd, hb0, hb1, hb2', hb3', w2, w3, w4, hq, hw]
              simp at hil hf
              refine ⟨rfl, by omega, by omega, Next.mk (i + 1, a :: l ++ [q]) ⟨hx, by simp; omega, by simp; omega, by simp; omega⟩ (by simp; omega) (Weak.ren [some 0, some 1, some 2] (baseOK.nil hh) (by simp) (by simp [draftS, celsC_ca, celsC_one]) (by simp [draftS]))⟩
          · by_cases hc : l.length + 1 = cols
            · have hv : (if q.wide = 1 ∧ l.length + 1 = cols then blankF q.st else q) = blankF q.st := if_pos ⟨hw, hc⟩
              rw [hv, if_neg (by rw [wb]; decide)] at hx
              cases l with
              | nil => simp at hc; omega
              | cons a l =>
                have hlc' : (l.length : Int) + 1 < cols := by simp at hlc; exact hlc
                have hci : (l.length : Int) + 1 = cols - 1 := by simp at hc; omega
                have h' : l.length + 1 < cols := h
                have h2' : (cols : Int) - 1 < cols := by omega
                simp [draftS, blankSpec, signSpec, styV, celV, and_assoc, h', hci, h2', hi, hd, hb0, hb1, hb2', hb3', w2, w3, w4, hq, hw, wb]
                simp at hil hf
                refine ⟨rfl, by omega, by omega, Next.mk (i + 1, a :: l ++ [blankF q.st]) ⟨hx, by simp; omega, by simp; omega, by simp; omega⟩ (by simp; omega) (Weak.ren [some 0, some 1, some 2] (baseOK.nil hh) (by simp) (by simp [draftS, celsC_ca, celsC_one]) (by simp [draftS]))⟩
            · have hv : (if q.wide = 1 ∧ l.length + 1 = cols then blankF q.st else q) = q := if_neg fun k => hc k.2
              rw [hv, if_pos hw] at hx
              cases l with
              | nil =>
                have hci : ¬ (0 : Int) = cols - 1 := by simp at hc; omega
                simp only [List.length_nil] at h hil hf
                simp [draftS, blankSpec, signSpec, styV, celV, and_assoc, h, hci, hi, hd, hb0, hb1, hb2', hb3', w2, w3, w4, hq, hw]
                refine ⟨rfl, Next.mk (i + 1, [q, secondF q.st]) ⟨hx, by simp; omega, by simp; omega, by simp; omega⟩ (by simp; omega) (Weak.ren [some 0, some 1, some 3] (baseOK.nil hh) (by simp) (by simp [draftS, celsC_two, secondF_eq]) (by simp [draftS]))⟩
              | cons a l =>
                have hlc' : (l.length : Int) + 1 < cols := by simp at hlc; exact hlc
                have hci : ¬ (l.length : Int) + 1 = cols - 1 := by simp at hc; omega
                have h' : l.length + 1 < cols := h
                simp [draftS, blankSpec, signSpec, styV, celV, and_assoc, h', hlc', hci, hi, hd, hb0, hb1, hb2', hb3', w2, w3, w4, hq, hw]
                simp at hil hf hc
                refine ⟨rfl, by omega, by omega, by omega, by omega, Next.mk (i + 1, a :: l ++ [q, secondF q.st]) ⟨hx, by simp; omega, by simp; omega, by simp; omega⟩ (by simp; omega) (Weak.ren [some 0, some 1, some 2] (baseOK.nil hh) (by simp) (by simp [draftS, celsC_two, celsC_ca, secondF_eq]) (by simp [draftS]))⟩
        · have hd : B.drop i = [] := List.drop_eq_nil_of_le hi
          have hi' : ¬ i < B.length := by omega
          have wb : (blankF sty0).wide = 0 := rfl
          rw [hd] at hx
          rw [show nextF cols [] l.length = blankF sty0 from rfl, if_neg (by rw [wb]; decide)] at hx
          cases l with
          | nil =>
            simp only [List.length_nil] at h hil hf
            simp [draftS, blankSpec, signSpec, styV, celV, and_assoc, h, hi', w2, w3, wb]
            exact Next.mk (i + 1, [blankF sty0]) ⟨hx, by simp; omega, by simp; omega, by simp; omega⟩ (by simp; omega) (Weak.ren [some 0, some 1, some 3] (baseOK.nil hh) (by simp) (by simp [draftS, celsC_one]) (by simp [draftS]))
          | cons a l =>
            have hlc' : (l.length : Int) + 1 < cols := by simp at hlc; exact hlc
            have h' : l.length + 1 < cols := h
            simp [draftS, blankSpec, signSpec, styV, celV, and_assoc, h', hlc', hi', w2, w3, wb]
            simp at hil hf
            refine ⟨by omega, by omega, Next.mk (i + 1, a :: l ++ [blankF sty0]) ⟨hx, by simp; omega, by simp; omega, by simp; omega⟩ (by simp; omega) (Weak.ren [some 0, some 1, some 2] (baseOK.nil hh) (by simp) (by simp [draftS, celsC_ca, celsC_one]) (by simp [draftS]))⟩
      · rw [drawF_end (l := l) (by omega)] at hx
        have hle : l.length = cols := by omega
        cases l with
        | nil => simp at hle; omega
        | cons a l =>
          have hle' : (l.length : Int) + 1 = cols := by simp at hle; omega
          simp [draftS, hx, hle', rowV, rowC]
end Fen
