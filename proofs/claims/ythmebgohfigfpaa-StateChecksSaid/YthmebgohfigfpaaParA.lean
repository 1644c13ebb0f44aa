/- A part of the proof; no statement is proved here: SStH, SParP, SParA, SParB, SParC. -/
import Derived.Test.YthmebgohfigfpaaStA
import Derived.Test.YthmebgohfigfpaaCoreE
import Derived.Test.YthmebgohfigfpaaUtfA

set_option linter.unusedVariables false
set_option linter.unusedSimpArgs false

namespace Fen
open Go

/-! ### parses and events as cells; the machine on the heap -/
def subC (l : List Int) : C := .sl l.length (ints .i64 l)
def parC (ps : List (List Int)) : List C := ps.map subC
def psC (p : Ps) : List C := [.int .i64 p.s, .sl p.u.length (ints .u8 p.u), .int .u8 p.pv, .int .u8 p.fn, .sl p.ps.length (parC p.ps), .str p.it, .str p.tx, .bool p.bad]
def evC (e : Ev) : List C := [.int .i64 e.k, .int .i64 e.c, .int .u8 e.pv, .int .u8 e.fn, .sl e.ps.length (parC e.ps), .str e.it, .str e.tx]
def evsC (l : List Ev) : List C := l.flatMap evC
def unI : C → List Int
  | .sl _ l => l.map toI
  | _ => []
theorem unI_sub (l : List Int) : unI (subC l) = l := by
  simp [unI, subC, ints]
  have : (toI ∘ C.int .i64) = id := by funext x; rfl
  rw [this]; simp
def unP (l : List C) : List (List Int) := l.map unI
@[simp] theorem unP_C (ps : List (List Int)) : unP (parC ps) = ps := by
  simp only [unP, parC, List.map_map]
  have : (unI ∘ subC) = id := by funext x; exact unI_sub x
  rw [this]; simp
theorem toI_u8 (l : List Int) : (ints .u8 l).map toI = l := by
  simp only [ints, List.map_map]
  have : (toI ∘ C.int .u8) = id := by funext x; rfl
  rw [this]; simp
def psOf : List C → Ps
  | [.int _ s, .sl _ u, .int _ a, .int _ b, .sl _ q, .str i, .str t, .bool w] => ⟨s, u.map toI, a, b, unP q, i, t, w⟩
  | _ => sbegin 0
@[simp] theorem psOf_C (p : Ps) : psOf (psC p) = p := by
  cases p; simp only [psOf, psC, toI_u8, unP_C]
def evOf : List C → Ev
  | [.int _ k, .int _ c, .int _ a, .int _ b, .sl _ q, .str i, .str t] => ⟨k, c, a, b, unP q, i, t⟩
  | _ => evCode 0 0
@[simp] theorem evOf_C (e : Ev) : evOf (evC e) = e := by
  cases e; simp only [evOf, evC, unP_C]
@[simp] theorem psC_len (p : Ps) : (psC p).length = 8 := rfl
@[simp] theorem evC_len (e : Ev) : (evC e).length = 7 := rfl
@[simp] theorem evsC_len (l : List Ev) : (evsC l).length = l.length * 7 := by
  induction l with
  | nil => rfl
  | cons e l ih => rw [evsC, List.flatMap_cons, List.length_append]; simp [evsC] at ih; simp [ih]; omega
theorem evsC_app (a b : List Ev) : evsC (a ++ b) = evsC a ++ evsC b := by simp [evsC]
theorem evsC_one (e : Ev) : evsC [e] = evC e := by simp [evsC]
/-- the machine's cells -/
def maX (p : Ps) (e : X) : List X := [.val (.int .i64 p.s), .val (.sl p.u.length (ints .u8 p.u)), .val (.int .u8 p.pv), .val (.int .u8 p.fn), .val (.sl p.ps.length (parC p.ps)), .val (.str p.it), .val (.str p.tx), .val (.bool p.bad), e]
def tM : Nat := 72
def tE : Nat := 42
def maP : List X → Ps
  | [.val (.int _ s), .val (.sl _ u), .val (.int _ a), .val (.int _ b), .val (.sl _ q), .val (.str i), .val (.str t), .val (.bool w), _] => ⟨s, u.map toI, a, b, unP q, i, t, w⟩
  | _ => sbegin 0
def maE : List X → X
  | [_, _, _, _, _, _, _, _, e] => e
  | _ => .dead
theorem maP_X (p : Ps) (e : X) : maP (maX p e) = p := by
  cases p; simp only [maP, maX, toI_u8, unP_C]
theorem maE_X (p : Ps) (e : X) : maE (maX p e) = e := rfl
/-- what m.events is -/
def EvOK (h : List Blk) (id : Nat) (e : X) : Prop := e = .nil ∨ ∃ (j v : Nat) (es : List Ev), e = .ref j v ∧ j ≠ id ∧ h[j]? = some (.sl tE v true 7 es.length (evsC es)) ∧ es.length ≤ 1000000
structure Mach (h : List Blk) (id : Nat) (p : Ps) (e : X) : Prop where
  box : h[id]? = some (.box tM (maX p e))
  ev : EvOK h id e
theorem Mach.none {h : List Blk} {id : Nat} {p : Ps} {e : X} (m : Mach h id p e) : allC [e] = none := by
  rcases m.ev with q | ⟨j, v, es, q, _⟩ <;> (rw [q]; rfl)
/-- the events' slot behind so many more -/
def evX (h : List Blk) (n : Nat) : X → X
  | .nil => if n = 0 then .nil else .ref h.length (n - 1)
  | .ref j v => .ref j (v + n)
  | e => e
def evH (h : List Blk) (new : List Ev) : X → List Blk
  | .nil => if new = [] then h else h ++ [.sl tE (new.length - 1) true 7 new.length (evsC new)]
  | .ref j _ => match h[j]? with
    | some (.sl ty v p sz n cs) => h.set j (.sl ty (v + new.length) p sz (n + new.length) (cs ++ evsC new))
    | _ => h
  | _ => h
/-- the machine at another parse, with more events -/
def putM (h : List Blk) (id : Nat) (e : X) (p : Ps) (new : List Ev) : List Blk := (evH h new e).set id (.box tM (maX p (evX h new.length e)))
def evMany : List Blk → X → Nat
  | h, .ref j _ => match h[j]? with
    | some (.sl _ _ _ _ n _) => n
    | _ => 0
  | _, _ => 0
section
variable {h : List Blk} {id : Nat} {p q : Ps} {e : X}
theorem putM_nil (m : Mach h id p e) : putM h id e q [] = h.set id (.box tM (maX q e)) := by
  unfold putM
  rcases m.ev with r | ⟨j, v, es, r, hj, hb, _⟩
  · subst r; rfl
  · subst r
    simp only [evH, hb, evX]
    congr 1
    simp only [List.length_nil, Nat.add_zero, evsC, List.flatMap_nil, List.append_nil]
    exact set_self hb
theorem evH_get (m : Mach h id p e) (new : List Ev) : id < (evH h new e).length ∧ h.length ≤ (evH h new e).length := by
  have hlt := lt_of_get m.box
  unfold evH
  split
  · split <;> simp <;> omega
  · split <;> simp <;> omega
  · exact ⟨hlt, Nat.le_refl _⟩
theorem Mach.put (m : Mach h id p e) (q : Ps) (new : List Ev) (hn : evMany h e + new.length ≤ 1000000) : Mach (putM h id e q new) id q (evX h new.length e) := by
  refine ⟨by unfold putM; exact get_set_eq (evH_get m new).1, ?_⟩
  have hlt := lt_of_get m.box
  rcases m.ev with r | ⟨j, v, es, r, hj, hb, _⟩
  · subst r
    unfold evX
    by_cases c : new.length = 0
    · rw [if_pos c]; exact .inl rfl
    · rw [if_neg c]
      refine .inr ⟨_, _, new, rfl, by omega, ?_, by simpa [evMany] using hn⟩
      unfold putM evH
      rw [if_neg (fun z => c (by rw [z]; rfl)), get_set_ne (by omega)]
      simp
  · subst r
    simp only [evMany, hb] at hn
    refine .inr ⟨j, v + new.length, es ++ new, rfl, hj, ?_, by simpa using hn⟩
    unfold putM
    rw [get_set_ne hj]
    simp only [evH, hb]
    rw [get_set_eq (lt_of_get hb), evsC_app]
    simp
theorem putM_many (m : Mach h id p e) (q : Ps) (new : List Ev) : evMany (putM h id e q new) (evX h new.length e) = evMany h e + new.length := by
  have hlt := lt_of_get m.box
  rcases m.ev with r | ⟨j, v, es, r, hj, hb, _⟩
  · subst r
    unfold evX
    by_cases c : new.length = 0
    · rw [if_pos c, c]; rfl
    · rw [if_neg c]
      unfold putM evH
      rw [if_neg (fun z => c (by rw [z]; rfl))]
      simp only [evMany]
      rw [get_set_ne (by omega)]
      simp
  · subst r
    unfold putM
    simp only [evX, evMany]
    rw [get_set_ne hj]
    simp only [evH, hb]
    rw [get_set_eq (lt_of_get hb)]
theorem putM_put (m : Mach h id p e) (q r : Ps) (a b : List Ev) : putM (putM h id e q a) id (evX h a.length e) r b = putM h id e r (a ++ b) := by
  have hlt := lt_of_get m.box
  rcases m.ev with z | ⟨j, v, es, z, hj, hb, _⟩
  · subst z
    by_cases ca : a = []
    · subst ca
      rw [putM_nil m]
      simp only [evX, List.length_nil, if_true, List.nil_append]
      unfold putM evH evX
      by_cases cb : b = []
      · simp [cb, List.set_set]
      · rw [if_neg cb, if_neg cb]
        rw [List.length_set, List.set_append_left _ _ (by simpa using hlt), List.set_set, List.set_append_left _ _ hlt]
    · have ha : a.length ≠ 0 := fun z => ca (List.eq_nil_of_length_eq_zero z)
      have hab : a ++ b ≠ [] := by simp [ca]
      have hab' : (a ++ b).length ≠ 0 := fun z => hab (List.eq_nil_of_length_eq_zero z)
      have e1 : putM h id .nil q a = (h.set id (.box tM (maX q (.ref h.length (a.length - 1))))) ++ [.sl tE (a.length - 1) true 7 a.length (evsC a)] := by
        unfold putM evH evX
        rw [if_neg ca, if_neg ha, List.set_append_left _ _ hlt]
      have e2 : putM h id .nil r (a ++ b) = (h.set id (.box tM (maX r (.ref h.length ((a ++ b).length - 1))))) ++ [.sl tE ((a ++ b).length - 1) true 7 (a ++ b).length (evsC (a ++ b))] := by
        unfold putM evH evX
        rw [if_neg hab, if_neg hab', List.set_append_left _ _ hlt]
      rw [e1, e2]
      simp only [evX, if_neg ha]
      unfold putM
      have hg : ((h.set id (.box tM (maX q (.ref h.length (a.length - 1))))) ++ [Blk.sl tE (a.length - 1) true 7 a.length (evsC a)])[h.length]? = some (.sl tE (a.length - 1) true 7 a.length (evsC a)) := by simp
      simp only [evH, hg]
      have hs : ∀ y : Blk, (h.set id (.box tM (maX q (.ref h.length (a.length - 1)))) ++ [Blk.sl tE (a.length - 1) true 7 a.length (evsC a)]).set h.length y = h.set id (.box tM (maX q (.ref h.length (a.length - 1)))) ++ [y] := fun y => by
        rw [List.set_append_right _ _ (by simp)]
        simp
      rw [hs, List.set_append_left _ _ (by simpa using hlt), List.set_set, evsC_app]
      have e3 : a.length - 1 + b.length = (a ++ b).length - 1 := by simp; omega
      have e4 : a.length + b.length = (a ++ b).length := by simp
      rw [e3, e4]
      simp only [evX]
      rw [e3]
  · subst z
    have hg : (putM h id (.ref j v) q a)[j]? = some (.sl tE (v + a.length) true 7 (es.length + a.length) (evsC es ++ evsC a)) := by
      unfold putM
      rw [get_set_ne hj]
      simp only [evH, hb]
      exact get_set_eq (lt_of_get hb)
    have e1 : putM h id (.ref j v) q a = (h.set j (.sl tE (v + a.length) true 7 (es.length + a.length) (evsC es ++ evsC a))).set id (.box tM (maX q (.ref j (v + a.length)))) := by
      unfold putM; simp only [evH, hb, evX]
    have e2 : putM h id (.ref j v) r (a ++ b) = (h.set j (.sl tE (v + (a ++ b).length) true 7 (es.length + (a ++ b).length) (evsC es ++ evsC (a ++ b)))).set id (.box tM (maX r (.ref j (v + (a ++ b).length)))) := by
      unfold putM; simp only [evH, hb, evX]
    have gen : ∀ (H : List Blk) (v' n' : Nat) (cs' : List C), H[j]? = some (.sl tE v' true 7 n' cs') → putM H id (.ref j v') r b = (H.set j (.sl tE (v' + b.length) true 7 (n' + b.length) (cs' ++ evsC b))).set id (.box tM (maX r (.ref j (v' + b.length)))) := fun H v' n' cs' hH => by
      unfold putM; simp only [evH, hH, evX]
    show putM (putM h id (.ref j v) q a) id (.ref j (v + a.length)) r b = _
    rw [gen _ _ _ _ hg, e1, e2, List.set_comm _ _ (fun z => hj z.symm), List.set_set, List.set_set, evsC_app, List.append_assoc]
    simp only [List.length_append, Nat.add_assoc]
end
end Fen

namespace Fen
open Go

/-! ### parameters (chapter 05): plain facts for the walks -/
def fstB {α : Type} (p : α → Bool) : List α → Nat → Int
  | [], _ => -1
  | x :: l, k => if p x = true then (k : Int) else fstB p l (k + 1)
theorem fstB_any {α : Type} (p : α → Bool) : ∀ (l : List α) (k : Nat), decide (0 ≤ fstB p l k) = l.any p
  | [], _ => by simp [fstB]
  | x :: l, k => by
    unfold fstB
    by_cases h : p x = true
    · simp [h]
    · rw [if_neg h, fstB_any p l (k + 1)]; simp [h]
theorem fstB_hit {α : Type} {p : α → Bool} {l : List α} {k : Nat} (h : k < l.length) (hp : p l[k] = true) : fstB p (l.drop k) k = k := by
  rw [List.drop_eq_getElem_cons h, fstB, if_pos hp]
theorem fstB_miss {α : Type} {p : α → Bool} {l : List α} {k : Nat} (h : k < l.length) (hp : p l[k] = false) : fstB p (l.drop k) k = fstB p (l.drop (k + 1)) (k + 1) := by
  rw [List.drop_eq_getElem_cons h, fstB, if_neg (by rw [hp]; simp)]
theorem fstB_end {α : Type} {p : α → Bool} {l : List α} {k : Nat} (h : l.length ≤ k) : fstB p (l.drop k) k = -1 := by
  rw [List.drop_eq_nil_of_le h]; rfl
/-- a part that may not be -/
def badN (n : Int) : Bool := decide (n < -1) || decide (9999 < n)
def badS (l : List Int) : Bool := decide (l.length = 0) || decide (6 < l.length) || l.any badN
theorem badS_sub (l : List Int) : badS l = !subOK l := by
  unfold badS subOK
  rw [Bool.eq_iff_iff]
  simp only [Bool.or_eq_true, Bool.not_eq_true', Bool.and_eq_false_iff, decide_eq_true_eq, decide_eq_false_iff_not, List.any_eq_true, List.all_eq_false, badN, Bool.and_eq_true, not_and, Int.not_le]
  constructor
  · rintro ((h | h) | ⟨x, hx, h | h⟩)
    · exact .inl (.inl (by omega))
    · exact .inl (.inr (by omega))
    · exact .inr ⟨x, hx, fun q => by omega⟩
    · exact .inr ⟨x, hx, fun _ => by omega⟩
  · rintro ((h | h) | ⟨x, hx, h⟩)
    · exact .inl (.inl (by omega))
    · exact .inl (.inr (by omega))
    · refine .inr ⟨x, hx, ?_⟩
      by_cases q : -1 ≤ x
      · exact .inr (h q)
      · exact .inl (by omega)
theorem badS_all (ps : List (List Int)) : ps.any badS = !ps.all subOK := by
  rw [Bool.eq_iff_iff]
  simp [badS_sub]
theorem parOK_bad (ps : List (List Int)) : parOK ps = (decide (ps.length ≤ 16) && !ps.any badS && !decide (ps = [[-1]])) := by
  rw [badS_all, parOK]; simp
def parV (ps : List (List Int)) : V := .c (.sl ps.length (parC ps))
theorem parC_len (ps : List (List Int)) : (parC ps).length = ps.length := by simp [parC]
theorem parC_app (a b : List (List Int)) : parC (a ++ b) = parC a ++ parC b := by simp [parC]
theorem parC_drop (ps : List (List Int)) (k : Nat) : (parC ps).drop k = parC (ps.drop k) := by simp [parC, List.map_drop]
theorem parC_take (ps : List (List Int)) (k : Nat) : (parC ps).take k = parC (ps.take k) := by simp [parC, List.map_take]
theorem parC_at {ps : List (List Int)} {k : Nat} (h : k < ps.length) : (parC ps).drop k = subC ps[k] :: (parC ps).drop (k + 1) := by
  rw [parC_drop, parC_drop, List.drop_eq_getElem_cons h]; rfl
theorem parC_get {ps : List (List Int)} {k : Nat} (h : k < ps.length) : (parC ps)[k]? = some (subC ps[k]) := by
  simp [parC, h]
theorem sub_inj {a b : List Int} : subC a = subC b ↔ a = b := ⟨fun h => by have := congrArg unI h; simpa [unI_sub] using this, fun h => by rw [h]⟩
theorem parC_inj {a b : List (List Int)} : parC a = parC b ↔ a = b := ⟨fun h => by have := congrArg unP h; simpa using this, fun h => by rw [h]⟩
/-- one part alone of which nothing is said -/
theorem none_par (ps : List (List Int)) : (ps = [[-1]]) ↔ ps.length = 1 ∧ (ps.headD []).length = 1 ∧ (ps.headD []).headD 0 = -1 := by
  constructor
  · rintro rfl; simp
  · rintro ⟨h1, h2, h3⟩
    obtain ⟨l, rfl⟩ := List.length_eq_one_iff.mp h1
    obtain ⟨n, rfl⟩ := List.length_eq_one_iff.mp h2
    simp at h3
    rw [h3]
end Fen

namespace Fen
open Go Go.Proofs

@[simp] theorem toI_i64 (l : List Int) : (ints .i64 l).map toI = l := by
  simp only [ints, List.map_map]
  have : (toI ∘ C.int .i64) = id := by funext x; rfl
  rw [this]; simp
theorem ints_at {l : List Int} {k : Nat} (h : k < l.length) : (ints .i64 l).drop k = C.int .i64 l[k] :: (ints .i64 l).drop (k + 1) := by
  unfold ints; rw [List.drop_eq_getElem_cons (by simpa using h)]; simp
def nums (l : List C) : List Int := l.map toI
@[simp] theorem nums_I (l : List Int) : nums (ints .i64 l) = l := toI_i64 l
def badnSpec : Spec := { pre := fun args => ∃ n : Int, args = [.c (.int .i64 n)], res := fun args => match args with
  | [.c (.int _ n)] => .one (.val (.c (.bool (badN n))))
  | _ => .many [] }
def G_badn : Specs := []
@[simp] theorem G_badn_live : Specs.live G_badn = false := rfl
theorem G_badn_ok (gl : Gl) : SpecsOK Try.prog gl G_badn := .nil _ _
set_option maxRecDepth 10000 in
theorem badn_sound (gl : Gl) : Sound Try.prog gl 71 badnSpec := by
  refine sound_fn (N := Try.f71.ntmps) (rs := Try.f71.results.toList) mixed tok (G_badn_ok gl) Try.func71 rfl rfl rfl rfl rfl ?_ ?_ ?_
  · rintro args ⟨n,rfl⟩; simp [Try.f71]
  · rintro args ⟨n,rfl⟩; simp [badnSpec, Try.f71]
  · rintro args ⟨n,rfl⟩ bs hgl hh hro
    have hE : Env.OK ⟨Try.prog, T, G_badn, bs⟩ := ⟨tok, by rw [hgl]; exact G_badn_ok gl⟩
    by_cases h : n < -1
    · simp [badnSpec, Try.f71, badN, h]
    · simp [badnSpec, Try.f71, badN, h]
def idxnSpec : Spec := { pre := fun args => ∃ l : List Int, args = [intsV l, .c (.fn 71 [])] ∧ l.length ≤ 1000000, res := fun args => match args with
  | [.c (.sl _ l), _] => .one (.val (.c (.int .i64 (fstB badN (nums l) 0))))
  | _ => .many [] }
def idxnS (l : List Int) (k : Nat) : St := ⟨19, [(0, .val (.sl l.length (ints .i64 l))), (1, .val (.fn 71 [])), (7, .val (.int .i64 l.length)), (8, .val (.int .i64 k))], []⟩
def G_idxn : Specs := [(71, badnSpec)]
@[simp] theorem G_idxn_live : Specs.live G_idxn = false := rfl
@[simp] theorem G_idxn_71 : G_idxn.find 71 = some badnSpec := rfl
theorem G_idxn_ok (gl : Gl) : SpecsOK Try.prog gl G_idxn := .cons (badn_sound gl) (.nil _ _)
set_option maxRecDepth 10000 in
theorem idxn_sound (gl : Gl) : Sound Try.prog gl 100 idxnSpec := by
  refine sound_fn (N := Try.f100.ntmps) (rs := Try.f100.results.toList) mixed tok (G_idxn_ok gl) Try.func100 rfl rfl rfl rfl rfl ?_ ?_ ?_
  · rintro args ⟨l,rfl,hl⟩; simp [intsV,nums_I, Try.f100]
  · rintro args ⟨l,rfl,hl⟩; simp [intsV,nums_I, idxnSpec, Try.f100]
  · rintro args ⟨l,rfl,hl⟩ bs hgl hh hro
    have hE : Env.OK ⟨Try.prog, T, G_idxn, bs⟩ := ⟨tok, by rw [hgl]; exact G_idxn_ok gl⟩
    simp only [idxnSpec, intsV,nums_I]
    simp [and_assoc, idxnSpec, badnSpec, Try.f100]
    refine AWP.rounds (fun k => k ≤ l.length ∧ fstB badN (l.drop k) k = fstB badN l 0) (idxnS l) (fun k => l.length - k) 0 ⟨by simp, by simp⟩ ?_ ?_
    · exact Weak.keep (by simp [idxnS])
    · rintro k ⟨hk, hc⟩
      refine wpc_ok hE mixed _ _ _ ?_
      rcases Nat.lt_or_ge k l.length with h | h
      · have w1 : IntKind.i64.wrap ((k : Int) + 1) = k + 1 := wrap64 _ (by omega) (by omega)
        have hd := ints_at h
        have f1 := fstB_hit (p := badN) h
        have f2 := fstB_miss (p := badN) h
        rw [hc] at f1 f2
        generalize l[k] = x at *
        cases hx : badN x
        · have f2' := f2 hx
          simp [idxnS, and_assoc, badnSpec, hd, w1, h, hx]
          exact Next.mk (k + 1) ⟨h, f2'.symm⟩ (by omega) (Weak.keep (by simp [idxnS]))
        · have f1' := f1 hx
          simp [idxnS, and_assoc, badnSpec, hd, w1, h, hx, f1']
      · obtain rfl : k = l.length := by omega
        rw [fstB_end (Nat.le_refl _)] at hc
        simp [idxnS, and_assoc, badnSpec, ← hc]
def connSpec : Spec := { pre := idxnSpec.pre, res := fun args => match args with
  | [.c (.sl _ l), _] => .one (.val (.c (.bool ((nums l).any badN))))
  | _ => .many [] }
def G_conn : Specs := [(100, idxnSpec)]
@[simp] theorem G_conn_live : Specs.live G_conn = false := rfl
@[simp] theorem G_conn_100 : G_conn.find 100 = some idxnSpec := rfl
theorem G_conn_ok (gl : Gl) : SpecsOK Try.prog gl G_conn := .cons (idxn_sound gl) (.nil _ _)
set_option maxRecDepth 10000 in
theorem conn_sound (gl : Gl) : Sound Try.prog gl 70 connSpec := by
  refine sound_fn (N := Try.f70.ntmps) (rs := Try.f70.results.toList) mixed tok (G_conn_ok gl) Try.func70 rfl rfl rfl rfl rfl ?_ ?_ ?_
  · rintro args ⟨l,rfl,hl⟩; simp [intsV,nums_I, Try.f70]
  · rintro args ⟨l,rfl,hl⟩; simp [intsV,nums_I, connSpec, Try.f70]
  · rintro args ⟨l,rfl,hl⟩ bs hgl hh hro
    have hE : Env.OK ⟨Try.prog, T, G_conn, bs⟩ := ⟨tok, by rw [hgl]; exact G_conn_ok gl⟩
    simp only [connSpec, intsV,nums_I]
    have e := fstB_any badN l 0
    have el : ∃ l' : List Int, l.length = l'.length ∧ l = l' ∧ l'.length ≤ 1000000 := ⟨l, rfl, rfl, hl⟩
    simp [and_assoc, connSpec, idxnSpec, Try.f70, el, intsV, e]
    done
/-- a part of a row -/
def badsSpec : Spec := { pre := fun args => ∃ l : List Int, args = [.agg [subC l]] ∧ l.length ≤ 1000000, res := fun args => match args with
  | [.agg [c]] => .one (.val (.c (.bool (badS (unI c)))))
  | _ => .many [] }
def G_bads : Specs := [(70, connSpec)]
@[simp] theorem G_bads_live : Specs.live G_bads = false := rfl
@[simp] theorem G_bads_70 : G_bads.find 70 = some connSpec := rfl
theorem G_bads_ok (gl : Gl) : SpecsOK Try.prog gl G_bads := .cons (conn_sound gl) (.nil _ _)
set_option maxRecDepth 10000 in
theorem bads_sound (gl : Gl) : Sound Try.prog gl 69 badsSpec := by
  refine sound_fn (N := Try.f69.ntmps) (rs := Try.f69.results.toList) mixed tok (G_bads_ok gl) Try.func69 rfl rfl rfl rfl rfl ?_ ?_ ?_
  · rintro args ⟨l,rfl,hl⟩; simp [unI_sub, Try.f69]
  · rintro args ⟨l,rfl,hl⟩; simp [unI_sub, badsSpec, Try.f69]
  · rintro args ⟨l,rfl,hl⟩ bs hgl hh hro
    have hE : Env.OK ⟨Try.prog, T, G_bads, bs⟩ := ⟨tok, by rw [hgl]; exact G_bads_ok gl⟩
    simp only [badsSpec, unI_sub]
    have el : ∃ l' : List Int, l.length = l'.length ∧ l = l' ∧ l'.length ≤ 1000000 := ⟨l, rfl, rfl, hl⟩
    have hs : subC l = C.sl l.length (ints .i64 l) := rfl
    have e : badS l = (decide (l.length = 0) || decide (6 < l.length) || l.any badN) := rfl
    by_cases h0 : l.length = 0
    · have h0' : ((l.length : Int) = 0) = True := eq_true (by omega)
      simp [and_assoc, badsSpec, connSpec, Try.f69, hs, h0', e, h0]
    have h0' : ((l.length : Int) = 0) = False := eq_false (by omega)
    by_cases h6 : 6 < l.length
    · have h6' : 6 < (l.length : Int) := by omega
      simp [and_assoc, badsSpec, connSpec, Try.f69, hs, h0', h6', e, h6]
    have h6' : ¬ 6 < (l.length : Int) := by omega
    simp [and_assoc, badsSpec, connSpec, Try.f69, hs, h0', h6', e, h0, h6, el, intsV, idxnSpec]
    done
def SubsOK (ps : List (List Int)) : Prop := ps.length ≤ 1000000 ∧ ∀ l ∈ ps, l.length ≤ 1000000
def idxpSpec : Spec := { pre := fun args => ∃ ps : List (List Int), args = [parV ps, .c (.fn 69 [])] ∧ SubsOK ps, res := fun args => match args with
  | [.c (.sl _ l), _] => .one (.val (.c (.int .i64 (fstB badS (unP l) 0))))
  | _ => .many [] }
def idxpS (ps : List (List Int)) (k : Nat) : St := ⟨19, [(0, .val (.sl ps.length (parC ps))), (1, .val (.fn 69 [])), (7, .val (.int .i64 ps.length)), (8, .val (.int .i64 k))], []⟩
def G_idxp : Specs := [(69, badsSpec)]
@[simp] theorem G_idxp_live : Specs.live G_idxp = false := rfl
@[simp] theorem G_idxp_69 : G_idxp.find 69 = some badsSpec := rfl
theorem G_idxp_ok (gl : Gl) : SpecsOK Try.prog gl G_idxp := .cons (bads_sound gl) (.nil _ _)
set_option maxRecDepth 10000 in
theorem idxp_sound (gl : Gl) : Sound Try.prog gl 101 idxpSpec := by
  refine sound_fn (N := Try.f101.ntmps) (rs := Try.f101.results.toList) mixed tok (G_idxp_ok gl) Try.func101 rfl rfl rfl rfl rfl ?_ ?_ ?_
  · rintro args ⟨ps,rfl,hl,hs⟩; simp [parV,unP_C, Try.f101]
  · rintro args ⟨ps,rfl,hl,hs⟩; simp [parV,unP_C, idxpSpec, Try.f101]
  · rintro args ⟨ps,rfl,hl,hs⟩ bs hgl hh hro
    have hE : Env.OK ⟨Try.prog, T, G_idxp, bs⟩ := ⟨tok, by rw [hgl]; exact G_idxp_ok gl⟩
    simp only [idxpSpec, parV,unP_C]
    simp [and_assoc, idxpSpec, badsSpec, Try.f101]
    refine AWP.rounds (fun k => k ≤ ps.length ∧ fstB badS (ps.drop k) k = fstB badS ps 0) (idxpS ps) (fun k => ps.length - k) 0 ⟨by simp, by simp⟩ ?_ ?_
    · exact Weak.keep (by simp [idxpS])
    · rintro k ⟨hk, hc⟩
      refine wpc_ok hE mixed _ _ _ ?_
      rcases Nat.lt_or_ge k ps.length with h | h
      · have w1 : IntKind.i64.wrap ((k : Int) + 1) = k + 1 := wrap64 _ (by omega) (by omega)
        have hd := parC_at h
        have f1 := fstB_hit (p := badS) h
        have f2 := fstB_miss (p := badS) h
        have hm := hs _ (List.getElem_mem h)
        rw [hc] at f1 f2
        generalize ps[k] = x at *
        have ex : ∃ l', subC x = subC l' ∧ l'.length ≤ 1000000 := ⟨x, rfl, hm⟩
        cases hx : badS x
        · have f2' := f2 hx
          simp [idxpS, and_assoc, badsSpec, hd, w1, h, hx, ex, unI_sub]
          exact Next.mk (k + 1) ⟨h, f2'.symm⟩ (by omega) (Weak.keep (by simp [idxpS]))
        · have f1' := f1 hx
          simp [idxpS, and_assoc, badsSpec, hd, w1, h, hx, f1', ex, unI_sub]
      · obtain rfl : k = ps.length := by omega
        rw [fstB_end (Nat.le_refl _)] at hc
        simp [idxpS, and_assoc, badsSpec, ← hc]
def anyS (l : List (List Int)) : Bool := l.any badS
def conpSpec : Spec := { pre := idxpSpec.pre, res := fun args => match args with
  | [.c (.sl _ l), _] => .one (.val (.c (.bool (anyS (unP l)))))
  | _ => .many [] }
def G_conp : Specs := [(101, idxpSpec)]
@[simp] theorem G_conp_live : Specs.live G_conp = false := rfl
@[simp] theorem G_conp_101 : G_conp.find 101 = some idxpSpec := rfl
theorem G_conp_ok (gl : Gl) : SpecsOK Try.prog gl G_conp := .cons (idxp_sound gl) (.nil _ _)
set_option maxRecDepth 10000 in
theorem conp_sound (gl : Gl) : Sound Try.prog gl 73 conpSpec := by
  refine sound_fn (N := Try.f73.ntmps) (rs := Try.f73.results.toList) mixed tok (G_conp_ok gl) Try.func73 rfl rfl rfl rfl rfl ?_ ?_ ?_
  · rintro args ⟨ps,rfl,hl,hs⟩; simp [parV,unP_C, Try.f73]
  · rintro args ⟨ps,rfl,hl,hs⟩; simp [parV,unP_C, conpSpec, Try.f73]
  · rintro args ⟨ps,rfl,hl,hs⟩ bs hgl hh hro
    have hE : Env.OK ⟨Try.prog, T, G_conp, bs⟩ := ⟨tok, by rw [hgl]; exact G_conp_ok gl⟩
    simp only [conpSpec, parV,unP_C]
    have e : decide (0 ≤ fstB badS ps 0) = anyS ps := fstB_any badS ps 0
    have el : ∃ l' : List (List Int), ps.length = l'.length ∧ parC ps = parC l' ∧ SubsOK l' := ⟨ps, rfl, rfl, hl, hs⟩
    simp [and_assoc, conpSpec, idxpSpec, Try.f73, el, parV, e]
    done
/-- a guarded operation that is not done: its slot holds what one likes -/
theorem OpW.skip {P : Program} {bs : Base} {ops : Array Oper} {o : Oper} {st : St} {K : St → Prop} {gq : Nat × Bool} (x : X) (hg : o.guard = some gq) (hc : guardC ops st.r gq = some false) (hd : dstOK st.n o.dst)
    (h2 : K (st.put o.dst (.ifb false x) st.h)) : OpW P bs ops o st K := by
  intro a w Q R
  obtain ⟨g, R⟩ := R
  obtain ⟨j, b⟩ := gq
  have hw := guard_ok R.slot hc
  have hwant : Region.wanted o (yielded ops a.tmps) = false := by simp only [Region.wanted, hg]; exact hw
  rw [hwant]
  refine ⟨_, h2, ?_⟩
  have hd' : ∀ t, o.dst = some t → t < st.n := fun t ht => by rw [ht] at hd; exact hd
  exact RelG.put R (e := ⟨True, .ifb false x, .pure, st.h⟩) (v := undef) ⟨g, Ext.refl _ _, R.heap, by simp only [RelX]; exact ⟨fun h => (by cases h), fun _ => rfl⟩⟩ o.dst hd'
def pemptySpec : Spec := { pre := fun args => ∃ ps : List (List Int), args = [parV ps], res := fun args => match args with
  | [.c (.sl _ l)] => .one (.val (.c (.bool (decide (unP l = [[-1]])))))
  | _ => .many [] }
def G_pempty : Specs := []
@[simp] theorem G_pempty_live : Specs.live G_pempty = false := rfl
theorem G_pempty_ok (gl : Gl) : SpecsOK Try.prog gl G_pempty := .nil _ _
set_option maxRecDepth 10000 in
theorem pempty_sound (gl : Gl) : Sound Try.prog gl 72 pemptySpec := by
  refine sound_fn (N := Try.f72.ntmps) (rs := Try.f72.results.toList) mixed tok (G_pempty_ok gl) Try.func72 rfl rfl rfl rfl rfl ?_ ?_ ?_
  · rintro args ⟨ps,rfl⟩; simp [parV,unP_C, Try.f72]
  · rintro args ⟨ps,rfl⟩; simp [parV,unP_C, pemptySpec, Try.f72]
  · rintro args ⟨ps,rfl⟩ bs hgl hh hro
    have hE : Env.OK ⟨Try.prog, T, G_pempty, bs⟩ := ⟨tok, by rw [hgl]; exact G_pempty_ok gl⟩
    simp only [pemptySpec, parV,unP_C]
    match ps with
    | [] =>
      simp [and_assoc, pemptySpec, Try.f72, parC, lnY, slOf, lenX]
      refine OpW.skip (.val (.int .i64 0)) rfl (by simp) (by simp) ?_
      simp [iaS, exE, slOf]
      refine OpW.skip (.fptr []) rfl (by simp) (by simp) ?_
      simp
    | [[]] => simp [and_assoc, pemptySpec, Try.f72, parC, subC]
    | [[n]] =>
      by_cases h3 : n = -1
      · simp [and_assoc, pemptySpec, Try.f72, parC, subC, h3]
      · simp [and_assoc, pemptySpec, Try.f72, parC, subC, h3]
    | [n :: m :: l] =>
      have h2 : ¬ l.length + 1 + 1 = 1 := by omega
      have h2' : ¬ (l.length : Int) + 1 + 1 = 1 := by omega
      simp [and_assoc, pemptySpec, Try.f72, parC, subC, h2, h2']
    | l :: m :: q =>
      have h2 : ¬ q.length + 1 + 1 = 1 := by omega
      have h2' : ¬ (q.length : Int) + 1 + 1 = 1 := by omega
      match l with
      | [] => simp [and_assoc, pemptySpec, Try.f72, parC, subC, h2, h2']
      | n :: l => simp [and_assoc, pemptySpec, Try.f72, parC, subC, h2, h2']
def pcheckSpec : Spec := { pre := fun args => ∃ ps : List (List Int), args = [parV ps] ∧ SubsOK ps, res := fun args => match args with
  | [.c (.sl _ l)] => .one (.val (.c (.int .i64 (if parOK (unP l) = true then 0 else 150))))
  | _ => .many [] }
def G_pcheck : Specs := [(72, pemptySpec), (73, conpSpec)]
@[simp] theorem G_pcheck_live : Specs.live G_pcheck = false := rfl
@[simp] theorem G_pcheck_72 : G_pcheck.find 72 = some pemptySpec := rfl
@[simp] theorem G_pcheck_73 : G_pcheck.find 73 = some conpSpec := rfl
theorem G_pcheck_ok (gl : Gl) : SpecsOK Try.prog gl G_pcheck := .cons (pempty_sound gl) (.cons (conp_sound gl) (.nil _ _))
set_option maxRecDepth 10000 in
theorem pcheck_sound (gl : Gl) : Sound Try.prog gl 41 pcheckSpec := by
  refine sound_fn (N := Try.f41.ntmps) (rs := Try.f41.results.toList) mixed tok (G_pcheck_ok gl) Try.func41 rfl rfl rfl rfl rfl ?_ ?_ ?_
  · rintro args ⟨ps,rfl,hl,hs⟩; simp [parV,unP_C, Try.f41]
  · rintro args ⟨ps,rfl,hl,hs⟩; simp [parV,unP_C, pcheckSpec, Try.f41]
  · rintro args ⟨ps,rfl,hl,hs⟩ bs hgl hh hro
    have hE : Env.OK ⟨Try.prog, T, G_pcheck, bs⟩ := ⟨tok, by rw [hgl]; exact G_pcheck_ok gl⟩
    simp only [pcheckSpec, parV,unP_C]
    have e := parOK_bad ps
    have el : ∃ l' : List (List Int), ps.length = l'.length ∧ parC ps = parC l' ∧ SubsOK l' := ⟨ps, rfl, rfl, hl, hs⟩
    have ep : ∃ l' : List (List Int), ps.length = l'.length ∧ parC ps = parC l' := ⟨ps, rfl, rfl⟩
    by_cases h1 : 16 < ps.length
    · have h1' : 16 < (ps.length : Int) := by omega
      have h1'' : ¬ ps.length ≤ 16 := by omega
      simp [and_assoc, pcheckSpec, conpSpec, pemptySpec, Try.f41, h1', e, h1'', ep, el, parV, idxpSpec]
    have h1' : ¬ 16 < (ps.length : Int) := by omega
    have h1'' : ps.length ≤ 16 := by omega
    by_cases h2 : ps = [[-1]]
    · have h2' : (ps = [[-1]]) = True := eq_true h2
      simp [and_assoc, pcheckSpec, conpSpec, pemptySpec, Try.f41, h1', e, h1'', h2', ep, el, parV, idxpSpec]
    · have h2' : (ps = [[-1]]) = False := eq_false h2
      obtain ⟨z, h3⟩ : ∃ z, anyS ps = z := ⟨_, rfl⟩
      have e : parOK ps = (decide (ps.length ≤ 16) && !anyS ps && !decide (ps = [[-1]])) := e
      rw [h3] at e
      cases z
      · simp [and_assoc, pcheckSpec, conpSpec, pemptySpec, Try.f41, h1', e, h1'', h2', h3, ep, el, parV, idxpSpec]
      · simp [and_assoc, pcheckSpec, conpSpec, pemptySpec, Try.f41, h1', e, h1'', h2', h3, ep, el, parV, idxpSpec]
end Fen

namespace Fen
open Go Go.Proofs

/-! ### param.Same -/
def pequalSpec : Spec := { pre := fun args => ∃ a b : List Int, args = [intsV a, intsV b] ∧ a.length ≤ 1000000, res := fun args => match args with
  | [.c (.sl _ a), .c (.sl _ b)] => .one (.val (.c (.bool (decide (nums a = nums b)))))
  | _ => .many [] }
def pequalS (a b : List Int) (k : Nat) : St := ⟨26, [(0, .val (.sl a.length (ints .i64 a))), (1, .val (.sl b.length (ints .i64 b))), (12, .val (.int .i64 a.length)), (13, .val (.int .i64 k))], []⟩
def G_pequal : Specs := []
@[simp] theorem G_pequal_live : Specs.live G_pequal = false := rfl
theorem G_pequal_ok (gl : Gl) : SpecsOK Try.prog gl G_pequal := .nil _ _
set_option maxRecDepth 10000 in
theorem pequal_sound (gl : Gl) : Sound Try.prog gl 76 pequalSpec := by
  refine sound_fn (N := Try.f76.ntmps) (rs := Try.f76.results.toList) mixed tok (G_pequal_ok gl) Try.func76 rfl rfl rfl rfl rfl ?_ ?_ ?_
  · rintro args ⟨a,b,rfl,ha⟩; simp [intsV,nums_I, Try.f76]
  · rintro args ⟨a,b,rfl,ha⟩; simp [intsV,nums_I, pequalSpec, Try.f76]
  · rintro args ⟨a,b,rfl,ha⟩ bs hgl hh hro
    have hE : Env.OK ⟨Try.prog, T, G_pequal, bs⟩ := ⟨tok, by rw [hgl]; exact G_pequal_ok gl⟩
    simp only [pequalSpec, intsV,nums_I]
    rcases Decidable.em (a.length = b.length) with h1 | h1
    rotate_left
    · have e : decide (a = b) = false := by simp; rintro rfl; exact h1 rfl
      have h1' : ¬ (a.length : Int) = b.length := by omega
      simp [pequalSpec, Try.f76, h1', e]
    simp [pequalSpec, Try.f76, h1]
    refine AWP.rounds (fun k => k ≤ a.length ∧ a.take k = b.take k) (pequalS a b) (fun k => a.length - k) 0 ⟨by simp, by simp⟩ ?_ ?_
    · refine Weak.keep ?_
      simp [pequalS, h1]
    · rintro k ⟨hk, hc⟩
      refine wpc_ok hE mixed _ _ _ ?_
      rcases Nat.lt_or_ge k a.length with h | h
      · have w1 : IntKind.i64.wrap ((k : Int) + 1) = k + 1 := wrap64 _ (by omega) (by omega)
        have hb : k < b.length := by omega
        have hd := ints_at h
        have hdb := ints_at hb
        have ht := List.take_add_one (l := a) (i := k)
        have htb := List.take_add_one (l := b) (i := k)
        rw [List.getElem?_eq_getElem h] at ht
        rw [List.getElem?_eq_getElem hb] at htb
        have hne : ¬ a[k] = b[k] → ¬ a = b := fun q e => by subst e; exact q rfl
        generalize a[k] = x at *
        generalize b[k] = y at *
        by_cases hxy : x = y
        · have hxy' : (x = y) = True := eq_true hxy
          simp [pequalS, hd, hdb, w1, h, hb, hxy']
          exact ⟨rfl, Next.mk (k + 1) ⟨h, by rw [ht, htb, hc, hxy]⟩ (by omega) (Weak.keep (by simp [pequalS]))⟩
        · have hxy' : (x = y) = False := eq_false hxy
          have hab : (a = b) = False := eq_false (hne hxy)
          simp [pequalS, hd, hdb, w1, h, hb, hxy', hab]
          exact rfl
      · have : k = a.length := by omega
        subst this
        have e : a = b := by
          rw [List.take_length, h1, List.take_length] at hc
          exact hc
        subst e
        simp [pequalS]
def psame1Spec : Spec := { pre := fun args => ∃ a b : List Int, args = [.agg [subC a], .agg [subC b]] ∧ a.length ≤ 1000000, res := fun args => match args with
  | [.agg [a], .agg [b]] => .one (.val (.c (.bool (decide (unI a = unI b)))))
  | _ => .many [] }
def G_psame1 : Specs := [(76, pequalSpec)]
@[simp] theorem G_psame1_live : Specs.live G_psame1 = false := rfl
@[simp] theorem G_psame1_76 : G_psame1.find 76 = some pequalSpec := rfl
theorem G_psame1_ok (gl : Gl) : SpecsOK Try.prog gl G_psame1 := .cons (pequal_sound gl) (.nil _ _)
set_option maxRecDepth 10000 in
theorem psame1_sound (gl : Gl) : Sound Try.prog gl 75 psame1Spec := by
  refine sound_fn (N := Try.f75.ntmps) (rs := Try.f75.results.toList) mixed tok (G_psame1_ok gl) Try.func75 rfl rfl rfl rfl rfl ?_ ?_ ?_
  · rintro args ⟨a,b,rfl,ha⟩; simp [unI_sub, Try.f75]
  · rintro args ⟨a,b,rfl,ha⟩; simp [unI_sub, psame1Spec, Try.f75]
  · rintro args ⟨a,b,rfl,ha⟩ bs hgl hh hro
    have hE : Env.OK ⟨Try.prog, T, G_psame1, bs⟩ := ⟨tok, by rw [hgl]; exact G_psame1_ok gl⟩
    simp only [psame1Spec, unI_sub]
    have hs : ∀ l : List Int, subC l = C.sl l.length (ints .i64 l) := fun _ => rfl
    have el : ∃ a' : List Int, a.length = a'.length ∧ a = a' ∧ a'.length ≤ 1000000 := ⟨a, rfl, rfl, ha⟩
    simp [and_assoc, psame1Spec, pequalSpec, Try.f75, hs, el, intsV]
def psameSpec : Spec := { pre := fun args => ∃ a b : List (List Int), args = [parV a, parV b] ∧ SubsOK a, res := fun args => match args with
  | [.c (.sl _ a), .c (.sl _ b)] => .one (.val (.c (.bool (decide (unP a = unP b)))))
  | _ => .many [] }
def peqfSpec : Spec := { pre := fun args => ∃ a b : List (List Int), args = [parV a, parV b, .c (.fn 75 [])] ∧ SubsOK a, res := fun args => match args with
  | [.c (.sl _ a), .c (.sl _ b), _] => .one (.val (.c (.bool (decide (unP a = unP b)))))
  | _ => .many [] }
def peqfS (a b : List (List Int)) (k : Nat) : St := ⟨32, [(1, .val (.sl b.length (parC b))), (2, .val (.fn 75 [])), (15, .val (.sl a.length (parC a))), (16, .val (.int .i64 a.length)), (17, .val (.int .i64 k))], []⟩
def G_peqf : Specs := [(75, psame1Spec)]
@[simp] theorem G_peqf_live : Specs.live G_peqf = false := rfl
@[simp] theorem G_peqf_75 : G_peqf.find 75 = some psame1Spec := rfl
theorem G_peqf_ok (gl : Gl) : SpecsOK Try.prog gl G_peqf := .cons (psame1_sound gl) (.nil _ _)
set_option maxRecDepth 10000 in
theorem peqf_sound (gl : Gl) : Sound Try.prog gl 74 peqfSpec := by
  refine sound_fn (N := Try.f74.ntmps) (rs := Try.f74.results.toList) mixed tok (G_peqf_ok gl) Try.func74 rfl rfl rfl rfl rfl ?_ ?_ ?_
  · rintro args ⟨a,b,rfl,ha1,ha2⟩; simp [unP_C,parV, Try.f74]
  · rintro args ⟨a,b,rfl,ha1,ha2⟩; simp [unP_C,parV, peqfSpec, Try.f74]
  · rintro args ⟨a,b,rfl,ha1,ha2⟩ bs hgl hh hro
    have hE : Env.OK ⟨Try.prog, T, G_peqf, bs⟩ := ⟨tok, by rw [hgl]; exact G_peqf_ok gl⟩
    simp only [peqfSpec, unP_C,parV]
    rcases Decidable.em (a.length = b.length) with h1 | h1
    rotate_left
    · have e : decide (a = b) = false := by simp; rintro rfl; exact h1 rfl
      have h1' : ¬ (a.length : Int) = b.length := by omega
      simp [peqfSpec, psame1Spec, Try.f74, h1', e]
    simp [peqfSpec, psame1Spec, Try.f74, h1]
    refine AWP.rounds (fun k => k ≤ a.length ∧ a.take k = b.take k) (peqfS a b) (fun k => a.length - k) 0 ⟨by simp, by simp⟩ ?_ ?_
    · refine Weak.ren [] (baseOK.nil hh) (by simp) (by simp) ?_
      simp [peqfS, h1]
    · rintro k ⟨hk, hc⟩
      refine wpc_ok hE mixed _ _ _ ?_
      rcases Nat.lt_or_ge k a.length with h | h
      · have w1 : IntKind.i64.wrap ((k : Int) + 1) = k + 1 := wrap64 _ (by omega) (by omega)
        have hb : k < b.length := by omega
        have hd := parC_at h
        have hdb := parC_at hb
        have ht := List.take_add_one (l := a) (i := k)
        have htb := List.take_add_one (l := b) (i := k)
        rw [List.getElem?_eq_getElem h] at ht
        rw [List.getElem?_eq_getElem hb] at htb
        have hne : ¬ a[k] = b[k] → ¬ a = b := fun q e => by subst e; exact q rfl
        have hx : (a[k]).length ≤ 1000000 := ha2 _ (List.getElem_mem h)
        generalize a[k] = x at *
        generalize b[k] = y at *
        have ex : ∃ a' : List Int, (subC x = subC a' ∧ ∃ b' : List Int, subC y = subC b') ∧ a'.length ≤ 1000000 := ⟨x, ⟨rfl, ⟨y, rfl⟩⟩, hx⟩
        by_cases hxy : x = y
        · have hxy' : (x = y) = True := eq_true hxy
          simp [peqfS, psame1Spec, hd, hdb, w1, h, hb, hxy', ex, unI_sub]
          exact Next.mk (k + 1) ⟨h, by rw [ht, htb, hc, hxy]⟩ (by omega) (Weak.ren [] (baseOK.nil hh) (by simp) (by simp) (by simp [peqfS]))
        · have hxy' : (x = y) = False := eq_false hxy
          have hab : (a = b) = False := eq_false (hne hxy)
          simp [peqfS, psame1Spec, hd, hdb, w1, h, hb, hxy', hab, ex, unI_sub]
          done
      · have : k = a.length := by omega
        subst this
        have e : a = b := by
          rw [List.take_length, h1, List.take_length] at hc
          exact hc
        subst e
        simp [peqfS]
def G_psame : Specs := [(74, peqfSpec)]
@[simp] theorem G_psame_live : Specs.live G_psame = false := rfl
@[simp] theorem G_psame_74 : G_psame.find 74 = some peqfSpec := rfl
theorem G_psame_ok (gl : Gl) : SpecsOK Try.prog gl G_psame := .cons (peqf_sound gl) (.nil _ _)
set_option maxRecDepth 10000 in
theorem psame_sound (gl : Gl) : Sound Try.prog gl 44 psameSpec := by
  refine sound_fn (N := Try.f44.ntmps) (rs := Try.f44.results.toList) mixed tok (G_psame_ok gl) Try.func44 rfl rfl rfl rfl rfl ?_ ?_ ?_
  · rintro args ⟨a,b,rfl,ha1,ha2⟩; simp [unP_C,parV, Try.f44]
  · rintro args ⟨a,b,rfl,ha1,ha2⟩; simp [unP_C,parV, psameSpec, Try.f44]
  · rintro args ⟨a,b,rfl,ha1,ha2⟩ bs hgl hh hro
    have hE : Env.OK ⟨Try.prog, T, G_psame, bs⟩ := ⟨tok, by rw [hgl]; exact G_psame_ok gl⟩
    simp only [psameSpec, unP_C,parV]
    have el : ∃ a' : List (List Int), a.length = a'.length ∧ parC a = parC a' ∧ (∃ b' : List (List Int), b.length = b'.length ∧ parC b = parC b') ∧ SubsOK a' := ⟨a, rfl, rfl, ⟨b, rfl, rfl⟩, ha1, ha2⟩
    simp [and_assoc, psameSpec, peqfSpec, Try.f44, el, parV]
    done
end Fen

namespace Fen
open Go Go.Proofs

/-! ### param.Step -/
def chgiSpec : Spec := { pre := fun args => ∃ (l : List Int) (n : Int), args = [intsV l, .c (.int .i64 n)] ∧ 1 ≤ l.length ∧ l.length ≤ 1000000, res := fun args => match args with
  | [.c (.sl _ l), .c (.int _ n)] => .one (.val (intsV ((nums l).dropLast ++ [n])))
  | _ => .many [] }
def G_chgi : Specs := []
@[simp] theorem G_chgi_live : Specs.live G_chgi = false := rfl
theorem G_chgi_ok (gl : Gl) : SpecsOK Try.prog gl G_chgi := .nil _ _
set_option maxRecDepth 10000 in
theorem chgi_sound (gl : Gl) : Sound Try.prog gl 114 chgiSpec := by
  refine sound_fn (N := Try.f114.ntmps) (rs := Try.f114.results.toList) mixed tok (G_chgi_ok gl) Try.func114 rfl rfl rfl rfl rfl ?_ ?_ ?_
  · rintro args ⟨l,n,rfl,h1,h2⟩; simp [intsV,nums_I, Try.f114]
  · rintro args ⟨l,n,rfl,h1,h2⟩; simp [intsV,nums_I, chgiSpec, Try.f114]
  · rintro args ⟨l,n,rfl,h1,h2⟩ bs hgl hh hro
    have hE : Env.OK ⟨Try.prog, T, G_chgi, bs⟩ := ⟨tok, by rw [hgl]; exact G_chgi_ok gl⟩
    simp only [chgiSpec, intsV,nums_I]
    have w1 : IntKind.i64.wrap ((l.length : Int) - 1) = (l.length : Int) - 1 := wrap64 _ (by omega) (by omega)
    have e1 : ((l.length : Int) - 1).toNat = l.length - 1 := by omega
    have e2 : (1 ≤ (l.length : Int)) = True := eq_true (by omega)
    simp [chgiSpec, Try.f114, w1, e1, e2]
    exact ⟨by omega, ⟨by omega, by omega⟩, by rw [List.dropLast_eq_take]⟩
def chgpSpec : Spec := { pre := fun args => ∃ (B : List (List Int)) (s : List Int), args = [parV B, .agg [subC s]] ∧ 1 ≤ B.length ∧ B.length ≤ 16, res := fun args => match args with
  | [.c (.sl _ l), .agg [c]] => .one (.val (parV ((unP l).dropLast ++ [unI c])))
  | _ => .many [] }
def G_chgp : Specs := []
@[simp] theorem G_chgp_live : Specs.live G_chgp = false := rfl
theorem G_chgp_ok (gl : Gl) : SpecsOK Try.prog gl G_chgp := .nil _ _
set_option maxRecDepth 10000 in
theorem chgp_sound (gl : Gl) : Sound Try.prog gl 113 chgpSpec := by
  refine sound_fn (N := Try.f113.ntmps) (rs := Try.f113.results.toList) mixed tok (G_chgp_ok gl) Try.func113 rfl rfl rfl rfl rfl ?_ ?_ ?_
  · rintro args ⟨B,s,rfl,h1,h2⟩; simp [parV,unP_C,unI_sub, Try.f113]
  · rintro args ⟨B,s,rfl,h1,h2⟩; simp [parV,unP_C,unI_sub, chgpSpec, Try.f113]
  · rintro args ⟨B,s,rfl,h1,h2⟩ bs hgl hh hro
    have hE : Env.OK ⟨Try.prog, T, G_chgp, bs⟩ := ⟨tok, by rw [hgl]; exact G_chgp_ok gl⟩
    simp only [chgpSpec, parV,unP_C,unI_sub]
    have w1 : IntKind.i64.wrap ((B.length : Int) - 1) = (B.length : Int) - 1 := wrap64 _ (by omega) (by omega)
    have e1 : ((B.length : Int) - 1).toNat = B.length - 1 := by omega
    have e2 : (1 ≤ (B.length : Int)) = True := eq_true (by omega)
    simp [chgpSpec, Try.f113, w1, e1, e2]
    exact ⟨⟨by omega, by rw [parC_len]; omega⟩, ⟨by omega, by omega⟩, rfl, by rw [parC_take, List.dropLast_eq_take, parC_app]; rfl⟩
def pstep1Spec : Spec := { pre := fun args => ∃ (B : List (List Int)) (s : List Int), args = [intsV s, .c (.ptr [.sl B.length (parC B)])] ∧ 1 ≤ B.length ∧ B.length ≤ 16, res := fun args => match args with
  | [.c (.sl _ s), .c (.ptr [.sl _ l])] => .many [.val (parV ((unP l).dropLast ++ [nums s])), .val (.c (.int .i64 0))]
  | _ => .many [] }
def G_pstep1 : Specs := [(113, chgpSpec)]
@[simp] theorem G_pstep1_live : Specs.live G_pstep1 = false := rfl
@[simp] theorem G_pstep1_113 : G_pstep1.find 113 = some chgpSpec := rfl
theorem G_pstep1_ok (gl : Gl) : SpecsOK Try.prog gl G_pstep1 := .cons (chgp_sound gl) (.nil _ _)
set_option maxRecDepth 10000 in
theorem pstep1_sound (gl : Gl) : Sound Try.prog gl 112 pstep1Spec := by
  refine sound_fn (N := Try.f112.ntmps) (rs := Try.f112.results.toList) mixed tok (G_pstep1_ok gl) Try.func112 rfl rfl rfl rfl rfl ?_ ?_ ?_
  · rintro args ⟨B,s,rfl,h1,h2⟩; simp [parV,unP_C,nums_I,intsV, Try.f112]
  · rintro args ⟨B,s,rfl,h1,h2⟩; simp [parV,unP_C,nums_I,intsV, pstep1Spec, Try.f112]
  · rintro args ⟨B,s,rfl,h1,h2⟩ bs hgl hh hro
    have hE : Env.OK ⟨Try.prog, T, G_pstep1, bs⟩ := ⟨tok, by rw [hgl]; exact G_pstep1_ok gl⟩
    simp only [pstep1Spec, parV,unP_C,nums_I,intsV]
    have eu : unI (C.sl s.length (ints .i64 s)) = s := unI_sub s
    have eb : B.length - 1 + 1 = B.length := by omega
    simp [pstep1Spec, chgpSpec, Try.f112]
    refine ⟨⟨B, ⟨rfl, s, rfl⟩, h1, h2⟩, ?_⟩
    simp [parV, eu, eb]


def pstepS (B : List (List Int)) (L : List Int) (c : Int) : St := ⟨99, [(1, .val (.int .u8 c)), (2, .ptr 0 0 0), (4, .val (.sl 0 [])), (5, .val (.int .i64 0)), (7, .val (.sl L.length (ints .i64 L))), (8, .clos 112 [.ptr 0 0 0])], [.box 23 [.val (.sl B.length (parC B))]]⟩
def pstepB (B : List (List Int)) (L : List Int) (c : Int) : List (List Int) × Int :=
  if c = 59 then (if B.length < 16 then (B ++ [[-1]], 0) else ([], 3))
  else if c = 58 then (if L.length < 6 then (B.dropLast ++ [L ++ [-1]], 0) else ([], 3))
  else if 48 ≤ c ∧ c ≤ 57 then (B.dropLast ++ [L.dropLast ++ [capP (maxZ (L.getLastD 0) * 10 + (c - 48))]], 0)
  else ([], 6)
theorem pstepB_eq {ps : List (List Int)} (c : Int) (h : parOK ps = true) : pstepF ps c = pstepB (pbase ps) ((pbase ps).getLastD []) c := by
  unfold pstepF pstepB; simp [h]
theorem last_get {L : List Int} (h : 1 ≤ L.length) (k : IntKind) : (ints k (L.drop (L.length - 1))).head?.getD .nilf = .int k (L.getLastD 0) := by
  rw [List.getLastD_eq_getLast?, List.getLast?_eq_getElem?, List.drop_eq_getElem_cons (show L.length - 1 < L.length by omega)]
  simp [ints, List.getElem?_eq_getElem (show L.length - 1 < L.length by omega)]
def pstepSpec : Spec := { pre := fun args => ∃ (ps : List (List Int)) (c : Int), args = [parV ps, .c (.int .u8 c)] ∧ SubsOK ps ∧ 0 ≤ c ∧ c < 256, res := fun args => match args with
  | [.c (.sl _ l), .c (.int _ c)] => .many [.val (parV (pstepF (unP l) c).1), .val (.c (.int .i64 (pstepF (unP l) c).2))]
  | _ => .many [] }
def G_pstep : Specs := [(41, pcheckSpec), (112, pstep1Spec), (114, chgiSpec)]
@[simp] theorem G_pstep_live : Specs.live G_pstep = false := rfl
@[simp] theorem G_pstep_41 : G_pstep.find 41 = some pcheckSpec := rfl
@[simp] theorem G_pstep_112 : G_pstep.find 112 = some pstep1Spec := rfl
@[simp] theorem G_pstep_114 : G_pstep.find 114 = some chgiSpec := rfl
theorem G_pstep_ok (gl : Gl) : SpecsOK Try.prog gl G_pstep := .cons (pcheck_sound gl) (.cons (pstep1_sound gl) (.cons (chgi_sound gl) (.nil _ _)))
set_option maxHeartbeats 4000000 in
set_option maxRecDepth 10000 in
theorem pstep_sound (gl : Gl) : Sound Try.prog gl 110 pstepSpec := by
  refine sound_awp (N := Try.f110.ntmps) (rs := Try.f110.results.toList) tok Try.func110 rfl rfl rfl rfl rfl ?_ ?_ ?_
  · rintro args ⟨ps,c,rfl,hs,hc⟩; simp [parV,unP_C, Try.f110]
  · rintro args ⟨ps,c,rfl,hs,hc⟩; simp [parV,unP_C, pstepSpec, Try.f110]
  · rintro args ⟨ps,c,rfl,hs,hc⟩ bs hgl hh hro
    have hE : Env.OK ⟨Try.prog, T, G_pstep, bs⟩ := ⟨tok, by rw [hgl]; exact G_pstep_ok gl⟩
    simp only [pstepSpec, parV,unP_C]
    have ep : ∃ l' : List (List Int), ps.length = l'.length ∧ parC ps = parC l' ∧ SubsOK l' := ⟨ps, rfl, rfl, hs⟩
    cases hok : parOK ps with
    | false =>
      have e : pstepF ps c = ([], 150) := by simp [pstepF, hok]
      refine wpc_ok hE mixed _ _ _ ?_
      simp [and_assoc, pstepSpec, chgiSpec, pcheckSpec, pstep1Spec, Try.f110, hok, e, ep, parV]
      rfl
    | true =>
      obtain ⟨b1, b2, b3⟩ := pbase_ok hok
      have hF := pstepB_eq c hok
      have hL := b3 _ (last_mem [] b1)
      obtain ⟨B, hB⟩ : ∃ B, pbase ps = B := ⟨_, rfl⟩
      obtain ⟨L, hLe⟩ : ∃ L, B.getLastD [] = L := ⟨_, rfl⟩
      rw [hB] at b1 b2 hF hL
      rw [hLe] at hF hL
      obtain ⟨l1, l2, l3⟩ := subOK_iff.1 hL
      have b4 : 1 ≤ B.length := List.length_pos_iff.2 b1
      obtain ⟨R, hR⟩ : ∃ R, pstepF ps c = R := ⟨_, rfl⟩
      rw [hR] at hF
      rcases Decidable.em (ps = []) with h0 | h0
      case' inl =>
        subst h0
        have e0 : parC [] = [] := rfl
        have e1 : subC [-1] = .sl 1 [.int .i64 (-1)] := rfl
        have e2 : unP [] = [] := rfl
        have e3 : B = [[-1]] := hB.symm
        have e4 : L = [-1] := by rw [← hLe, e3]; rfl
        refine wpcU_ok hE mixed 8 _ _ _ ?_
        simp [and_assoc, pstepSpec, chgiSpec, pcheckSpec, pstep1Spec, Try.f110, e0, e1, e2, hok, parV, hR]
        refine ⟨⟨[], rfl, rfl, hs⟩, ?_⟩
        refine AWP.weaken (st' := pstepS B L c) (Weak.ren [some 0] (baseOK.nil hh) (by simp) (by simp [pstepS, e3, parC, subC, ints]) (by simp [pstepS, e3, e4, parC, subC, ints])) ?_
        clear e3 e4
        clear hB hLe
      case' inr =>
        have p0 : 1 ≤ ps.length := List.length_pos_iff.2 h0
        have p1 : ps.length ≤ 16 := (parOK_iff.1 hok).1
        have e3 : B = ps := by rw [← hB]; exact if_neg h0
        have w1 : IntKind.i64.wrap ((ps.length : Int) - 1) = (ps.length : Int) - 1 := wrap64 _ (by omega) (by omega)
        have w2 : ((ps.length : Int) - 1).toNat = ps.length - 1 := by omega
        have w3 : (parC ps)[ps.length - 1]?.getD .nilf = .sl L.length (ints .i64 L) := by
          rw [parC_get (by omega), ← hLe, e3, List.getLastD_eq_getLast?, List.getLast?_eq_getElem?, List.getElem?_eq_getElem (by omega)]
          rfl
        have w4 : (0 < (parC ps).length - (ps.length - 1)) = True := eq_true (by rw [parC_len]; omega)
        have w5 : (1 ≤ (ps.length : Int)) = True := eq_true (by omega)
        have w6 : ((ps.length : Int) = 0) = False := eq_false (by omega)
        have w7 : ((ps.length : Int) - 1 < ps.length) = True := eq_true (by omega)
        refine wpcU_ok hE mixed 8 _ _ _ ?_
        simp [and_assoc, pstepSpec, chgiSpec, pcheckSpec, pstep1Spec, Try.f110, hok, ep, parV, h0, w1, w2, w3, w4, w5, w6, w7, hR]
        refine AWP.weaken (st' := pstepS B L c) (Weak.ren [some 0] (baseOK.nil hh) (by simp) (by simp [pstepS, e3]) (by simp [pstepS, e3])) ?_
        clear e3
        clear hB hLe
      all_goals
        refine wpc_ok hE mixed _ _ _ ?_
        have hpV : ∀ l : List (List Int), parV l = .c (.sl l.length (parC l)) := fun _ => rfl
        have hd : ∀ l : List Int, subC l = C.sl l.length (ints .i64 l) := fun _ => rfl
        by_cases c1 : c = 59
        · subst c1
          by_cases c2 : B.length < 16
          · have c2' : ((B.length : Int) < 16) = True := eq_true (by omega)
            have hr : R = (B ++ [[-1]], 0) := by rw [hF, pstepB, if_pos rfl, if_pos c2]
            simp [pstepS, and_assoc, pstepSpec, chgiSpec, pcheckSpec, pstep1Spec, Try.f110, c2', hr, hpV, parC_len, parC_app]
            exact ⟨by omega, by omega, by rw [List.take_of_length_le (by rw [parC_len]; omega)]; rfl⟩
          · have c2' : ((B.length : Int) < 16) = False := eq_false (by omega)
            have hr : R = ([], 3) := by rw [hF, pstepB, if_pos rfl, if_neg c2]
            simp [pstepS, and_assoc, pstepSpec, chgiSpec, pcheckSpec, pstep1Spec, Try.f110, c2', hr, hpV, parC_len, parC_app]
            rfl
        have c1' : (c = 59) = False := eq_false c1
        by_cases d1 : c = 58
        · subst d1
          by_cases c2 : L.length < 6
          · have c2' : ((L.length : Int) < 6) = True := eq_true (by omega)
            have hr : R = (B.dropLast ++ [L ++ [-1]], 0) := by rw [hF, pstepB, if_neg c1, if_pos rfl, if_pos c2]
            simp [pstepS, and_assoc, pstepSpec, chgiSpec, pcheckSpec, pstep1Spec, Try.f110, c2', hr, hpV, parC_len, parC_app]
            exact ⟨by omega, by omega, B, rfl, rfl, b4, b2⟩
          · have c2' : ((L.length : Int) < 6) = False := eq_false (by omega)
            have hr : R = ([], 3) := by rw [hF, pstepB, if_neg c1, if_pos rfl, if_neg c2]
            simp [pstepS, and_assoc, pstepSpec, chgiSpec, pcheckSpec, pstep1Spec, Try.f110, c2', hr, hpV, parC_len, parC_app]
            rfl
        have d1' : (c = 58) = False := eq_false d1
        by_cases d2 : 48 ≤ c ∧ c ≤ 57
        · obtain ⟨n, hn⟩ : ∃ n, L.getLastD 0 = n := ⟨_, rfl⟩
          have hn1 : -1 ≤ n ∧ n ≤ 9999 := by rw [← hn]; exact l3 _ (last_mem 0 (List.length_pos_iff.1 l1))
          have hr : R = (B.dropLast ++ [L.dropLast ++ [capP (maxZ n * 10 + (c - 48))]], 0) := by rw [hF, pstepB, if_neg c1, if_neg d1, if_pos d2, hn]
          have d3 : (48 ≤ c) = True := eq_true d2.1
          have d4 : (c ≤ 57) = True := eq_true d2.2
          have w1 : IntKind.i64.wrap ((L.length : Int) - 1) = (L.length : Int) - 1 := wrap64 _ (by omega) (by omega)
          have w2 : ((L.length : Int) - 1).toNat = L.length - 1 := by omega
          have w3 := last_get l1 .i64
          rw [hn] at w3
          have w4 : IntKind.u8.wrap (c - 48) = c - 48 := by simp [IntKind.wrap, IntKind.signed, IntKind.bits]; omega
          have w5 : IntKind.i64.wrap (c - 48) = c - 48 := wrap64 _ (by omega) (by omega)
          simp [pstepS, and_assoc, pstepSpec, chgiSpec, pcheckSpec, pstep1Spec, Try.f110, c1', d1', d3, d4, hr, hpV, parC_len, parC_app, w1, w2, w3, w4, w5]
          have em : (if 0 < n then n else 0) = maxZ n := by unfold maxZ; split <;> split <;> omega
          have em2 : 0 ≤ maxZ n ∧ maxZ n ≤ 9999 := by unfold maxZ; split <;> omega
          have w6 : IntKind.i64.wrap (maxZ n * 10) = maxZ n * 10 := wrap64 _ (by omega) (by omega)
          have w7 : IntKind.i64.wrap (maxZ n * 10 + (c - 48)) = maxZ n * 10 + (c - 48) := wrap64 _ (by omega) (by omega)
          refine ⟨by omega, by omega, by omega, by omega, by omega, ⟨B, rfl, rfl, b4, b2⟩, ?_⟩
          rw [em, w6, w7]
          rfl
        · have hr : R = ([], 6) := by rw [hF, pstepB, if_neg c1, if_neg d1, if_neg d2]
          by_cases d3 : 48 ≤ c
          · have d3' : (48 ≤ c) = True := eq_true d3
            have d4 : (c ≤ 57) = False := eq_false (fun h => d2 ⟨d3, h⟩)
            simp [pstepS, and_assoc, pstepSpec, chgiSpec, pcheckSpec, pstep1Spec, Try.f110, c1', d1', d3', d4, hr, hpV, parC_len, parC_app]
            rfl
          · have d3' : (48 ≤ c) = False := eq_false d3
            simp [pstepS, and_assoc, pstepSpec, chgiSpec, pcheckSpec, pstep1Spec, Try.f110, c1', d1', d3', hr, hpV, parC_len, parC_app]
            rfl
end Fen
