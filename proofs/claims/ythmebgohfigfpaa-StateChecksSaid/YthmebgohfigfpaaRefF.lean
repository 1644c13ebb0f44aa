/- A part of the proof; no statement is proved here: SRefF, SRefE, SRefH. -/
import Derived.Test.YthmebgohfigfpaaRefC

set_option linter.unusedVariables false
set_option linter.unusedSimpArgs false

namespace Fen
open Go Go.Proofs

/-! ### the reference's may and Check -/
def HasIn (a : List V) : Prop := rhasSpec.pre a
def rhasoSpec : Spec := { pre := HasIn, res := rhasSpec.res }
theorem rhaso_sound (gl : Gl) : Sound Try.prog gl 58 rhasoSpec := rhas_sound gl
def RightIn (a : List V) : Prop := rrightSpec.pre a
def rrightoSpec : Spec := { pre := RightIn, res := rrightSpec.res }
theorem rrighto_sound (gl : Gl) : Sound Try.prog gl 59 rrightoSpec := rright_sound gl
def R5In (a : List V) : Prop := r05checkSpec.pre a
def r05checkoSpec : Spec := { pre := R5In, res := r05checkSpec.res }
theorem r05checko_sound (gl : Gl) : Sound Try.prog gl 60 r05checkoSpec := r05check_sound gl
def SignsIn (a : List V) : Prop := rsignsSpec.pre a
def rsignsoSpec : Spec := { pre := SignsIn, res := rsignsSpec.res }
theorem rsignso_sound (gl : Gl) : Sound Try.prog gl 61 rsignsoSpec := rsigns_sound gl
def TextIn (a : List V) : Prop := rtextSpec.pre a
def rtextoSpec : Spec := { pre := TextIn, res := rtextSpec.res }
theorem rtexto_sound (gl : Gl) : Sound Try.prog gl 62 rtextoSpec := rtext_sound gl
def EmptyIn (a : List V) : Prop := remptySpec.pre a
def remptyoSpec : Spec := { pre := EmptyIn, res := remptySpec.res }
theorem remptyo_sound (gl : Gl) : Sound Try.prog gl 57 remptyoSpec := rempty_sound gl

theorem has_in (n : Int) (l : List Int) {k : Nat} {cs : List C} (hk : k = l.length) (hc : cs = ints .i64 l) (h : l.length ≤ 1000) : HasIn [.c (.int .i64 n), .c (.sl k cs)] := by
  subst hk hc; exact ⟨n, l, rfl, h⟩
def rmaySpec : Spec := { pre := fun args => ∃ p : Ps, args = [.agg (psC p)] ∧ psFit p, res := fun args => match args with
  | [.agg a] => .one (.val (.c (.bool (may6 (psOf a)))))
  | _ => .many [] }
def G_rmay : Specs := [(58, rhasoSpec), (59, rrightoSpec), (60, r05checkoSpec), (61, rsignsoSpec), (62, rtextoSpec), (57, remptyoSpec)]
@[simp] theorem G_rmay_live : Specs.live G_rmay = false := rfl
@[simp] theorem G_rmay_58 : G_rmay.find 58 = some rhasoSpec := rfl
@[simp] theorem G_rmay_59 : G_rmay.find 59 = some rrightoSpec := rfl
@[simp] theorem G_rmay_60 : G_rmay.find 60 = some r05checkoSpec := rfl
@[simp] theorem G_rmay_61 : G_rmay.find 61 = some rsignsoSpec := rfl
@[simp] theorem G_rmay_62 : G_rmay.find 62 = some rtextoSpec := rfl
@[simp] theorem G_rmay_57 : G_rmay.find 57 = some remptyoSpec := rfl
theorem G_rmay_ok (gl : Gl) : SpecsOK Try.prog gl G_rmay := .cons (rhaso_sound gl) (.cons (rrighto_sound gl) (.cons (r05checko_sound gl) (.cons (rsignso_sound gl) (.cons (rtexto_sound gl) (.cons (remptyo_sound gl) (.nil _ _))))))
set_option maxHeartbeats 20000000 in
set_option maxRecDepth 10000 in
theorem rmay_sound (gl : Gl) : Sound Try.prog gl 34 rmaySpec := by
  refine sound_fn (N := Try.f34.ntmps) (rs := Try.f34.results.toList) mixed tok (G_rmay_ok gl) Try.func34 rfl rfl rfl rfl rfl ?_ ?_ ?_
  · rintro args ⟨a,rfl,⟨⟨hu,hps⟩,hul,hit,htx⟩⟩; simp [psOf_C, Try.f34]
  · rintro args ⟨a,rfl,⟨⟨hu,hps⟩,hul,hit,htx⟩⟩; simp [psOf_C, rmaySpec, Try.f34]
  · rintro args ⟨a,rfl,⟨⟨hu,hps⟩,hul,hit,htx⟩⟩ bs hgl hh hro
    have hE : Env.OK ⟨Try.prog, T, G_rmay, bs⟩ := ⟨tok, by rw [hgl]; exact G_rmay_ok gl⟩
    simp only [rmaySpec, psOf_C]
    have e2 := psOf_C a
    simp only [psC] at e2
    by_cases h1 : a.s < 0
    · have h1' : (a.s < 0) = True := eq_true h1
      have hm : may6 a = false := by unfold may6; rw [if_pos (.inl h1)]
      simp [rmaySpec, r05checkoSpec, remptyoSpec, rhasoSpec, rrightoSpec, rsignsoSpec, rtextoSpec, Try.f34, psC, h1', hm, e2]
    have h1' : (a.s < 0) = False := eq_false h1
    by_cases h2 : 15 ≤ a.s
    · have h2' : (15 ≤ a.s) = True := eq_true h2
      have hm : may6 a = false := by unfold may6; rw [if_pos (.inr h2)]
      simp [rmaySpec, r05checkoSpec, remptyoSpec, rhasoSpec, rrightoSpec, rsignsoSpec, rtextoSpec, Try.f34, psC, h1', h2', hm, e2]
    have h2' : (15 ≤ a.s) = False := eq_false h2
    have hm : may6 a = if a.bad = true then spoils a.s && noneIn a else whole6 a := by unfold may6; rw [if_neg (by omega)]
    cases hb : a.bad with
    | true =>
      rw [hb] at e2
      rw [if_pos hb] at hm
      have k0 : hasB a.s [.int .i64 2, .int .i64 4, .int .i64 5, .int .i64 6, .int .i64 7, .int .i64 9, .int .i64 10, .int .i64 11, .int .i64 12] = spoils a.s := by
        unfold hasB spoils; rw [decide_eq_decide]; simp [nums, toI]
      have i0 := has_in a.s [2, 4, 5, 6, 7, 9, 10, 11, 12] rfl rfl (by decide)
      have i1 : EmptyIn [.agg [.int .i64 a.s, .sl a.u.length (ints .u8 a.u), .int .u8 a.pv, .int .u8 a.fn, .sl a.ps.length (parC a.ps), .str a.it, .str a.tx, .bool true]] := ⟨a, by simp [psC, hb]⟩
      simp [ints] at i0
      simp [rmaySpec, r05checkoSpec, remptyoSpec, rhasoSpec, rrightoSpec, rsignsoSpec, rtextoSpec, Try.f34, rhasSpec, remptySpec, psC, h1', h2', hm, e2, hb, k0, i0, i1]
      exact Bool.and_comm _ _
    | false =>
      rw [hb] at e2
      rw [if_neg (by rw [hb]; decide)] at hm
      have iT := has_in a.s [11, 12] rfl rfl (by decide)
      have iI := has_in a.s [5, 10] rfl rfl (by decide)
      have iQ := has_in a.s [4, 9] rfl rfl (by decide)
      have iO := has_in a.s [6, 7] rfl rfl (by decide)
      simp [ints] at iT iI iQ iO
      have iR : RightIn [.c (.sl a.u.length (ints .u8 a.u))] := ⟨a.u, rfl, hu, by omega⟩
      have iP : R5In [.c (.sl a.ps.length (parC a.ps))] := ⟨a.ps, rfl, hps⟩
      have iS : ∀ x y : Int, SignsIn [.c (.str a.it), .c (.int .i64 x), .c (.int .i64 y)] := fun x y => ⟨a.it, x, y, rfl, hit⟩
      have iX : TextIn [.c (.str a.tx)] := ⟨a.tx, rfl, htx⟩
      have kR : rrightF a.u = rightF a.u := (right_eq hu).symm
      have cls : (a.s = 0) ∨ (a.s = 2) ∨ (a.s = 4 ∨ a.s = 9) ∨ (a.s = 5 ∨ a.s = 10) ∨ (a.s = 6 ∨ a.s = 7) ∨ (a.s = 11 ∨ a.s = 12) ∨ (a.s = 1 ∨ a.s = 3 ∨ a.s = 8 ∨ a.s = 13 ∨ a.s = 14) := by omega
      unfold whole6 at hm
      rcases cls with c | c | c | c | c | c | c
      · have sT : tail6 a.s = false := by unfold tail6; simp; omega
        have sI : int6 a.s = false := by unfold int6; simp; omega
        have sQ : par6 a.s = false := by unfold par6; simp; omega
        have kT : hasB a.s [.int .i64 11, .int .i64 12] = false := by unfold hasB; simp [nums, toI]; omega
        have kI : hasB a.s [.int .i64 5, .int .i64 10] = false := by unfold hasB; simp [nums, toI]; omega
        have kQ : hasB a.s [.int .i64 4, .int .i64 9] = false := by unfold hasB; simp [nums, toI]; omega
        have kO : hasB a.s [.int .i64 6, .int .i64 7] = false := by unfold hasB; simp [nums, toI]; omega
        have s0 : (a.s = 0) = True := eq_true (by omega)
        have s2 : (a.s = 2) = False := eq_false (by omega)
        have sO : (a.s = 6 ∨ a.s = 7) = False := eq_false (by omega)
        simp only [sT, sI, sQ, s0, s2, sO] at hm
        simp [rmaySpec, r05checkoSpec, remptyoSpec, rhasoSpec, rrightoSpec, rsignsoSpec, rtextoSpec, Try.f34, rhasSpec, rrightSpec, r05checkSpec, pcheckSpec, rsignsSpec, rtextSpec, psC, h1', h2', hb, iT, iI, iQ, iO, iR, iP, iS, iX, kR, kT, kI, kQ, kO, s0, s2, V.ints, e2, hm]
        clear hm e2 h1' h2' iT iI iQ iO iR iP iS iX kR kT kI kQ kO s0 s2 sO sT sI sQ hE hu hps
        have l1 : a.it = [] ∨ 1 ≤ (a.it.length : Int) := by cases a.it with | nil => exact .inl rfl | cons _ _ => right; simp; omega
        have l2 : a.ps = [] ∨ 0 < a.ps.length := by cases a.ps with | nil => exact .inl rfl | cons _ _ => right; simp
        repeat' (first | (refine And.intro ?_ ?_) | (intro _))
        all_goals first | assumption | contradiction | (simp_all; done) | grind
      · have sT : tail6 a.s = false := by unfold tail6; simp; omega
        have sI : int6 a.s = false := by unfold int6; simp; omega
        have sQ : par6 a.s = false := by unfold par6; simp; omega
        have kT : hasB a.s [.int .i64 11, .int .i64 12] = false := by unfold hasB; simp [nums, toI]; omega
        have kI : hasB a.s [.int .i64 5, .int .i64 10] = false := by unfold hasB; simp [nums, toI]; omega
        have kQ : hasB a.s [.int .i64 4, .int .i64 9] = false := by unfold hasB; simp [nums, toI]; omega
        have kO : hasB a.s [.int .i64 6, .int .i64 7] = false := by unfold hasB; simp [nums, toI]; omega
        have s0 : (a.s = 0) = False := eq_false (by omega)
        have s2 : (a.s = 2) = True := eq_true (by omega)
        have sO : (a.s = 6 ∨ a.s = 7) = False := eq_false (by omega)
        simp only [sT, sI, sQ, s0, s2, sO] at hm
        simp [rmaySpec, r05checkoSpec, remptyoSpec, rhasoSpec, rrightoSpec, rsignsoSpec, rtextoSpec, Try.f34, rhasSpec, rrightSpec, r05checkSpec, pcheckSpec, rsignsSpec, rtextSpec, psC, h1', h2', hb, iT, iI, iQ, iO, iR, iP, iS, iX, kR, kT, kI, kQ, kO, s0, s2, V.ints, e2, hm]
        clear hm e2 h1' h2' iT iI iQ iO iR iP iS iX kR kT kI kQ kO s0 s2 sO sT sI sQ hE hu hps
        have l1 : a.it = [] ∨ 1 ≤ (a.it.length : Int) := by cases a.it with | nil => exact .inl rfl | cons _ _ => right; simp; omega
        have l2 : a.ps = [] ∨ 0 < a.ps.length := by cases a.ps with | nil => exact .inl rfl | cons _ _ => right; simp
        repeat' (first | (refine And.intro ?_ ?_) | (intro _))
        all_goals first | assumption | contradiction | (simp_all; done) | grind
      · have sT : tail6 a.s = false := by unfold tail6; simp; omega
        have sI : int6 a.s = false := by unfold int6; simp; omega
        have sQ : par6 a.s = true := by unfold par6; simp; omega
        have kT : hasB a.s [.int .i64 11, .int .i64 12] = false := by unfold hasB; simp [nums, toI]; omega
        have kI : hasB a.s [.int .i64 5, .int .i64 10] = false := by unfold hasB; simp [nums, toI]; omega
        have kQ : hasB a.s [.int .i64 4, .int .i64 9] = true := by unfold hasB; simp [nums, toI]; omega
        have kO : hasB a.s [.int .i64 6, .int .i64 7] = false := by unfold hasB; simp [nums, toI]; omega
        have s0 : (a.s = 0) = False := eq_false (by omega)
        have s2 : (a.s = 2) = False := eq_false (by omega)
        have sO : (a.s = 6 ∨ a.s = 7) = False := eq_false (by omega)
        simp only [sT, sI, sQ, s0, s2, sO] at hm
        simp [rmaySpec, r05checkoSpec, remptyoSpec, rhasoSpec, rrightoSpec, rsignsoSpec, rtextoSpec, Try.f34, rhasSpec, rrightSpec, r05checkSpec, pcheckSpec, rsignsSpec, rtextSpec, psC, h1', h2', hb, iT, iI, iQ, iO, iR, iP, iS, iX, kR, kT, kI, kQ, kO, s0, s2, V.ints, e2, hm]
        clear hm e2 h1' h2' iT iI iQ iO iR iP iS iX kR kT kI kQ kO s0 s2 sO sT sI sQ hE hu hps
        have l1 : a.it = [] ∨ 1 ≤ (a.it.length : Int) := by cases a.it with | nil => exact .inl rfl | cons _ _ => right; simp; omega
        have l2 : a.ps = [] ∨ 0 < a.ps.length := by cases a.ps with | nil => exact .inl rfl | cons _ _ => right; simp
        repeat' (first | (refine And.intro ?_ ?_) | (intro _))
        all_goals first | assumption | contradiction | (simp_all; done) | grind
      · have sT : tail6 a.s = false := by unfold tail6; simp; omega
        have sI : int6 a.s = true := by unfold int6; simp; omega
        have sQ : par6 a.s = false := by unfold par6; simp; omega
        have kT : hasB a.s [.int .i64 11, .int .i64 12] = false := by unfold hasB; simp [nums, toI]; omega
        have kI : hasB a.s [.int .i64 5, .int .i64 10] = true := by unfold hasB; simp [nums, toI]; omega
        have kQ : hasB a.s [.int .i64 4, .int .i64 9] = false := by unfold hasB; simp [nums, toI]; omega
        have kO : hasB a.s [.int .i64 6, .int .i64 7] = false := by unfold hasB; simp [nums, toI]; omega
        have s0 : (a.s = 0) = False := eq_false (by omega)
        have s2 : (a.s = 2) = False := eq_false (by omega)
        have sO : (a.s = 6 ∨ a.s = 7) = False := eq_false (by omega)
        simp only [sT, sI, sQ, s0, s2, sO] at hm
        simp [rmaySpec, r05checkoSpec, remptyoSpec, rhasoSpec, rrightoSpec, rsignsoSpec, rtextoSpec, Try.f34, rhasSpec, rrightSpec, r05checkSpec, pcheckSpec, rsignsSpec, rtextSpec, psC, h1', h2', hb, iT, iI, iQ, iO, iR, iP, iS, iX, kR, kT, kI, kQ, kO, s0, s2, V.ints, e2, hm]
        clear hm e2 h1' h2' iT iI iQ iO iR iP iS iX kR kT kI kQ kO s0 s2 sO sT sI sQ hE hu hps
        have l1 : a.it = [] ∨ 1 ≤ (a.it.length : Int) := by cases a.it with | nil => exact .inl rfl | cons _ _ => right; simp; omega
        have l2 : a.ps = [] ∨ 0 < a.ps.length := by cases a.ps with | nil => exact .inl rfl | cons _ _ => right; simp
        repeat' (first | (refine And.intro ?_ ?_) | (intro _))
        all_goals first | assumption | contradiction | (simp_all; done) | grind
      · have sT : tail6 a.s = false := by unfold tail6; simp; omega
        have sI : int6 a.s = false := by unfold int6; simp; omega
        have sQ : par6 a.s = false := by unfold par6; simp; omega
        have kT : hasB a.s [.int .i64 11, .int .i64 12] = false := by unfold hasB; simp [nums, toI]; omega
        have kI : hasB a.s [.int .i64 5, .int .i64 10] = false := by unfold hasB; simp [nums, toI]; omega
        have kQ : hasB a.s [.int .i64 4, .int .i64 9] = false := by unfold hasB; simp [nums, toI]; omega
        have kO : hasB a.s [.int .i64 6, .int .i64 7] = true := by unfold hasB; simp [nums, toI]; omega
        have s0 : (a.s = 0) = False := eq_false (by omega)
        have s2 : (a.s = 2) = False := eq_false (by omega)
        have sO : (a.s = 6 ∨ a.s = 7) = True := eq_true (by omega)
        simp only [sT, sI, sQ, s0, s2, sO] at hm
        simp [rmaySpec, r05checkoSpec, remptyoSpec, rhasoSpec, rrightoSpec, rsignsoSpec, rtextoSpec, Try.f34, rhasSpec, rrightSpec, r05checkSpec, pcheckSpec, rsignsSpec, rtextSpec, psC, h1', h2', hb, iT, iI, iQ, iO, iR, iP, iS, iX, kR, kT, kI, kQ, kO, s0, s2, V.ints, e2, hm]
        clear hm e2 h1' h2' iT iI iQ iO iR iP iS iX kR kT kI kQ kO s0 s2 sO sT sI sQ hE hu hps
        have l1 : a.it = [] ∨ 1 ≤ (a.it.length : Int) := by cases a.it with | nil => exact .inl rfl | cons _ _ => right; simp; omega
        have l2 : a.ps = [] ∨ 0 < a.ps.length := by cases a.ps with | nil => exact .inl rfl | cons _ _ => right; simp
        repeat' (first | (refine And.intro ?_ ?_) | (intro _))
        all_goals first | assumption | contradiction | (simp_all; done) | grind
      · have sT : tail6 a.s = true := by unfold tail6; simp; omega
        have sI : int6 a.s = false := by unfold int6; simp; omega
        have sQ : par6 a.s = false := by unfold par6; simp; omega
        have kT : hasB a.s [.int .i64 11, .int .i64 12] = true := by unfold hasB; simp [nums, toI]; omega
        have kI : hasB a.s [.int .i64 5, .int .i64 10] = false := by unfold hasB; simp [nums, toI]; omega
        have kQ : hasB a.s [.int .i64 4, .int .i64 9] = false := by unfold hasB; simp [nums, toI]; omega
        have kO : hasB a.s [.int .i64 6, .int .i64 7] = false := by unfold hasB; simp [nums, toI]; omega
        have s0 : (a.s = 0) = False := eq_false (by omega)
        have s2 : (a.s = 2) = False := eq_false (by omega)
        have sO : (a.s = 6 ∨ a.s = 7) = False := eq_false (by omega)
        simp only [sT, sI, sQ, s0, s2, sO] at hm
        simp [rmaySpec, r05checkoSpec, remptyoSpec, rhasoSpec, rrightoSpec, rsignsoSpec, rtextoSpec, Try.f34, rhasSpec, rrightSpec, r05checkSpec, pcheckSpec, rsignsSpec, rtextSpec, psC, h1', h2', hb, iT, iI, iQ, iO, iR, iP, iS, iX, kR, kT, kI, kQ, kO, s0, s2, V.ints, e2, hm]
        clear hm e2 h1' h2' iT iI iQ iO iR iP iS iX kR kT kI kQ kO s0 s2 sO sT sI sQ hE hu hps
        have l1 : a.it = [] ∨ 1 ≤ (a.it.length : Int) := by cases a.it with | nil => exact .inl rfl | cons _ _ => right; simp; omega
        have l2 : a.ps = [] ∨ 0 < a.ps.length := by cases a.ps with | nil => exact .inl rfl | cons _ _ => right; simp
        repeat' (first | (refine And.intro ?_ ?_) | (intro _))
        all_goals first | assumption | contradiction | (simp_all; done) | grind
      · have sT : tail6 a.s = false := by unfold tail6; simp; omega
        have sI : int6 a.s = false := by unfold int6; simp; omega
        have sQ : par6 a.s = false := by unfold par6; simp; omega
        have kT : hasB a.s [.int .i64 11, .int .i64 12] = false := by unfold hasB; simp [nums, toI]; omega
        have kI : hasB a.s [.int .i64 5, .int .i64 10] = false := by unfold hasB; simp [nums, toI]; omega
        have kQ : hasB a.s [.int .i64 4, .int .i64 9] = false := by unfold hasB; simp [nums, toI]; omega
        have kO : hasB a.s [.int .i64 6, .int .i64 7] = false := by unfold hasB; simp [nums, toI]; omega
        have s0 : (a.s = 0) = False := eq_false (by omega)
        have s2 : (a.s = 2) = False := eq_false (by omega)
        have sO : (a.s = 6 ∨ a.s = 7) = False := eq_false (by omega)
        simp only [sT, sI, sQ, s0, s2, sO] at hm
        simp [rmaySpec, r05checkoSpec, remptyoSpec, rhasoSpec, rrightoSpec, rsignsoSpec, rtextoSpec, Try.f34, rhasSpec, rrightSpec, r05checkSpec, pcheckSpec, rsignsSpec, rtextSpec, psC, h1', h2', hb, iT, iI, iQ, iO, iR, iP, iS, iX, kR, kT, kI, kQ, kO, s0, s2, V.ints, e2, hm]
        clear hm e2 h1' h2' iT iI iQ iO iR iP iS iX kR kT kI kQ kO s0 s2 sO sT sI sQ hE hu hps
        have l1 : a.it = [] ∨ 1 ≤ (a.it.length : Int) := by cases a.it with | nil => exact .inl rfl | cons _ _ => right; simp; omega
        have l2 : a.ps = [] ∨ 0 < a.ps.length := by cases a.ps with | nil => exact .inl rfl | cons _ _ => right; simp
        repeat' (first | (refine And.intro ?_ ?_) | (intro _))
        all_goals first | assumption | contradiction | (simp_all; done) | grind
def rcheckSpec : Spec := { pre := fun args => ∃ p : Ps, args = [.agg (psC p)] ∧ psFit p, res := fun args => match args with
  | [.agg a] => .one (.val (.c (.int .i64 (if may6 (psOf a) = true then 0 else 160))))
  | _ => .many [] }
def MayIn (a : List V) : Prop := rmaySpec.pre a
def rmayoSpec : Spec := { pre := MayIn, res := rmaySpec.res }
theorem rmayo_sound (gl : Gl) : Sound Try.prog gl 34 rmayoSpec := rmay_sound gl
def G_rcheck : Specs := [(34, rmayoSpec)]
@[simp] theorem G_rcheck_live : Specs.live G_rcheck = false := rfl
@[simp] theorem G_rcheck_34 : G_rcheck.find 34 = some rmayoSpec := rfl
theorem G_rcheck_ok (gl : Gl) : SpecsOK Try.prog gl G_rcheck := .cons (rmayo_sound gl) (.nil _ _)
set_option maxRecDepth 10000 in
theorem rcheck_sound (gl : Gl) : Sound Try.prog gl 28 rcheckSpec := by
  refine sound_fn (N := Try.f28.ntmps) (rs := Try.f28.results.toList) mixed tok (G_rcheck_ok gl) Try.func28 rfl rfl rfl rfl rfl ?_ ?_ ?_
  · rintro args ⟨a,rfl,h⟩; simp [psOf_C, Try.f28]
  · rintro args ⟨a,rfl,h⟩; simp [psOf_C, rcheckSpec, Try.f28]
  · rintro args ⟨a,rfl,h⟩ bs hgl hh hro
    have hE : Env.OK ⟨Try.prog, T, G_rcheck, bs⟩ := ⟨tok, by rw [hgl]; exact G_rcheck_ok gl⟩
    simp only [rcheckSpec, psOf_C]
    have i0 : MayIn [.agg (psC a)] := ⟨a, rfl, h⟩
    have t8 : (psC a).take 8 = psC a := rfl
    cases hm : may6 a <;> simp [rcheckSpec, rmayoSpec, Try.f28, rmaySpec, i0, hm, t8]
end Fen

namespace Fen
open Go Go.Proofs

/-! ### the reference's one byte: control characters, then codes -/
def Step01In (a : List V) : Prop := rstepSpec.pre a
def rstepoSpec : Spec := { pre := Step01In, res := rstepSpec.res }
theorem rstepo_sound (gl : Gl) : Sound Try.prog gl 92 rstepoSpec := rstep_sound gl
def One0In (a : List V) : Prop := ∃ b : Int, a = [.agg (psC (sbegin 0)), .c (.int .u8 b)] ∧ 0 ≤ b ∧ ctl6 b
def rone0Spec : Spec := { pre := One0In, res := fun args => match args with
  | [_, .c (.int _ b)] => twoV (ctlF b)
  | _ => .many [] }
def G_rone0 : Specs := [(64, rbeginSpec), (58, rhasoSpec)]
@[simp] theorem G_rone0_live : Specs.live G_rone0 = false := rfl
@[simp] theorem G_rone0_64 : G_rone0.find 64 = some rbeginSpec := rfl
@[simp] theorem G_rone0_58 : G_rone0.find 58 = some rhasoSpec := rfl
theorem G_rone0_ok (gl : Gl) : SpecsOK Try.prog gl G_rone0 := .cons (rbegin_sound gl) (.cons (rhaso_sound gl) (.nil _ _))
set_option maxHeartbeats 4000000 in
set_option maxRecDepth 10000 in
theorem rone0_sound (gl : Gl) : Sound Try.prog gl 35 rone0Spec := by
  refine sound_fn (N := Try.f35.ntmps) (rs := Try.f35.results.toList) mixed tok (G_rone0_ok gl) Try.func35 rfl rfl rfl rfl rfl ?_ ?_ ?_
  · rintro args ⟨b,rfl,hb0,hc⟩; simp [twoV, Try.f35]
  · rintro args ⟨b,rfl,hb0,hc⟩; simp [twoV, rone0Spec, Try.f35]
  · rintro args ⟨b,rfl,hb0,hc⟩ bs hgl hh hro
    have hE : Env.OK ⟨Try.prog, T, G_rone0, bs⟩ := ⟨tok, by rw [hgl]; exact G_rone0_ok gl⟩
    simp only [rone0Spec, twoV]
    have w1 : IntKind.i64.wrap b = b := wrap64 _ (by omega) (by unfold ctl6 at hc; omega)
    have h0 : (128 ≤ b) = False := eq_false (by unfold ctl6 at hc; omega)
    have k1 : hasB 0 [.int .i64 6, .int .i64 11, .int .i64 13] = false := rfl
    have k2 : hasB 0 [.int .i64 7, .int .i64 12, .int .i64 14] = false := rfl
    have i1 := has_in 0 [6, 11, 13] rfl rfl (by decide)
    have i2 := has_in 0 [7, 12, 14] rfl rfl (by decide)
    simp [ints] at i1 i2
    by_cases c1 : b = 24
    · subst c1
      simp [rone0Spec, rbeginSpec, rhasoSpec, Try.f35, rhasSpec, psC, evsC, twoV, ctlF, sbegin, parC, ints, k1, k2, i1, i2]
    have c1' : (b = 24) = False := eq_false c1
    by_cases c2 : b = 26
    · subst c2
      simp [rone0Spec, rbeginSpec, rhasoSpec, Try.f35, rhasSpec, psC, evsC, twoV, ctlF, sbegin, parC, ints, k1, k2, i1, i2]
    have c2' : (b = 26) = False := eq_false c2
    by_cases c3 : b = 27
    · subst c3
      simp [rone0Spec, rbeginSpec, rhasoSpec, Try.f35, rhasSpec, psC, evsC, twoV, ctlF, sbegin, parC, ints, k1, k2, i1, i2]
    have c3' : (b = 27) = False := eq_false c3
    by_cases c4 : b < 32
    · have c4' : (b < 32) = True := eq_true c4
      simp [rone0Spec, rbeginSpec, rhasoSpec, Try.f35, rhasSpec, psC, evsC, evC, evCode, twoV, ctlF, sbegin, parC, ints, k1, k2, i1, i2, c1', c2', c3', c4', h0, w1]
    · have c5 : b = 127 := by unfold ctl6 at hc; omega
      subst c5
      simp [rone0Spec, rbeginSpec, rhasoSpec, Try.f35, rhasSpec, psC, evsC, twoV, ctlF, sbegin, parC, ints, k1, k2, i1, i2]
end Fen

namespace Fen
open Go Go.Proofs

def rBox (p : Ps) : Blk := .box 25 ((psC p).map .val)
theorem rnv (h h' : List Blk) (ids : List (Option Nat)) : ∀ cs : List C, renXs h h' ids (cs.map X.val) (cs.map X.val) = True
  | [] => by simp [renXs]
  | c :: cs => by simp [renXs, renX, rnv h h' ids cs]
def rprS (u : List Int) (b : Int) (P : Ps) (k : Nat) : St := ⟨64, [(4, .ptr 1 0 0), (7, .val (.sl (stepF u b).2.length (ints .i64 (stepF u b).2))), (8, .ptr 2 0 0), (9, .ref 3 0), (10, .val (.int .i64 k))], [rBox P, rBox (sbegin 0), rBox (atC u b k).1, .sl tE 0 true 7 (atC u b k).2.length (evsC (atC u b k).2)]⟩
def rprintsSpec : Spec := { pre := fun args => ∃ (p : Ps) (b : Int), args = [.agg (psC p), .c (.int .u8 b)] ∧ Bytes p.u ∧ p.u.length ≤ 1000000 ∧ 0 ≤ b ∧ b < 256, res := fun args => match args with
  | [.agg p, .c (.int _ b)] => twoV (printsF (psOf p).u b)
  | _ => .many [] }
def G_rprints : Specs := [(64, rbeginSpec), (92, rstepoSpec), (35, rone0Spec)]
@[simp] theorem G_rprints_live : Specs.live G_rprints = false := rfl
@[simp] theorem G_rprints_64 : G_rprints.find 64 = some rbeginSpec := rfl
@[simp] theorem G_rprints_92 : G_rprints.find 92 = some rstepoSpec := rfl
@[simp] theorem G_rprints_35 : G_rprints.find 35 = some rone0Spec := rfl
theorem G_rprints_ok (gl : Gl) : SpecsOK Try.prog gl G_rprints := .cons (rbegin_sound gl) (.cons (rstepo_sound gl) (.cons (rone0_sound gl) (.nil _ _)))
set_option maxHeartbeats 8000000 in
set_option maxRecDepth 10000 in
theorem rprints_sound (gl : Gl) : Sound Try.prog gl 63 rprintsSpec := by
  refine sound_awp (N := Try.f63.ntmps) (rs := Try.f63.results.toList) tok Try.func63 rfl rfl rfl rfl rfl ?_ ?_ ?_
  · rintro args ⟨p,b,rfl,hu,hul,hb0,hb1⟩; simp [twoV,psOf_C, Try.f63]
  · rintro args ⟨p,b,rfl,hu,hul,hb0,hb1⟩; simp [twoV,psOf_C, rprintsSpec, Try.f63]
  · rintro args ⟨p,b,rfl,hu,hul,hb0,hb1⟩ bs hgl hh hro
    have hE : Env.OK ⟨Try.prog, T, G_rprints, bs⟩ := ⟨tok, by rw [hgl]; exact G_rprints_ok gl⟩
    simp only [rprintsSpec, twoV,psOf_C]
    have hnn := step_nn hu ⟨hb0, hb1⟩
    have hln := step_len p.u b
    have ha := @atC_all p.u b
    have hle := atC_len p.u b
    have hst := step_eq hu ⟨hb0, hb1⟩
    have i1 : Step01In [.c (.sl p.u.length (ints .u8 p.u)), .c (.int .u8 b)] := ⟨p.u, b, rfl, hu, by omega, hb0, hb1⟩
    refine wpc_ok hE mixed _ _ _ ?_
    simp [rprintsSpec, rbeginSpec, rone0Spec, rstepoSpec, Try.f63, rstepSpec, V.ints, V.int, i1, psC, twoV, ← hst]
    have t8 : ∀ q : Ps, (psC q).take 8 = psC q := fun _ => rfl
    have tE' : (42 = tE) = True := eq_true rfl
    have d8 : ∀ q : Ps, ((psC q).map X.val).drop 8 = [] := fun _ => rfl
    refine AWP.rounds (fun k => k ≤ (stepF p.u b).2.length) (rprS p.u b p) (fun k => (stepF p.u b).2.length - k) 0 (by simp) ?_ ?_
    · exact Weak.ren [some 0, some 1, some 2, none] (baseOK.nil hh) (by simp) (by simp [rprS, rBox, atC_zero, psC, sbegin, parC, ints, evsC]) (by simp [rprS, rBox, atC_zero, psC, sbegin, parC, ints, evsC])
    · intro k hk
      refine wpc_ok hE mixed _ _ _ ?_
      rcases Nat.lt_or_ge k (stepF p.u b).2.length with h | h
      · have w1 : IntKind.i64.wrap ((k : Int) + 1) = ((k + 1 : Nat) : Int) := by rw [wrap64 _ (by omega) (by omega)]; omega
        have klt : (k < (stepF p.u b).2.length) = True := eq_true h
        have hd := ints_at h
        have hs := atC_succ h
        have hlk := hle k
        have hc0 := hnn _ (List.getElem_mem h)
        generalize (stepF p.u b).2[k] = c at *
        obtain ⟨y, hy⟩ : ∃ y, atC p.u b k = y := ⟨_, rfl⟩
        rw [hy] at hs hlk
        by_cases c1 : c < 32 ∨ c = 127
        · have w2 : IntKind.u8.wrap c = c := by simp [IntKind.wrap, IntKind.signed, IntKind.bits]; omega
          have i2 : One0In [.agg (psC (sbegin 0)), .c (.int .u8 c)] := ⟨c, rfl, hc0, by unfold ctl6; omega⟩
          have hs2 : atC p.u b (k + 1) = ((ctlF c).1, y.2 ++ (ctlF c).2) := by rw [hs]; unfold code1; rw [if_pos c1]
          obtain ⟨z, hz⟩ : ∃ z, ctlF c = z := ⟨_, rfl⟩
          rw [hz] at hs2
          have hzl : z.2.length ≤ 1 := by rw [← hz]; unfold ctlF; (repeat' split) <;> simp
          rcases c1 with c2 | c2
          case' inl =>
            have c2' : (c < 32) = True := eq_true c2
            simp [rprS, rBox, hy, klt, hd, c2', and_assoc, rbeginSpec, rone0Spec, rstepoSpec, rone0Spec, twoV, w2, i2, hz, h, t8, d8, w1, tE']
          case' inr =>
            subst c2
            simp [rprS, rBox, hy, klt, hd, and_assoc, rbeginSpec, rone0Spec, rstepoSpec, rone0Spec, twoV, w2, i2, hz, h, t8, d8, w1, tE']
          all_goals (repeat' (refine And.intro ?_ ?_))
          all_goals first | omega | exact Next.mk (k + 1) h (by omega) (Weak.ren [some 0, some 1, some 2, some 3] (baseOK.nil hh) (by simp) (by simp [rnv, rBox, hs2, evsC_app]) (by simp [rnv, rBox, hs2]))
        · have c2' : (c < 32) = False := eq_false (by omega)
          have c3' : (c = 127) = False := eq_false (by omega)
          by_cases c4 : c < 127 ∨ 159 < c
          · have hs2 : atC p.u b (k + 1) = (y.1, y.2 ++ [evCode 1 c]) := by rw [hs]; unfold code1; rw [if_neg c1, if_pos c4]
            rcases Decidable.em (c < 127) with c5 | c5
            case' inl =>
              have c5' : (c < 127) = True := eq_true c5
              simp [rprS, rBox, hy, klt, hd, c2', c3', c5', h, t8, d8, w1, tE']
            case' inr =>
              have c5' : (c < 127) = False := eq_false c5
              have c6' : (159 < c) = True := eq_true (by omega)
              simp [rprS, rBox, hy, klt, hd, c2', c3', c5', c6', h, t8, d8, w1, tE']
            all_goals (repeat' (refine And.intro ?_ ?_))
            all_goals first | omega | exact Next.mk (k + 1) h (by omega) (Weak.ren [some 0, some 1, some 2, some 3] (baseOK.nil hh) (by simp) (by simp [rnv, rBox, hs2, evsC_app, evsC, evC, evCode, parC]) (by simp [rnv, rBox, hs2]))
          · have hs2 : atC p.u b (k + 1) = y := by rw [hs]; unfold code1; rw [if_neg c1, if_neg c4]
            have c5' : (c < 127) = False := eq_false (by omega)
            have c6' : (159 < c) = False := eq_false (by omega)
            simp [rprS, rBox, hy, klt, hd, c2', c3', c5', c6', h, t8, d8, w1, tE']
            exact Next.mk (k + 1) h (by omega) (Weak.ren [some 0, some 1, some 2, some 3] (baseOK.nil hh) (by simp) (by simp [rnv, rBox, hs2]) (by simp [rnv, rBox, hs2]))
      · obtain rfl : k = (stepF p.u b).2.length := by omega
        have hz := ha (Nat.le_refl _)
        simp [rprS, rBox, hz, t8, d8, tE']
        rfl
end Fen
