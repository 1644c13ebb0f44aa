/- A part of the proof; no statement is proved here: SMacC, SMacP, SMacD, SMacE. -/
import Derived.Test.YthmebgohfigfpaaMacA
import Derived.Test.YthmebgohfigfpaaParA
import Derived.Test.YthmebgohfigfpaaStA
import Derived.Test.YthmebgohfigfpaaUtfA

set_option linter.unusedVariables false
set_option linter.unusedSimpArgs false

namespace Fen
open Go Go.Proofs

def digOn (p : Ps) (b : Int) : Prop := any6 p b ∧ SubsOK p.ps
def mdigitHS : HS := macHS 890000 (fun p b => (digitF p b, [])) digOn
def mdigitSpec : Spec := { pre := fun _ => False, res := fun _ => .many [], hp := some mdigitHS }
def G_mdigit : Specs := [(110, pstepSpec), (84, mspoilSpec)]
@[simp] theorem G_mdigit_live : Specs.live G_mdigit = false := rfl
@[simp] theorem G_mdigit_110 : G_mdigit.find 110 = some pstepSpec := rfl
@[simp] theorem G_mdigit_84 : G_mdigit.find 84 = some mspoilSpec := rfl
theorem G_mdigit_ok (gl : Gl) : SpecsOK Try.prog gl G_mdigit := .cons (pstep_sound gl) (.cons (mspoil_sound gl) (.nil _ _))
set_option maxHeartbeats 1000000 in
set_option maxRecDepth 10000 in
theorem mdigit_sound (gl : Gl) : Sound Try.prog gl 106 mdigitSpec := by
  refine sound_heap (hs := mdigitHS) (N := Try.f106.ntmps) (rs := Try.f106.results.toList) mixed tok (G_mdigit_ok gl) Try.func106 rfl rfl rfl rfl rfl ?_ ?_
  · intro xs h hp
    simp only [mdigitHS, macHS] at hp
    split at hp
    all_goals first | exact hp.elim | simp [Try.f106]
  · intro xs h hp bs hgl hh hro
    have hE : Env.OK ⟨Try.prog, T, G_mdigit, bs⟩ := ⟨tok, by rw [hgl]; exact G_mdigit_ok gl⟩
    simp only [mdigitHS, macHS] at hp
    split at hp
    · rename_i id q b
      obtain ⟨rfl, p, e, M, hb, hs⟩ := hp
      have m := M.m
      have hl : bs.h0.length ≤ h.length := by rw [hh]; exact Nat.le_refl _
      have hlt := lt_of_get m.box
      have bx := m.box
      have mn := m.none
      have gs := fun y : Blk => get_set_eq (a := y) hlt
      have ba : ∀ ex : List Blk, (h ++ ex)[id]? = some (.box tM (maX p e)) := fun ex => (m.app ex).box
      have sa : ∀ (ex : List Blk) (y : Blk), (h ++ ex).set id y = h.set id y ++ ex := fun ex y => List.set_append_left _ _ hlt
      have ga : ∀ (ex : List Blk) (y : Blk), (h.set id y ++ ex)[id]? = some y := fun ex y => by rw [List.getElem?_append_left (by simpa using hlt)]; exact get_set_eq hlt
      have sg : ∀ (ex : List Blk) (y z : Blk), (h.set id y ++ ex).set id z = h.set id z ++ ex := fun ex y z => by rw [List.set_append_left _ _ (by simpa using hlt), List.set_set]
      have pa : ∀ (q : Ps) (new : List Ev), (putM h id e q new)[id]? = some (.box tM (maX q (evY h new e))) := fun q new => putM_at m q new
      have pb : ∀ (ex : List Blk) (q : Ps) (new : List Ev), (putM (h ++ ex) id e q new)[id]? = some (.box tM (maX q (evY (h ++ ex) new e))) := fun ex q new => putM_at (m.app ex) q new
      have pp : ∀ (q r : Ps) (a b : List Ev), putM (putM h id e q a) id (evY h a e) r b = putM h id e r (a ++ b) := fun q r a b => putM_two m q r a b
      have pq : ∀ (ex : List Blk) (q r : Ps) (a b : List Ev), putM (putM (h ++ ex) id e q a) id (evY (h ++ ex) a e) r b = putM (h ++ ex) id e r (a ++ b) := fun ex q r a b => putM_two (m.app ex) q r a b
      simp only [tM, maX] at bx ba pa pb
      have ep : (∃ ps, parV p.ps = parV ps ∧ SubsOK ps) := ⟨p.ps, rfl, hs⟩
      have hpV : ∀ l : List (List Int), parV l = .c (.sl l.length (parC l)) := fun _ => rfl
      obtain ⟨R, hR⟩ : ∃ R, pstepF p.ps b = R := ⟨_, rfl⟩
      have hD : digitF p b = if R.2 ≠ 0 ∨ p.bad = true then sspoil p.s else { p with ps := R.1 } := by rw [digitF, hR]
      cases hbad : p.bad with
      | true =>
        have hD' : digitF p b = sspoil p.s := by rw [hD, if_pos (.inr hbad)]
        by_cases c : R.2 = 0
        · have c' : (R.2 = 0) = True := eq_true c
          simp [Try.f106, hcEff, mdigitHS, macHS, and_assoc, mspoilSpec, pstepSpec, mspoilHS, bx, ba, sa, ga, sg, pa, pb, pp, pq, mn, gs, maE, maP, tM, hbad, hR, c', hpV]
          exact ⟨⟨p.ps, rfl, rfl, hs, hb⟩, .h m, RetTo.same ⟨rfl, by simp [digitF]⟩⟩
        · have c' : (R.2 = 0) = False := eq_false c
          simp [Try.f106, hcEff, mdigitHS, macHS, and_assoc, mspoilSpec, pstepSpec, mspoilHS, bx, ba, sa, ga, sg, pa, pb, pp, pq, mn, gs, maE, maP, tM, hbad, hR, c', hpV]
          exact ⟨⟨p.ps, rfl, rfl, hs, hb⟩, .h m, RetTo.same ⟨rfl, by simp [digitF]⟩⟩
      | false =>
        by_cases c : R.2 = 0
        · have c' : (R.2 = 0) = True := eq_true c
          simp [Try.f106, hcEff, mdigitHS, macHS, and_assoc, mspoilSpec, pstepSpec, mspoilHS, bx, ba, sa, ga, sg, pa, pb, pp, pq, mn, gs, maE, maP, tM, hbad, hR, c', hpV]
          refine ⟨⟨p.ps, rfl, rfl, hs, hb⟩, RetTo.same ⟨rfl, ?_⟩⟩
          have : digitF { s := p.s, u := p.u, pv := p.pv, fn := p.fn, ps := p.ps, it := p.it, tx := p.tx, bad := false } b = ⟨p.s, p.u, p.pv, p.fn, R.1, p.it, p.tx, false⟩ := by simp [digitF, hR, c]
          rw [this, putM_nil m]
          rfl
        · have c' : (R.2 = 0) = False := eq_false c
          simp [Try.f106, hcEff, mdigitHS, macHS, and_assoc, mspoilSpec, pstepSpec, mspoilHS, bx, ba, sa, ga, sg, pa, pb, pp, pq, mn, gs, maE, maP, tM, hbad, hR, c', hpV]
          exact ⟨⟨p.ps, rfl, rfl, hs, hb⟩, .h m, RetTo.same ⟨rfl, by simp [digitF, hR, c]⟩⟩
    · exact hp.elim
def intersOn (p : Ps) (b : Int) : Prop := signOn p b ∧ 0 ≤ p.s ∧ p.s < 15
def mintersHS : HS := macHS 880000 intersF intersOn
def mintersSpec : Spec := { pre := fun _ => False, res := fun _ => .many [], hp := some mintersHS }
def G_minters : Specs := [(105, msignSpec), (84, mspoilSpec), (107, mlastSpec)]
@[simp] theorem G_minters_live : Specs.live G_minters = false := rfl
@[simp] theorem G_minters_105 : G_minters.find 105 = some msignSpec := rfl
@[simp] theorem G_minters_84 : G_minters.find 84 = some mspoilSpec := rfl
@[simp] theorem G_minters_107 : G_minters.find 107 = some mlastSpec := rfl
theorem G_minters_ok (gl : Gl) : SpecsOK Try.prog gl G_minters := .cons (msign_sound gl) (.cons (mspoil_sound gl) (.cons (mlast_sound gl) (.nil _ _)))
set_option maxHeartbeats 1000000 in
set_option maxRecDepth 10000 in
theorem minters_sound (gl : Gl) : Sound Try.prog gl 90 mintersSpec := by
  refine sound_heap (hs := mintersHS) (N := Try.f90.ntmps) (rs := Try.f90.results.toList) mixed tok (G_minters_ok gl) Try.func90 rfl rfl rfl rfl rfl ?_ ?_
  · intro xs h hp
    simp only [mintersHS, macHS] at hp
    split at hp
    all_goals first | exact hp.elim | simp [Try.f90]
  · intro xs h hp bs hgl hh hro
    have hE : Env.OK ⟨Try.prog, T, G_minters, bs⟩ := ⟨tok, by rw [hgl]; exact G_minters_ok gl⟩
    simp only [mintersHS, macHS] at hp
    split at hp
    · rename_i id q b
      obtain ⟨rfl, p, e, M, hb, hs⟩ := hp
      have m := M.m
      have hl : bs.h0.length ≤ h.length := by rw [hh]; exact Nat.le_refl _
      have hlt := lt_of_get m.box
      have bx := m.box
      have mn := m.none
      have gs := fun y : Blk => get_set_eq (a := y) hlt
      have ba : ∀ ex : List Blk, (h ++ ex)[id]? = some (.box tM (maX p e)) := fun ex => (m.app ex).box
      have sa : ∀ (ex : List Blk) (y : Blk), (h ++ ex).set id y = h.set id y ++ ex := fun ex y => List.set_append_left _ _ hlt
      have ga : ∀ (ex : List Blk) (y : Blk), (h.set id y ++ ex)[id]? = some y := fun ex y => by rw [List.getElem?_append_left (by simpa using hlt)]; exact get_set_eq hlt
      have sg : ∀ (ex : List Blk) (y z : Blk), (h.set id y ++ ex).set id z = h.set id z ++ ex := fun ex y z => by rw [List.set_append_left _ _ (by simpa using hlt), List.set_set]
      have pa : ∀ (q : Ps) (new : List Ev), (putM h id e q new)[id]? = some (.box tM (maX q (evY h new e))) := fun q new => putM_at m q new
      have pb : ∀ (ex : List Blk) (q : Ps) (new : List Ev), (putM (h ++ ex) id e q new)[id]? = some (.box tM (maX q (evY (h ++ ex) new e))) := fun ex q new => putM_at (m.app ex) q new
      have pp : ∀ (q r : Ps) (a b : List Ev), putM (putM h id e q a) id (evY h a e) r b = putM h id e r (a ++ b) := fun q r a b => putM_two m q r a b
      have pq : ∀ (ex : List Blk) (q r : Ps) (a b : List Ev), putM (putM (h ++ ex) id e q a) id (evY (h ++ ex) a e) r b = putM (h ++ ex) id e r (a ++ b) := fun ex q r a b => putM_two (m.app ex) q r a b
      simp only [tM, maX] at bx ba pa pb
      by_cases c : b < 48
      · have c' : (b < 48) = True := eq_true c
        simp [Try.f90, hcEff, mintersHS, macHS, and_assoc, mlastSpec, msignSpec, mspoilSpec, msignHS, mspoilHS, mlastHS, bx, ba, sa, ga, sg, pa, pb, pp, pq, mn, gs, maE, maP, tM, intersF, c']
        exact ⟨⟨p, e, M.mono (by omega), hb⟩, RetTo.same ⟨rfl, rfl⟩⟩
      have c' : (b < 48) = False := eq_false c
      by_cases d : b < 64
      · have d' : (b < 64) = True := eq_true d
        simp [Try.f90, hcEff, mintersHS, macHS, and_assoc, mlastSpec, msignSpec, mspoilSpec, msignHS, mspoilHS, mlastHS, bx, ba, sa, ga, sg, pa, pb, pp, pq, mn, gs, maE, maP, tM, intersF, c', d']
        exact ⟨.h m, RetTo.same ⟨rfl, rfl⟩⟩
      · have d' : (b < 64) = False := eq_false d
        simp [Try.f90, hcEff, mintersHS, macHS, and_assoc, mlastSpec, msignSpec, mspoilSpec, msignHS, mspoilHS, mlastHS, bx, ba, sa, ga, sg, pa, pb, pp, pq, mn, gs, maE, maP, tM, intersF, c', d']
        exact ⟨⟨p, e, M.mono (by omega), hb.1, hs⟩, RetTo.same ⟨rfl, rfl⟩⟩
    · exact hp.elim
def paramsOn (p : Ps) (b : Int) : Prop := intersOn p b ∧ SubsOK p.ps
def mparamsHS : HS := macHS 880000 paramsF paramsOn
def mparamsSpec : Spec := { pre := fun _ => False, res := fun _ => .many [], hp := some mparamsHS }
def G_mparams : Specs := [(105, msignSpec), (106, mdigitSpec), (84, mspoilSpec), (107, mlastSpec)]
@[simp] theorem G_mparams_live : Specs.live G_mparams = false := rfl
@[simp] theorem G_mparams_105 : G_mparams.find 105 = some msignSpec := rfl
@[simp] theorem G_mparams_106 : G_mparams.find 106 = some mdigitSpec := rfl
@[simp] theorem G_mparams_84 : G_mparams.find 84 = some mspoilSpec := rfl
@[simp] theorem G_mparams_107 : G_mparams.find 107 = some mlastSpec := rfl
theorem G_mparams_ok (gl : Gl) : SpecsOK Try.prog gl G_mparams := .cons (msign_sound gl) (.cons (mdigit_sound gl) (.cons (mspoil_sound gl) (.cons (mlast_sound gl) (.nil _ _))))
set_option maxHeartbeats 1000000 in
set_option maxRecDepth 10000 in
theorem mparams_sound (gl : Gl) : Sound Try.prog gl 89 mparamsSpec := by
  refine sound_heap (hs := mparamsHS) (N := Try.f89.ntmps) (rs := Try.f89.results.toList) mixed tok (G_mparams_ok gl) Try.func89 rfl rfl rfl rfl rfl ?_ ?_
  · intro xs h hp
    simp only [mparamsHS, macHS] at hp
    split at hp
    all_goals first | exact hp.elim | simp [Try.f89]
  · intro xs h hp bs hgl hh hro
    have hE : Env.OK ⟨Try.prog, T, G_mparams, bs⟩ := ⟨tok, by rw [hgl]; exact G_mparams_ok gl⟩
    simp only [mparamsHS, macHS] at hp
    split at hp
    · rename_i id q b
      obtain ⟨rfl, p, e, M, hb, hs⟩ := hp
      have m := M.m
      have hl : bs.h0.length ≤ h.length := by rw [hh]; exact Nat.le_refl _
      have hlt := lt_of_get m.box
      have bx := m.box
      have mn := m.none
      have gs := fun y : Blk => get_set_eq (a := y) hlt
      have ba : ∀ ex : List Blk, (h ++ ex)[id]? = some (.box tM (maX p e)) := fun ex => (m.app ex).box
      have sa : ∀ (ex : List Blk) (y : Blk), (h ++ ex).set id y = h.set id y ++ ex := fun ex y => List.set_append_left _ _ hlt
      have ga : ∀ (ex : List Blk) (y : Blk), (h.set id y ++ ex)[id]? = some y := fun ex y => by rw [List.getElem?_append_left (by simpa using hlt)]; exact get_set_eq hlt
      have sg : ∀ (ex : List Blk) (y z : Blk), (h.set id y ++ ex).set id z = h.set id z ++ ex := fun ex y z => by rw [List.set_append_left _ _ (by simpa using hlt), List.set_set]
      have pa : ∀ (q : Ps) (new : List Ev), (putM h id e q new)[id]? = some (.box tM (maX q (evY h new e))) := fun q new => putM_at m q new
      have pb : ∀ (ex : List Blk) (q : Ps) (new : List Ev), (putM (h ++ ex) id e q new)[id]? = some (.box tM (maX q (evY (h ++ ex) new e))) := fun ex q new => putM_at (m.app ex) q new
      have pp : ∀ (q r : Ps) (a b : List Ev), putM (putM h id e q a) id (evY h a e) r b = putM h id e r (a ++ b) := fun q r a b => putM_two m q r a b
      have pq : ∀ (ex : List Blk) (q r : Ps) (a b : List Ev), putM (putM (h ++ ex) id e q a) id (evY (h ++ ex) a e) r b = putM (h ++ ex) id e r (a ++ b) := fun ex q r a b => putM_two (m.app ex) q r a b
      simp only [tM, maX] at bx ba pa pb
      have w1 : IntKind.i64.wrap (p.s + 1) = p.s + 1 := wrap64 _ (by have := hb.2; omega) (by have := hb.2; omega)
      by_cases c : b < 48
      · have c' : (b < 48) = True := eq_true c
        simp [Try.f89, hcEff, mparamsHS, macHS, and_assoc, mdigitSpec, mlastSpec, msignSpec, mspoilSpec, msignHS, mspoilHS, mlastHS, bx, ba, sa, ga, sg, pa, pb, pp, pq, mn, gs, maE, maP, tM, paramsF, c', w1]
        have es : putM h id e ⟨p.s + 1, p.u, p.pv, p.fn, p.ps, p.it, p.tx, p.bad⟩ [] = _ := putM_nil m
        simp only [tM, maX] at es
        rw [← es, putM_two0 m]
        exact ⟨⟨_, _, M.put0 _ (by omega) (by omega), hb.1⟩, RetTo.same ⟨rfl, rfl⟩⟩
      have c' : (b < 48) = False := eq_false c
      by_cases d : b < 60
      · have d' : (b < 60) = True := eq_true d
        simp [Try.f89, hcEff, mparamsHS, macHS, and_assoc, mdigitSpec, mlastSpec, msignSpec, mspoilSpec, mdigitHS, mspoilHS, mlastHS, bx, ba, sa, ga, sg, pa, pb, pp, pq, mn, gs, maE, maP, tM, paramsF, c', d']
        exact ⟨⟨p, e, M.mono (by omega), hb.1.1, hs⟩, RetTo.same ⟨rfl, rfl⟩⟩
      have d' : (b < 60) = False := eq_false d
      by_cases f : b < 64
      · have f' : (b < 64) = True := eq_true f
        simp [Try.f89, hcEff, mparamsHS, macHS, and_assoc, mdigitSpec, mlastSpec, msignSpec, mspoilSpec, mdigitHS, mspoilHS, mlastHS, bx, ba, sa, ga, sg, pa, pb, pp, pq, mn, gs, maE, maP, tM, paramsF, c', d', f']
        exact ⟨.h m, RetTo.same ⟨rfl, rfl⟩⟩
      · have f' : (b < 64) = False := eq_false f
        simp [Try.f89, hcEff, mparamsHS, macHS, and_assoc, mdigitSpec, mlastSpec, msignSpec, mspoilSpec, mdigitHS, mspoilHS, mlastHS, bx, ba, sa, ga, sg, pa, pb, pp, pq, mn, gs, maE, maP, tM, paramsF, c', d', f']
        exact ⟨⟨p, e, M.mono (by omega), hb.1.1, hb.2⟩, RetTo.same ⟨rfl, rfl⟩⟩
    · exact hp.elim
def entryOn (p : Ps) (b : Int) : Prop := any6 p b ∧ 0 ≤ p.s ∧ p.s < 15
def mentryHS : HS := macHS 870000 entryF entryOn
def mentrySpec : Spec := { pre := fun _ => False, res := fun _ => .many [], hp := some mentryHS }
def G_mentry : Specs := [(105, msignSpec), (106, mdigitSpec), (52, mbeginSpec), (107, mlastSpec)]
@[simp] theorem G_mentry_live : Specs.live G_mentry = false := rfl
@[simp] theorem G_mentry_105 : G_mentry.find 105 = some msignSpec := rfl
@[simp] theorem G_mentry_106 : G_mentry.find 106 = some mdigitSpec := rfl
@[simp] theorem G_mentry_52 : G_mentry.find 52 = some mbeginSpec := rfl
@[simp] theorem G_mentry_107 : G_mentry.find 107 = some mlastSpec := rfl
theorem G_mentry_ok (gl : Gl) : SpecsOK Try.prog gl G_mentry := .cons (msign_sound gl) (.cons (mdigit_sound gl) (.cons (mbegin_sound gl) (.cons (mlast_sound gl) (.nil _ _))))
set_option maxHeartbeats 2000000 in
set_option maxRecDepth 10000 in
theorem mentry_sound (gl : Gl) : Sound Try.prog gl 88 mentrySpec := by
  refine sound_heap (hs := mentryHS) (N := Try.f88.ntmps) (rs := Try.f88.results.toList) mixed tok (G_mentry_ok gl) Try.func88 rfl rfl rfl rfl rfl ?_ ?_
  · intro xs h hp
    simp only [mentryHS, macHS] at hp
    split at hp
    all_goals first | exact hp.elim | simp [Try.f88]
  · intro xs h hp bs hgl hh hro
    have hE : Env.OK ⟨Try.prog, T, G_mentry, bs⟩ := ⟨tok, by rw [hgl]; exact G_mentry_ok gl⟩
    simp only [mentryHS, macHS] at hp
    split at hp
    · rename_i id q b
      obtain ⟨rfl, p, e, M, hb, hs⟩ := hp
      have m := M.m
      have hl : bs.h0.length ≤ h.length := by rw [hh]; exact Nat.le_refl _
      have hlt := lt_of_get m.box
      have bx := m.box
      have mn := m.none
      have gs := fun y : Blk => get_set_eq (a := y) hlt
      have ba : ∀ ex : List Blk, (h ++ ex)[id]? = some (.box tM (maX p e)) := fun ex => (m.app ex).box
      have sa : ∀ (ex : List Blk) (y : Blk), (h ++ ex).set id y = h.set id y ++ ex := fun ex y => List.set_append_left _ _ hlt
      have ga : ∀ (ex : List Blk) (y : Blk), (h.set id y ++ ex)[id]? = some y := fun ex y => by rw [List.getElem?_append_left (by simpa using hlt)]; exact get_set_eq hlt
      have sg : ∀ (ex : List Blk) (y z : Blk), (h.set id y ++ ex).set id z = h.set id z ++ ex := fun ex y z => by rw [List.set_append_left _ _ (by simpa using hlt), List.set_set]
      have pa : ∀ (q : Ps) (new : List Ev), (putM h id e q new)[id]? = some (.box tM (maX q (evY h new e))) := fun q new => putM_at m q new
      have pb : ∀ (ex : List Blk) (q : Ps) (new : List Ev), (putM (h ++ ex) id e q new)[id]? = some (.box tM (maX q (evY (h ++ ex) new e))) := fun ex q new => putM_at (m.app ex) q new
      have pp : ∀ (q r : Ps) (a b : List Ev), putM (putM h id e q a) id (evY h a e) r b = putM h id e r (a ++ b) := fun q r a b => putM_two m q r a b
      have pq : ∀ (ex : List Blk) (q r : Ps) (a b : List Ev), putM (putM (h ++ ex) id e q a) id (evY (h ++ ex) a e) r b = putM (h ++ ex) id e r (a ++ b) := fun ex q r a b => putM_two (m.app ex) q r a b
      simp only [tM, maX] at bx ba pa pb
      have en := evY_nil m
      have p2 := putM_two0 m
      have w1 : IntKind.i64.wrap (p.s + 1) = p.s + 1 := wrap64 _ (by omega) (by omega)
      have w2 : IntKind.i64.wrap (p.s + 2) = p.s + 2 := wrap64 _ (by omega) (by omega)
      by_cases c : b < 48
      · have c' : (b < 48) = True := eq_true c
        simp [Try.f88, hcEff, mentryHS, macHS, and_assoc, mbeginSpec, mdigitSpec, mlastSpec, msignSpec, msignHS, mbeginHS, mlastHS, bx, ba, sa, ga, sg, pa, pb, pp, pq, mn, gs, maE, maP, tM, entryF, c', w2, en, p2]
        refine ⟨.h m, ⟨_, _, M.put0 _ (by omega) (by omega), hb, by simp [sbegin]⟩, RetTo.same ⟨rfl, ?_⟩⟩
        have : signed (sbegin (p.s + 2)) b = { sbegin (p.s + 2) with it := [u8B b] } := by simp [signed, sbegin]
        exact congrArg (fun q => putM h id e q []) this
      have c' : (b < 48) = False := eq_false c
      by_cases d : b < 60
      · have d' : (b < 60) = True := eq_true d
        simp [Try.f88, hcEff, mentryHS, macHS, and_assoc, mbeginSpec, mdigitSpec, mlastSpec, msignSpec, mdigitHS, mbeginHS, mlastHS, bx, ba, sa, ga, sg, pa, pb, pp, pq, mn, gs, maE, maP, tM, entryF, c', d', w1, en, p2]
        refine ⟨.h m, ⟨_, _, M.put0 _ (by omega) (by omega), hb, by simp [sbegin, SubsOK]⟩, RetTo.same ⟨rfl, ?_⟩⟩
        have k := pstep_first (b := b) (by omega) d
        have : digitF (sbegin (p.s + 1)) b = { sbegin (p.s + 1) with ps := (pstepF [] b).1 } := by simp [digitF, sbegin, k]
        exact congrArg (fun q => putM h id e q []) this
      have d' : (b < 60) = False := eq_false d
      by_cases f : b < 64
      · have f' : (b < 64) = True := eq_true f
        simp [Try.f88, hcEff, mentryHS, macHS, and_assoc, mbeginSpec, mdigitSpec, mlastSpec, msignSpec, mdigitHS, mbeginHS, mlastHS, bx, ba, sa, ga, sg, pa, pb, pp, pq, mn, gs, maE, maP, tM, entryF, c', d', f', w1, en, p2]
        have sx : ∀ r : Ps, (putM h id e (sbegin (p.s + 1)) []).set id (.box tM (maX r e)) = putM h id e r [] := fun r => by
          have := putM_set h id e (sbegin (p.s + 1)) r []
          rw [en] at this; exact this
        exact ⟨.h m, RetTo.same ⟨rfl, sx { sbegin (p.s + 1) with pv := b }⟩⟩
      · have f' : (b < 64) = False := eq_false f
        simp [Try.f88, hcEff, mentryHS, macHS, and_assoc, mbeginSpec, mdigitSpec, mlastSpec, msignSpec, mdigitHS, mbeginHS, mlastHS, bx, ba, sa, ga, sg, pa, pb, pp, pq, mn, gs, maE, maP, tM, entryF, c', d', f']
        exact ⟨⟨p, e, M.mono (by omega), hb, hs⟩, RetTo.same ⟨rfl, rfl⟩⟩
    · exact hp.elim
def mwithinHS : HS := macHS 880000 withinF (fun p b => any6 p b ∧ p.tx.length ≤ 512)
def mwithinSpec : Spec := { pre := fun _ => False, res := fun _ => .many [], hp := some mwithinHS }
def G_mwithin : Specs := [(83, mdispSpec), (84, mspoilSpec)]
@[simp] theorem G_mwithin_live : Specs.live G_mwithin = false := rfl
@[simp] theorem G_mwithin_83 : G_mwithin.find 83 = some mdispSpec := rfl
@[simp] theorem G_mwithin_84 : G_mwithin.find 84 = some mspoilSpec := rfl
theorem G_mwithin_ok (gl : Gl) : SpecsOK Try.prog gl G_mwithin := .cons (mdisp_sound gl) (.cons (mspoil_sound gl) (.nil _ _))
set_option maxHeartbeats 4000000 in
set_option maxRecDepth 10000 in
theorem mwithin_sound (gl : Gl) : Sound Try.prog gl 54 mwithinSpec := by
  refine sound_heap (hs := mwithinHS) (N := Try.f54.ntmps) (rs := Try.f54.results.toList) mixed tok (G_mwithin_ok gl) Try.func54 rfl rfl rfl rfl rfl ?_ ?_
  · intro xs h hp
    simp only [mwithinHS, macHS] at hp
    split at hp
    all_goals first | exact hp.elim | simp [Try.f54]
  · intro xs h hp bs hgl hh hro
    have hE : Env.OK ⟨Try.prog, T, G_mwithin, bs⟩ := ⟨tok, by rw [hgl]; exact G_mwithin_ok gl⟩
    simp only [mwithinHS, macHS] at hp
    split at hp
    · rename_i id q b
      obtain ⟨rfl, p, e, M, hb, hx⟩ := hp
      have m := M.m
      have hl : bs.h0.length ≤ h.length := by rw [hh]; exact Nat.le_refl _
      have hlt := lt_of_get m.box
      have bx := m.box
      have mn := m.none
      have gs := fun y : Blk => get_set_eq (a := y) hlt
      have ba : ∀ ex : List Blk, (h ++ ex)[id]? = some (.box tM (maX p e)) := fun ex => (m.app ex).box
      have sa : ∀ (ex : List Blk) (y : Blk), (h ++ ex).set id y = h.set id y ++ ex := fun ex y => List.set_append_left _ _ hlt
      have ga : ∀ (ex : List Blk) (y : Blk), (h.set id y ++ ex)[id]? = some y := fun ex y => by rw [List.getElem?_append_left (by simpa using hlt)]; exact get_set_eq hlt
      have sg : ∀ (ex : List Blk) (y z : Blk), (h.set id y ++ ex).set id z = h.set id z ++ ex := fun ex y z => by rw [List.set_append_left _ _ (by simpa using hlt), List.set_set]
      have pa : ∀ (q : Ps) (new : List Ev), (putM h id e q new)[id]? = some (.box tM (maX q (evY h new e))) := fun q new => putM_at m q new
      have pb : ∀ (ex : List Blk) (q : Ps) (new : List Ev), (putM (h ++ ex) id e q new)[id]? = some (.box tM (maX q (evY (h ++ ex) new e))) := fun ex q new => putM_at (m.app ex) q new
      have pp : ∀ (q r : Ps) (a b : List Ev), putM (putM h id e q a) id (evY h a e) r b = putM h id e r (a ++ b) := fun q r a b => putM_two m q r a b
      have pq : ∀ (ex : List Blk) (q r : Ps) (a b : List Ev), putM (putM (h ++ ex) id e q a) id (evY (h ++ ex) a e) r b = putM (h ++ ex) id e r (a ++ b) := fun ex q r a b => putM_two (m.app ex) q r a b
      simp only [tM, maX] at bx ba pa pb
      by_cases c : p.s = 6 ∧ b = 7
      · have c1 : (p.s = 6) = True := eq_true c.1
        have c2 := c.2
        subst c2
        have hW : withinF p 7 = told p (evOsc p.tx) := by simp [withinF, c.1]
        simp [Try.f54, hcEff, mwithinHS, macHS, and_assoc, mdispSpec, mspoilSpec, mdispHS, mspoilHS, bx, ba, sa, ga, sg, pa, pb, pp, pq, mn, gs, maE, maP, tM, c1]
        refine ⟨⟨p, e, evOsc p.tx, rfl, M.mono (by omega)⟩, RetTo.same ⟨rfl, ?_⟩⟩
        show _ = putM h id e (withinF p 7).1 (withinF p 7).2
        rw [hW]; rfl
      by_cases d : b < 32 ∨ b = 127 ∨ p.s = 13 ∨ p.bad = true
      · have hW : withinF p b = (p, []) := by rw [withinF, if_neg c, if_pos d]
        by_cases c2 : b = 7
        · have c3 : (p.s = 6) = False := eq_false (fun h => c ⟨h, c2⟩)
          subst c2
          simp [Try.f54, hcEff, mwithinHS, macHS, and_assoc, mdispSpec, mspoilSpec, mdispHS, mspoilHS, bx, ba, sa, ga, sg, pa, pb, pp, pq, mn, gs, maE, maP, tM, c3]
          refine RetTo.same ⟨rfl, ?_⟩
          show _ = putM h id e (withinF p 7).1 (withinF p 7).2
          rw [hW]; exact (putM_self m).symm
        have c2' : (b = 7) = False := eq_false c2
        by_cases d1 : b < 32
        · have d1' : (b < 32) = True := eq_true d1
          simp [Try.f54, hcEff, mwithinHS, macHS, and_assoc, mdispSpec, mspoilSpec, mdispHS, mspoilHS, bx, ba, sa, ga, sg, pa, pb, pp, pq, mn, gs, maE, maP, tM, c2', d1']
          refine RetTo.same ⟨rfl, ?_⟩
          show _ = putM h id e (withinF p b).1 (withinF p b).2
          rw [hW]; exact (putM_self m).symm
        have d1' : (b < 32) = False := eq_false d1
        by_cases d2 : b = 127
        · subst d2
          simp [Try.f54, hcEff, mwithinHS, macHS, and_assoc, mdispSpec, mspoilSpec, mdispHS, mspoilHS, bx, ba, sa, ga, sg, pa, pb, pp, pq, mn, gs, maE, maP, tM]
          refine RetTo.same ⟨rfl, ?_⟩
          show _ = putM h id e (withinF p 127).1 (withinF p 127).2
          rw [hW]; exact (putM_self m).symm
        have d2' : (b = 127) = False := eq_false d2
        by_cases d3 : p.s = 13
        · have d3' : (p.s = 13) = True := eq_true d3
          simp [Try.f54, hcEff, mwithinHS, macHS, and_assoc, mdispSpec, mspoilSpec, mdispHS, mspoilHS, bx, ba, sa, ga, sg, pa, pb, pp, pq, mn, gs, maE, maP, tM, c2', d1', d2', d3']
          refine RetTo.same ⟨rfl, ?_⟩
          show _ = putM h id e (withinF p b).1 (withinF p b).2
          rw [hW]; exact (putM_self m).symm
        have d3' : (p.s = 13) = False := eq_false d3
        have d4 : p.bad = true := by rcases d with h | h | h | h <;> first | contradiction | exact h
        simp [Try.f54, hcEff, mwithinHS, macHS, and_assoc, mdispSpec, mspoilSpec, mdispHS, mspoilHS, bx, ba, sa, ga, sg, pa, pb, pp, pq, mn, gs, maE, maP, tM, c2', d1', d2', d3', d4]
        have hq : (⟨p.s, p.u, p.pv, p.fn, p.ps, p.it, p.tx, true⟩ : Ps) = p := by rw [← d4]
        refine RetTo.same ⟨rfl, ?_⟩
        rw [hq, hW]; exact (putM_self m).symm
      have d1' : (b < 32) = False := eq_false (fun h => d (.inl h))
      have d2' : (b = 127) = False := eq_false (fun h => d (.inr (.inl h)))
      have d3' : (p.s = 13) = False := eq_false (fun h => d (.inr (.inr (.inl h))))
      have d4 : p.bad = false := by cases q : p.bad with | false => rfl | true => exact absurd (.inr (.inr (.inr q))) d
      have c2' : (b = 7) = False := eq_false (fun h => d (.inl (by omega)))
      by_cases f : p.tx.length = 512
      · have f' : ((p.tx.length : Int) = 512) = True := eq_true (by omega)
        have hW : withinF p b = (sspoil p.s, []) := by rw [withinF, if_neg c, if_neg d, if_pos f]
        simp [Try.f54, hcEff, mwithinHS, macHS, and_assoc, mdispSpec, mspoilSpec, mdispHS, mspoilHS, bx, ba, sa, ga, sg, pa, pb, pp, pq, mn, gs, maE, maP, tM, c2', d1', d2', d3', d4, f']
        have hq : (⟨p.s, p.u, p.pv, p.fn, p.ps, p.it, p.tx, false⟩ : Ps) = p := by rw [← d4]
        refine ⟨.h m, RetTo.same ⟨rfl, ?_⟩⟩
        rw [hq, hW]
      · have f' : ((p.tx.length : Int) = 512) = False := eq_false (by omega)
        have hW : withinF p b = ({ p with tx := p.tx ++ [u8B b] }, []) := by rw [withinF, if_neg c, if_neg d, if_neg f]
        simp [Try.f54, hcEff, mwithinHS, macHS, and_assoc, mdispSpec, mspoilSpec, mdispHS, mspoilHS, bx, ba, sa, ga, sg, pa, pb, pp, pq, mn, gs, maE, maP, tM, c2', d1', d2', d3', d4, f']
        have hq : (⟨p.s, p.u, p.pv, p.fn, p.ps, p.it, p.tx, false⟩ : Ps) = p := by rw [← d4]
        refine ⟨by omega, rfl, RetTo.same ⟨rfl, ?_⟩⟩
        rw [hq, hW, putM_nil m]
        simp only [maX, d4]
        rfl
    · exact hp.elim
end Fen

namespace Fen
open Go

/-! ### what a byte of UTF-8 may yield -/
theorem goCode_nn : ∀ (l : List Int) (cp : Int), 0 ≤ cp → 0 ≤ goCode cp l
  | [], cp, h => h
  | c :: l, cp, h => goCode_nn l _ (by have : 0 ≤ c % 64 := Int.emod_nonneg _ (by decide); omega)
theorem codeF_nn {p : List Int} (h : Bytes p) (h0 : p ≠ []) : 0 ≤ codeF p := by
  refine goCode_nn _ _ ?_
  cases p with
  | nil => exact absurd rfl h0
  | cons b l =>
    have hb := h b (by simp)
    simp only [List.headD_cons, cp0F]
    split
    · omega
    · exact Int.emod_nonneg _ (by have : (0 : Int) < 2 ^ (6 - (b :: l).tail.length) := Int.pow_pos (by decide); omega)
def ctl6 (c : Int) : Prop := c < 32 ∨ c = 127
instance (c : Int) : Decidable (ctl6 c) := by unfold ctl6; infer_instance
/-- the ways a step may come out -/
theorem step0_out (b : Int) : (∃ x, step0 b = ([], [x]) ∧ (x = codeF [b] ∨ x = 65533)) ∨ step0 b = ([b], []) := by
  unfold step0
  split
  · exact .inl ⟨_, rfl, .inl rfl⟩
  · split
    · exact .inr rfl
    · exact .inl ⟨_, rfl, .inr rfl⟩
theorem step_out (u : List Int) (b : Int) : (∃ x, stepF u b = ([], [x]) ∧ (x = codeF [b] ∨ x = 65533 ∨ x = codeF (u ++ [b]))) ∨ (∃ x, stepF u b = ([], [65533, x]) ∧ (x = codeF [b] ∨ x = 65533)) ∨ stepF u b = ([b], []) ∨ stepF u b = (u ++ [b], []) ∨ stepF u b = ([b], [65533]) := by
  unfold stepF
  split
  · rcases step0_out b with ⟨x, h, q⟩ | h
    · exact .inl ⟨x, h, by rcases q with q | q <;> simp [q]⟩
    · exact .inr (.inr (.inl h))
  · unfold stepP
    split
    · exact .inl ⟨_, rfl, .inr (.inr rfl)⟩
    · split
      · exact .inr (.inr (.inr (.inl rfl)))
      · rcases step0_out b with ⟨x, h, q⟩ | h
        · rw [h]; exact .inr (.inl ⟨x, rfl, q⟩)
        · rw [h]; exact .inr (.inr (.inr (.inr rfl)))
theorem bytes_one {b : Int} (h : 0 ≤ b ∧ b < 256) : Bytes [b] := fun x hx => by simp at hx; subst hx; exact h
theorem bytes_snoc {u : List Int} {b : Int} (hu : Bytes u) (h : 0 ≤ b ∧ b < 256) : Bytes (u ++ [b]) := fun x hx => by
  rcases List.mem_append.1 hx with q | q
  · exact hu x q
  · exact bytes_one h x q
theorem step_nn {u : List Int} {b : Int} (hu : Bytes u) (hb : 0 ≤ b ∧ b < 256) : ∀ c ∈ (stepF u b).2, 0 ≤ c := by
  have k1 := codeF_nn (bytes_one hb) (by simp)
  have k2 := codeF_nn (bytes_snoc hu hb) (by simp)
  rcases step_out u b with ⟨x, h, q⟩ | ⟨x, h, q⟩ | h | h | h <;> rw [h] <;> intro c hc <;> simp at hc
  · subst hc; rcases q with q | q | q <;> omega
  · rcases hc with rfl | rfl
    · omega
    · rcases q with q | q <;> omega
  · omega
theorem step_bytes {u : List Int} {b : Int} (hu : Bytes u) (hb : 0 ≤ b ∧ b < 256) : Bytes (stepF u b).1 := by
  rcases step_out u b with ⟨x, h, q⟩ | ⟨x, h, q⟩ | h | h | h <;> rw [h]
  · exact fun x hx => by simp at hx
  · exact fun x hx => by simp at hx
  · exact bytes_one hb
  · exact bytes_snoc hu hb
  · exact bytes_one hb
theorem step_len (u : List Int) (b : Int) : (stepF u b).2.length ≤ 2 := by
  rcases step_out u b with ⟨x, h, q⟩ | ⟨x, h, q⟩ | h | h | h <;> rw [h] <;> simp
/-- the machine behind the first codes -/
def atC (u : List Int) (b : Int) (k : Nat) : Ps × List Ev := ((stepF u b).2.take k).foldl code1 ({ sbegin 0 with u := (stepF u b).1 }, [])
theorem atC_zero (u : List Int) (b : Int) : atC u b 0 = ({ sbegin 0 with u := (stepF u b).1 }, []) := rfl
theorem atC_all {u : List Int} {b : Int} {k : Nat} (h : (stepF u b).2.length ≤ k) : atC u b k = printsF u b := by
  unfold atC printsF; rw [List.take_of_length_le h]
theorem atC_succ {u : List Int} {b : Int} {k : Nat} (h : k < (stepF u b).2.length) : atC u b (k + 1) = code1 (atC u b k) (stepF u b).2[k] := by
  unfold atC
  rw [List.take_add_one, List.getElem?_eq_getElem h, List.foldl_append]
  rfl
theorem atC_ctl {u : List Int} {b : Int} {k : Nat} (h : k < (stepF u b).2.length) (hc : ctl6 (stepF u b).2[k]) : (atC u b k).1 = sbegin 0 := by
  have key : ∀ (r l : List Int), stepF u b = (r, l) → (hk : k < l.length) → ctl6 l[k] → ((l.take k).foldl code1 ({ sbegin 0 with u := r }, [])).1 = sbegin 0 := by
    intro r l e hk hc
    rcases step_out u b with ⟨x, h, q⟩ | ⟨x, h, q⟩ | h | h | h <;> rw [e] at h <;> cases h
    · have : k = 0 := by simpa using hk
      subst this; rfl
    · have : k = 0 ∨ k = 1 := by simp at hk; omega
      rcases this with rfl | rfl
      · simp [ctl6] at hc
      · rfl
    · simp at hk
    · simp at hk
    · have : k = 0 := by simpa using hk
      subst this
      simp [ctl6] at hc
  exact key _ _ rfl h hc
theorem atC_len (u : List Int) (b : Int) : ∀ k : Nat, (atC u b k).2.length ≤ k
  | 0 => by simp [atC_zero]
  | k + 1 => by
    rcases Nat.lt_or_ge k (stepF u b).2.length with h | h
    · rw [atC_succ h]
      have := atC_len u b k
      have q : ∀ c, (ctlF c).2.length ≤ 1 := fun c => by unfold ctlF; (repeat' split) <;> simp
      unfold code1
      split
      · rename_i c; have := q (stepF u b).2[k]; simp; omega
      · split
        · simp; omega
        · omega
    · have e : atC u b (k + 1) = atC u b k := by unfold atC; rw [List.take_of_length_le (by omega), List.take_of_length_le h]
      rw [e]
      have := atC_len u b k
      omega
end Fen

namespace Fen
open Go Go.Proofs

def outsSpec : Spec := { pre := fun args => ∃ b f t : Int, args = [.c (.int .u8 b), .c (.int .u8 f), .c (.int .u8 t)], res := fun args => match args with
  | [.c (.int _ b), .c (.int _ f), .c (.int _ t)] => .one (.val (.c (.bool (decide (b < f ∨ t < b)))))
  | _ => .many [] }
def G_outs : Specs := []
@[simp] theorem G_outs_live : Specs.live G_outs = false := rfl
theorem G_outs_ok (gl : Gl) : SpecsOK Try.prog gl G_outs := .nil _ _
set_option maxRecDepth 10000 in
theorem outs_sound (gl : Gl) : Sound Try.prog gl 42 outsSpec := by
  refine sound_fn (N := Try.f42.ntmps) (rs := Try.f42.results.toList) mixed tok (G_outs_ok gl) Try.func42 rfl rfl rfl rfl rfl ?_ ?_ ?_
  · rintro args ⟨b,f,t,rfl⟩; simp [Try.f42]
  · rintro args ⟨b,f,t,rfl⟩; simp [outsSpec, Try.f42]
  · rintro args ⟨b,f,t,rfl⟩ bs hgl hh hro
    have hE : Env.OK ⟨Try.prog, T, G_outs, bs⟩ := ⟨tok, by rw [hgl]; exact G_outs_ok gl⟩
    by_cases h : b < f
    · have h' : (b < f) = True := eq_true h
      simp [outsSpec, Try.f42, h']
    · have h' : (b < f) = False := eq_false h
      simp [outsSpec, Try.f42, h']
def wayC : List C := [.fn 85 [], .fn 86 [], .fn 87 [], .fn 88 [], .fn 89 [], .fn 90 [], .nilf, .nilf, .fn 88 [], .fn 89 [], .fn 90 [], .nilf, .nilf, .nilf, .nilf]
def waysSpec : Spec := { pre := fun args => args = [], res := fun _ => .one (.val (.agg wayC)) }
def G_ways : Specs := []
@[simp] theorem G_ways_live : Specs.live G_ways = false := rfl
theorem G_ways_ok (gl : Gl) : SpecsOK Try.prog gl G_ways := .nil _ _
set_option maxRecDepth 10000 in
theorem ways_sound (gl : Gl) : Sound Try.prog gl 56 waysSpec := by
  refine sound_fn (N := Try.f56.ntmps) (rs := Try.f56.results.toList) mixed tok (G_ways_ok gl) Try.func56 rfl rfl rfl rfl rfl ?_ ?_ ?_
  · rintro args rfl; simp [Try.f56]
  · rintro args rfl; simp [waysSpec, Try.f56]
  · rintro args rfl bs hgl hh hro
    have hE : Env.OK ⟨Try.prog, T, G_ways, bs⟩ := ⟨tok, by rw [hgl]; exact G_ways_ok gl⟩
    simp [waysSpec, Try.f56, wayC]
def take0HS : HS := macHS 870000 (fun _ b => ctlF b) (fun p b => p = sbegin 0 ∧ 0 ≤ b ∧ ctl6 b)
def take0Spec : Spec := { pre := fun _ => False, res := fun _ => .many [], hp := some take0HS }
def G_take0 : Specs := [(52, mbeginSpec), (55, mtellSpec)]
@[simp] theorem G_take0_live : Specs.live G_take0 = false := rfl
@[simp] theorem G_take0_52 : G_take0.find 52 = some mbeginSpec := rfl
@[simp] theorem G_take0_55 : G_take0.find 55 = some mtellSpec := rfl
theorem G_take0_ok (gl : Gl) : SpecsOK Try.prog gl G_take0 := .cons (mbegin_sound gl) (.cons (mtell_sound gl) (.nil _ _))
set_option maxHeartbeats 4000000 in
set_option maxRecDepth 10000 in
theorem take0_sound (gl : Gl) : Sound Try.prog gl 33 take0Spec := by
  refine sound_heap (hs := take0HS) (N := Try.f33.ntmps) (rs := Try.f33.results.toList) mixed tok (G_take0_ok gl) Try.func33 rfl rfl rfl rfl rfl ?_ ?_
  · intro xs h hp
    simp only [take0HS, macHS] at hp
    split at hp
    all_goals first | exact hp.elim | simp [Try.f33]
  · intro xs h hp bs hgl hh hro
    have hE : Env.OK ⟨Try.prog, T, G_take0, bs⟩ := ⟨tok, by rw [hgl]; exact G_take0_ok gl⟩
    simp only [take0HS, macHS] at hp
    split at hp
    · rename_i id q b
      obtain ⟨rfl, p, e, M, hq, hb, hc⟩ := hp
      have m := M.m
      have hl : bs.h0.length ≤ h.length := by rw [hh]; exact Nat.le_refl _
      have hlt := lt_of_get m.box
      have bx := m.box
      have mn := m.none
      have gs := fun y : Blk => get_set_eq (a := y) hlt
      have ba : ∀ ex : List Blk, (h ++ ex)[id]? = some (.box tM (maX p e)) := fun ex => (m.app ex).box
      have sa : ∀ (ex : List Blk) (y : Blk), (h ++ ex).set id y = h.set id y ++ ex := fun ex y => List.set_append_left _ _ hlt
      have ga : ∀ (ex : List Blk) (y : Blk), (h.set id y ++ ex)[id]? = some y := fun ex y => by rw [List.getElem?_append_left (by simpa using hlt)]; exact get_set_eq hlt
      have sg : ∀ (ex : List Blk) (y z : Blk), (h.set id y ++ ex).set id z = h.set id z ++ ex := fun ex y z => by rw [List.set_append_left _ _ (by simpa using hlt), List.set_set]
      have pa : ∀ (q : Ps) (new : List Ev), (putM h id e q new)[id]? = some (.box tM (maX q (evY h new e))) := fun q new => putM_at m q new
      have pb : ∀ (ex : List Blk) (q : Ps) (new : List Ev), (putM (h ++ ex) id e q new)[id]? = some (.box tM (maX q (evY (h ++ ex) new e))) := fun ex q new => putM_at (m.app ex) q new
      have pp : ∀ (q r : Ps) (a b : List Ev), putM (putM h id e q a) id (evY h a e) r b = putM h id e r (a ++ b) := fun q r a b => putM_two m q r a b
      have pq : ∀ (ex : List Blk) (q r : Ps) (a b : List Ev), putM (putM (h ++ ex) id e q a) id (evY (h ++ ex) a e) r b = putM (h ++ ex) id e r (a ++ b) := fun ex q r a b => putM_two (m.app ex) q r a b
      simp only [tM, maX] at bx ba pa pb
      subst hq
      simp only [sbegin, List.length_nil] at bx ba
      have e1 : ints .u8 [] = [] := rfl
      have e2 : parC [] = [] := rfl
      have h0 : (128 ≤ b) = False := eq_false (by unfold ctl6 at hc; omega)
      have w1 : IntKind.i64.wrap b = b := wrap64 _ (by omega) (by unfold ctl6 at hc; omega)
      by_cases c1 : b = 24
      · subst c1
        simp [Try.f33, hcEff, take0HS, macHS, and_assoc, mbeginSpec, mtellSpec, mtellHS, mbeginHS, bx, ba, sa, ga, sg, pa, pb, pp, pq, mn, gs, maE, maP, tM, e1, e2]
        exact ⟨.h m, RetTo.same ⟨rfl, rfl⟩⟩
      have c1' : (b = 24) = False := eq_false c1
      by_cases c2 : b = 26
      · subst c2
        simp [Try.f33, hcEff, take0HS, macHS, and_assoc, mbeginSpec, mtellSpec, mtellHS, mbeginHS, bx, ba, sa, ga, sg, pa, pb, pp, pq, mn, gs, maE, maP, tM, e1, e2]
        exact ⟨.h m, RetTo.same ⟨rfl, rfl⟩⟩
      have c2' : (b = 26) = False := eq_false c2
      by_cases c3 : b = 27
      · subst c3
        simp [Try.f33, hcEff, take0HS, macHS, and_assoc, mbeginSpec, mtellSpec, mtellHS, mbeginHS, bx, ba, sa, ga, sg, pa, pb, pp, pq, mn, gs, maE, maP, tM, e1, e2]
        exact ⟨.h m, RetTo.same ⟨rfl, rfl⟩⟩
      have c3' : (b = 27) = False := eq_false c3
      by_cases c4 : b < 32
      · have c4' : (b < 32) = True := eq_true c4
        simp [Try.f33, hcEff, take0HS, macHS, and_assoc, mbeginSpec, mtellSpec, mtellHS, mbeginHS, bx, ba, sa, ga, sg, pa, pb, pp, pq, mn, gs, maE, maP, tM, e1, e2, h0, c1', c2', c3', c4', w1]
        refine ⟨⟨_, e, evCode 2 b, rfl, M.mono (by omega)⟩, RetTo.same ⟨rfl, ?_⟩⟩
        have : ctlF b = (sbegin 0, [evCode 2 b]) := by unfold ctlF; rw [if_neg (by omega), if_neg c3, if_pos c4]
        rw [this]; rfl
      · have c5 : b = 127 := by unfold ctl6 at hc; omega
        subst c5
        simp [Try.f33, hcEff, take0HS, macHS, and_assoc, mbeginSpec, mtellSpec, mtellHS, mbeginHS, bx, ba, sa, ga, sg, pa, pb, pp, pq, mn, gs, maE, maP, tM, e1, e2]
        exact RetTo.same ⟨rfl, (putM_self m).symm⟩
    · exact hp.elim

def printOn (p : Ps) (b : Int) : Prop := any6 p b ∧ Bytes p.u ∧ p.u.length ≤ 1000000
def printS (h : List Blk) (id : Nat) (e : X) (u : List Int) (b : Int) (k : Nat) : St := ⟨52, [(0, .ptr id 0 0), (25, .val (.sl (stepF u b).2.length (ints .i64 (stepF u b).2))), (26, .val (.int .i64 (stepF u b).2.length)), (27, .val (.int .i64 k))], putM h id e (atC u b k).1 (atC u b k).2⟩
def mprintHS : HS := macHS 860000 (fun p b => printsF p.u b) printOn
def mprintSpec : Spec := { pre := fun _ => False, res := fun _ => .many [], hp := some mprintHS }
def G_mprint : Specs := [(82, stepSpec), (52, mbeginSpec), (33, take0Spec), (42, outsSpec), (55, mtellSpec)]
@[simp] theorem G_mprint_live : Specs.live G_mprint = false := rfl
@[simp] theorem G_mprint_82 : G_mprint.find 82 = some stepSpec := rfl
@[simp] theorem G_mprint_52 : G_mprint.find 52 = some mbeginSpec := rfl
@[simp] theorem G_mprint_33 : G_mprint.find 33 = some take0Spec := rfl
@[simp] theorem G_mprint_42 : G_mprint.find 42 = some outsSpec := rfl
@[simp] theorem G_mprint_55 : G_mprint.find 55 = some mtellSpec := rfl
theorem G_mprint_ok (gl : Gl) : SpecsOK Try.prog gl G_mprint := .cons (step_sound gl) (.cons (mbegin_sound gl) (.cons (take0_sound gl) (.cons (outs_sound gl) (.cons (mtell_sound gl) (.nil _ _)))))
set_option maxHeartbeats 4000000 in
set_option maxRecDepth 10000 in
theorem mprint_sound (gl : Gl) : Sound Try.prog gl 51 mprintSpec := by
  refine sound_heapA (hs := mprintHS) (N := Try.f51.ntmps) (rs := Try.f51.results.toList) tok Try.func51 rfl rfl rfl rfl rfl ?_ ?_
  · intro xs h hp
    simp only [mprintHS, macHS] at hp
    split at hp
    all_goals first | exact hp.elim | simp [Try.f51]
  · intro xs h hp bs hgl hh hro
    have hE : Env.OK ⟨Try.prog, T, G_mprint, bs⟩ := ⟨tok, by rw [hgl]; exact G_mprint_ok gl⟩
    simp only [mprintHS, macHS] at hp
    split at hp
    · rename_i id q b
      obtain ⟨rfl, p, e, M, hb, hu, hul⟩ := hp
      have m := M.m
      have hl : bs.h0.length ≤ h.length := by rw [hh]; exact Nat.le_refl _
      have hlt := lt_of_get m.box
      have bx := m.box
      have mn := m.none
      have gs := fun y : Blk => get_set_eq (a := y) hlt
      have ba : ∀ ex : List Blk, (h ++ ex)[id]? = some (.box tM (maX p e)) := fun ex => (m.app ex).box
      have sa : ∀ (ex : List Blk) (y : Blk), (h ++ ex).set id y = h.set id y ++ ex := fun ex y => List.set_append_left _ _ hlt
      have ga : ∀ (ex : List Blk) (y : Blk), (h.set id y ++ ex)[id]? = some y := fun ex y => by rw [List.getElem?_append_left (by simpa using hlt)]; exact get_set_eq hlt
      have sg : ∀ (ex : List Blk) (y z : Blk), (h.set id y ++ ex).set id z = h.set id z ++ ex := fun ex y z => by rw [List.set_append_left _ _ (by simpa using hlt), List.set_set]
      have pa : ∀ (q : Ps) (new : List Ev), (putM h id e q new)[id]? = some (.box tM (maX q (evY h new e))) := fun q new => putM_at m q new
      have pb : ∀ (ex : List Blk) (q : Ps) (new : List Ev), (putM (h ++ ex) id e q new)[id]? = some (.box tM (maX q (evY (h ++ ex) new e))) := fun ex q new => putM_at (m.app ex) q new
      have pp : ∀ (q r : Ps) (a b : List Ev), putM (putM h id e q a) id (evY h a e) r b = putM h id e r (a ++ b) := fun q r a b => putM_two m q r a b
      have pq : ∀ (ex : List Blk) (q r : Ps) (a b : List Ev), putM (putM (h ++ ex) id e q a) id (evY (h ++ ex) a e) r b = putM (h ++ ex) id e r (a ++ b) := fun ex q r a b => putM_two (m.app ex) q r a b
      simp only [tM, maX] at bx ba pa pb
      have en := evY_nil m
      have eu : ∃ p', bytesV p.u = bytesV p' ∧ Bytes p' ∧ p'.length ≤ 4294967296 := ⟨p.u, rfl, hu, by omega⟩
      have hnn := step_nn hu hb
      have hln := step_len p.u b
      have hz := atC_zero p.u b
      have ha := @atC_all p.u b
      have hsu := @atC_succ p.u b
      have hct := @atC_ctl p.u b
      have hle := atC_len p.u b
      refine wpc_ok hE mixed _ _ _ ?_
      simp [Try.f51, hcEff, mprintHS, macHS, and_assoc, mbeginSpec, mtellSpec, outsSpec, stepSpec, take0Spec, mtellHS, mbeginHS, take0HS, bx, ba, sa, ga, sg, pa, pb, pp, pq, mn, gs, maE, maP, tM, en]
      refine ⟨hu, by omega, hb.1, hb.2, .h m, ?_⟩
      have sx : ∀ r : Ps, (putM h id e (sbegin 0) []).set id (.box tM (maX r e)) = putM h id e r [] := fun r => by
        have := putM_set h id e (sbegin 0) r []
        rw [en] at this; exact this
      refine AWP.rounds (fun k => k ≤ (stepF p.u b).2.length) (printS h id e p.u b) (fun k => (stepF p.u b).2.length - k) 0 (by omega) ?_ ?_
      · refine Weak.heap (sx { sbegin 0 with u := (stepF p.u b).1 }) ?_
        simp
      · intro k hk
        refine wpc_ok hE mixed _ _ _ ?_
        have M1 := M.put (k := 870000) (atC p.u b k).1 (atC p.u b k).2 (by have := hle k; omega) (by omega)
        rcases Nat.lt_or_ge k (stepF p.u b).2.length with hk2 | hk2
        · have hd := ints_at hk2
          have hs := hsu hk2
          have hc := hct hk2
          have hn := hnn _ (List.getElem_mem hk2)
          have w1 : IntKind.i64.wrap ((k : Int) + 1) = ((k + 1 : Nat) : Int) := by rw [wrap64 _ (by omega) (by omega)]; omega
          have klt : ((k : Int) < (stepF p.u b).2.length) = True := eq_true (by omega)
          generalize (stepF p.u b).2[k] = c at *
          obtain ⟨y, hy⟩ : ∃ y, atC p.u b k = y := ⟨_, rfl⟩
          rw [hy] at hs hc M1
          by_cases c1 : ctl6 c
          · have hq := hc c1
            have w2 : IntKind.u8.wrap c = c := by unfold ctl6 at c1; simp [IntKind.wrap, IntKind.signed, IntKind.bits]; omega
            have hcode : code1 y c = ((ctlF c).1, y.2 ++ (ctlF c).2) := by unfold code1; exact if_pos c1
            rw [hcode] at hs
            rw [hq] at M1
            by_cases c2 : c < 32
            · have c2' : (c < 32) = True := eq_true c2
              simp [printS, hy, hcEff, mprintHS, macHS, and_assoc, mbeginSpec, mtellSpec, outsSpec, stepSpec, take0Spec, mtellHS, mbeginHS, take0HS, bx, ba, sa, ga, sg, pa, pb, pp, pq, mn, gs, maE, maP, tM, klt, hd, w1, w2, c2', hq]
              exact ⟨⟨_, _, M1, rfl, hn, c1⟩, Next.mk (k + 1) (by omega) (by omega) (by show Weak bs _ (printS h id e p.u b (k + 1)); unfold printS; rw [hs]; exact Weak.keep (by simp))⟩
            · have c2' : (c < 32) = False := eq_false c2
              have c3 : (c = 127) = True := eq_true (by unfold ctl6 at c1; omega)
              simp [printS, hy, hcEff, mprintHS, macHS, and_assoc, mbeginSpec, mtellSpec, outsSpec, stepSpec, take0Spec, mtellHS, mbeginHS, take0HS, bx, ba, sa, ga, sg, pa, pb, pp, pq, mn, gs, maE, maP, tM, klt, hd, w1, w2, c2', c3, hq]
              exact ⟨⟨_, _, M1, rfl, hn, c1⟩, Next.mk (k + 1) (by omega) (by omega) (by show Weak bs _ (printS h id e p.u b (k + 1)); unfold printS; rw [hs]; exact Weak.keep (by simp))⟩
          · have c2' : (c < 32) = False := eq_false (by unfold ctl6 at c1; omega)
            have c3 : (c = 127) = False := eq_false (by unfold ctl6 at c1; omega)
            have w3 : IntKind.u8.wrap (if 255 < c then 255 else c) = (if 255 < c then 255 else c) := by simp [IntKind.wrap, IntKind.signed, IntKind.bits]; split <;> omega
            by_cases c4 : c < 127 ∨ 159 < c
            · have hcode : code1 y c = (y.1, y.2 ++ [evCode 1 c]) := by unfold code1; rw [if_neg (by unfold ctl6 at c1; omega), if_pos c4]
              rw [hcode] at hs
              by_cases c5 : c < 127
              · have c6 : ((if 255 < c then 255 else c) < 127) = True := eq_true (by split <;> omega)
                simp [printS, hy, hcEff, mprintHS, macHS, and_assoc, mbeginSpec, mtellSpec, outsSpec, stepSpec, take0Spec, mtellHS, mbeginHS, take0HS, bx, ba, sa, ga, sg, pa, pb, pp, pq, mn, gs, maE, maP, tM, klt, hd, w1, w3, c2', c3, c6]
                exact ⟨⟨_, _, evCode 1 c, rfl, M1.mono (by omega)⟩, Next.mk (k + 1) (by omega) (by omega) (by show Weak bs _ (printS h id e p.u b (k + 1)); unfold printS; rw [hs]; exact Weak.keep (by simp))⟩
              · have c6 : ((if 255 < c then 255 else c) < 127) = False := eq_false (by split <;> omega)
                have c7 : (159 < (if 255 < c then 255 else c)) = True := eq_true (by split <;> omega)
                simp [printS, hy, hcEff, mprintHS, macHS, and_assoc, mbeginSpec, mtellSpec, outsSpec, stepSpec, take0Spec, mtellHS, mbeginHS, take0HS, bx, ba, sa, ga, sg, pa, pb, pp, pq, mn, gs, maE, maP, tM, klt, hd, w1, w3, c2', c3, c6, c7]
                exact ⟨⟨_, _, evCode 1 c, rfl, M1.mono (by omega)⟩, Next.mk (k + 1) (by omega) (by omega) (by show Weak bs _ (printS h id e p.u b (k + 1)); unfold printS; rw [hs]; exact Weak.keep (by simp))⟩
            · have hcode : code1 y c = y := by unfold code1; rw [if_neg (by unfold ctl6 at c1; omega), if_neg c4]
              rw [hcode] at hs
              have c6 : ((if 255 < c then 255 else c) < 127) = False := eq_false (by split <;> omega)
              have c7 : (159 < (if 255 < c then 255 else c)) = False := eq_false (by split <;> omega)
              simp [printS, hy, hcEff, mprintHS, macHS, and_assoc, mbeginSpec, mtellSpec, outsSpec, stepSpec, take0Spec, mtellHS, mbeginHS, take0HS, bx, ba, sa, ga, sg, pa, pb, pp, pq, mn, gs, maE, maP, tM, klt, hd, w1, w3, c2', c3, c6, c7]
              exact Next.mk (k + 1) (by omega) (by omega) (by show Weak bs _ (printS h id e p.u b (k + 1)); unfold printS; rw [hs]; exact Weak.keep (by simp))
        · have : k = (stepF p.u b).2.length := by omega
          subst this
          have := ha (Nat.le_refl _)
          simp [printS, this]
          exact RetTo.same ⟨rfl, rfl⟩
    · exact hp.elim
end Fen

namespace Fen
open Go Go.Proofs

def take1HS : HS := macHS 850000 (fun _ b => esc1F b) (fun p b => p = sbegin 1 ∧ any6 p b)
def take1Spec : Spec := { pre := fun _ => False, res := fun _ => .many [], hp := some take1HS }
def G_take1 : Specs := [(52, mbeginSpec), (55, mtellSpec), (51, mprintSpec), (56, waysSpec), (86, mescapeSpec)]
@[simp] theorem G_take1_live : Specs.live G_take1 = false := rfl
@[simp] theorem G_take1_52 : G_take1.find 52 = some mbeginSpec := rfl
@[simp] theorem G_take1_55 : G_take1.find 55 = some mtellSpec := rfl
@[simp] theorem G_take1_51 : G_take1.find 51 = some mprintSpec := rfl
@[simp] theorem G_take1_56 : G_take1.find 56 = some waysSpec := rfl
@[simp] theorem G_take1_86 : G_take1.find 86 = some mescapeSpec := rfl
theorem G_take1_ok (gl : Gl) : SpecsOK Try.prog gl G_take1 := .cons (mbegin_sound gl) (.cons (mtell_sound gl) (.cons (mprint_sound gl) (.cons (ways_sound gl) (.cons (mescape_sound gl) (.nil _ _)))))
set_option maxHeartbeats 8000000 in
set_option maxRecDepth 10000 in
theorem take1_sound (gl : Gl) : Sound Try.prog gl 33 take1Spec := by
  refine sound_heap (hs := take1HS) (N := Try.f33.ntmps) (rs := Try.f33.results.toList) mixed tok (G_take1_ok gl) Try.func33 rfl rfl rfl rfl rfl ?_ ?_
  · intro xs h hp
    simp only [take1HS, macHS] at hp
    split at hp
    all_goals first | exact hp.elim | simp [Try.f33]
  · intro xs h hp bs hgl hh hro
    have hE : Env.OK ⟨Try.prog, T, G_take1, bs⟩ := ⟨tok, by rw [hgl]; exact G_take1_ok gl⟩
    simp only [take1HS, macHS] at hp
    split at hp
    · rename_i id q b
      obtain ⟨rfl, p, e, M, hq, hb⟩ := hp
      have m := M.m
      have hl : bs.h0.length ≤ h.length := by rw [hh]; exact Nat.le_refl _
      have hlt := lt_of_get m.box
      have bx := m.box
      have mn := m.none
      have gs := fun y : Blk => get_set_eq (a := y) hlt
      have ba : ∀ ex : List Blk, (h ++ ex)[id]? = some (.box tM (maX p e)) := fun ex => (m.app ex).box
      have sa : ∀ (ex : List Blk) (y : Blk), (h ++ ex).set id y = h.set id y ++ ex := fun ex y => List.set_append_left _ _ hlt
      have ga : ∀ (ex : List Blk) (y : Blk), (h.set id y ++ ex)[id]? = some y := fun ex y => by rw [List.getElem?_append_left (by simpa using hlt)]; exact get_set_eq hlt
      have sg : ∀ (ex : List Blk) (y z : Blk), (h.set id y ++ ex).set id z = h.set id z ++ ex := fun ex y z => by rw [List.set_append_left _ _ (by simpa using hlt), List.set_set]
      have pa : ∀ (q : Ps) (new : List Ev), (putM h id e q new)[id]? = some (.box tM (maX q (evY h new e))) := fun q new => putM_at m q new
      have pb : ∀ (ex : List Blk) (q : Ps) (new : List Ev), (putM (h ++ ex) id e q new)[id]? = some (.box tM (maX q (evY (h ++ ex) new e))) := fun ex q new => putM_at (m.app ex) q new
      have pp : ∀ (q r : Ps) (a b : List Ev), putM (putM h id e q a) id (evY h a e) r b = putM h id e r (a ++ b) := fun q r a b => putM_two m q r a b
      have pq : ∀ (ex : List Blk) (q r : Ps) (a b : List Ev), putM (putM (h ++ ex) id e q a) id (evY (h ++ ex) a e) r b = putM (h ++ ex) id e r (a ++ b) := fun ex q r a b => putM_two (m.app ex) q r a b
      simp only [tM, maX] at bx ba pa pb
      have en := evY_nil m
      have p2 := putM_two0 m
      subst hq
      simp only [sbegin, List.length_nil] at bx ba
      have e1 : ints .u8 [] = [] := rfl
      have e2 : parC [] = [] := rfl
      have e3 : unP [] = [] := rfl
      have w1 : IntKind.i64.wrap b = b := wrap64 _ (by unfold any6 at hb; omega) (by unfold any6 at hb; omega)
      by_cases c1 : b = 24
      · subst c1
        simp [Try.f33, hcEff, take1HS, macHS, and_assoc, mbeginSpec, mescapeSpec, mprintSpec, mtellSpec, waysSpec, mtellHS, mbeginHS, mprintHS, mescapeHS, bx, ba, sa, ga, sg, pa, pb, pp, pq, mn, gs, maE, maP, tM, e1, e2]
        exact ⟨.h m, RetTo.same ⟨rfl, rfl⟩⟩
      have c1' : (b = 24) = False := eq_false c1
      by_cases c2 : b = 26
      · subst c2
        simp [Try.f33, hcEff, take1HS, macHS, and_assoc, mbeginSpec, mescapeSpec, mprintSpec, mtellSpec, waysSpec, mtellHS, mbeginHS, mprintHS, mescapeHS, bx, ba, sa, ga, sg, pa, pb, pp, pq, mn, gs, maE, maP, tM, e1, e2]
        exact ⟨.h m, RetTo.same ⟨rfl, rfl⟩⟩
      have c2' : (b = 26) = False := eq_false c2
      by_cases c3 : b = 27
      · subst c3
        simp [Try.f33, hcEff, take1HS, macHS, and_assoc, mbeginSpec, mescapeSpec, mprintSpec, mtellSpec, waysSpec, mtellHS, mbeginHS, mprintHS, mescapeHS, bx, ba, sa, ga, sg, pa, pb, pp, pq, mn, gs, maE, maP, tM, e1, e2]
        exact ⟨.h m, RetTo.same ⟨rfl, rfl⟩⟩
      have c3' : (b = 27) = False := eq_false c3
      have hE : esc1F b = if 128 ≤ b then printsF [] b else if b < 32 then (sbegin 1, [evCode 2 b]) else if b = 127 then (sbegin 1, []) else escapeF b := by unfold esc1F; rw [if_neg (by omega), if_neg c3]
      by_cases c4 : 128 ≤ b
      · have c4' : (128 ≤ b) = True := eq_true c4
        rw [if_pos c4] at hE
        simp [Try.f33, hcEff, take1HS, macHS, and_assoc, mbeginSpec, mescapeSpec, mprintSpec, mtellSpec, waysSpec, mtellHS, mbeginHS, mprintHS, mescapeHS, bx, ba, sa, ga, sg, pa, pb, pp, pq, mn, gs, maE, maP, tM, e1, e2, c1', c2', c3', c4', en, p2, hE]
        exact ⟨.h m, ⟨_, _, M.put0 _ (by omega) (by omega), hb, fun x hx => by simp [sbegin] at hx, by simp [sbegin]⟩, RetTo.same ⟨rfl, rfl⟩⟩
      have c4' : (128 ≤ b) = False := eq_false c4
      rw [if_neg c4] at hE
      by_cases c5 : b < 32
      · have c5' : (b < 32) = True := eq_true c5
        rw [if_pos c5] at hE
        simp [Try.f33, hcEff, take1HS, macHS, and_assoc, mbeginSpec, mescapeSpec, mprintSpec, mtellSpec, waysSpec, mtellHS, mbeginHS, mprintHS, mescapeHS, bx, ba, sa, ga, sg, pa, pb, pp, pq, mn, gs, maE, maP, tM, e1, e2, e3, c1', c2', c3', c4', c5', w1, hE]
        exact ⟨⟨_, e, evCode 2 b, rfl, M.mono (by omega)⟩, RetTo.same ⟨rfl, rfl⟩⟩
      have c5' : (b < 32) = False := eq_false c5
      rw [if_neg c5] at hE
      by_cases c6 : b = 127
      · subst c6
        rw [if_pos rfl] at hE
        simp [Try.f33, hcEff, take1HS, macHS, and_assoc, mbeginSpec, mescapeSpec, mprintSpec, mtellSpec, waysSpec, mtellHS, mbeginHS, mprintHS, mescapeHS, bx, ba, sa, ga, sg, pa, pb, pp, pq, mn, gs, maE, maP, tM, e1, e2, hE]
        exact RetTo.same ⟨rfl, (putM_self m).symm⟩
      · have c6' : (b = 127) = False := eq_false c6
        rw [if_neg c6] at hE
        simp [Try.f33, hcEff, take1HS, macHS, and_assoc, mbeginSpec, mescapeSpec, mprintSpec, mtellSpec, waysSpec, mtellHS, mbeginHS, mprintHS, mescapeHS, bx, ba, sa, ga, sg, pa, pb, pp, pq, mn, gs, maE, maP, tM, e1, e2, e3, c1', c2', c3', c4', c5', c6', hE, wayC]
        exact ⟨⟨_, e, M.mono (by omega), hb, rfl⟩, rfl, RetTo.same ⟨rfl, rfl⟩⟩
    · exact hp.elim
def mendHS : HS := macHS 840000 endsF any6
def mendSpec : Spec := { pre := fun _ => False, res := fun _ => .many [], hp := some mendHS }
def G_mend : Specs := [(52, mbeginSpec), (33, take1Spec), (83, mdispSpec)]
@[simp] theorem G_mend_live : Specs.live G_mend = false := rfl
@[simp] theorem G_mend_52 : G_mend.find 52 = some mbeginSpec := rfl
@[simp] theorem G_mend_33 : G_mend.find 33 = some take1Spec := rfl
@[simp] theorem G_mend_83 : G_mend.find 83 = some mdispSpec := rfl
theorem G_mend_ok (gl : Gl) : SpecsOK Try.prog gl G_mend := .cons (mbegin_sound gl) (.cons (take1_sound gl) (.cons (mdisp_sound gl) (.nil _ _)))
set_option maxHeartbeats 8000000 in
set_option maxRecDepth 10000 in
theorem mend_sound (gl : Gl) : Sound Try.prog gl 53 mendSpec := by
  refine sound_heap (hs := mendHS) (N := Try.f53.ntmps) (rs := Try.f53.results.toList) mixed tok (G_mend_ok gl) Try.func53 rfl rfl rfl rfl rfl ?_ ?_
  · intro xs h hp
    simp only [mendHS, macHS] at hp
    split at hp
    all_goals first | exact hp.elim | simp [Try.f53]
  · intro xs h hp bs hgl hh hro
    have hE : Env.OK ⟨Try.prog, T, G_mend, bs⟩ := ⟨tok, by rw [hgl]; exact G_mend_ok gl⟩
    simp only [mendHS, macHS] at hp
    split at hp
    · rename_i id q b
      obtain ⟨rfl, p, e, M, hb⟩ := hp
      have m := M.m
      have hl : bs.h0.length ≤ h.length := by rw [hh]; exact Nat.le_refl _
      have hlt := lt_of_get m.box
      have bx := m.box
      have mn := m.none
      have gs := fun y : Blk => get_set_eq (a := y) hlt
      have ba : ∀ ex : List Blk, (h ++ ex)[id]? = some (.box tM (maX p e)) := fun ex => (m.app ex).box
      have sa : ∀ (ex : List Blk) (y : Blk), (h ++ ex).set id y = h.set id y ++ ex := fun ex y => List.set_append_left _ _ hlt
      have ga : ∀ (ex : List Blk) (y : Blk), (h.set id y ++ ex)[id]? = some y := fun ex y => by rw [List.getElem?_append_left (by simpa using hlt)]; exact get_set_eq hlt
      have sg : ∀ (ex : List Blk) (y z : Blk), (h.set id y ++ ex).set id z = h.set id z ++ ex := fun ex y z => by rw [List.set_append_left _ _ (by simpa using hlt), List.set_set]
      have pa : ∀ (q : Ps) (new : List Ev), (putM h id e q new)[id]? = some (.box tM (maX q (evY h new e))) := fun q new => putM_at m q new
      have pb : ∀ (ex : List Blk) (q : Ps) (new : List Ev), (putM (h ++ ex) id e q new)[id]? = some (.box tM (maX q (evY (h ++ ex) new e))) := fun ex q new => putM_at (m.app ex) q new
      have pp : ∀ (q r : Ps) (a b : List Ev), putM (putM h id e q a) id (evY h a e) r b = putM h id e r (a ++ b) := fun q r a b => putM_two m q r a b
      have pq : ∀ (ex : List Blk) (q r : Ps) (a b : List Ev), putM (putM (h ++ ex) id e q a) id (evY (h ++ ex) a e) r b = putM (h ++ ex) id e r (a ++ b) := fun ex q r a b => putM_two (m.app ex) q r a b
      simp only [tM, maX] at bx ba pa pb
      have en := evY_nil m
      have p2 := putM_two0 m
      by_cases c1 : b = 92
      · subst c1
        by_cases c2 : p.s = 7
        · have c2' : (p.s = 7) = True := eq_true c2
          have hE : endsF p 92 = told p (evOsc p.tx) := by unfold endsF; rw [if_neg (by decide), if_pos c2]
          simp [Try.f53, hcEff, mendHS, macHS, and_assoc, mbeginSpec, mdispSpec, take1Spec, take1HS, mdispHS, mbeginHS, bx, ba, sa, ga, sg, pa, pb, pp, pq, mn, gs, maE, maP, tM, c2']
          refine ⟨⟨p, e, evOsc p.tx, rfl, (M.app (by simp)).mono (by omega)⟩, RetTo.putM m M.c hl (by simp) ⟨rfl, ?_⟩⟩
          show _ = putM h id e (endsF p 92).1 (endsF p 92).2
          rw [hE]; rfl
        have c2' : (p.s = 7) = False := eq_false c2
        by_cases c3 : p.s = 12
        · have c3' : (p.s = 12) = True := eq_true c3
          have hE : endsF p 92 = told p ⟨6, 0, p.pv, p.fn, p.ps, p.it, p.tx⟩ := by unfold endsF; rw [if_neg (by decide), if_neg c2, if_pos c3]
          simp [Try.f53, hcEff, mendHS, macHS, and_assoc, mbeginSpec, mdispSpec, take1Spec, take1HS, mdispHS, mbeginHS, bx, ba, sa, ga, sg, pa, pb, pp, pq, mn, gs, maE, maP, tM, c2', c3']
          have eo' : evOf [.int .i64 6, .int .i64 0, .int .u8 p.pv, .int .u8 p.fn, .sl p.ps.length (parC p.ps), .str p.it, .str p.tx] = ⟨6, 0, p.pv, p.fn, p.ps, p.it, p.tx⟩ := evOf_C ⟨6, 0, p.pv, p.fn, p.ps, p.it, p.tx⟩
          refine ⟨⟨p, e, ⟨6, 0, p.pv, p.fn, p.ps, p.it, p.tx⟩, rfl, (M.app (by simp)).mono (by omega)⟩, ?_⟩
          rw [eo']
          refine RetTo.putM m M.c hl (by simp) ⟨rfl, ?_⟩
          show _ = putM h id e (endsF p 92).1 (endsF p 92).2
          rw [hE]
        have c3' : (p.s = 12) = False := eq_false c3
        have hE : endsF p 92 = (sbegin 0, []) := by unfold endsF; rw [if_neg (by decide), if_neg c2, if_neg c3]
        simp [Try.f53, hcEff, mendHS, macHS, and_assoc, mbeginSpec, mdispSpec, take1Spec, take1HS, mdispHS, mbeginHS, bx, ba, sa, ga, sg, pa, pb, pp, pq, mn, gs, maE, maP, tM, c2', c3']
        refine ⟨.a m _, RetTo.putM m M.c hl (by simp) ⟨rfl, ?_⟩⟩
        show _ = putM h id e (endsF p 92).1 (endsF p 92).2
        rw [hE]
      · have c1' : (b = 92) = False := eq_false c1
        have hE : endsF p b = esc1F b := by unfold endsF; rw [if_pos c1]
        simp [Try.f53, hcEff, mendHS, macHS, and_assoc, mbeginSpec, mdispSpec, take1Spec, take1HS, mdispHS, mbeginHS, bx, ba, sa, ga, sg, pa, pb, pp, pq, mn, gs, maE, maP, tM, c1', en, p2]
        refine ⟨.h m, ⟨_, _, M.put0 _ (by omega) (by omega), rfl, hb⟩, RetTo.same ⟨rfl, ?_⟩⟩
        show _ = putM h id e (endsF p b).1 (endsF p b).2
        rw [hE]
    · exact hp.elim
end Fen
