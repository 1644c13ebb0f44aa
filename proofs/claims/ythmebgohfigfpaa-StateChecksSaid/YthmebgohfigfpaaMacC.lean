/- A part of the proof; no statement is proved here: SMacF. -/
import Derived.Test.YthmebgohfigfpaaMacB

set_option linter.unusedVariables false
set_option linter.unusedSimpArgs false

namespace Fen
open Go Go.Proofs

structure takeOn (p : Ps) (b : Int) : Prop where
  b : any6 p b
  s0 : 0 ≤ p.s
  s1 : p.s < 15
  u : Bytes p.u
  ul : p.u.length ≤ 1000000
  it : p.it.length ≤ 2
  ps : SubsOK p.ps
  tx : p.tx.length ≤ 512
  bad : p.s = 1 → p.bad = false
def mtakeHS : HS := macHS 830000 one6 takeOn
def mtakeSpec : Spec := { pre := fun _ => False, res := fun _ => .many [], hp := some mtakeHS }
def G_mtake : Specs := [(52, mbeginSpec), (55, mtellSpec), (51, mprintSpec), (56, waysSpec), (86, mescapeSpec), (53, mendSpec), (54, mwithinSpec), (85, mgroundSpec), (87, msignsSpec), (88, mentrySpec), (89, mparamsSpec), (90, mintersSpec)]
@[simp] theorem G_mtake_live : Specs.live G_mtake = false := rfl
@[simp] theorem G_mtake_52 : G_mtake.find 52 = some mbeginSpec := rfl
@[simp] theorem G_mtake_55 : G_mtake.find 55 = some mtellSpec := rfl
@[simp] theorem G_mtake_51 : G_mtake.find 51 = some mprintSpec := rfl
@[simp] theorem G_mtake_56 : G_mtake.find 56 = some waysSpec := rfl
@[simp] theorem G_mtake_86 : G_mtake.find 86 = some mescapeSpec := rfl
@[simp] theorem G_mtake_53 : G_mtake.find 53 = some mendSpec := rfl
@[simp] theorem G_mtake_54 : G_mtake.find 54 = some mwithinSpec := rfl
@[simp] theorem G_mtake_85 : G_mtake.find 85 = some mgroundSpec := rfl
@[simp] theorem G_mtake_87 : G_mtake.find 87 = some msignsSpec := rfl
@[simp] theorem G_mtake_88 : G_mtake.find 88 = some mentrySpec := rfl
@[simp] theorem G_mtake_89 : G_mtake.find 89 = some mparamsSpec := rfl
@[simp] theorem G_mtake_90 : G_mtake.find 90 = some mintersSpec := rfl
theorem G_mtake_ok (gl : Gl) : SpecsOK Try.prog gl G_mtake := .cons (mbegin_sound gl) (.cons (mtell_sound gl) (.cons (mprint_sound gl) (.cons (ways_sound gl) (.cons (mescape_sound gl) (.cons (mend_sound gl) (.cons (mwithin_sound gl) (.cons (mground_sound gl) (.cons (msigns_sound gl) (.cons (mentry_sound gl) (.cons (mparams_sound gl) (.cons (minters_sound gl) (.nil _ _))))))))))))
set_option maxHeartbeats 20000000 in
set_option maxRecDepth 10000 in
theorem mtake_sound (gl : Gl) : Sound Try.prog gl 33 mtakeSpec := by
  refine sound_heap (hs := mtakeHS) (N := Try.f33.ntmps) (rs := Try.f33.results.toList) mixed tok (G_mtake_ok gl) Try.func33 rfl rfl rfl rfl rfl ?_ ?_
  · intro xs h hp
    simp only [mtakeHS, macHS] at hp
    split at hp
    all_goals first | exact hp.elim | simp [Try.f33]
  · intro xs h hp bs hgl hh hro
    have hE : Env.OK ⟨Try.prog, T, G_mtake, bs⟩ := ⟨tok, by rw [hgl]; exact G_mtake_ok gl⟩
    simp only [mtakeHS, macHS] at hp
    split at hp
    · rename_i id q b
      obtain ⟨rfl, p, e, M, ok⟩ := hp
      have m := M.m
      have hl : bs.h0.length ≤ h.length := by rw [hh]; exact Nat.le_refl _
      have hlt := lt_of_get m.box
      have bx := m.box
      have mn := m.none
      have gs := fun y : Blk => get_set_eq (a := y) hlt
      have ba : ∀ ex : List Blk, (h ++ ex)[id]? = some (.box tM (maX p e)) := fun ex => (m.app ex).box
      have sa : ∀ (ex : List Blk) (y : Blk), (h ++ ex).set id y = h.set id y ++ ex := fun ex y => List.set_append_left _ _ hlt
      have ga : ∀ (ex : List Blk) (y : Blk), (h.set id y ++ ex)[id]? = some y := fun ex y => by rw [List.getElem?_append_left (by simpa using hlt)]; exact get_set_eq hlt
      have sg : ∀ (ex : List Blk) (y z : Blk), (h.set id y ++ ex).set id z = h.set id z ++ ex := fun ex y z => by rw [List.set_append_left _ _ (by simpa using hlt), List.set_set]
      have pa : ∀ (q : Ps) (new : List Ev), (putM h id e q new)[id]? = some (.box tM (maX q (evY h new e))) := fun q new => putM_at m q new
      have pb : ∀ (ex : List Blk) (q : Ps) (new : List Ev), (putM (h ++ ex) id e q new)[id]? = some (.box tM (maX q (evY (h ++ ex) new e))) := fun ex q new => putM_at (m.app ex) q new
      have pp : ∀ (q r : Ps) (a b : List Ev), putM (putM h id e q a) id (evY h a e) r b = putM h id e r (a ++ b) := fun q r a b => putM_two m q r a b
      have pq : ∀ (ex : List Blk) (q r : Ps) (a b : List Ev), putM (putM (h ++ ex) id e q a) id (evY (h ++ ex) a e) r b = putM (h ++ ex) id e r (a ++ b) := fun ex q r a b => putM_two (m.app ex) q r a b
      simp only [tM, maX] at bx ba pa pb
      have hb := ok.b
      have en := evY_nil m
      have p2 := putM_two0 m
      have w1 : IntKind.i64.wrap b = b := wrap64 _ (by unfold any6 at hb; omega) (by unfold any6 at hb; omega)
      have w2 : IntKind.i64.wrap (p.s + 1) = p.s + 1 := wrap64 _ (by have := ok.s0; omega) (by have := ok.s1; omega)
      by_cases k0 : p.s = 0 ∧ (p.u ≠ [] ∨ 128 ≤ b)
      · have hO : one6 p b = printsF p.u b := by unfold one6; rw [if_pos k0]
        have k1 : (p.s = 0) = True := eq_true k0.1
        by_cases k2 : p.u = []
        · have k3 : (0 < p.u.length) = False := eq_false (by rw [k2]; simp)
          have k4 : (128 ≤ b) = True := eq_true (by rcases k0.2 with h | h; exact absurd k2 h; exact h)
          simp [Try.f33, hcEff, mtakeHS, macHS, and_assoc, mbeginSpec, mendSpec, mentrySpec, mescapeSpec, mgroundSpec, mintersSpec, mparamsSpec, mprintSpec, msignsSpec, mtellSpec, mwithinSpec, waysSpec, mtellHS, mbeginHS, mprintHS, mescapeHS, mendHS, mwithinHS, mgroundHS, msignsHS, mentryHS, mparamsHS, mintersHS, bx, ba, sa, ga, sg, pa, pb, pp, pq, mn, gs, maE, maP, tM, k1, k3, k4]
          refine ⟨⟨p, e, M.mono (by omega), hb, ok.u, ok.ul⟩, RetTo.same ⟨rfl, ?_⟩⟩
          show _ = putM h id e (one6 p b).1 (one6 p b).2
          rw [hO]
        · have k3 : (0 < p.u.length) = True := eq_true (List.length_pos_iff.2 k2)
          simp [Try.f33, hcEff, mtakeHS, macHS, and_assoc, mbeginSpec, mendSpec, mentrySpec, mescapeSpec, mgroundSpec, mintersSpec, mparamsSpec, mprintSpec, msignsSpec, mtellSpec, mwithinSpec, waysSpec, mtellHS, mbeginHS, mprintHS, mescapeHS, mendHS, mwithinHS, mgroundHS, msignsHS, mentryHS, mparamsHS, mintersHS, bx, ba, sa, ga, sg, pa, pb, pp, pq, mn, gs, maE, maP, tM, k1, k3]
          refine ⟨⟨p, e, M.mono (by omega), hb, ok.u, ok.ul⟩, RetTo.same ⟨rfl, ?_⟩⟩
          show _ = putM h id e (one6 p b).1 (one6 p b).2
          rw [hO]
      have hO : one6 p b = if b = 24 ∨ b = 26 then (sbegin 0, []) else if b = 27 then (if inText p.s then ({ p with s := p.s + 1 }, []) else (sbegin 1, [])) else if atEnd p.s then endsF p b else if inText p.s then withinF p b else if 128 ≤ b then printsF [] b else if b < 32 then (p, if p.s ≤ 5 then [evCode 2 b] else []) else if b = 127 then (p, []) else goes6 p b := by unfold one6; rw [if_neg k0]
      by_cases k1p : p.s = 0
      · have k1 : (p.s = 0) = True := eq_true k1p
        have ku : p.u = [] := Classical.byContradiction fun h => k0 ⟨k1p, .inl h⟩
        have k3 : (0 < p.u.length) = False := eq_false (by rw [ku]; simp)
        have kb : b < 128 := Classical.byContradiction fun h => k0 ⟨k1p, .inr (by omega)⟩
        have k4 : (128 ≤ b) = False := eq_false (by omega)
        have i1 : ¬ inText p.s := by rw [k1p]; decide
        have i2 : ¬ atEnd p.s := by rw [k1p]; decide
        by_cases c24 : b = 24
        · rw [if_pos (by omega)] at hO
          subst c24
          simp [Try.f33, hcEff, mtakeHS, macHS, and_assoc, mbeginSpec, mendSpec, mentrySpec, mescapeSpec, mgroundSpec, mintersSpec, mparamsSpec, mprintSpec, msignsSpec, mtellSpec, mwithinSpec, waysSpec, mtellHS, mbeginHS, mprintHS, mescapeHS, mendHS, mwithinHS, mgroundHS, msignsHS, mentryHS, mparamsHS, mintersHS, bx, ba, sa, ga, sg, pa, pb, pp, pq, mn, gs, maE, maP, tM, k1, k3]
          refine ⟨.h m, RetTo.same ⟨rfl, ?_⟩⟩
          show _ = putM h id e (one6 p 24).1 (one6 p 24).2
          rw [hO]
        have d24 : (b = 24) = False := eq_false c24
        by_cases c26 : b = 26
        · rw [if_pos (by omega)] at hO
          subst c26
          simp [Try.f33, hcEff, mtakeHS, macHS, and_assoc, mbeginSpec, mendSpec, mentrySpec, mescapeSpec, mgroundSpec, mintersSpec, mparamsSpec, mprintSpec, msignsSpec, mtellSpec, mwithinSpec, waysSpec, mtellHS, mbeginHS, mprintHS, mescapeHS, mendHS, mwithinHS, mgroundHS, msignsHS, mentryHS, mparamsHS, mintersHS, bx, ba, sa, ga, sg, pa, pb, pp, pq, mn, gs, maE, maP, tM, k1, k3]
          refine ⟨.h m, RetTo.same ⟨rfl, ?_⟩⟩
          show _ = putM h id e (one6 p 26).1 (one6 p 26).2
          rw [hO]
        have d26 : (b = 26) = False := eq_false c26
        rw [if_neg (by omega)] at hO
        by_cases c27 : b = 27
        · rw [if_pos c27, if_neg i1] at hO
          subst c27
          simp [Try.f33, hcEff, mtakeHS, macHS, and_assoc, mbeginSpec, mendSpec, mentrySpec, mescapeSpec, mgroundSpec, mintersSpec, mparamsSpec, mprintSpec, msignsSpec, mtellSpec, mwithinSpec, waysSpec, mtellHS, mbeginHS, mprintHS, mescapeHS, mendHS, mwithinHS, mgroundHS, msignsHS, mentryHS, mparamsHS, mintersHS, bx, ba, sa, ga, sg, pa, pb, pp, pq, mn, gs, maE, maP, tM, k1p, k3]
          have hq : (⟨0, p.u, p.pv, p.fn, p.ps, p.it, p.tx, p.bad⟩ : Ps) = p := by rw [← k1p]
          refine ⟨.h m, RetTo.same ⟨rfl, ?_⟩⟩
          rw [hq, hO]
        have d27 : (b = 27) = False := eq_false c27
        rw [if_neg c27, if_neg i2, if_neg i1, if_neg (by omega)] at hO
        by_cases c32 : b < 32
        · have d32 : (b < 32) = True := eq_true c32
          rw [if_pos c32, if_pos (by omega)] at hO
          simp [Try.f33, hcEff, mtakeHS, macHS, and_assoc, mbeginSpec, mendSpec, mentrySpec, mescapeSpec, mgroundSpec, mintersSpec, mparamsSpec, mprintSpec, msignsSpec, mtellSpec, mwithinSpec, waysSpec, mtellHS, mbeginHS, mprintHS, mescapeHS, mendHS, mwithinHS, mgroundHS, msignsHS, mentryHS, mparamsHS, mintersHS, bx, ba, sa, ga, sg, pa, pb, pp, pq, mn, gs, maE, maP, tM, k1p, k3, k4, w1, d32, d24, d26, d27]
          refine ⟨⟨p, e, evCode 2 b, rfl, M.mono (by omega)⟩, RetTo.same ⟨rfl, ?_⟩⟩
          have hq : (⟨0, p.u, p.pv, p.fn, p.ps, p.it, p.tx, p.bad⟩ : Ps) = p := by rw [← k1p]
          rw [hq, hO]; rfl
        have d32 : (b < 32) = False := eq_false c32
        rw [if_neg c32] at hO
        by_cases c127 : b = 127
        · rw [if_pos c127] at hO
          subst c127
          simp [Try.f33, hcEff, mtakeHS, macHS, and_assoc, mbeginSpec, mendSpec, mentrySpec, mescapeSpec, mgroundSpec, mintersSpec, mparamsSpec, mprintSpec, msignsSpec, mtellSpec, mwithinSpec, waysSpec, mtellHS, mbeginHS, mprintHS, mescapeHS, mendHS, mwithinHS, mgroundHS, msignsHS, mentryHS, mparamsHS, mintersHS, bx, ba, sa, ga, sg, pa, pb, pp, pq, mn, gs, maE, maP, tM, k1p, k3]
          have hq : (⟨0, p.u, p.pv, p.fn, p.ps, p.it, p.tx, p.bad⟩ : Ps) = p := by rw [← k1p]
          refine RetTo.same ⟨rfl, ?_⟩
          rw [hq, hO]; exact (putM_self m).symm
        have d127 : (b = 127) = False := eq_false c127
        rw [if_neg c127] at hO
        have hg : goes6 p b = (p, [evCode 1 b]) := by unfold goes6; rw [if_pos k1p]
        rw [hg] at hO
        simp [Try.f33, hcEff, mtakeHS, macHS, and_assoc, mbeginSpec, mendSpec, mentrySpec, mescapeSpec, mgroundSpec, mintersSpec, mparamsSpec, mprintSpec, msignsSpec, mtellSpec, mwithinSpec, waysSpec, mtellHS, mbeginHS, mprintHS, mescapeHS, mendHS, mwithinHS, mgroundHS, msignsHS, mentryHS, mparamsHS, mintersHS, bx, ba, sa, ga, sg, pa, pb, pp, pq, mn, gs, maE, maP, tM, k1p, k3, k4, w1, d32, d127, wayC, d24, d26, d27]
        have hq : (⟨0, p.u, p.pv, p.fn, p.ps, p.it, p.tx, p.bad⟩ : Ps) = p := by rw [← k1p]
        refine ⟨⟨p, e, M.mono (by omega), hb⟩, rfl, RetTo.same ⟨rfl, ?_⟩⟩
        rw [hq, hO]
      have k1 : (p.s = 0) = False := eq_false k1p
      by_cases c24 : b = 24
      · rw [if_pos (by omega)] at hO
        subst c24
        simp [Try.f33, hcEff, mtakeHS, macHS, and_assoc, mbeginSpec, mendSpec, mentrySpec, mescapeSpec, mgroundSpec, mintersSpec, mparamsSpec, mprintSpec, msignsSpec, mtellSpec, mwithinSpec, waysSpec, mtellHS, mbeginHS, mprintHS, mescapeHS, mendHS, mwithinHS, mgroundHS, msignsHS, mentryHS, mparamsHS, mintersHS, bx, ba, sa, ga, sg, pa, pb, pp, pq, mn, gs, maE, maP, tM, k1]
        refine ⟨.h m, RetTo.same ⟨rfl, ?_⟩⟩
        show _ = putM h id e (one6 p 24).1 (one6 p 24).2
        rw [hO]
      have d24 : (b = 24) = False := eq_false c24
      by_cases c26 : b = 26
      · rw [if_pos (by omega)] at hO
        subst c26
        simp [Try.f33, hcEff, mtakeHS, macHS, and_assoc, mbeginSpec, mendSpec, mentrySpec, mescapeSpec, mgroundSpec, mintersSpec, mparamsSpec, mprintSpec, msignsSpec, mtellSpec, mwithinSpec, waysSpec, mtellHS, mbeginHS, mprintHS, mescapeHS, mendHS, mwithinHS, mgroundHS, msignsHS, mentryHS, mparamsHS, mintersHS, bx, ba, sa, ga, sg, pa, pb, pp, pq, mn, gs, maE, maP, tM, k1]
        refine ⟨.h m, RetTo.same ⟨rfl, ?_⟩⟩
        show _ = putM h id e (one6 p 26).1 (one6 p 26).2
        rw [hO]
      have d26 : (b = 26) = False := eq_false c26
      rw [if_neg (by omega)] at hO
      by_cases t6 : p.s = 6
      · have i1 : inText p.s := by rw [t6]; decide
        have i2 : ¬ atEnd p.s := by rw [t6]; decide
        have hq : (⟨6, p.u, p.pv, p.fn, p.ps, p.it, p.tx, p.bad⟩ : Ps) = p := by rw [← t6]
        by_cases c27 : b = 27
        · rw [if_pos c27, if_pos i1] at hO
          subst c27
          simp [Try.f33, hcEff, mtakeHS, macHS, and_assoc, mbeginSpec, mendSpec, mentrySpec, mescapeSpec, mgroundSpec, mintersSpec, mparamsSpec, mprintSpec, msignsSpec, mtellSpec, mwithinSpec, waysSpec, mtellHS, mbeginHS, mprintHS, mescapeHS, mendHS, mwithinHS, mgroundHS, msignsHS, mentryHS, mparamsHS, mintersHS, bx, ba, sa, ga, sg, pa, pb, pp, pq, mn, gs, maE, maP, tM, t6]
          refine RetTo.same ⟨rfl, ?_⟩
          rw [hq, hO, putM_nil m]; simp only [maX, t6]; rfl
        have d27 : (b = 27) = False := eq_false c27
        rw [if_neg c27, if_neg i2, if_pos i1] at hO
        simp [Try.f33, hcEff, mtakeHS, macHS, and_assoc, mbeginSpec, mendSpec, mentrySpec, mescapeSpec, mgroundSpec, mintersSpec, mparamsSpec, mprintSpec, msignsSpec, mtellSpec, mwithinSpec, waysSpec, mtellHS, mbeginHS, mprintHS, mescapeHS, mendHS, mwithinHS, mgroundHS, msignsHS, mentryHS, mparamsHS, mintersHS, bx, ba, sa, ga, sg, pa, pb, pp, pq, mn, gs, maE, maP, tM, t6, d24, d26, d27]
        refine ⟨⟨p, e, M.mono (by omega), hb, ok.tx⟩, RetTo.same ⟨rfl, ?_⟩⟩
        rw [hq, hO]
      have x6 : (p.s = 6) = False := eq_false t6
      by_cases t11 : p.s = 11
      · have i1 : inText p.s := by rw [t11]; decide
        have i2 : ¬ atEnd p.s := by rw [t11]; decide
        have hq : (⟨11, p.u, p.pv, p.fn, p.ps, p.it, p.tx, p.bad⟩ : Ps) = p := by rw [← t11]
        by_cases c27 : b = 27
        · rw [if_pos c27, if_pos i1] at hO
          subst c27
          simp [Try.f33, hcEff, mtakeHS, macHS, and_assoc, mbeginSpec, mendSpec, mentrySpec, mescapeSpec, mgroundSpec, mintersSpec, mparamsSpec, mprintSpec, msignsSpec, mtellSpec, mwithinSpec, waysSpec, mtellHS, mbeginHS, mprintHS, mescapeHS, mendHS, mwithinHS, mgroundHS, msignsHS, mentryHS, mparamsHS, mintersHS, bx, ba, sa, ga, sg, pa, pb, pp, pq, mn, gs, maE, maP, tM, t11]
          refine RetTo.same ⟨rfl, ?_⟩
          rw [hq, hO, putM_nil m]; simp only [maX, t11]; rfl
        have d27 : (b = 27) = False := eq_false c27
        rw [if_neg c27, if_neg i2, if_pos i1] at hO
        simp [Try.f33, hcEff, mtakeHS, macHS, and_assoc, mbeginSpec, mendSpec, mentrySpec, mescapeSpec, mgroundSpec, mintersSpec, mparamsSpec, mprintSpec, msignsSpec, mtellSpec, mwithinSpec, waysSpec, mtellHS, mbeginHS, mprintHS, mescapeHS, mendHS, mwithinHS, mgroundHS, msignsHS, mentryHS, mparamsHS, mintersHS, bx, ba, sa, ga, sg, pa, pb, pp, pq, mn, gs, maE, maP, tM, t11, d24, d26, d27]
        refine ⟨⟨p, e, M.mono (by omega), hb, ok.tx⟩, RetTo.same ⟨rfl, ?_⟩⟩
        rw [hq, hO]
      have x11 : (p.s = 11) = False := eq_false t11
      by_cases t13 : p.s = 13
      · have i1 : inText p.s := by rw [t13]; decide
        have i2 : ¬ atEnd p.s := by rw [t13]; decide
        have hq : (⟨13, p.u, p.pv, p.fn, p.ps, p.it, p.tx, p.bad⟩ : Ps) = p := by rw [← t13]
        by_cases c27 : b = 27
        · rw [if_pos c27, if_pos i1] at hO
          subst c27
          simp [Try.f33, hcEff, mtakeHS, macHS, and_assoc, mbeginSpec, mendSpec, mentrySpec, mescapeSpec, mgroundSpec, mintersSpec, mparamsSpec, mprintSpec, msignsSpec, mtellSpec, mwithinSpec, waysSpec, mtellHS, mbeginHS, mprintHS, mescapeHS, mendHS, mwithinHS, mgroundHS, msignsHS, mentryHS, mparamsHS, mintersHS, bx, ba, sa, ga, sg, pa, pb, pp, pq, mn, gs, maE, maP, tM, t13]
          refine RetTo.same ⟨rfl, ?_⟩
          rw [hq, hO, putM_nil m]; simp only [maX, t13]; rfl
        have d27 : (b = 27) = False := eq_false c27
        rw [if_neg c27, if_neg i2, if_pos i1] at hO
        simp [Try.f33, hcEff, mtakeHS, macHS, and_assoc, mbeginSpec, mendSpec, mentrySpec, mescapeSpec, mgroundSpec, mintersSpec, mparamsSpec, mprintSpec, msignsSpec, mtellSpec, mwithinSpec, waysSpec, mtellHS, mbeginHS, mprintHS, mescapeHS, mendHS, mwithinHS, mgroundHS, msignsHS, mentryHS, mparamsHS, mintersHS, bx, ba, sa, ga, sg, pa, pb, pp, pq, mn, gs, maE, maP, tM, t13, d24, d26, d27]
        refine ⟨⟨p, e, M.mono (by omega), hb, ok.tx⟩, RetTo.same ⟨rfl, ?_⟩⟩
        rw [hq, hO]
      have x13 : (p.s = 13) = False := eq_false t13
      have i1 : ¬ inText p.s := by unfold inText; omega
      by_cases c27 : b = 27
      · rw [if_pos c27, if_neg i1] at hO
        subst c27
        simp [Try.f33, hcEff, mtakeHS, macHS, and_assoc, mbeginSpec, mendSpec, mentrySpec, mescapeSpec, mgroundSpec, mintersSpec, mparamsSpec, mprintSpec, msignsSpec, mtellSpec, mwithinSpec, waysSpec, mtellHS, mbeginHS, mprintHS, mescapeHS, mendHS, mwithinHS, mgroundHS, msignsHS, mentryHS, mparamsHS, mintersHS, bx, ba, sa, ga, sg, pa, pb, pp, pq, mn, gs, maE, maP, tM, k1, x6, x11, x13]
        refine ⟨.h m, RetTo.same ⟨rfl, ?_⟩⟩
        show _ = putM h id e (one6 p 27).1 (one6 p 27).2
        rw [hO]
      have d27 : (b = 27) = False := eq_false c27
      rw [if_neg c27] at hO
      by_cases t7 : p.s = 7
      · have i2 : atEnd p.s := by rw [t7]; decide
        have hq : (⟨7, p.u, p.pv, p.fn, p.ps, p.it, p.tx, p.bad⟩ : Ps) = p := by rw [← t7]
        rw [if_pos i2] at hO
        simp [Try.f33, hcEff, mtakeHS, macHS, and_assoc, mbeginSpec, mendSpec, mentrySpec, mescapeSpec, mgroundSpec, mintersSpec, mparamsSpec, mprintSpec, msignsSpec, mtellSpec, mwithinSpec, waysSpec, mtellHS, mbeginHS, mprintHS, mescapeHS, mendHS, mwithinHS, mgroundHS, msignsHS, mentryHS, mparamsHS, mintersHS, bx, ba, sa, ga, sg, pa, pb, pp, pq, mn, gs, maE, maP, tM, t7, d24, d26, d27]
        refine ⟨⟨p, e, M.mono (by omega), hb⟩, RetTo.same ⟨rfl, ?_⟩⟩
        rw [hq, hO]
      have x7 : (p.s = 7) = False := eq_false t7
      by_cases t12 : p.s = 12
      · have i2 : atEnd p.s := by rw [t12]; decide
        have hq : (⟨12, p.u, p.pv, p.fn, p.ps, p.it, p.tx, p.bad⟩ : Ps) = p := by rw [← t12]
        rw [if_pos i2] at hO
        simp [Try.f33, hcEff, mtakeHS, macHS, and_assoc, mbeginSpec, mendSpec, mentrySpec, mescapeSpec, mgroundSpec, mintersSpec, mparamsSpec, mprintSpec, msignsSpec, mtellSpec, mwithinSpec, waysSpec, mtellHS, mbeginHS, mprintHS, mescapeHS, mendHS, mwithinHS, mgroundHS, msignsHS, mentryHS, mparamsHS, mintersHS, bx, ba, sa, ga, sg, pa, pb, pp, pq, mn, gs, maE, maP, tM, t12, d24, d26, d27]
        refine ⟨⟨p, e, M.mono (by omega), hb⟩, RetTo.same ⟨rfl, ?_⟩⟩
        rw [hq, hO]
      have x12 : (p.s = 12) = False := eq_false t12
      by_cases t14 : p.s = 14
      · have i2 : atEnd p.s := by rw [t14]; decide
        have hq : (⟨14, p.u, p.pv, p.fn, p.ps, p.it, p.tx, p.bad⟩ : Ps) = p := by rw [← t14]
        rw [if_pos i2] at hO
        simp [Try.f33, hcEff, mtakeHS, macHS, and_assoc, mbeginSpec, mendSpec, mentrySpec, mescapeSpec, mgroundSpec, mintersSpec, mparamsSpec, mprintSpec, msignsSpec, mtellSpec, mwithinSpec, waysSpec, mtellHS, mbeginHS, mprintHS, mescapeHS, mendHS, mwithinHS, mgroundHS, msignsHS, mentryHS, mparamsHS, mintersHS, bx, ba, sa, ga, sg, pa, pb, pp, pq, mn, gs, maE, maP, tM, t14, d24, d26, d27]
        refine ⟨⟨p, e, M.mono (by omega), hb⟩, RetTo.same ⟨rfl, ?_⟩⟩
        rw [hq, hO]
      have x14 : (p.s = 14) = False := eq_false t14
      have i2 : ¬ atEnd p.s := by unfold atEnd; omega
      rw [if_neg i2, if_neg i1] at hO
      by_cases c128 : 128 ≤ b
      · have d128 : (128 ≤ b) = True := eq_true c128
        rw [if_pos c128] at hO
        simp [Try.f33, hcEff, mtakeHS, macHS, and_assoc, mbeginSpec, mendSpec, mentrySpec, mescapeSpec, mgroundSpec, mintersSpec, mparamsSpec, mprintSpec, msignsSpec, mtellSpec, mwithinSpec, waysSpec, mtellHS, mbeginHS, mprintHS, mescapeHS, mendHS, mwithinHS, mgroundHS, msignsHS, mentryHS, mparamsHS, mintersHS, bx, ba, sa, ga, sg, pa, pb, pp, pq, mn, gs, maE, maP, tM, k1, x6, x11, x13, x7, x12, x14, d24, d26, d27, d128, en, p2]
        refine ⟨.h m, ⟨_, _, M.put0 _ (by omega) (by omega), hb, fun x hx => by simp [sbegin] at hx, by simp [sbegin]⟩, RetTo.same ⟨rfl, ?_⟩⟩
        show _ = putM h id e (one6 p b).1 (one6 p b).2
        rw [hO]; rfl
      have d128 : (128 ≤ b) = False := eq_false c128
      rw [if_neg c128] at hO
      by_cases c32 : b < 32
      · have d32 : (b < 32) = True := eq_true c32
        rw [if_pos c32] at hO
        by_cases c5 : p.s ≤ 5
        · have d5 : (p.s ≤ 5) = True := eq_true c5
          rw [if_pos c5] at hO
          simp [Try.f33, hcEff, mtakeHS, macHS, and_assoc, mbeginSpec, mendSpec, mentrySpec, mescapeSpec, mgroundSpec, mintersSpec, mparamsSpec, mprintSpec, msignsSpec, mtellSpec, mwithinSpec, waysSpec, mtellHS, mbeginHS, mprintHS, mescapeHS, mendHS, mwithinHS, mgroundHS, msignsHS, mentryHS, mparamsHS, mintersHS, bx, ba, sa, ga, sg, pa, pb, pp, pq, mn, gs, maE, maP, tM, k1, x6, x11, x13, x7, x12, x14, d24, d26, d27, d128, d32, d5, w1]
          refine ⟨⟨p, e, evCode 2 b, rfl, M.mono (by omega)⟩, RetTo.same ⟨rfl, ?_⟩⟩
          show _ = putM h id e (one6 p b).1 (one6 p b).2
          rw [hO]; rfl
        · have d5 : (p.s ≤ 5) = False := eq_false c5
          rw [if_neg c5] at hO
          simp [Try.f33, hcEff, mtakeHS, macHS, and_assoc, mbeginSpec, mendSpec, mentrySpec, mescapeSpec, mgroundSpec, mintersSpec, mparamsSpec, mprintSpec, msignsSpec, mtellSpec, mwithinSpec, waysSpec, mtellHS, mbeginHS, mprintHS, mescapeHS, mendHS, mwithinHS, mgroundHS, msignsHS, mentryHS, mparamsHS, mintersHS, bx, ba, sa, ga, sg, pa, pb, pp, pq, mn, gs, maE, maP, tM, k1, x6, x11, x13, x7, x12, x14, d24, d26, d27, d128, d32, d5, w1]
          refine RetTo.same ⟨rfl, ?_⟩
          show _ = putM h id e (one6 p b).1 (one6 p b).2
          rw [hO]; exact (putM_self m).symm
      have d32 : (b < 32) = False := eq_false c32
      rw [if_neg c32] at hO
      by_cases c127 : b = 127
      · rw [if_pos c127] at hO
        subst c127
        simp [Try.f33, hcEff, mtakeHS, macHS, and_assoc, mbeginSpec, mendSpec, mentrySpec, mescapeSpec, mgroundSpec, mintersSpec, mparamsSpec, mprintSpec, msignsSpec, mtellSpec, mwithinSpec, waysSpec, mtellHS, mbeginHS, mprintHS, mescapeHS, mendHS, mwithinHS, mgroundHS, msignsHS, mentryHS, mparamsHS, mintersHS, bx, ba, sa, ga, sg, pa, pb, pp, pq, mn, gs, maE, maP, tM, k1, x6, x11, x13, x7, x12, x14]
        refine RetTo.same ⟨rfl, ?_⟩
        show _ = putM h id e (one6 p 127).1 (one6 p 127).2
        rw [hO]; exact (putM_self m).symm
      have d127 : (b = 127) = False := eq_false c127
      rw [if_neg c127] at hO
      by_cases t1 : p.s = 1
      · have hg : goes6 p b = escapeF b := by unfold goes6; simp [t1]
        have hq : (⟨1, p.u, p.pv, p.fn, p.ps, p.it, p.tx, p.bad⟩ : Ps) = p := by rw [← t1]
        rw [hg] at hO
        simp [Try.f33, hcEff, mtakeHS, macHS, and_assoc, mbeginSpec, mendSpec, mentrySpec, mescapeSpec, mgroundSpec, mintersSpec, mparamsSpec, mprintSpec, msignsSpec, mtellSpec, mwithinSpec, waysSpec, mtellHS, mbeginHS, mprintHS, mescapeHS, mendHS, mwithinHS, mgroundHS, msignsHS, mentryHS, mparamsHS, mintersHS, bx, ba, sa, ga, sg, pa, pb, pp, pq, mn, gs, maE, maP, tM, t1, d32, d127, d128, wayC, d24, d26, d27]
        refine ⟨⟨p, e, M.mono (by omega), hb, ok.bad t1⟩, rfl, RetTo.same ⟨rfl, ?_⟩⟩
        rw [hq, hO]
      by_cases t2 : p.s = 2
      · have hg : goes6 p b = signsF p b := by unfold goes6; simp [t2]
        have hq : (⟨2, p.u, p.pv, p.fn, p.ps, p.it, p.tx, p.bad⟩ : Ps) = p := by rw [← t2]
        rw [hg] at hO
        simp [Try.f33, hcEff, mtakeHS, macHS, and_assoc, mbeginSpec, mendSpec, mentrySpec, mescapeSpec, mgroundSpec, mintersSpec, mparamsSpec, mprintSpec, msignsSpec, mtellSpec, mwithinSpec, waysSpec, mtellHS, mbeginHS, mprintHS, mescapeHS, mendHS, mwithinHS, mgroundHS, msignsHS, mentryHS, mparamsHS, mintersHS, bx, ba, sa, ga, sg, pa, pb, pp, pq, mn, gs, maE, maP, tM, t2, d32, d127, d128, wayC, d24, d26, d27]
        refine ⟨⟨p, e, M.mono (by omega), hb, ok.it⟩, rfl, RetTo.same ⟨rfl, ?_⟩⟩
        rw [hq, hO]
      by_cases t3 : p.s = 3
      · have hg : goes6 p b = entryF p b := by unfold goes6; simp [t3]
        have hq : (⟨3, p.u, p.pv, p.fn, p.ps, p.it, p.tx, p.bad⟩ : Ps) = p := by rw [← t3]
        rw [hg] at hO
        simp [Try.f33, hcEff, mtakeHS, macHS, and_assoc, mbeginSpec, mendSpec, mentrySpec, mescapeSpec, mgroundSpec, mintersSpec, mparamsSpec, mprintSpec, msignsSpec, mtellSpec, mwithinSpec, waysSpec, mtellHS, mbeginHS, mprintHS, mescapeHS, mendHS, mwithinHS, mgroundHS, msignsHS, mentryHS, mparamsHS, mintersHS, bx, ba, sa, ga, sg, pa, pb, pp, pq, mn, gs, maE, maP, tM, t3, d32, d127, d128, wayC, d24, d26, d27]
        refine ⟨⟨p, e, M.mono (by omega), hb, ok.s0, ok.s1⟩, rfl, RetTo.same ⟨rfl, ?_⟩⟩
        rw [hq, hO]
      by_cases t4 : p.s = 4
      · have hg : goes6 p b = paramsF p b := by unfold goes6; simp [t4]
        have hq : (⟨4, p.u, p.pv, p.fn, p.ps, p.it, p.tx, p.bad⟩ : Ps) = p := by rw [← t4]
        rw [hg] at hO
        simp [Try.f33, hcEff, mtakeHS, macHS, and_assoc, mbeginSpec, mendSpec, mentrySpec, mescapeSpec, mgroundSpec, mintersSpec, mparamsSpec, mprintSpec, msignsSpec, mtellSpec, mwithinSpec, waysSpec, mtellHS, mbeginHS, mprintHS, mescapeHS, mendHS, mwithinHS, mgroundHS, msignsHS, mentryHS, mparamsHS, mintersHS, bx, ba, sa, ga, sg, pa, pb, pp, pq, mn, gs, maE, maP, tM, t4, d32, d127, d128, wayC, d24, d26, d27]
        refine ⟨⟨p, e, M.mono (by omega), ⟨⟨hb, ok.it⟩, ok.s0, ok.s1⟩, ok.ps⟩, rfl, RetTo.same ⟨rfl, ?_⟩⟩
        rw [hq, hO]
      by_cases t5 : p.s = 5
      · have hg : goes6 p b = intersF p b := by unfold goes6; simp [t5]
        have hq : (⟨5, p.u, p.pv, p.fn, p.ps, p.it, p.tx, p.bad⟩ : Ps) = p := by rw [← t5]
        rw [hg] at hO
        simp [Try.f33, hcEff, mtakeHS, macHS, and_assoc, mbeginSpec, mendSpec, mentrySpec, mescapeSpec, mgroundSpec, mintersSpec, mparamsSpec, mprintSpec, msignsSpec, mtellSpec, mwithinSpec, waysSpec, mtellHS, mbeginHS, mprintHS, mescapeHS, mendHS, mwithinHS, mgroundHS, msignsHS, mentryHS, mparamsHS, mintersHS, bx, ba, sa, ga, sg, pa, pb, pp, pq, mn, gs, maE, maP, tM, t5, d32, d127, d128, wayC, d24, d26, d27]
        refine ⟨⟨p, e, M.mono (by omega), ⟨hb, ok.it⟩, ok.s0, ok.s1⟩, rfl, RetTo.same ⟨rfl, ?_⟩⟩
        rw [hq, hO]
      by_cases t8 : p.s = 8
      · have hg : goes6 p b = entryF p b := by unfold goes6; simp [t8]
        have hq : (⟨8, p.u, p.pv, p.fn, p.ps, p.it, p.tx, p.bad⟩ : Ps) = p := by rw [← t8]
        rw [hg] at hO
        simp [Try.f33, hcEff, mtakeHS, macHS, and_assoc, mbeginSpec, mendSpec, mentrySpec, mescapeSpec, mgroundSpec, mintersSpec, mparamsSpec, mprintSpec, msignsSpec, mtellSpec, mwithinSpec, waysSpec, mtellHS, mbeginHS, mprintHS, mescapeHS, mendHS, mwithinHS, mgroundHS, msignsHS, mentryHS, mparamsHS, mintersHS, bx, ba, sa, ga, sg, pa, pb, pp, pq, mn, gs, maE, maP, tM, t8, d32, d127, d128, wayC, d24, d26, d27]
        refine ⟨⟨p, e, M.mono (by omega), hb, ok.s0, ok.s1⟩, rfl, RetTo.same ⟨rfl, ?_⟩⟩
        rw [hq, hO]
      by_cases t9 : p.s = 9
      · have hg : goes6 p b = paramsF p b := by unfold goes6; simp [t9]
        have hq : (⟨9, p.u, p.pv, p.fn, p.ps, p.it, p.tx, p.bad⟩ : Ps) = p := by rw [← t9]
        rw [hg] at hO
        simp [Try.f33, hcEff, mtakeHS, macHS, and_assoc, mbeginSpec, mendSpec, mentrySpec, mescapeSpec, mgroundSpec, mintersSpec, mparamsSpec, mprintSpec, msignsSpec, mtellSpec, mwithinSpec, waysSpec, mtellHS, mbeginHS, mprintHS, mescapeHS, mendHS, mwithinHS, mgroundHS, msignsHS, mentryHS, mparamsHS, mintersHS, bx, ba, sa, ga, sg, pa, pb, pp, pq, mn, gs, maE, maP, tM, t9, d32, d127, d128, wayC, d24, d26, d27]
        refine ⟨⟨p, e, M.mono (by omega), ⟨⟨hb, ok.it⟩, ok.s0, ok.s1⟩, ok.ps⟩, rfl, RetTo.same ⟨rfl, ?_⟩⟩
        rw [hq, hO]
      by_cases t10 : p.s = 10
      · have hg : goes6 p b = intersF p b := by unfold goes6; simp [t10]
        have hq : (⟨10, p.u, p.pv, p.fn, p.ps, p.it, p.tx, p.bad⟩ : Ps) = p := by rw [← t10]
        rw [hg] at hO
        simp [Try.f33, hcEff, mtakeHS, macHS, and_assoc, mbeginSpec, mendSpec, mentrySpec, mescapeSpec, mgroundSpec, mintersSpec, mparamsSpec, mprintSpec, msignsSpec, mtellSpec, mwithinSpec, waysSpec, mtellHS, mbeginHS, mprintHS, mescapeHS, mendHS, mwithinHS, mgroundHS, msignsHS, mentryHS, mparamsHS, mintersHS, bx, ba, sa, ga, sg, pa, pb, pp, pq, mn, gs, maE, maP, tM, t10, d32, d127, d128, wayC, d24, d26, d27]
        refine ⟨⟨p, e, M.mono (by omega), ⟨hb, ok.it⟩, ok.s0, ok.s1⟩, rfl, RetTo.same ⟨rfl, ?_⟩⟩
        rw [hq, hO]
      have := ok.s0
      have := ok.s1
      omega
    · exact hp.elim
end Fen
