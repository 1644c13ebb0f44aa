/- A part of the proof; no statement is proved here: SRefJb. -/
import Derived.Test.YthmebgohfigfpaaRefG

set_option linter.unusedVariables false
set_option linter.unusedSimpArgs false

namespace Fen
open Go Go.Proofs
def rgoesbSpec : Spec := { pre := fun args => ∃ (p : Ps) (b : Int), args = [.agg (psC p), .c (.int .u8 b)] ∧ psFit p ∧ (p.s = 3) ∧ 32 ≤ b ∧ b < 127, res := rgoesRes }
def G_rgoesb : Specs := [(97, r05stepoSpec), (93, rtoldoSpec), (96, rsignedoSpec), (95, rescapeoSpec), (94, rspoiltSpec)]
@[simp] theorem G_rgoesb_live : Specs.live G_rgoesb = false := rfl
@[simp] theorem G_rgoesb_97 : G_rgoesb.find 97 = some r05stepoSpec := rfl
@[simp] theorem G_rgoesb_93 : G_rgoesb.find 93 = some rtoldoSpec := rfl
@[simp] theorem G_rgoesb_96 : G_rgoesb.find 96 = some rsignedoSpec := rfl
@[simp] theorem G_rgoesb_95 : G_rgoesb.find 95 = some rescapeoSpec := rfl
@[simp] theorem G_rgoesb_94 : G_rgoesb.find 94 = some rspoiltSpec := rfl
theorem G_rgoesb_ok (gl : Gl) : SpecsOK Try.prog gl G_rgoesb := .cons (r05stepo_sound gl) (.cons (rtoldo_sound gl) (.cons (rsignedo_sound gl) (.cons (rescapeo_sound gl) (.cons (rspoilt_sound gl) (.nil _ _)))))
set_option maxHeartbeats 8000000 in
set_option maxRecDepth 10000 in
theorem rgoesb_sound (gl : Gl) : Sound Try.prog gl 67 rgoesbSpec := by
  refine sound_fn (N := Try.f67.ntmps) (rs := Try.f67.results.toList) mixed tok (G_rgoesb_ok gl) Try.func67 rfl rfl rfl rfl rfl ?_ ?_ ?_
  · rintro args ⟨⟨s,u,pv,fn,ps,it,tx,bad⟩,b,rfl,⟨⟨hu,hps⟩,hul,hit,htx⟩,hs,hb0,hb1⟩; simp [twoV,rgoesRes, Try.f67]
  · rintro args ⟨⟨s,u,pv,fn,ps,it,tx,bad⟩,b,rfl,⟨⟨hu,hps⟩,hul,hit,htx⟩,hs,hb0,hb1⟩; simp [twoV,rgoesRes, rgoesbSpec, Try.f67]
  · rintro args ⟨⟨s,u,pv,fn,ps,it,tx,bad⟩,b,rfl,⟨⟨hu,hps⟩,hul,hit,htx⟩,hs,hb0,hb1⟩ bs hgl hh hro
    have hE : Env.OK ⟨Try.prog, T, G_rgoesb, bs⟩ := ⟨tok, by rw [hgl]; exact G_rgoesb_ok gl⟩
    simp only [rgoesbSpec, twoV,rgoesRes]
    simp only at hu hps hul hit htx hs
    have e2 : ∀ s, psOf [.int .i64 s, .sl u.length (ints .u8 u), .int .u8 pv, .int .u8 fn, .sl ps.length (parC ps), .str it, .str tx, .bool bad] = ⟨s, u, pv, fn, ps, it, tx, bad⟩ := fun s => psOf_C ⟨s, u, pv, fn, ps, it, tx, bad⟩
    have v3 : evOf [.int .i64 3, .int .i64 0, .int .u8 0, .int .u8 b, .sl 0 [], .str it, .str []] = ⟨3, 0, 0, b, [], it, []⟩ := rfl
    have v4 : evOf [.int .i64 4, .int .i64 0, .int .u8 pv, .int .u8 b, .sl ps.length (parC ps), .str it, .str []] = ⟨4, 0, pv, b, ps, it, []⟩ := evOf_C ⟨4, 0, pv, b, ps, it, []⟩
    have t3 : ∀ s, ToldIn [.agg [.int .i64 s, .sl u.length (ints .u8 u), .int .u8 pv, .int .u8 fn, .sl ps.length (parC ps), .str it, .str tx, .bool bad], .agg [.int .i64 3, .int .i64 0, .int .u8 0, .int .u8 b, .sl 0 [], .str it, .str []]] := fun s => ⟨⟨s, u, pv, fn, ps, it, tx, bad⟩, ⟨3, 0, 0, b, [], it, []⟩, rfl⟩
    have t4 : ∀ s, ToldIn [.agg [.int .i64 s, .sl u.length (ints .u8 u), .int .u8 pv, .int .u8 fn, .sl ps.length (parC ps), .str it, .str tx, .bool bad], .agg [.int .i64 4, .int .i64 0, .int .u8 pv, .int .u8 b, .sl ps.length (parC ps), .str it, .str []]] := fun s => ⟨⟨s, u, pv, fn, ps, it, tx, bad⟩, ⟨4, 0, pv, b, ps, it, []⟩, rfl⟩
    have iS : ∀ s, SignedIn [.agg [.int .i64 s, .sl u.length (ints .u8 u), .int .u8 pv, .int .u8 fn, .sl ps.length (parC ps), .str it, .str tx, .bool bad], .c (.int .u8 b)] := fun s => ⟨⟨s, u, pv, fn, ps, it, tx, bad⟩, b, rfl, by omega, by omega, hit⟩
    have i5 : R5StepIn [.c (.sl ps.length (parC ps)), .c (.int .u8 b)] := ⟨ps, b, rfl, hps, by omega, by omega⟩
    have i0 : R5StepIn [.c (.sl 0 []), .c (.int .u8 b)] := ⟨[], b, rfl, by simp [SubsOK], by omega, by omega⟩
    have iE : EscIn [.c (.int .u8 b)] := ⟨b, rfl, by omega, by omega⟩
    have wb : IntKind.i64.wrap b = b := wrap64 _ (by omega) (by omega)
    have u0 : unP [] = [] := rfl
    have pz : parC [] = [] := rfl
    have iz : ints .u8 [] = [] := rfl
    subst hs
    refine id ?_
    · have hG : ∀ q : Ps, q.s = 3 → goes6 q b = entryF q b := fun q h => by unfold goes6; simp [h]
      have hc : b < 48 ∨ 48 ≤ b ∧ b < 60 ∨ 60 ≤ b ∧ b < 64 ∨ 64 ≤ b := by omega
      rcases hc with hc | hc | hc | hc
      · have b1 : (b ≤ 47) = True := eq_true (by omega)
        have b2 : (48 ≤ b) = False := eq_false (by omega)
        have b3 : (b ≤ 59) = True := eq_true (by omega)
        have b4 : (60 ≤ b) = False := eq_false (by omega)
        have b5 : (b ≤ 63) = True := eq_true (by omega)
        have hF : ∀ q : Ps, entryF q b = ({ sbegin (q.s + 2) with it := [u8B b] }, []) := fun q => by unfold entryF; rw [if_pos (by omega)]
        have hX := (hG ⟨3, u, pv, fn, ps, it, tx, bad⟩ rfl).trans (hF _)
        clear hG hF
        simp [rgoesbSpec, r05stepoSpec, rescapeoSpec, rsignedoSpec, rspoiltSpec, rtoldoSpec, Try.f67, r05stepSpec, pstepSpec, rtoldSpec, rsignedSpec, rescapeSpec, psC, twoV, evsC, e2, wb, u0, hX, b1, b2, b3, b4, b5, sbegin, sspoil, pz, iz]
        rfl
      · have b1 : (b ≤ 47) = False := eq_false (by omega)
        have b2 : (48 ≤ b) = True := eq_true (by omega)
        have b3 : (b ≤ 59) = True := eq_true (by omega)
        have b4 : (60 ≤ b) = False := eq_false (by omega)
        have b5 : (b ≤ 63) = True := eq_true (by omega)
        have hF : ∀ q : Ps, entryF q b = ({ sbegin (q.s + 1) with ps := (pstepF [] b).1 }, []) := fun q => by unfold entryF; rw [if_neg (by omega), if_pos (by omega)]
        have hX := (hG ⟨3, u, pv, fn, ps, it, tx, bad⟩ rfl).trans (hF _)
        clear hG hF
        simp [rgoesbSpec, r05stepoSpec, rescapeoSpec, rsignedoSpec, rspoiltSpec, rtoldoSpec, Try.f67, r05stepSpec, pstepSpec, rtoldSpec, rsignedSpec, rescapeSpec, psC, twoV, evsC, e2, wb, u0, hX, b1, b2, b3, b4, b5, sbegin, parV, i0, pz, iz]
      · have b1 : (b ≤ 47) = False := eq_false (by omega)
        have b2 : (48 ≤ b) = True := eq_true (by omega)
        have b3 : (b ≤ 59) = False := eq_false (by omega)
        have b4 : (60 ≤ b) = True := eq_true (by omega)
        have b5 : (b ≤ 63) = True := eq_true (by omega)
        have hF : ∀ q : Ps, entryF q b = ({ sbegin (q.s + 1) with pv := b }, []) := fun q => by unfold entryF; rw [if_neg (by omega), if_neg (by omega), if_pos (by omega)]
        have hX := (hG ⟨3, u, pv, fn, ps, it, tx, bad⟩ rfl).trans (hF _)
        clear hG hF
        simp [rgoesbSpec, r05stepoSpec, rescapeoSpec, rsignedoSpec, rspoiltSpec, rtoldoSpec, Try.f67, r05stepSpec, pstepSpec, rtoldSpec, rsignedSpec, rescapeSpec, psC, twoV, evsC, e2, wb, u0, hX, b1, b2, b3, b4, b5, sbegin, sspoil, pz, iz]
      · have b1 : (b ≤ 47) = False := eq_false (by omega)
        have b2 : (48 ≤ b) = True := eq_true (by omega)
        have b3 : (b ≤ 59) = False := eq_false (by omega)
        have b4 : (60 ≤ b) = True := eq_true (by omega)
        have b5 : (b ≤ 63) = False := eq_false (by omega)
        have hF : ∀ q : Ps, entryF q b = lastF q b := fun q => by unfold entryF; rw [if_neg (by omega), if_neg (by omega), if_neg (by omega)]
        have hX := (hG ⟨3, u, pv, fn, ps, it, tx, bad⟩ rfl).trans (hF _)
        clear hG hF
        have hL : lastF ⟨3, u, pv, fn, ps, it, tx, bad⟩ b = told ⟨3, u, pv, fn, ps, it, tx, bad⟩ ⟨4, 0, pv, b, ps, it, []⟩ := by unfold lastF; rw [if_pos (by show (3:Int) ≤ 5; decide)]
        simp [rgoesbSpec, r05stepoSpec, rescapeoSpec, rsignedoSpec, rspoiltSpec, rtoldoSpec, Try.f67, r05stepSpec, pstepSpec, rtoldSpec, rsignedSpec, rescapeSpec, psC, twoV, evsC, e2, wb, u0, hX, hL, v4, t4, b1, b2, b3, b4, b5]
end Fen
