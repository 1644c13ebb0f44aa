/- A part of the proof; no statement is proved here: SRefJa. -/
import Derived.Test.YthmebgohfigfpaaRefG

set_option linter.unusedVariables false
set_option linter.unusedSimpArgs false

namespace Fen
open Go Go.Proofs
def rgoesaSpec : Spec := { pre := fun args => ∃ (p : Ps) (b : Int), args = [.agg (psC p), .c (.int .u8 b)] ∧ psFit p ∧ (p.s = 0 ∨ p.s = 1 ∨ p.s = 2) ∧ 32 ≤ b ∧ b < 127, res := rgoesRes }
def G_rgoesa : Specs := [(97, r05stepoSpec), (93, rtoldoSpec), (96, rsignedoSpec), (95, rescapeoSpec), (94, rspoiltSpec)]
@[simp] theorem G_rgoesa_live : Specs.live G_rgoesa = false := rfl
@[simp] theorem G_rgoesa_97 : G_rgoesa.find 97 = some r05stepoSpec := rfl
@[simp] theorem G_rgoesa_93 : G_rgoesa.find 93 = some rtoldoSpec := rfl
@[simp] theorem G_rgoesa_96 : G_rgoesa.find 96 = some rsignedoSpec := rfl
@[simp] theorem G_rgoesa_95 : G_rgoesa.find 95 = some rescapeoSpec := rfl
@[simp] theorem G_rgoesa_94 : G_rgoesa.find 94 = some rspoiltSpec := rfl
theorem G_rgoesa_ok (gl : Gl) : SpecsOK Try.prog gl G_rgoesa := .cons (r05stepo_sound gl) (.cons (rtoldo_sound gl) (.cons (rsignedo_sound gl) (.cons (rescapeo_sound gl) (.cons (rspoilt_sound gl) (.nil _ _)))))
set_option maxHeartbeats 8000000 in
set_option maxRecDepth 10000 in
theorem rgoesa_sound (gl : Gl) : Sound Try.prog gl 67 rgoesaSpec := by
  refine sound_fn (N := Try.f67.ntmps) (rs := Try.f67.results.toList) mixed tok (G_rgoesa_ok gl) Try.func67 rfl rfl rfl rfl rfl ?_ ?_ ?_
  · rintro args ⟨⟨s,u,pv,fn,ps,it,tx,bad⟩,b,rfl,⟨⟨hu,hps⟩,hul,hit,htx⟩,hs,hb0,hb1⟩; simp [twoV,rgoesRes, Try.f67]
  · rintro args ⟨⟨s,u,pv,fn,ps,it,tx,bad⟩,b,rfl,⟨⟨hu,hps⟩,hul,hit,htx⟩,hs,hb0,hb1⟩; simp [twoV,rgoesRes, rgoesaSpec, Try.f67]
  · rintro args ⟨⟨s,u,pv,fn,ps,it,tx,bad⟩,b,rfl,⟨⟨hu,hps⟩,hul,hit,htx⟩,hs,hb0,hb1⟩ bs hgl hh hro
    have hE : Env.OK ⟨Try.prog, T, G_rgoesa, bs⟩ := ⟨tok, by rw [hgl]; exact G_rgoesa_ok gl⟩
    simp only [rgoesaSpec, twoV,rgoesRes]
    simp only at hu hps hul hit htx hs
    have e2 : ∀ s, psOf [.int .i64 s, .sl u.length (ints .u8 u), .int .u8 pv, .int .u8 fn, .sl ps.length (parC ps), .str it, .str tx, .bool bad] = ⟨s, u, pv, fn, ps, it, tx, bad⟩ := fun s => psOf_C ⟨s, u, pv, fn, ps, it, tx, bad⟩
    have v3 : evOf [.int .i64 3, .int .i64 0, .int .u8 0, .int .u8 b, .sl 0 [], .str it, .str []] = ⟨3, 0, 0, b, [], it, []⟩ := rfl
    have v4 : evOf [.int .i64 4, .int .i64 0, .int .u8 pv, .int .u8 b, .sl ps.length (parC ps), .str it, .str []] = ⟨4, 0, pv, b, ps, it, []⟩ := evOf_C ⟨4, 0, pv, b, ps, it, []⟩
    have t3 : ∀ s, ToldIn [.agg [.int .i64 s, .sl u.length (ints .u8 u), .int .u8 pv, .int .u8 fn, .sl ps.length (parC ps), .str it, .str tx, .bool bad], .agg [.int .i64 3, .int .i64 0, .int .u8 0, .int .u8 b, .sl 0 [], .str it, .str []]] := fun s => ⟨⟨s, u, pv, fn, ps, it, tx, bad⟩, ⟨3, 0, 0, b, [], it, []⟩, rfl⟩
    have t4 : ∀ s, ToldIn [.agg [.int .i64 s, .sl u.length (ints .u8 u), .int .u8 pv, .int .u8 fn, .sl ps.length (parC ps), .str it, .str tx, .bool bad], .agg [.int .i64 4, .int .i64 0, .int .u8 pv, .int .u8 b, .sl ps.length (parC ps), .str it, .str []]] := fun s => ⟨⟨s, u, pv, fn, ps, it, tx, bad⟩, ⟨4, 0, pv, b, ps, it, []⟩, rfl⟩
    have iS : ∀ s, SignedIn [.agg [.int .i64 s, .sl u.length (ints .u8 u), .int .u8 pv, .int .u8 fn, .sl ps.length (parC ps), .str it, .str tx, .bool bad], .c (.int .u8 b)] := fun s => ⟨⟨s, u, pv, fn, ps, it, tx, bad⟩, b, rfl, by omega, by omega, hit⟩
    have i5 : R5StepIn [.c (.sl ps.length (parC ps)), .c (.int .u8 b)] := ⟨ps, b, rfl, hps, by omega, by omega⟩
    have i0 : R5StepIn [.c (.sl 0 []), .c (.int .u8 b)] := ⟨[], b, rfl, by simp [SubsOK], by omega, by omega⟩
    have iE : EscIn [.c (.int .u8 b)] := ⟨b, rfl, by omega, by omega⟩
    have wb : IntKind.i64.wrap b = b := wrap64 _ (by omega) (by omega)
    have u0 : unP [] = [] := rfl
    have pz : parC [] = [] := rfl
    have iz : ints .u8 [] = [] := rfl
    rcases hs with rfl | rfl | rfl
    · have hG : ∀ p : Ps, p.s = 0 → goes6 p b = (p, [evCode 1 b]) := fun p h => by unfold goes6; rw [if_pos h]
      have hX := hG ⟨0, u, pv, fn, ps, it, tx, bad⟩ rfl
      clear hG
      simp [rgoesaSpec, r05stepoSpec, rescapeoSpec, rsignedoSpec, rspoiltSpec, rtoldoSpec, Try.f67, r05stepSpec, pstepSpec, rtoldSpec, rsignedSpec, rescapeSpec, psC, twoV, evsC, e2, wb, u0, hX, evC, evCode, pz]
    · have hG : ∀ p : Ps, p.s = 1 → goes6 p b = escapeF b := fun p h => by unfold goes6; rw [if_neg (by omega), if_pos h]
      have hX := hG ⟨1, u, pv, fn, ps, it, tx, bad⟩ rfl
      clear hG
      simp [rgoesaSpec, r05stepoSpec, rescapeoSpec, rsignedoSpec, rspoiltSpec, rtoldoSpec, Try.f67, r05stepSpec, pstepSpec, rtoldSpec, rsignedSpec, rescapeSpec, psC, twoV, evsC, e2, wb, u0, hX, iE]
    · have hG : ∀ q : Ps, q.s = 2 → goes6 q b = signsF q b := fun q h => by unfold goes6; simp [h]
      have hc : b < 48 ∨ 48 ≤ b ∧ b < 60 ∨ 60 ≤ b ∧ b < 64 ∨ 64 ≤ b := by omega
      rcases hc with hc | hc | hc | hc
      · have b1 : (b ≤ 47) = True := eq_true (by omega)
        have b2 : (48 ≤ b) = False := eq_false (by omega)
        have b3 : (b ≤ 59) = True := eq_true (by omega)
        have b4 : (60 ≤ b) = False := eq_false (by omega)
        have b5 : (b ≤ 63) = True := eq_true (by omega)
        have hF : ∀ q : Ps, signsF q b = (signed q b, []) := fun q => by unfold signsF; rw [if_pos (by omega)]
        have hX := (hG ⟨2, u, pv, fn, ps, it, tx, bad⟩ rfl).trans (hF _)
        clear hG hF
        simp [rgoesaSpec, r05stepoSpec, rescapeoSpec, rsignedoSpec, rspoiltSpec, rtoldoSpec, Try.f67, r05stepSpec, pstepSpec, rtoldSpec, rsignedSpec, rescapeSpec, psC, twoV, evsC, e2, wb, u0, hX, b1, b2, b3, b4, b5, iS]
      · have b1 : (b ≤ 47) = False := eq_false (by omega)
        have b2 : (48 ≤ b) = True := eq_true (by omega)
        have b3 : (b ≤ 59) = True := eq_true (by omega)
        have b4 : (60 ≤ b) = False := eq_false (by omega)
        have b5 : (b ≤ 63) = True := eq_true (by omega)
        have hF : ∀ q : Ps, signsF q b = told q ⟨3, 0, 0, b, [], q.it, []⟩ := fun q => by unfold signsF; rw [if_neg (by omega)]
        have hX := (hG ⟨2, u, pv, fn, ps, it, tx, bad⟩ rfl).trans (hF _)
        clear hG hF
        simp [rgoesaSpec, r05stepoSpec, rescapeoSpec, rsignedoSpec, rspoiltSpec, rtoldoSpec, Try.f67, r05stepSpec, pstepSpec, rtoldSpec, rsignedSpec, rescapeSpec, psC, twoV, evsC, e2, wb, u0, hX, b1, b2, b3, b4, b5, v3, t3]
      · have b1 : (b ≤ 47) = False := eq_false (by omega)
        have b2 : (48 ≤ b) = True := eq_true (by omega)
        have b3 : (b ≤ 59) = False := eq_false (by omega)
        have b4 : (60 ≤ b) = True := eq_true (by omega)
        have b5 : (b ≤ 63) = True := eq_true (by omega)
        have hF : ∀ q : Ps, signsF q b = told q ⟨3, 0, 0, b, [], q.it, []⟩ := fun q => by unfold signsF; rw [if_neg (by omega)]
        have hX := (hG ⟨2, u, pv, fn, ps, it, tx, bad⟩ rfl).trans (hF _)
        clear hG hF
        simp [rgoesaSpec, r05stepoSpec, rescapeoSpec, rsignedoSpec, rspoiltSpec, rtoldoSpec, Try.f67, r05stepSpec, pstepSpec, rtoldSpec, rsignedSpec, rescapeSpec, psC, twoV, evsC, e2, wb, u0, hX, b1, b2, b3, b4, b5, v3, t3]
      · have b1 : (b ≤ 47) = False := eq_false (by omega)
        have b2 : (48 ≤ b) = True := eq_true (by omega)
        have b3 : (b ≤ 59) = False := eq_false (by omega)
        have b4 : (60 ≤ b) = True := eq_true (by omega)
        have b5 : (b ≤ 63) = False := eq_false (by omega)
        have hF : ∀ q : Ps, signsF q b = told q ⟨3, 0, 0, b, [], q.it, []⟩ := fun q => by unfold signsF; rw [if_neg (by omega)]
        have hX := (hG ⟨2, u, pv, fn, ps, it, tx, bad⟩ rfl).trans (hF _)
        clear hG hF
        simp [rgoesaSpec, r05stepoSpec, rescapeoSpec, rsignedoSpec, rspoiltSpec, rtoldoSpec, Try.f67, r05stepSpec, pstepSpec, rtoldSpec, rsignedSpec, rescapeSpec, psC, twoV, evsC, e2, wb, u0, hX, b1, b2, b3, b4, b5, v3, t3]
end Fen
