/- A part of the proof; no statement is proved here: SRefK, SRefL, SRefM. -/
import Derived.Test.YthmebgohfigfpaaRefJa
import Derived.Test.YthmebgohfigfpaaRefJb
import Derived.Test.YthmebgohfigfpaaRefJc
import Derived.Test.YthmebgohfigfpaaRefJd
import Derived.Test.YthmebgohfigfpaaRefJe
import Derived.Test.YthmebgohfigfpaaRefJf
import Derived.Test.YthmebgohfigfpaaRefJg
import Derived.Test.YthmebgohfigfpaaRefF
import Derived.Test.YthmebgohfigfpaaRefG

set_option linter.unusedVariables false
set_option linter.unusedSimpArgs false

namespace Fen
open Go Go.Proofs
def goesSt (s : Int) : Prop := s = 0 ∨ s = 1 ∨ s = 2 ∨ s = 3 ∨ s = 8 ∨ s = 4 ∨ s = 9 ∨ s = 5 ∨ s = 10
def GoesIn (a : List V) : Prop := ∃ (p : Ps) (b : Int), a = [.agg (psC p), .c (.int .u8 b)] ∧ psFit p ∧ goesSt p.s ∧ 32 ≤ b ∧ b < 127
def rgoesSpec : Spec := { pre := GoesIn, res := rgoesRes }
theorem rgoes_sound (gl : Gl) : Sound Try.prog gl 67 rgoesSpec := Sound.cases rfl (rgoesa_sound gl).1 fun args h => by
  obtain ⟨p, b, rfl, hp, hs, h0, h1⟩ := h
  rcases hs with h | h | h | h | h | h | h | h | h
  · exact ⟨_, rgoesa_sound gl, rfl, ⟨p, b, rfl, hp, .inl h, h0, h1⟩, rfl⟩
  · exact ⟨_, rgoesa_sound gl, rfl, ⟨p, b, rfl, hp, .inr (.inl h), h0, h1⟩, rfl⟩
  · exact ⟨_, rgoesa_sound gl, rfl, ⟨p, b, rfl, hp, .inr (.inr h), h0, h1⟩, rfl⟩
  · exact ⟨_, rgoesb_sound gl, rfl, ⟨p, b, rfl, hp, h, h0, h1⟩, rfl⟩
  · exact ⟨_, rgoesc_sound gl, rfl, ⟨p, b, rfl, hp, h, h0, h1⟩, rfl⟩
  · exact ⟨_, rgoesd_sound gl, rfl, ⟨p, b, rfl, hp, h, h0, h1⟩, rfl⟩
  · exact ⟨_, rgoese_sound gl, rfl, ⟨p, b, rfl, hp, h, h0, h1⟩, rfl⟩
  · exact ⟨_, rgoesf_sound gl, rfl, ⟨p, b, rfl, hp, h, h0, h1⟩, rfl⟩
  · exact ⟨_, rgoesg_sound gl, rfl, ⟨p, b, rfl, hp, h, h0, h1⟩, rfl⟩
end Fen

namespace Fen
open Go Go.Proofs

/-! ### the reference's within; one byte behind ESC; ends -/
def PrintsIn (a : List V) : Prop := rprintsSpec.pre a
def rprintsoSpec : Spec := { pre := PrintsIn, res := rprintsSpec.res }
theorem rprintso_sound (gl : Gl) : Sound Try.prog gl 63 rprintsoSpec := rprints_sound gl
def rwithinSpec : Spec := { pre := fun args => ∃ (p : Ps) (b : Int), args = [.agg (psC p), .c (.int .u8 b)] ∧ psFit p ∧ inText p.s ∧ 0 ≤ b ∧ b < 256, res := fun args => match args with
  | [.agg p, .c (.int _ b)] => twoV (withinF (psOf p) b)
  | _ => .many [] }
def G_rwithin : Specs := [(93, rtoldoSpec), (94, rspoiltSpec)]
@[simp] theorem G_rwithin_live : Specs.live G_rwithin = false := rfl
@[simp] theorem G_rwithin_93 : G_rwithin.find 93 = some rtoldoSpec := rfl
@[simp] theorem G_rwithin_94 : G_rwithin.find 94 = some rspoiltSpec := rfl
theorem G_rwithin_ok (gl : Gl) : SpecsOK Try.prog gl G_rwithin := .cons (rtoldo_sound gl) (.cons (rspoilt_sound gl) (.nil _ _))
set_option maxHeartbeats 8000000 in
set_option maxRecDepth 10000 in
theorem rwithin_sound (gl : Gl) : Sound Try.prog gl 66 rwithinSpec := by
  refine sound_fn (N := Try.f66.ntmps) (rs := Try.f66.results.toList) mixed tok (G_rwithin_ok gl) Try.func66 rfl rfl rfl rfl rfl ?_ ?_ ?_
  · rintro args ⟨⟨s,u,pv,fn,ps,it,tx,bad⟩,b,rfl,⟨⟨hu,hps⟩,hul,hit,htx⟩,hs,hb0,hb1⟩; simp [twoV, Try.f66]
  · rintro args ⟨⟨s,u,pv,fn,ps,it,tx,bad⟩,b,rfl,⟨⟨hu,hps⟩,hul,hit,htx⟩,hs,hb0,hb1⟩; simp [twoV, rwithinSpec, Try.f66]
  · rintro args ⟨⟨s,u,pv,fn,ps,it,tx,bad⟩,b,rfl,⟨⟨hu,hps⟩,hul,hit,htx⟩,hs,hb0,hb1⟩ bs hgl hh hro
    have hE : Env.OK ⟨Try.prog, T, G_rwithin, bs⟩ := ⟨tok, by rw [hgl]; exact G_rwithin_ok gl⟩
    simp only [rwithinSpec, twoV]
    simp only at hu hps hul hit htx hs
    have e2 : psOf [.int .i64 s, .sl u.length (ints .u8 u), .int .u8 pv, .int .u8 fn, .sl ps.length (parC ps), .str it, .str tx, .bool bad] = ⟨s, u, pv, fn, ps, it, tx, bad⟩ := psOf_C ⟨s, u, pv, fn, ps, it, tx, bad⟩
    have v5 : evOf [.int .i64 5, .int .i64 0, .int .u8 0, .int .u8 0, .sl 0 [], .str [], .str tx] = evOsc tx := rfl
    have t5 : ToldIn [.agg [.int .i64 s, .sl u.length (ints .u8 u), .int .u8 pv, .int .u8 fn, .sl ps.length (parC ps), .str it, .str tx, .bool bad], .agg [.int .i64 5, .int .i64 0, .int .u8 0, .int .u8 0, .sl 0 [], .str [], .str tx]] := ⟨⟨s, u, pv, fn, ps, it, tx, bad⟩, evOsc tx, rfl⟩
    have pz : parC [] = [] := rfl
    have iz : ints .u8 [] = [] := rfl
    by_cases h1 : s = 6 ∧ b = 7
    · obtain ⟨rfl, rfl⟩ := h1
      have hX : withinF ⟨6, u, pv, fn, ps, it, tx, bad⟩ 7 = told ⟨6, u, pv, fn, ps, it, tx, bad⟩ (evOsc tx) := by unfold withinF; rw [if_pos ⟨rfl, rfl⟩]
      simp [rwithinSpec, rspoiltSpec, rtoldoSpec, Try.f66, rtoldSpec, psC, twoV, e2, v5, t5, hX]
    have h1' : (s = 6 ∧ b = 7) = False := eq_false h1
    have hY : withinF ⟨s, u, pv, fn, ps, it, tx, bad⟩ b = if b < 32 ∨ b = 127 ∨ s = 13 ∨ bad = true then (⟨s, u, pv, fn, ps, it, tx, bad⟩, []) else if tx.length = 512 then (sspoil s, []) else (⟨s, u, pv, fn, ps, it, tx ++ [u8B b], bad⟩, []) := by
      unfold withinF; rw [if_neg h1]
    have h6 : s = 6 → (b = 7) = False := fun h => eq_false (fun q => h1 ⟨h, q⟩)
    by_cases h2 : b < 32 ∨ b = 127 ∨ s = 13 ∨ bad = true
    · rw [if_pos h2] at hY
      simp [rwithinSpec, rspoiltSpec, rtoldoSpec, Try.f66, psC, twoV, e2, hY, h1', evsC]
      intro _ q1 q2 q3 q4
      exfalso
      rcases h2 with h | h | h | h
      · omega
      · exact q2 h
      · exact q3 h
      · rw [q4] at h; cases h
    · rw [if_neg h2] at hY
      have k1 : (b < 32) = False := eq_false (by omega)
      have k2 : (b = 127) = False := eq_false (by omega)
      have k3 : (s = 13) = False := eq_false (by omega)
      have k4 : bad = false := by cases bad <;> simp at h2 ⊢
      subst k4
      have k5 : (b = 7) = False := eq_false (by omega)
      by_cases h3 : tx.length = 512
      · have h3' : ((tx.length : Int) = 512) = True := eq_true (by omega)
        rw [if_pos h3] at hY
        simp [rwithinSpec, rspoiltSpec, rtoldoSpec, Try.f66, psC, twoV, e2, hY, k1, k2, k3, k5, h3', evsC, sspoil, pz, iz]
      · have h3' : ((tx.length : Int) = 512) = False := eq_false (by omega)
        rw [if_neg h3] at hY
        simp [rwithinSpec, rspoiltSpec, rtoldoSpec, Try.f66, psC, twoV, e2, hY, k1, k2, k3, k5, h3', evsC]
        exact ⟨by omega, rfl⟩
end Fen

namespace Fen
open Go Go.Proofs

/-! ### one byte behind ESC; ends -/
def One1In (a : List V) : Prop := ∃ b : Int, a = [.agg (psC (sbegin 1)), .c (.int .u8 b)] ∧ 0 ≤ b ∧ b < 256
def rone1Spec : Spec := { pre := One1In, res := fun args => match args with
  | [_, .c (.int _ b)] => twoV (esc1F b)
  | _ => .many [] }
def G_rone1 : Specs := [(64, rbeginSpec), (58, rhasoSpec), (63, rprintsoSpec), (67, rgoesSpec)]
@[simp] theorem G_rone1_live : Specs.live G_rone1 = false := rfl
@[simp] theorem G_rone1_64 : G_rone1.find 64 = some rbeginSpec := rfl
@[simp] theorem G_rone1_58 : G_rone1.find 58 = some rhasoSpec := rfl
@[simp] theorem G_rone1_63 : G_rone1.find 63 = some rprintsoSpec := rfl
@[simp] theorem G_rone1_67 : G_rone1.find 67 = some rgoesSpec := rfl
theorem G_rone1_ok (gl : Gl) : SpecsOK Try.prog gl G_rone1 := .cons (rbegin_sound gl) (.cons (rhaso_sound gl) (.cons (rprintso_sound gl) (.cons (rgoes_sound gl) (.nil _ _))))
set_option maxHeartbeats 8000000 in
set_option maxRecDepth 10000 in
theorem rone1_sound (gl : Gl) : Sound Try.prog gl 35 rone1Spec := by
  refine sound_fn (N := Try.f35.ntmps) (rs := Try.f35.results.toList) mixed tok (G_rone1_ok gl) Try.func35 rfl rfl rfl rfl rfl ?_ ?_ ?_
  · rintro args ⟨b,rfl,hb0,hb1⟩; simp [twoV, Try.f35]
  · rintro args ⟨b,rfl,hb0,hb1⟩; simp [twoV, rone1Spec, Try.f35]
  · rintro args ⟨b,rfl,hb0,hb1⟩ bs hgl hh hro
    have hE : Env.OK ⟨Try.prog, T, G_rone1, bs⟩ := ⟨tok, by rw [hgl]; exact G_rone1_ok gl⟩
    simp only [rone1Spec, twoV]
    have wb : IntKind.i64.wrap b = b := wrap64 _ (by omega) (by omega)
    have k1 : hasB 1 [.int .i64 6, .int .i64 11, .int .i64 13] = false := rfl
    have k2 : hasB 1 [.int .i64 7, .int .i64 12, .int .i64 14] = false := rfl
    have i1 := has_in 1 [6, 11, 13] rfl rfl (by decide)
    have i2 := has_in 1 [7, 12, 14] rfl rfl (by decide)
    simp [ints] at i1 i2
    have e0 : psOf (psC (sbegin 0)) = sbegin 0 := rfl
    have e1 : psOf [.int .i64 1, .sl 0 [], .int .u8 0, .int .u8 0, .sl 0 [], .str [], .str [], .bool false] = sbegin 1 := rfl
    have pz : parC [] = [] := rfl
    have iz : ints .u8 [] = [] := rfl
    have fit1 : psFit (sbegin 1) := ⟨⟨fun x hx => by simp [sbegin] at hx, by simp [sbegin, SubsOK]⟩, by simp [sbegin], by simp [sbegin], by simp [sbegin]⟩
    by_cases c1 : b = 24
    · subst c1
      simp [rone1Spec, rbeginSpec, rgoesSpec, rhasoSpec, rprintsoSpec, Try.f35, rhasSpec, psC, evsC, twoV, esc1F, sbegin, pz, iz, k1, k2, i1, i2]
    have c1' : (b = 24) = False := eq_false c1
    by_cases c2 : b = 26
    · subst c2
      simp [rone1Spec, rbeginSpec, rgoesSpec, rhasoSpec, rprintsoSpec, Try.f35, rhasSpec, psC, evsC, twoV, esc1F, sbegin, pz, iz, k1, k2, i1, i2]
    have c2' : (b = 26) = False := eq_false c2
    by_cases c3 : b = 27
    · subst c3
      simp [rone1Spec, rbeginSpec, rgoesSpec, rhasoSpec, rprintsoSpec, Try.f35, rhasSpec, psC, evsC, twoV, esc1F, sbegin, pz, iz, k1, k2, i1, i2]
    have c3' : (b = 27) = False := eq_false c3
    by_cases c4 : 128 ≤ b
    · have c4' : (128 ≤ b) = True := eq_true c4
      have hX : esc1F b = printsF [] b := by unfold esc1F; rw [if_neg (by omega), if_neg c3, if_pos c4]
      have iP : PrintsIn [.agg [.int .i64 0, .sl 0 [], .int .u8 0, .int .u8 0, .sl 0 [], .str [], .str [], .bool false], .c (.int .u8 b)] := ⟨sbegin 0, b, rfl, fun x hx => by simp [sbegin] at hx, by simp [sbegin], hb0, hb1⟩
      have e3 : (psOf [.int .i64 0, .sl 0 [], .int .u8 0, .int .u8 0, .sl 0 [], .str [], .str [], .bool false]).u = [] := rfl
      simp [rone1Spec, rbeginSpec, rgoesSpec, rhasoSpec, rprintsoSpec, Try.f35, rhasSpec, rprintsSpec, psC, twoV, hX, sbegin, pz, iz, k1, k2, i1, i2, c1', c2', c3', c4', iP, e3]
    have c4' : (128 ≤ b) = False := eq_false c4
    by_cases c5 : b < 32
    · have c5' : (b < 32) = True := eq_true c5
      have hX : esc1F b = (sbegin 1, [evCode 2 b]) := by unfold esc1F; rw [if_neg (by omega), if_neg c3, if_neg c4, if_pos c5]
      simp [rone1Spec, rbeginSpec, rgoesSpec, rhasoSpec, rprintsoSpec, Try.f35, rhasSpec, psC, evsC, evC, evCode, twoV, hX, sbegin, pz, iz, k1, k2, i1, i2, c1', c2', c3', c4', c5', wb]
    have c5' : (b < 32) = False := eq_false c5
    by_cases c6 : b = 127
    · subst c6
      simp [rone1Spec, rbeginSpec, rgoesSpec, rhasoSpec, rprintsoSpec, Try.f35, rhasSpec, psC, evsC, twoV, esc1F, sbegin, pz, iz, k1, k2, i1, i2]
    · have c6' : (b = 127) = False := eq_false c6
      have hX : esc1F b = escapeF b := by unfold esc1F; rw [if_neg (by omega), if_neg c3, if_neg c4, if_neg c5, if_neg c6]
      have hG : goes6 (sbegin 1) b = escapeF b := by unfold goes6; rw [if_neg (show ¬ (sbegin 1).s = 0 by decide), if_pos (show (sbegin 1).s = 1 from rfl)]
      have iG : GoesIn [.agg [.int .i64 1, .sl 0 [], .int .u8 0, .int .u8 0, .sl 0 [], .str [], .str [], .bool false], .c (.int .u8 b)] := ⟨sbegin 1, b, rfl, fit1, .inr (.inl rfl), by omega, by omega⟩
      have e4 : goes6 (psOf [.int .i64 1, .sl 0 [], .int .u8 0, .int .u8 0, .sl 0 [], .str [], .str [], .bool false]) b = escapeF b := hG
      simp [rone1Spec, rbeginSpec, rgoesSpec, rhasoSpec, rprintsoSpec, Try.f35, rhasSpec, rgoesRes, psC, twoV, hX, sbegin, pz, iz, k1, k2, i1, i2, c1', c2', c3', c4', c5', c6', iG, e4]
def rendsSpec : Spec := { pre := fun args => ∃ (p : Ps) (b : Int), args = [.agg (psC p), .c (.int .u8 b)] ∧ atEnd p.s ∧ 0 ≤ b ∧ b < 256, res := fun args => match args with
  | [.agg p, .c (.int _ b)] => twoV (endsF (psOf p) b)
  | _ => .many [] }
def G_rends : Specs := [(64, rbeginSpec), (35, rone1Spec), (93, rtoldoSpec)]
@[simp] theorem G_rends_live : Specs.live G_rends = false := rfl
@[simp] theorem G_rends_64 : G_rends.find 64 = some rbeginSpec := rfl
@[simp] theorem G_rends_35 : G_rends.find 35 = some rone1Spec := rfl
@[simp] theorem G_rends_93 : G_rends.find 93 = some rtoldoSpec := rfl
theorem G_rends_ok (gl : Gl) : SpecsOK Try.prog gl G_rends := .cons (rbegin_sound gl) (.cons (rone1_sound gl) (.cons (rtoldo_sound gl) (.nil _ _)))
set_option maxHeartbeats 8000000 in
set_option maxRecDepth 10000 in
theorem rends_sound (gl : Gl) : Sound Try.prog gl 65 rendsSpec := by
  refine sound_fn (N := Try.f65.ntmps) (rs := Try.f65.results.toList) mixed tok (G_rends_ok gl) Try.func65 rfl rfl rfl rfl rfl ?_ ?_ ?_
  · rintro args ⟨⟨s,u,pv,fn,ps,it,tx,bad⟩,b,rfl,hs,hb0,hb1⟩; simp [twoV, Try.f65]
  · rintro args ⟨⟨s,u,pv,fn,ps,it,tx,bad⟩,b,rfl,hs,hb0,hb1⟩; simp [twoV, rendsSpec, Try.f65]
  · rintro args ⟨⟨s,u,pv,fn,ps,it,tx,bad⟩,b,rfl,hs,hb0,hb1⟩ bs hgl hh hro
    have hE : Env.OK ⟨Try.prog, T, G_rends, bs⟩ := ⟨tok, by rw [hgl]; exact G_rends_ok gl⟩
    simp only [rendsSpec, twoV]
    simp only at hs
    have e2 : psOf [.int .i64 s, .sl u.length (ints .u8 u), .int .u8 pv, .int .u8 fn, .sl ps.length (parC ps), .str it, .str tx, .bool bad] = ⟨s, u, pv, fn, ps, it, tx, bad⟩ := psOf_C ⟨s, u, pv, fn, ps, it, tx, bad⟩
    have pz : parC [] = [] := rfl
    have iz : ints .u8 [] = [] := rfl
    by_cases c1 : b = 92
    · subst c1
      have v5 : evOf [.int .i64 5, .int .i64 0, .int .u8 0, .int .u8 0, .sl 0 [], .str [], .str tx] = evOsc tx := rfl
      have v6 : evOf [.int .i64 6, .int .i64 0, .int .u8 pv, .int .u8 fn, .sl ps.length (parC ps), .str it, .str tx] = ⟨6, 0, pv, fn, ps, it, tx⟩ := evOf_C ⟨6, 0, pv, fn, ps, it, tx⟩
      have t5 : ToldIn [.agg [.int .i64 s, .sl u.length (ints .u8 u), .int .u8 pv, .int .u8 fn, .sl ps.length (parC ps), .str it, .str tx, .bool bad], .agg [.int .i64 5, .int .i64 0, .int .u8 0, .int .u8 0, .sl 0 [], .str [], .str tx]] := ⟨⟨s, u, pv, fn, ps, it, tx, bad⟩, evOsc tx, rfl⟩
      have t6 : ToldIn [.agg [.int .i64 s, .sl u.length (ints .u8 u), .int .u8 pv, .int .u8 fn, .sl ps.length (parC ps), .str it, .str tx, .bool bad], .agg [.int .i64 6, .int .i64 0, .int .u8 pv, .int .u8 fn, .sl ps.length (parC ps), .str it, .str tx]] := ⟨⟨s, u, pv, fn, ps, it, tx, bad⟩, ⟨6, 0, pv, fn, ps, it, tx⟩, rfl⟩
      rcases hs with rfl | rfl | rfl
      · have hX : endsF ⟨7, u, pv, fn, ps, it, tx, bad⟩ 92 = told ⟨7, u, pv, fn, ps, it, tx, bad⟩ (evOsc tx) := rfl
        simp [rendsSpec, rbeginSpec, rone1Spec, rtoldoSpec, Try.f65, rtoldSpec, psC, twoV, e2, hX, v5, t5]
      · have hX : endsF ⟨12, u, pv, fn, ps, it, tx, bad⟩ 92 = told ⟨12, u, pv, fn, ps, it, tx, bad⟩ ⟨6, 0, pv, fn, ps, it, tx⟩ := rfl
        simp [rendsSpec, rbeginSpec, rone1Spec, rtoldoSpec, Try.f65, rtoldSpec, psC, twoV, e2, hX, v6, t6]
      · have hX : endsF ⟨14, u, pv, fn, ps, it, tx, bad⟩ 92 = (sbegin 0, []) := rfl
        simp [rendsSpec, rbeginSpec, rone1Spec, rtoldoSpec, Try.f65, psC, twoV, e2, hX, evsC, sbegin, pz, iz]
    · have c1' : (b = 92) = False := eq_false c1
      have hX : endsF ⟨s, u, pv, fn, ps, it, tx, bad⟩ b = esc1F b := by unfold endsF; rw [if_pos c1]
      have i1 : One1In [.agg [.int .i64 1, .sl 0 [], .int .u8 0, .int .u8 0, .sl 0 [], .str [], .str [], .bool false], .c (.int .u8 b)] := ⟨b, rfl, hb0, hb1⟩
      simp [rendsSpec, rbeginSpec, rone1Spec, rtoldoSpec, Try.f65, psC, twoV, e2, hX, c1', sbegin, pz, iz, i1]
end Fen
