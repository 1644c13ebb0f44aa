/- A part of the proof; no statement is proved here: SRefN. -/
import Derived.Test.YthmebgohfigfpaaRefK

set_option linter.unusedVariables false
set_option linter.unusedSimpArgs false

namespace Fen
open Go Go.Proofs

/-! ### the reference's one (written by wip/genone.py) -/
def EndsIn (a : List V) : Prop := rendsSpec.pre a
def rendsoSpec : Spec := { pre := EndsIn, res := rendsSpec.res }
theorem rendso_sound (gl : Gl) : Sound Try.prog gl 65 rendsoSpec := rends_sound gl
def WithinIn (a : List V) : Prop := rwithinSpec.pre a
def rwithinoSpec : Spec := { pre := WithinIn, res := rwithinSpec.res }
theorem rwithino_sound (gl : Gl) : Sound Try.prog gl 66 rwithinoSpec := rwithin_sound gl
def OneIn (a : List V) : Prop := ∃ (p : Ps) (b : Int), a = [.agg (psC p), .c (.int .u8 b)] ∧ psFit p ∧ 0 ≤ p.s ∧ p.s < 15 ∧ 0 ≤ b ∧ b < 256
def roneSpec : Spec := { pre := OneIn, res := fun args => match args with
  | [.agg p, .c (.int _ b)] => twoV (one6 (psOf p) b)
  | _ => .many [] }
def G_rone : Specs := [(64, rbeginSpec), (58, rhasoSpec), (63, rprintsoSpec), (67, rgoesSpec), (65, rendsoSpec), (66, rwithinoSpec)]
@[simp] theorem G_rone_live : Specs.live G_rone = false := rfl
@[simp] theorem G_rone_64 : G_rone.find 64 = some rbeginSpec := rfl
@[simp] theorem G_rone_58 : G_rone.find 58 = some rhasoSpec := rfl
@[simp] theorem G_rone_63 : G_rone.find 63 = some rprintsoSpec := rfl
@[simp] theorem G_rone_67 : G_rone.find 67 = some rgoesSpec := rfl
@[simp] theorem G_rone_65 : G_rone.find 65 = some rendsoSpec := rfl
@[simp] theorem G_rone_66 : G_rone.find 66 = some rwithinoSpec := rfl
theorem G_rone_ok (gl : Gl) : SpecsOK Try.prog gl G_rone := .cons (rbegin_sound gl) (.cons (rhaso_sound gl) (.cons (rprintso_sound gl) (.cons (rgoes_sound gl) (.cons (rendso_sound gl) (.cons (rwithino_sound gl) (.nil _ _))))))
set_option maxHeartbeats 16000000 in
set_option maxRecDepth 10000 in
theorem rone_sound (gl : Gl) : Sound Try.prog gl 35 roneSpec := by
  refine sound_fn (N := Try.f35.ntmps) (rs := Try.f35.results.toList) mixed tok (G_rone_ok gl) Try.func35 rfl rfl rfl rfl rfl ?_ ?_ ?_
  · rintro args ⟨⟨s,u,pv,fn,ps,it,tx,bad⟩,b,rfl,hfit,hs0,hs1,hb0,hb1⟩; simp [twoV, Try.f35]
  · rintro args ⟨⟨s,u,pv,fn,ps,it,tx,bad⟩,b,rfl,hfit,hs0,hs1,hb0,hb1⟩; simp [twoV, roneSpec, Try.f35]
  · rintro args ⟨⟨s,u,pv,fn,ps,it,tx,bad⟩,b,rfl,hfit,hs0,hs1,hb0,hb1⟩ bs hgl hh hro
    have hE : Env.OK ⟨Try.prog, T, G_rone, bs⟩ := ⟨tok, by rw [hgl]; exact G_rone_ok gl⟩
    simp only [roneSpec, twoV]
    have hfit' := hfit
    obtain ⟨⟨hu, hps⟩, hul, hit, htx⟩ := hfit'
    simp only at hu hps hul hit htx hs0 hs1
    have e2 : ∀ s, psOf [.int .i64 s, .sl u.length (ints .u8 u), .int .u8 pv, .int .u8 fn, .sl ps.length (parC ps), .str it, .str tx, .bool bad] = ⟨s, u, pv, fn, ps, it, tx, bad⟩ := fun s => psOf_C ⟨s, u, pv, fn, ps, it, tx, bad⟩
    have wb : IntKind.i64.wrap b = b := wrap64 _ (by omega) (by omega)
    have ws : IntKind.i64.wrap (s + 1) = s + 1 := wrap64 _ (by omega) (by omega)
    have pz : parC [] = [] := rfl
    have iz : ints .u8 [] = [] := rfl
    have kT : hasB s [.int .i64 6, .int .i64 11, .int .i64 13] = decide (inText s) := by unfold hasB; rw [decide_eq_decide]; simp [nums, toI, inText]
    have kE : hasB s [.int .i64 7, .int .i64 12, .int .i64 14] = decide (atEnd s) := by unfold hasB; rw [decide_eq_decide]; simp [nums, toI, atEnd]
    have i1 := has_in s [6, 11, 13] rfl rfl (by decide)
    have i2 := has_in s [7, 12, 14] rfl rfl (by decide)
    simp [ints] at i1 i2
    have iP : PrintsIn [.agg [.int .i64 s, .sl u.length (ints .u8 u), .int .u8 pv, .int .u8 fn, .sl ps.length (parC ps), .str it, .str tx, .bool bad], .c (.int .u8 b)] := ⟨⟨s, u, pv, fn, ps, it, tx, bad⟩, b, rfl, hu, hul, hb0, hb1⟩
    have iP0 : PrintsIn [.agg [.int .i64 0, .sl 0 [], .int .u8 0, .int .u8 0, .sl 0 [], .str [], .str [], .bool false], .c (.int .u8 b)] := ⟨sbegin 0, b, rfl, fun x hx => by simp [sbegin] at hx, by simp [sbegin], hb0, hb1⟩
    have e3 : (psOf [.int .i64 0, .sl 0 [], .int .u8 0, .int .u8 0, .sl 0 [], .str [], .str [], .bool false]).u = [] := rfl
    by_cases c0 : s = 0 ∧ (u ≠ [] ∨ 128 ≤ b)
    · obtain ⟨rfl, h⟩ := c0
      have hX : one6 ⟨0, u, pv, fn, ps, it, tx, bad⟩ b = printsF u b := by unfold one6; rw [if_pos ⟨rfl, h⟩]
      by_cases u0 : u = []
      · have h128 : (128 ≤ b) = True := eq_true (h.resolve_left (fun q => q u0))
        have ul : (0 < u.length) = False := eq_false (by rw [u0]; simp)
        simp [roneSpec, rbeginSpec, rendsoSpec, rgoesSpec, rhasoSpec, rprintsoSpec, rwithinoSpec, Try.f35, rprintsSpec, psC, twoV, e2, iP, hX, ul, h128]
      · have ul : (0 < u.length) = True := eq_true (List.length_pos_iff.2 u0)
        simp [roneSpec, rbeginSpec, rendsoSpec, rgoesSpec, rhasoSpec, rprintsoSpec, rwithinoSpec, Try.f35, rprintsSpec, psC, twoV, e2, iP, hX, ul]
    have hO : one6 ⟨s, u, pv, fn, ps, it, tx, bad⟩ b = if b = 24 ∨ b = 26 then (sbegin 0, []) else if b = 27 then (if inText s then (⟨s + 1, u, pv, fn, ps, it, tx, bad⟩, []) else (sbegin 1, [])) else if atEnd s then endsF ⟨s, u, pv, fn, ps, it, tx, bad⟩ b else if inText s then withinF ⟨s, u, pv, fn, ps, it, tx, bad⟩ b else if 128 ≤ b then printsF [] b else if b < 32 then (⟨s, u, pv, fn, ps, it, tx, bad⟩, if s ≤ 5 then [evCode 2 b] else []) else if b = 127 then (⟨s, u, pv, fn, ps, it, tx, bad⟩, []) else goes6 ⟨s, u, pv, fn, ps, it, tx, bad⟩ b := by
      unfold one6; rw [if_neg c0]
    have hz : s = 0 → u = [] ∧ ¬ 128 ≤ b := fun h => ⟨Classical.byContradiction fun q => c0 ⟨h, .inl q⟩, fun q => c0 ⟨h, .inr q⟩⟩
    clear c0
    by_cases hs : s = 0
    · obtain ⟨u0, c4⟩ := hz hs
      have z0 : (s = 0) = True := eq_true hs
      have z1 : (0 < u.length) = False := eq_false (by rw [u0]; simp)
      have z2 : (128 ≤ b) = False := eq_false c4
      have nT : ¬ inText s := by unfold inText; omega
      have nE : ¬ atEnd s := by unfold atEnd; omega
      clear hz
      by_cases c1 : b = 24
      · rw [if_pos (.inl c1)] at hO
        subst c1
        simp [roneSpec, rbeginSpec, rendsoSpec, rgoesSpec, rhasoSpec, rprintsoSpec, rwithinoSpec, Try.f35, rhasSpec, rprintsSpec, rendsSpec, rwithinSpec, rgoesRes, psC, twoV, e2, wb, ws, kT, kE, i1, i2, hO, z0, z1, z2, evsC, sbegin, pz, iz]
      by_cases c2 : b = 26
      · rw [if_pos (.inr c2)] at hO
        subst c2
        simp [roneSpec, rbeginSpec, rendsoSpec, rgoesSpec, rhasoSpec, rprintsoSpec, rwithinoSpec, Try.f35, rhasSpec, rprintsSpec, rendsSpec, rwithinSpec, rgoesRes, psC, twoV, e2, wb, ws, kT, kE, i1, i2, hO, z0, z1, z2, evsC, sbegin, pz, iz]
      rw [if_neg (by omega)] at hO
      have c1' : (b = 24) = False := eq_false c1
      have c2' : (b = 26) = False := eq_false c2
      by_cases c3 : b = 27
      · rw [if_pos c3] at hO
        subst c3
        rw [if_neg nT] at hO
        simp [roneSpec, rbeginSpec, rendsoSpec, rgoesSpec, rhasoSpec, rprintsoSpec, rwithinoSpec, Try.f35, rhasSpec, rprintsSpec, rendsSpec, rwithinSpec, rgoesRes, psC, twoV, e2, wb, ws, kT, kE, i1, i2, hO, z0, z1, z2, evsC, nT, sbegin, pz, iz]
      rw [if_neg c3] at hO
      have c3' : (b = 27) = False := eq_false c3
      rw [if_neg nE, if_neg nT, if_neg c4] at hO
      have c4' : (128 ≤ b) = False := eq_false c4
      by_cases c5 : b < 32
      · rw [if_pos c5] at hO
        rw [if_pos (by omega)] at hO
        simp [roneSpec, rbeginSpec, rendsoSpec, rgoesSpec, rhasoSpec, rprintsoSpec, rwithinoSpec, Try.f35, rhasSpec, rprintsSpec, rendsSpec, rwithinSpec, rgoesRes, psC, twoV, e2, wb, ws, kT, kE, i1, i2, hO, z0, z1, z2, c1', c2', c3', c4', nE, nT, c5, evsC, evC, evCode, pz]
        omega
      rw [if_neg c5] at hO
      have c5' : (b < 32) = False := eq_false c5
      by_cases c6 : b = 127
      · rw [if_pos c6] at hO
        subst c6
        simp [roneSpec, rbeginSpec, rendsoSpec, rgoesSpec, rhasoSpec, rprintsoSpec, rwithinoSpec, Try.f35, rhasSpec, rprintsSpec, rendsSpec, rwithinSpec, rgoesRes, psC, twoV, e2, wb, ws, kT, kE, i1, i2, hO, z0, z1, z2, nE, nT, evsC]
      rw [if_neg c6] at hO
      have c6' : (b = 127) = False := eq_false c6
      have hg : goesSt s := by unfold goesSt; unfold inText atEnd at *; omega
      have iG : GoesIn [.agg [.int .i64 s, .sl u.length (ints .u8 u), .int .u8 pv, .int .u8 fn, .sl ps.length (parC ps), .str it, .str tx, .bool bad], .c (.int .u8 b)] := ⟨⟨s, u, pv, fn, ps, it, tx, bad⟩, b, rfl, hfit, hg, by omega, by omega⟩
      simp [roneSpec, rbeginSpec, rendsoSpec, rgoesSpec, rhasoSpec, rprintsoSpec, rwithinoSpec, Try.f35, rhasSpec, rprintsSpec, rendsSpec, rwithinSpec, rgoesRes, psC, twoV, e2, wb, ws, kT, kE, i1, i2, hO, z0, z1, z2, c1', c2', c3', c4', nE, nT, c5', c6', iG]
    · have z0 : (s = 0) = False := eq_false hs
      clear hz
      by_cases c1 : b = 24
      · rw [if_pos (.inl c1)] at hO
        subst c1
        simp [roneSpec, rbeginSpec, rendsoSpec, rgoesSpec, rhasoSpec, rprintsoSpec, rwithinoSpec, Try.f35, rhasSpec, rprintsSpec, rendsSpec, rwithinSpec, rgoesRes, psC, twoV, e2, wb, ws, kT, kE, i1, i2, hO, z0, evsC, sbegin, pz, iz]
      by_cases c2 : b = 26
      · rw [if_pos (.inr c2)] at hO
        subst c2
        simp [roneSpec, rbeginSpec, rendsoSpec, rgoesSpec, rhasoSpec, rprintsoSpec, rwithinoSpec, Try.f35, rhasSpec, rprintsSpec, rendsSpec, rwithinSpec, rgoesRes, psC, twoV, e2, wb, ws, kT, kE, i1, i2, hO, z0, evsC, sbegin, pz, iz]
      rw [if_neg (by omega)] at hO
      have c1' : (b = 24) = False := eq_false c1
      have c2' : (b = 26) = False := eq_false c2
      by_cases c3 : b = 27
      · rw [if_pos c3] at hO
        subst c3
        by_cases ht : inText s
        · rw [if_pos ht] at hO
          simp [roneSpec, rbeginSpec, rendsoSpec, rgoesSpec, rhasoSpec, rprintsoSpec, rwithinoSpec, Try.f35, rhasSpec, rprintsSpec, rendsSpec, rwithinSpec, rgoesRes, psC, twoV, e2, wb, ws, kT, kE, i1, i2, hO, z0, evsC, ht]
        · rw [if_neg ht] at hO
          simp [roneSpec, rbeginSpec, rendsoSpec, rgoesSpec, rhasoSpec, rprintsoSpec, rwithinoSpec, Try.f35, rhasSpec, rprintsSpec, rendsSpec, rwithinSpec, rgoesRes, psC, twoV, e2, wb, ws, kT, kE, i1, i2, hO, z0, evsC, ht, sbegin, pz, iz]
      rw [if_neg c3] at hO
      have c3' : (b = 27) = False := eq_false c3
      by_cases he : atEnd s
      · rw [if_pos he] at hO
        have iE : EndsIn [.agg [.int .i64 s, .sl u.length (ints .u8 u), .int .u8 pv, .int .u8 fn, .sl ps.length (parC ps), .str it, .str tx, .bool bad], .c (.int .u8 b)] := ⟨⟨s, u, pv, fn, ps, it, tx, bad⟩, b, rfl, he, hb0, hb1⟩
        simp [roneSpec, rbeginSpec, rendsoSpec, rgoesSpec, rhasoSpec, rprintsoSpec, rwithinoSpec, Try.f35, rhasSpec, rprintsSpec, rendsSpec, rwithinSpec, rgoesRes, psC, twoV, e2, wb, ws, kT, kE, i1, i2, hO, z0, c1', c2', c3', he, iE]
      rw [if_neg he] at hO
      by_cases ht : inText s
      · rw [if_pos ht] at hO
        have iW : WithinIn [.agg [.int .i64 s, .sl u.length (ints .u8 u), .int .u8 pv, .int .u8 fn, .sl ps.length (parC ps), .str it, .str tx, .bool bad], .c (.int .u8 b)] := ⟨⟨s, u, pv, fn, ps, it, tx, bad⟩, b, rfl, hfit, ht, hb0, hb1⟩
        simp [roneSpec, rbeginSpec, rendsoSpec, rgoesSpec, rhasoSpec, rprintsoSpec, rwithinoSpec, Try.f35, rhasSpec, rprintsSpec, rendsSpec, rwithinSpec, rgoesRes, psC, twoV, e2, wb, ws, kT, kE, i1, i2, hO, z0, c1', c2', c3', he, ht, iW]
      rw [if_neg ht] at hO
      by_cases c4 : 128 ≤ b
      · rw [if_pos c4] at hO
        simp [roneSpec, rbeginSpec, rendsoSpec, rgoesSpec, rhasoSpec, rprintsoSpec, rwithinoSpec, Try.f35, rhasSpec, rprintsSpec, rendsSpec, rwithinSpec, rgoesRes, psC, twoV, e2, wb, ws, kT, kE, i1, i2, hO, z0, c1', c2', c3', he, ht, c4, iP0, e3, sbegin, pz, iz]
      rw [if_neg c4] at hO
      have c4' : (128 ≤ b) = False := eq_false c4
      by_cases c5 : b < 32
      · rw [if_pos c5] at hO
        by_cases s5 : s ≤ 5
        · rw [if_pos s5] at hO
          simp [roneSpec, rbeginSpec, rendsoSpec, rgoesSpec, rhasoSpec, rprintsoSpec, rwithinoSpec, Try.f35, rhasSpec, rprintsSpec, rendsSpec, rwithinSpec, rgoesRes, psC, twoV, e2, wb, ws, kT, kE, i1, i2, hO, z0, c1', c2', c3', c4', he, ht, c5, s5, evsC, evC, evCode, pz]
        · rw [if_neg s5] at hO
          have s5' : (s ≤ 5) = False := eq_false s5
          simp [roneSpec, rbeginSpec, rendsoSpec, rgoesSpec, rhasoSpec, rprintsoSpec, rwithinoSpec, Try.f35, rhasSpec, rprintsSpec, rendsSpec, rwithinSpec, rgoesRes, psC, twoV, e2, wb, ws, kT, kE, i1, i2, hO, z0, c1', c2', c3', c4', he, ht, c5, s5', evsC]
      rw [if_neg c5] at hO
      have c5' : (b < 32) = False := eq_false c5
      by_cases c6 : b = 127
      · rw [if_pos c6] at hO
        subst c6
        simp [roneSpec, rbeginSpec, rendsoSpec, rgoesSpec, rhasoSpec, rprintsoSpec, rwithinoSpec, Try.f35, rhasSpec, rprintsSpec, rendsSpec, rwithinSpec, rgoesRes, psC, twoV, e2, wb, ws, kT, kE, i1, i2, hO, z0, he, ht, evsC]
      rw [if_neg c6] at hO
      have c6' : (b = 127) = False := eq_false c6
      have hg : goesSt s := by unfold goesSt; unfold inText atEnd at *; omega
      have iG : GoesIn [.agg [.int .i64 s, .sl u.length (ints .u8 u), .int .u8 pv, .int .u8 fn, .sl ps.length (parC ps), .str it, .str tx, .bool bad], .c (.int .u8 b)] := ⟨⟨s, u, pv, fn, ps, it, tx, bad⟩, b, rfl, hfit, hg, by omega, by omega⟩
      simp [roneSpec, rbeginSpec, rendsoSpec, rgoesSpec, rhasoSpec, rprintsoSpec, rwithinoSpec, Try.f35, rhasSpec, rprintsSpec, rendsSpec, rwithinSpec, rgoesRes, psC, twoV, e2, wb, ws, kT, kE, i1, i2, hO, z0, c1', c2', c3', c4', he, ht, c5', c6', iG]
end Fen
