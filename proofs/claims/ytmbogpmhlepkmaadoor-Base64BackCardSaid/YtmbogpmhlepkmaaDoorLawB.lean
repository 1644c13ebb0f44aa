/- A part of the proof; no statement is proved here: BBdMc. -/
import Derived.Test.YtmbogpmhlepkmaaDoorLawA

set_option linter.unusedVariables false
set_option linter.unusedSimpArgs false

namespace Fen
open Go Go.Proofs

def lawBackSpec : Spec := { pre := fun args => ∃ (s : List UInt8) (c : Int), args = [.c (.str s), .c (.int .u8 c)] ∧ (s.length : Int) ≤ 9223372036854775807 ∧ 0 ≤ c ∧ c < 256, res := fun _ => .one (.val (.c (.bool true))) }
def G_lawBack : Specs := [(12, lworksSpec), (8, encoSpec), (13, decoSpec), (15, trimoSpec), (10, sizeoSpec)]
@[simp] theorem G_lawBack_live : Specs.live G_lawBack = false := rfl
@[simp] theorem G_lawBack_12 : G_lawBack.find 12 = some lworksSpec := rfl
@[simp] theorem G_lawBack_8 : G_lawBack.find 8 = some encoSpec := rfl
@[simp] theorem G_lawBack_13 : G_lawBack.find 13 = some decoSpec := rfl
@[simp] theorem G_lawBack_15 : G_lawBack.find 15 = some trimoSpec := rfl
@[simp] theorem G_lawBack_10 : G_lawBack.find 10 = some sizeoSpec := rfl
theorem G_lawBack_ok (gl : Gl) : SpecsOK Tryd.prog gl G_lawBack := .cons (lworks_sound gl) (.cons (enco_sound gl) (.cons (deco_sound gl) (.cons (trimo_sound gl) (.cons (sizeo_sound gl) (.nil _ _)))))
set_option maxHeartbeats 16000000 in
set_option maxRecDepth 10000 in
theorem lawBack_sound (gl : Gl) : Sound Tryd.prog gl 5 lawBackSpec := by
  refine sound_fn (N := Tryd.f5.ntmps) (rs := Tryd.f5.results.toList) mixed tok (G_lawBack_ok gl) Tryd.func5 rfl rfl rfl rfl rfl ?_ ?_ ?_
  · rintro args ⟨s0,c,rfl,hl,hc0,hc1⟩; simp [Tryd.f5]
  · rintro args ⟨s0,c,rfl,hl,hc0,hc1⟩; simp [lawBackSpec, Tryd.f5]
  · rintro args ⟨s0,c,rfl,hl,hc0,hc1⟩ bs hgl hh hro
    have hE : Env.OK ⟨Tryd.prog, T, G_lawBack, bs⟩ := ⟨tok, by rw [hgl]; exact G_lawBack_ok gl⟩
    obtain ⟨m1, m2, m3⟩ := cut_of s0 300
    obtain ⟨s, hs⟩ : ∃ s, s0.take 300 = s := ⟨_, rfl⟩
    rw [hs] at m1 m2 m3
    have sl : s.length ≤ 300 := by rw [← hs]; simp; omega
    have l2 : ((s.length : Int) ≤ s0.length) = True := eq_true m2
    simp at m1
    obtain ⟨K, hK⟩ : ∃ K, min s.length (3 * c.toNat) = K := ⟨_, rfl⟩
    have kl : K ≤ s.length := by omega
    have wc : IntKind.i64.wrap c = c := wrap64 _ (by omega) (by omega)
    have wm : IntKind.i64.wrap (3 * c) = 3 * c := wrap64 _ (by omega) (by omega)
    have mk : (if 3 * c < (s.length : Int) then 3 * c else (s.length : Int)) = (K : Int) := by split <;> omega
    have kl2 : ((K : Int) ≤ s.length) = True := eq_true (by omega)
    have k3 : (K : Int).tmod 3 = ((K % 3 : Nat) : Int) := by rw [Int.tmod_eq_emod_of_nonneg (by omega)]; rfl
    obtain ⟨eT, xT⟩ := encO_of (s := s) (by omega)
    obtain ⟨dT, yT⟩ := decO_enc (s := s) (by omega)
    obtain ⟨dB, yB⟩ := decO_bare (s := s) (by omega)
    obtain ⟨e1, x1⟩ := encO_of (s := s.take K) (by simp; omega)
    obtain ⟨e2, x2⟩ := encO_of (s := s.drop K) (by simp; omega)
    have bT := bare_enc s
    have tl := encI_len s
    have bl := bareE_len s
    have fl1 := encI_len (s.take K)
    have fl2 := encI_len (s.drop K)
    have sp : K % 3 = 0 → encI s = encI (s.take K) ++ encI (s.drop K) := fun h => by
      have := enc_split (a := s.take K) (b := s.drop K) (by rw [List.length_take, Nat.min_eq_left kl]; exact h)
      rwa [List.take_append_drop] at this
    have sz : (((encI s).length : Nat) : Int) = sizeF s.length := by rw [sizeF_nat (by omega), tl]
    have i0 := encIn (s := s) (by omega)
    have i1 := encIn (s := s.take K) (by simp; omega)
    have i2 := encIn (s := s.drop K) (by simp; omega)
    have j0 := decIn (s := encI s) (by omega)
    have j1 := decIn (s := bareE s) (by omega)
    have t0 := trimIn (s := encI s) (by omega)
    have z0 := sizeIn (s.length : Int)
    simp at fl1 fl2
    generalize encI (s.take K) = F1 at *
    generalize encI (s.drop K) = F2 at *
    generalize encI s = T at *
    generalize bareE s = B at *
    have fl : F1.length + F2.length ≤ 9223372036854775807 := by omega
    simp [lawBackSpec, decoSpec, encoSpec, lworksSpec, sizeoSpec, trimoSpec, Tryd.f5, encSpec, decSpec, trimSpec, sizeSpec, m1, m3, l2, worksIn, wc, wm, mk, kl2, eT, xT, dT, yT, dB, yB, e1, x1, e2, x2, bT, i0, i1, i2, j0, j1, t0, z0, sz, k3, fl]
    by_cases h : K % 3 = 0
    · exact .inr (sp h)
    · left; omega
end Fen
