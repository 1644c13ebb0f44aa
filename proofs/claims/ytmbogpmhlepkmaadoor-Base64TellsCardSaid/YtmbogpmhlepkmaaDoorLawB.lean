/- A part of the proof; no statement is proved here: BBdMa. -/
import Derived.Test.YtmbogpmhlepkmaaDoorLawA

set_option linter.unusedVariables false
set_option linter.unusedSimpArgs false

namespace Fen
open Go Go.Proofs

def lawTellsSpec : Spec := { pre := fun args => ∃ (s : List UInt8) (n : Int), args = [.c (.str s), .c (.int .i64 n)] ∧ (s.length : Int) ≤ 9223372036854775807, res := fun _ => .one (.val (.c (.bool true))) }
def G_lawTells : Specs := [(8, encoSpec), (9, rencoSpec), (10, sizeSpec), (11, rsizeSpec), (12, lworksSpec)]
@[simp] theorem G_lawTells_live : Specs.live G_lawTells = false := rfl
@[simp] theorem G_lawTells_8 : G_lawTells.find 8 = some encoSpec := rfl
@[simp] theorem G_lawTells_9 : G_lawTells.find 9 = some rencoSpec := rfl
@[simp] theorem G_lawTells_10 : G_lawTells.find 10 = some sizeSpec := rfl
@[simp] theorem G_lawTells_11 : G_lawTells.find 11 = some rsizeSpec := rfl
@[simp] theorem G_lawTells_12 : G_lawTells.find 12 = some lworksSpec := rfl
theorem G_lawTells_ok (gl : Gl) : SpecsOK Tryd.prog gl G_lawTells := .cons (enco_sound gl) (.cons (renco_sound gl) (.cons (size_sound gl) (.cons (rsize_sound gl) (.cons (lworks_sound gl) (.nil _ _)))))
set_option maxHeartbeats 8000000 in
set_option maxRecDepth 10000 in
theorem lawTells_sound (gl : Gl) : Sound Tryd.prog gl 3 lawTellsSpec := by
  refine sound_fn (N := Tryd.f3.ntmps) (rs := Tryd.f3.results.toList) mixed tok (G_lawTells_ok gl) Tryd.func3 rfl rfl rfl rfl rfl ?_ ?_ ?_
  · rintro args ⟨s0,n,rfl,hl⟩; simp [Tryd.f3]
  · rintro args ⟨s0,n,rfl,hl⟩; simp [lawTellsSpec, Tryd.f3]
  · rintro args ⟨s0,n,rfl,hl⟩ bs hgl hh hro
    have hE : Env.OK ⟨Tryd.prog, T, G_lawTells, bs⟩ := ⟨tok, by rw [hgl]; exact G_lawTells_ok gl⟩
    obtain ⟨m1, m2, m3⟩ := cut_of s0 300
    obtain ⟨s, hs⟩ : ∃ s, s0.take 300 = s := ⟨_, rfl⟩
    rw [hs] at m1 m2 m3
    have sl : s.length ≤ 300 := by rw [← hs]; simp; omega
    have iE := encIn (s := s) (by omega)
    have l2 : ((s.length : Int) ≤ s0.length) = True := eq_true m2
    simp at m1
    simp [lawTellsSpec, encoSpec, lworksSpec, rencoSpec, rsizeSpec, sizeSpec, Tryd.f3, encSpec, sizeSpec, m1, m3, l2, iE, worksIn]
end Fen
