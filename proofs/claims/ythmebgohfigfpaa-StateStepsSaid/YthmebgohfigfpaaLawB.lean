/- A part of the proof; no statement is proved here: SLawFa, SLawG, STypV. -/
import Derived.Test.YthmebgohfigfpaaLawA
import Derived.Test.YthmebgohfigfpaaRefP
import Derived.Test.YthmebgohfigfpaaRefA

set_option linter.unusedVariables false
set_option linter.unusedSimpArgs false

namespace Fen
open Go Go.Proofs

theorem fit_short {p : Ps} (hu : Bytes p.u) (h : SubsOK (shortF p).ps) : psFit (shortF p) := by
  refine ⟨⟨fun x hx => hu x (List.mem_of_mem_take hx), h⟩, ?_, ?_, ?_⟩ <;> simp [shortF] <;> omega
theorem feedF_on {x : Ps} {l : List Int} (hx : psFit x) (hl : Bytes l) (hn : l.length ≤ 4096) : psOn (feedF x l).1 ∧ EvsOK (feedF x l).2.1 ∧ psFit (feedF x l).1 := by
  have h0 : psFit (sbegin 0) := may_on may_begin.1 (fun y hy => by simp [sbegin] at hy)
  unfold feedF
  cases hm : may6 x with
  | false => exact ⟨h0.1, ⟨by simp, fun e he => by simp at he⟩, h0⟩
  | true =>
    simp only [if_true]
    rw [if_neg (by omega)]
    have q := may_on (feed_may hm hl) (feed_bytes hx.1.1 hl)
    exact ⟨q.1, feed_evsOK hm hl (by omega), q⟩
theorem short_subs (p : Ps) : SubsOK (shortF p).ps := by
  refine ⟨by simp [shortF]; omega, fun l hl => ?_⟩
  simp only [shortF, List.mem_map] at hl
  obtain ⟨a, _, rfl⟩ := hl
  simp; omega
def ShortIn (a : List V) : Prop := lshortSpec.pre a
def lshortoSpec : Spec := { pre := ShortIn, res := lshortSpec.res }
theorem lshorto_sound (gl : Gl) : Sound Try.prog gl 11 lshortoSpec := lshort_sound gl
def SomeIn (a : List V) : Prop := lsomeSpec.pre a
def lsomeoSpec : Spec := { pre := SomeIn, res := lsomeSpec.res }
theorem lsomeo_sound (gl : Gl) : Sound Try.prog gl 12 lsomeoSpec := lsome_sound gl
end Fen

namespace Fen
open Go Go.Proofs

def StepQIn (a : List V) : Prop := sstepSpec.pre a
def stepqSpec : Spec := { pre := StepQIn, res := sstepSpec.res }
theorem stepq_sound (gl : Gl) : Sound Try.prog gl 26 stepqSpec := sstep_sound gl
def RStepQIn (a : List V) : Prop := rstep6Spec.pre a
def rstepqSpec : Spec := { pre := RStepQIn, res := rstep6Spec.res }
theorem rstepq_sound (gl : Gl) : Sound Try.prog gl 27 rstepqSpec := rstep6_sound gl
def stpS (A B : Ps) (c : Int) (i : Nat) : St := ⟨80, [(2, .val (.int .u8 c)), (25, .agg (psC A ++ psC B)), (26, .val (.int .i64 i))], []⟩
def stpD (D : List Int) : List C := D.map (.int .u8)
def stpT (A B x : Ps) (c : Int) (D : List Int) (i j : Nat) : St := ⟨80, [(2, .val (.int .u8 c)), (25, .agg (psC A ++ psC B)), (26, .val (.int .i64 i)), (8, .ptr 0 0 0), (44, .agg (stpD D)), (45, .val (.int .i64 j))], [rBox x]⟩
def lawStepsSpec : Spec := { pre := fun args => ∃ (p : Ps) (b : List Int) (c : Int), args = [.agg (psC p), bytesV b, .c (.int .u8 c)] ∧ Bytes p.u ∧ Bytes b ∧ (b.length : Int) ≤ 9223372036854775807 ∧ 0 ≤ c ∧ c < 256 ∧ p.u.length ≤ 9223372036854775807 ∧ p.it.length ≤ 9223372036854775807 ∧ p.tx.length ≤ 9223372036854775807 ∧ p.ps.length ≤ 9223372036854775807 ∧ ∀ r ∈ p.ps, r.length ≤ 9223372036854775807, res := fun _ => .one (.val (.c (.bool true))) }
def G_lawSteps : Specs := [(11, lshortoSpec), (12, lsomeoSpec), (26, stepqSpec), (27, rstepqSpec), (15, sameoSpec), (16, eventsoSpec), (17, lworksSpec)]
@[simp] theorem G_lawSteps_live : Specs.live G_lawSteps = false := rfl
@[simp] theorem G_lawSteps_11 : G_lawSteps.find 11 = some lshortoSpec := rfl
@[simp] theorem G_lawSteps_12 : G_lawSteps.find 12 = some lsomeoSpec := rfl
@[simp] theorem G_lawSteps_26 : G_lawSteps.find 26 = some stepqSpec := rfl
@[simp] theorem G_lawSteps_27 : G_lawSteps.find 27 = some rstepqSpec := rfl
@[simp] theorem G_lawSteps_15 : G_lawSteps.find 15 = some sameoSpec := rfl
@[simp] theorem G_lawSteps_16 : G_lawSteps.find 16 = some eventsoSpec := rfl
@[simp] theorem G_lawSteps_17 : G_lawSteps.find 17 = some lworksSpec := rfl
theorem G_lawSteps_ok (gl : Gl) : SpecsOK Try.prog gl G_lawSteps := .cons (lshorto_sound gl) (.cons (lsomeo_sound gl) (.cons (stepq_sound gl) (.cons (rstepq_sound gl) (.cons (sameo_sound gl) (.cons (eventso_sound gl) (.cons (lworks_sound gl) (.nil _ _)))))))
set_option maxHeartbeats 8000000 in
set_option maxRecDepth 10000 in
theorem lawSteps_sound (gl : Gl) : Sound Try.prog gl 8 lawStepsSpec := by
  refine sound_awp (N := Try.f8.ntmps) (rs := Try.f8.results.toList) tok Try.func8 rfl rfl rfl rfl rfl ?_ ?_ ?_
  · rintro args ⟨p,b0,c,rfl,hpu,hb0,hbl,hc0,hc1,h1,h2,h3,h4,h5⟩; simp [bytesV, Try.f8]
  · rintro args ⟨p,b0,c,rfl,hpu,hb0,hbl,hc0,hc1,h1,h2,h3,h4,h5⟩; simp [bytesV, lawStepsSpec, Try.f8]
  · rintro args ⟨p,b0,c,rfl,hpu,hb0,hbl,hc0,hc1,h1,h2,h3,h4,h5⟩ bs hgl hh hro
    have hE : Env.OK ⟨Try.prog, T, G_lawSteps, bs⟩ := ⟨tok, by rw [hgl]; exact G_lawSteps_ok gl⟩
    simp only [lawStepsSpec, bytesV]
    obtain ⟨b, hb⟩ : ∃ b, b0.take 300 = b := ⟨_, rfl⟩
    have hby : Bytes b := by rw [← hb]; exact bytes_take hb0 300
    have hbn : b.length ≤ 300 := by rw [← hb]; simp; omega
    have mb : (if 300 < (b0.length : Int) then (300 : Int) else b0.length) = b.length := by rw [← hb]; simp; split <;> omega
    have lb : ((b.length : Int) ≤ b0.length) = True := eq_true (by rw [← hb]; simp; omega)
    have tb : b0.take b.length = b := by rw [← hb]; simp
    obtain ⟨A, hA⟩ : ∃ A, shortF p = A := ⟨_, rfl⟩
    obtain ⟨B, hB⟩ : ∃ B, (feedF (sbegin 0) b).1 = B := ⟨_, rfl⟩
    have h0 : psFit (sbegin 0) := may_on may_begin.1 (fun y hy => by simp [sbegin] at hy)
    have fA : psFit A := by rw [← hA]; exact fit_short hpu (short_subs p)
    have fB : psFit B := by rw [← hB]; exact (feedF_on h0 hby (by omega)).2.2
    have iSh : ShortIn [.agg (psC p)] := ⟨p, rfl, h1, h2, h3, h4, h5⟩
    have iSo : SomeIn [.c (.sl b.length (ints .u8 b))] := ⟨b, rfl, hby, by omega⟩
    have t8 : ∀ q : Ps, (psC q).take 8 = psC q := fun _ => rfl
    have d8 : ∀ q : Ps, ((psC q).map X.val).drop 8 = [] := fun _ => rfl
    have x0 : (psC A ++ psC B).take 8 = psC A := rfl
    have x1 : ((psC A ++ psC B).drop 8).take 8 = psC B := rfl
    have key : ∀ x : Ps, psFit x → ∀ d : Int, 0 ≤ d → d < 256 → StepQIn [.agg (psC x), .c (.int .u8 d)] ∧ RStepQIn [.agg (psC x), .c (.int .u8 d)] ∧ SameIn [.agg (psC (feedF x [d]).1), .agg (psC (feedF x [d]).1)] ∧ EventsIn [.c (.sl (feedF x [d]).2.1.length (evsC (feedF x [d]).2.1)), .c (.sl (feedF x [d]).2.1.length (evsC (feedF x [d]).2.1))] := fun x hx d q0 q1 => by
      have q := feedF_on hx (bytes_one ⟨q0, q1⟩) (by simp)
      exact ⟨⟨x, d, rfl, hx, q0, q1⟩, ⟨x, d, rfl, hx, q0, q1⟩, ⟨(feedF x [d]).1, (feedF x [d]).1, rfl, q.1, q.1.1⟩, ⟨(feedF x [d]).2.1, (feedF x [d]).2.1, rfl, q.2.1⟩⟩
    refine wpc_ok hE mixed _ _ _ ?_
    simp [lawStepsSpec, eventsoSpec, lshortoSpec, lsomeoSpec, lworksSpec, rstepqSpec, sameoSpec, stepqSpec, Try.f8, lshortSpec, lsomeSpec, mb, lb, tb, iSh, iSo, hA, hB, t8, d8, nums_u8]
    refine ⟨rfl, ?_⟩
    have xl : (psC A ++ psC B).length = 16 := rfl
    obtain ⟨D, hD⟩ : ∃ D : List Int, D = [c, c % 32, 32 + c % 16, 48 + c % 16, 64 + c % 63, 128 + c % 128, 27, 92] := ⟨_, rfl⟩
    have tm : ∀ n : Int, Int.tmod c n = c % n := fun n => Int.tmod_eq_emod_of_nonneg hc0
    have wr : ∀ n : Int, 0 ≤ n → n < 256 → IntKind.u8.wrap n = n := fun n a b => by simp [IntKind.wrap, IntKind.signed, IntKind.bits]; omega
    have w1 : IntKind.u8.wrap (c % 32) = c % 32 := wr _ (by omega) (by omega)
    have w2 : IntKind.u8.wrap (c % 16) = c % 16 := wr _ (by omega) (by omega)
    have w3 : IntKind.u8.wrap (c % 63) = c % 63 := wr _ (by omega) (by omega)
    have w4 : IntKind.u8.wrap (c % 128) = c % 128 := wr _ (by omega) (by omega)
    have w5 : IntKind.u8.wrap (32 + c % 16) = 32 + c % 16 := wr _ (by omega) (by omega)
    have w6 : IntKind.u8.wrap (48 + c % 16) = 48 + c % 16 := wr _ (by omega) (by omega)
    have w7 : IntKind.u8.wrap (64 + c % 63) = 64 + c % 63 := wr _ (by omega) (by omega)
    have w8 : IntKind.u8.wrap (128 + c % 128) = 128 + c % 128 := wr _ (by omega) (by omega)
    have xd : (stpD D).length = 8 := by rw [hD]; rfl
    have q0 : ∀ h : 0 < (stpD D).length, (stpD D)[0]'h = .int .u8 (c) := fun h => by simp [stpD, hD]
    have q1 : ∀ h : 1 < (stpD D).length, (stpD D)[1]'h = .int .u8 (c % 32) := fun h => by simp [stpD, hD]
    have q2 : ∀ h : 2 < (stpD D).length, (stpD D)[2]'h = .int .u8 (32 + c % 16) := fun h => by simp [stpD, hD]
    have q3 : ∀ h : 3 < (stpD D).length, (stpD D)[3]'h = .int .u8 (48 + c % 16) := fun h => by simp [stpD, hD]
    have q4 : ∀ h : 4 < (stpD D).length, (stpD D)[4]'h = .int .u8 (64 + c % 63) := fun h => by simp [stpD, hD]
    have q5 : ∀ h : 5 < (stpD D).length, (stpD D)[5]'h = .int .u8 (128 + c % 128) := fun h => by simp [stpD, hD]
    have q6 : ∀ h : 6 < (stpD D).length, (stpD D)[6]'h = .int .u8 (27) := fun h => by simp [stpD, hD]
    have q7 : ∀ h : 7 < (stpD D).length, (stpD D)[7]'h = .int .u8 (92) := fun h => by simp [stpD, hD]
    refine AWP.rounds (fun i => i ≤ 2) (stpS A B c) (fun i => 2 - i) 0 (by simp) ?_ ?_
    · exact Weak.ren [] (baseOK.nil hh) (by simp) (by simp [stpS]) (by simp [stpS]; rfl)
    · intro i hi
      refine wpc_ok hE mixed _ _ _ ?_
      have hc : i = 0 ∨ i = 1 ∨ i = 2 := by omega
      rcases hc with rfl | rfl | rfl
      · simp [stpS, and_assoc, eventsoSpec, lshortoSpec, lsomeoSpec, lworksSpec, rstepqSpec, sameoSpec, stepqSpec, w1, w2, w3, w4, w5, w6, w7, w8, tm, xl, x0, x1, t8, d8]
        refine AWP.leaves 2 (stpT A B A c D 0 8) (AWP.rounds (fun j => j ≤ 8) (stpT A B A c D 0) (fun j => 8 - j) 0 (by simp) ?_ ?_) ?_
        · exact Weak.ren [some 0] (baseOK.nil hh) (by simp) (by simp [stpT, rBox, rnv]) (by simp [stpT, stpD, hD, rBox])
        · intro j hj
          refine wpc_ok hE mixed _ _ _ ?_
          have hj' : j = 0 ∨ j = 1 ∨ j = 2 ∨ j = 3 ∨ j = 4 ∨ j = 5 ∨ j = 6 ∨ j = 7 ∨ j = 8 := by omega
          rcases hj' with rfl | rfl | rfl | rfl | rfl | rfl | rfl | rfl | rfl
          · obtain ⟨k1, k2, k3, k4⟩ := key A fA (c) (by omega) (by omega)
            simp [stpT, rBox, and_assoc, eventsoSpec, lshortoSpec, lsomeoSpec, lworksSpec, rstepqSpec, sameoSpec, stepqSpec, sstepSpec, rstep6Spec, sameSpec, eventsSpec, nums_u8, psOf_C, unE_C, k1, k2, k3, k4, xd, q0, t8, d8]
            exact Next.mk 1 (by omega) (by omega) (Weak.ren [some 0] (baseOK.nil hh) (by simp) (by simp [stpT, rBox, rnv]) (by simp [stpT, rBox]))
          · obtain ⟨k1, k2, k3, k4⟩ := key A fA (c % 32) (by omega) (by omega)
            simp [stpT, rBox, and_assoc, eventsoSpec, lshortoSpec, lsomeoSpec, lworksSpec, rstepqSpec, sameoSpec, stepqSpec, sstepSpec, rstep6Spec, sameSpec, eventsSpec, nums_u8, psOf_C, unE_C, k1, k2, k3, k4, xd, q1, t8, d8]
            exact Next.mk 2 (by omega) (by omega) (Weak.ren [some 0] (baseOK.nil hh) (by simp) (by simp [stpT, rBox, rnv]) (by simp [stpT, rBox]))
          · obtain ⟨k1, k2, k3, k4⟩ := key A fA (32 + c % 16) (by omega) (by omega)
            simp [stpT, rBox, and_assoc, eventsoSpec, lshortoSpec, lsomeoSpec, lworksSpec, rstepqSpec, sameoSpec, stepqSpec, sstepSpec, rstep6Spec, sameSpec, eventsSpec, nums_u8, psOf_C, unE_C, k1, k2, k3, k4, xd, q2, t8, d8]
            exact Next.mk 3 (by omega) (by omega) (Weak.ren [some 0] (baseOK.nil hh) (by simp) (by simp [stpT, rBox, rnv]) (by simp [stpT, rBox]))
          · obtain ⟨k1, k2, k3, k4⟩ := key A fA (48 + c % 16) (by omega) (by omega)
            simp [stpT, rBox, and_assoc, eventsoSpec, lshortoSpec, lsomeoSpec, lworksSpec, rstepqSpec, sameoSpec, stepqSpec, sstepSpec, rstep6Spec, sameSpec, eventsSpec, nums_u8, psOf_C, unE_C, k1, k2, k3, k4, xd, q3, t8, d8]
            exact Next.mk 4 (by omega) (by omega) (Weak.ren [some 0] (baseOK.nil hh) (by simp) (by simp [stpT, rBox, rnv]) (by simp [stpT, rBox]))
          · obtain ⟨k1, k2, k3, k4⟩ := key A fA (64 + c % 63) (by omega) (by omega)
            simp [stpT, rBox, and_assoc, eventsoSpec, lshortoSpec, lsomeoSpec, lworksSpec, rstepqSpec, sameoSpec, stepqSpec, sstepSpec, rstep6Spec, sameSpec, eventsSpec, nums_u8, psOf_C, unE_C, k1, k2, k3, k4, xd, q4, t8, d8]
            exact Next.mk 5 (by omega) (by omega) (Weak.ren [some 0] (baseOK.nil hh) (by simp) (by simp [stpT, rBox, rnv]) (by simp [stpT, rBox]))
          · obtain ⟨k1, k2, k3, k4⟩ := key A fA (128 + c % 128) (by omega) (by omega)
            simp [stpT, rBox, and_assoc, eventsoSpec, lshortoSpec, lsomeoSpec, lworksSpec, rstepqSpec, sameoSpec, stepqSpec, sstepSpec, rstep6Spec, sameSpec, eventsSpec, nums_u8, psOf_C, unE_C, k1, k2, k3, k4, xd, q5, t8, d8]
            exact Next.mk 6 (by omega) (by omega) (Weak.ren [some 0] (baseOK.nil hh) (by simp) (by simp [stpT, rBox, rnv]) (by simp [stpT, rBox]))
          · obtain ⟨k1, k2, k3, k4⟩ := key A fA (27) (by omega) (by omega)
            simp [stpT, rBox, and_assoc, eventsoSpec, lshortoSpec, lsomeoSpec, lworksSpec, rstepqSpec, sameoSpec, stepqSpec, sstepSpec, rstep6Spec, sameSpec, eventsSpec, nums_u8, psOf_C, unE_C, k1, k2, k3, k4, xd, q6, t8, d8]
            exact Next.mk 7 (by omega) (by omega) (Weak.ren [some 0] (baseOK.nil hh) (by simp) (by simp [stpT, rBox, rnv]) (by simp [stpT, rBox]))
          · obtain ⟨k1, k2, k3, k4⟩ := key A fA (92) (by omega) (by omega)
            simp [stpT, rBox, and_assoc, eventsoSpec, lshortoSpec, lsomeoSpec, lworksSpec, rstepqSpec, sameoSpec, stepqSpec, sstepSpec, rstep6Spec, sameSpec, eventsSpec, nums_u8, psOf_C, unE_C, k1, k2, k3, k4, xd, q7, t8, d8]
            exact Next.mk 8 (by omega) (by omega) (Weak.ren [some 0] (baseOK.nil hh) (by simp) (by simp [stpT, rBox, rnv]) (by simp [stpT, rBox]))
          · simp [stpT]
            exact Leaves.mk (Weak.keep (by simp [stpT]))
        · simp [stpT]
          exact Next.mk 1 (by omega) (by omega) (Weak.ren [] (baseOK.nil hh) (by simp) (by simp [stpS]) (by simp [stpS]))
      · simp [stpS, and_assoc, eventsoSpec, lshortoSpec, lsomeoSpec, lworksSpec, rstepqSpec, sameoSpec, stepqSpec, w1, w2, w3, w4, w5, w6, w7, w8, tm, xl, x0, x1, t8, d8]
        refine AWP.leaves 2 (stpT A B B c D 1 8) (AWP.rounds (fun j => j ≤ 8) (stpT A B B c D 1) (fun j => 8 - j) 0 (by simp) ?_ ?_) ?_
        · exact Weak.ren [some 0] (baseOK.nil hh) (by simp) (by simp [stpT, rBox, rnv]) (by simp [stpT, stpD, hD, rBox])
        · intro j hj
          refine wpc_ok hE mixed _ _ _ ?_
          have hj' : j = 0 ∨ j = 1 ∨ j = 2 ∨ j = 3 ∨ j = 4 ∨ j = 5 ∨ j = 6 ∨ j = 7 ∨ j = 8 := by omega
          rcases hj' with rfl | rfl | rfl | rfl | rfl | rfl | rfl | rfl | rfl
          · obtain ⟨k1, k2, k3, k4⟩ := key B fB (c) (by omega) (by omega)
            simp [stpT, rBox, and_assoc, eventsoSpec, lshortoSpec, lsomeoSpec, lworksSpec, rstepqSpec, sameoSpec, stepqSpec, sstepSpec, rstep6Spec, sameSpec, eventsSpec, nums_u8, psOf_C, unE_C, k1, k2, k3, k4, xd, q0, t8, d8]
            exact Next.mk 1 (by omega) (by omega) (Weak.ren [some 0] (baseOK.nil hh) (by simp) (by simp [stpT, rBox, rnv]) (by simp [stpT, rBox]))
          · obtain ⟨k1, k2, k3, k4⟩ := key B fB (c % 32) (by omega) (by omega)
            simp [stpT, rBox, and_assoc, eventsoSpec, lshortoSpec, lsomeoSpec, lworksSpec, rstepqSpec, sameoSpec, stepqSpec, sstepSpec, rstep6Spec, sameSpec, eventsSpec, nums_u8, psOf_C, unE_C, k1, k2, k3, k4, xd, q1, t8, d8]
            exact Next.mk 2 (by omega) (by omega) (Weak.ren [some 0] (baseOK.nil hh) (by simp) (by simp [stpT, rBox, rnv]) (by simp [stpT, rBox]))
          · obtain ⟨k1, k2, k3, k4⟩ := key B fB (32 + c % 16) (by omega) (by omega)
            simp [stpT, rBox, and_assoc, eventsoSpec, lshortoSpec, lsomeoSpec, lworksSpec, rstepqSpec, sameoSpec, stepqSpec, sstepSpec, rstep6Spec, sameSpec, eventsSpec, nums_u8, psOf_C, unE_C, k1, k2, k3, k4, xd, q2, t8, d8]
            exact Next.mk 3 (by omega) (by omega) (Weak.ren [some 0] (baseOK.nil hh) (by simp) (by simp [stpT, rBox, rnv]) (by simp [stpT, rBox]))
          · obtain ⟨k1, k2, k3, k4⟩ := key B fB (48 + c % 16) (by omega) (by omega)
            simp [stpT, rBox, and_assoc, eventsoSpec, lshortoSpec, lsomeoSpec, lworksSpec, rstepqSpec, sameoSpec, stepqSpec, sstepSpec, rstep6Spec, sameSpec, eventsSpec, nums_u8, psOf_C, unE_C, k1, k2, k3, k4, xd, q3, t8, d8]
            exact Next.mk 4 (by omega) (by omega) (Weak.ren [some 0] (baseOK.nil hh) (by simp) (by simp [stpT, rBox, rnv]) (by simp [stpT, rBox]))
          · obtain ⟨k1, k2, k3, k4⟩ := key B fB (64 + c % 63) (by omega) (by omega)
            simp [stpT, rBox, and_assoc, eventsoSpec, lshortoSpec, lsomeoSpec, lworksSpec, rstepqSpec, sameoSpec, stepqSpec, sstepSpec, rstep6Spec, sameSpec, eventsSpec, nums_u8, psOf_C, unE_C, k1, k2, k3, k4, xd, q4, t8, d8]
            exact Next.mk 5 (by omega) (by omega) (Weak.ren [some 0] (baseOK.nil hh) (by simp) (by simp [stpT, rBox, rnv]) (by simp [stpT, rBox]))
          · obtain ⟨k1, k2, k3, k4⟩ := key B fB (128 + c % 128) (by omega) (by omega)
            simp [stpT, rBox, and_assoc, eventsoSpec, lshortoSpec, lsomeoSpec, lworksSpec, rstepqSpec, sameoSpec, stepqSpec, sstepSpec, rstep6Spec, sameSpec, eventsSpec, nums_u8, psOf_C, unE_C, k1, k2, k3, k4, xd, q5, t8, d8]
            exact Next.mk 6 (by omega) (by omega) (Weak.ren [some 0] (baseOK.nil hh) (by simp) (by simp [stpT, rBox, rnv]) (by simp [stpT, rBox]))
          · obtain ⟨k1, k2, k3, k4⟩ := key B fB (27) (by omega) (by omega)
            simp [stpT, rBox, and_assoc, eventsoSpec, lshortoSpec, lsomeoSpec, lworksSpec, rstepqSpec, sameoSpec, stepqSpec, sstepSpec, rstep6Spec, sameSpec, eventsSpec, nums_u8, psOf_C, unE_C, k1, k2, k3, k4, xd, q6, t8, d8]
            exact Next.mk 7 (by omega) (by omega) (Weak.ren [some 0] (baseOK.nil hh) (by simp) (by simp [stpT, rBox, rnv]) (by simp [stpT, rBox]))
          · obtain ⟨k1, k2, k3, k4⟩ := key B fB (92) (by omega) (by omega)
            simp [stpT, rBox, and_assoc, eventsoSpec, lshortoSpec, lsomeoSpec, lworksSpec, rstepqSpec, sameoSpec, stepqSpec, sstepSpec, rstep6Spec, sameSpec, eventsSpec, nums_u8, psOf_C, unE_C, k1, k2, k3, k4, xd, q7, t8, d8]
            exact Next.mk 8 (by omega) (by omega) (Weak.ren [some 0] (baseOK.nil hh) (by simp) (by simp [stpT, rBox, rnv]) (by simp [stpT, rBox]))
          · simp [stpT]
            exact Leaves.mk (Weak.keep (by simp [stpT]))
        · simp [stpT]
          exact Next.mk 2 (by omega) (by omega) (Weak.ren [] (baseOK.nil hh) (by simp) (by simp [stpS]) (by simp [stpS]))
      · simp [stpS, and_assoc, eventsoSpec, lshortoSpec, lsomeoSpec, lworksSpec, rstepqSpec, sameoSpec, stepqSpec, worksIn]
end Fen

namespace Fen
open Go Go.Proofs

theorem flatI (k : IntKind) (l : List Int) : l.flatMap (fun n => [C.int k n]) = ints k l := by
  induction l with
  | nil => rfl
  | cons a l ih => rw [List.flatMap_cons, ih]; rfl
theorem typed_par {d : Nat} {ks : List C} (h : Typed T d 51 ks) : ∃ l : List Int, ks = [subC l] ∧ l.length ≤ maxLen := by
  obtain ⟨d', parts, rfl, hk⟩ := typed_struct T_51 h
  match parts, hk with
  | [p0], ⟨h0, _⟩ =>
    obtain ⟨l, rfl, hl, _⟩ := typed_slice_of (en := fun n : Int => [C.int .i64 n]) (Q := fun _ => True) T_49 (fun d p h => by
      obtain ⟨n, rfl, q⟩ := typed_int T_3 h
      exact ⟨n, rfl, trivial⟩) h0
    exact ⟨l, by rw [flatI]; rfl, hl⟩
theorem flat_par (l : List (List Int)) : l.flatMap (fun x => [subC x]) = parC l := by
  induction l with
  | nil => rfl
  | cons a l ih => rw [List.flatMap_cons, ih]; rfl
theorem arg_parse {A : V} (h : TypedV T 25 A) : ∃ p : Ps, A = .agg (psC p) ∧ Bytes p.u ∧ p.u.length ≤ 9223372036854775807 ∧ p.it.length ≤ 9223372036854775807 ∧ p.tx.length ≤ 9223372036854775807 ∧ p.ps.length ≤ 9223372036854775807 ∧ ∀ r ∈ p.ps, r.length ≤ 9223372036854775807 := by
  obtain ⟨d, ks, rfl, hk0⟩ := arg_agg T_25 rfl h
  obtain ⟨d', parts, rfl, hk⟩ := typed_struct T_25 hk0
  match parts, hk with
  | [p0, p1, p2, p3, p4, p5, p6, p7], ⟨h0, h1, h2, h3, h4, h5, h6, h7, _⟩ =>
    obtain ⟨s, rfl, _⟩ := typed_int T_3 h0
    obtain ⟨U, rfl, hU, qU⟩ := typed_slice_of (en := fun n : Int => [C.int .u8 n]) (Q := fun n => 0 ≤ n ∧ n < 256) T_22 (fun d p h => by
      obtain ⟨n, rfl, q⟩ := typed_int T_5 h
      exact ⟨n, rfl, u8_rng q⟩) h1
    obtain ⟨a, rfl, _⟩ := typed_int T_5 h2
    obtain ⟨b, rfl, _⟩ := typed_int T_5 h3
    obtain ⟨P, rfl, hP, qP⟩ := typed_slice_of (en := fun x : List Int => [subC x]) (Q := fun x => x.length ≤ maxLen) T_23 (fun d p h => typed_par h) h4
    obtain ⟨t, rfl, ht⟩ := typed_str T_9 h5
    obtain ⟨x, rfl, hx⟩ := typed_str T_9 h6
    obtain ⟨w, rfl⟩ := typed_bool T_4 h7
    refine ⟨⟨s, U, a, b, P, t, x, w⟩, ?_, qU, ?_, ?_, ?_, ?_, fun r hr => ?_⟩
    · rw [flatI, flat_par]; rfl
    · exact hU
    · exact ht
    · exact hx
    · exact hP
    · exact qP r hr
end Fen
