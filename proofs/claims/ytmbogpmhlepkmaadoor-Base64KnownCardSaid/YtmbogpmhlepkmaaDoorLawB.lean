/- A part of the proof; no statement is proved here: BBdMe. -/
import Derived.Test.YtmbogpmhlepkmaaDoorLawA

set_option linter.unusedVariables false
set_option linter.unusedSimpArgs false

namespace Fen
open Go Go.Proofs

theorem repL_chr (c : UInt8) : ∀ n : Nat, repL [c] n = List.replicate n c
  | 0 => by simp [repL, Lib.repeatL]
  | n + 1 => by
    have := repL_chr c n
    simp only [repL] at this ⊢
    simp [Lib.repeatL, List.replicate_succ, this]
theorem known_A {n k : Nat} (hn : n = 4 * k) (h8 : n ≤ 8192) : decX (List.replicate n 65) = 0 ∧ (decO (List.replicate n 65)).length = 3 * k := by
  have hv : valI 65 = some 0 := by decide
  have hvals : ∀ n, valsI (List.replicate n 65) = List.replicate n 0 := fun n => by
    induction n with
    | zero => rfl
    | succ n ih => rw [List.replicate_succ, List.replicate_succ]; simp only [valsI, hv, ih]
  have hall : ∀ n, allI (List.replicate n 65) = true := fun n => by
    unfold allI; rw [List.all_eq_true]; intro x hx
    rw [(List.mem_replicate.1 hx).2, hv]; rfl
  have hb : bareI (List.replicate n 65) = List.replicate n 65 := by
    have := bare_of (a := List.replicate n 65) 0 (last_not (hall _))
    simpa only [List.replicate_zero, List.append_nil] using this
  have hok : ∀ k, ok6 (List.replicate (4 * k) 0) = true := fun k => by
    induction k with
    | zero => rfl
    | succ k ih => rw [show 4 * (k + 1) = 4 * k + 1 + 1 + 1 + 1 by omega]; simp only [List.replicate_succ, ok6, ih]
  have hdl : ∀ k, (dec6 (List.replicate (4 * k) 0)).length = 3 * k := fun k => by
    induction k with
    | zero => rfl
    | succ k ih => rw [show 4 * (k + 1) = 4 * k + 1 + 1 + 1 + 1 by omega]; simp only [List.replicate_succ, dec6, List.length_cons, ih]; omega
  have hd : decI (List.replicate n 65) = some (dec6 (List.replicate n 0)) := by
    unfold decI
    rw [hb, if_neg (by omega), hvals, if_pos ⟨hall _, by rw [hn]; exact hok k⟩]
  have hl : ¬ 8192 < (List.replicate n (65 : UInt8)).length := by rw [List.length_replicate]; omega
  unfold decX decO
  rw [if_neg hl, if_neg hl, hd]
  refine ⟨rfl, ?_⟩
  simp only [Option.getD_some, List.length_map]
  rw [hn]
  exact hdl k
theorem known_over {n : Nat} (h : 8192 < n) : decO (List.replicate n 65) = [] ∧ decX (List.replicate n 65) = 3 := by
  unfold decX decO
  rw [if_pos (by rw [List.length_replicate]; omega), if_pos (by rw [List.length_replicate]; omega)]
  exact ⟨rfl, rfl⟩
theorem known_x {n : Nat} (h : n = 4096) : encX (List.replicate n 120) = 0 ∧ (encO (List.replicate n 120)).length = (n + 2) / 3 * 4 ∧ encX (List.replicate n 120 ++ [120]) = 3 := by
  have h := encO_of (s := List.replicate n 120) (by rw [List.length_replicate]; omega)
  refine ⟨h.2, ?_, ?_⟩
  · rw [h.1, encI_len, List.length_replicate]
  · unfold encX; rw [if_pos (by rw [List.length_append, List.length_replicate, List.length_singleton]; omega)]
def lawKnownSpec : Spec := { pre := fun args => args = [], res := fun _ => .one (.val (.c (.bool true))) }
def G_lawKnown : Specs := [(16, repoSpec), (8, encoSpec), (13, decoSpec), (17, toldoSpec), (12, lworksSpec), (10, sizeoSpec), (18, refoSpec)]
@[simp] theorem G_lawKnown_live : Specs.live G_lawKnown = false := rfl
@[simp] theorem G_lawKnown_16 : G_lawKnown.find 16 = some repoSpec := rfl
@[simp] theorem G_lawKnown_8 : G_lawKnown.find 8 = some encoSpec := rfl
@[simp] theorem G_lawKnown_13 : G_lawKnown.find 13 = some decoSpec := rfl
@[simp] theorem G_lawKnown_17 : G_lawKnown.find 17 = some toldoSpec := rfl
@[simp] theorem G_lawKnown_12 : G_lawKnown.find 12 = some lworksSpec := rfl
@[simp] theorem G_lawKnown_10 : G_lawKnown.find 10 = some sizeoSpec := rfl
@[simp] theorem G_lawKnown_18 : G_lawKnown.find 18 = some refoSpec := rfl
theorem G_lawKnown_ok (gl : Gl) : SpecsOK Tryd.prog gl G_lawKnown := .cons (repo_sound gl) (.cons (enco_sound gl) (.cons (deco_sound gl) (.cons (toldo_sound gl) (.cons (lworks_sound gl) (.cons (sizeo_sound gl) (.cons (refo_sound gl) (.nil _ _)))))))
set_option maxHeartbeats 16000000 in
set_option maxRecDepth 10000 in
theorem lawKnown_sound (gl : Gl) : Sound Tryd.prog gl 7 lawKnownSpec := by
  refine sound_fn (N := Tryd.f7.ntmps) (rs := Tryd.f7.results.toList) mixed tok (G_lawKnown_ok gl) Tryd.func7 rfl rfl rfl rfl rfl ?_ ?_ ?_
  · rintro args rfl; simp [Tryd.f7]
  · rintro args rfl; simp [lawKnownSpec, Tryd.f7]
  · rintro args rfl bs hgl hh hro
    have hE : Env.OK ⟨Tryd.prog, T, G_lawKnown, bs⟩ := ⟨tok, by rw [hgl]; exact G_lawKnown_ok gl⟩
    obtain ⟨x1, x2, x3⟩ := known_x (n := 4096) rfl
    obtain ⟨a1, a2⟩ := known_A (n := 8192) (k := 2048) rfl (by omega)
    obtain ⟨o1, o2⟩ := known_over (n := 8193) (by omega)
    have r1 := repL_chr 120 4096
    have r2 := repL_chr 65 8193
    have r3 := repL_chr 65 8192
    have iR1 : RepIn [.c (.str [120]), .c (.int .i64 4096)] := ⟨[120], 4096, rfl, by omega, by simp⟩
    have iR2 : RepIn [.c (.str [65]), .c (.int .i64 8193)] := ⟨[65], 8193, rfl, by omega, by simp⟩
    have iR3 : RepIn [.c (.str [65]), .c (.int .i64 8192)] := ⟨[65], 8192, rfl, by omega, by simp⟩
    have e1 := encIn (s := List.replicate 4096 120) (by rw [List.length_replicate]; omega)
    have e2 := encIn (s := List.replicate 4096 120 ++ [120]) (by rw [List.length_append, List.length_replicate, List.length_singleton]; omega)
    have d1 := decIn (s := List.replicate 8193 65) (by rw [List.length_replicate]; omega)
    have d2 := decIn (s := List.replicate 8192 65) (by rw [List.length_replicate]; omega)
    have t1 := toldIn (s := [0, 16, 131, 16, 81, 135, 32, 146, 139]) (t := [65, 66, 67, 68, 69, 70, 71, 72, 73, 74, 75, 76]) (by decide) (by decide)
    have t2 := toldIn (s := [251, 255]) (t := [43, 47, 56, 61]) (by decide) (by decide)
    have t3 := toldIn (s := [255, 255, 255]) (t := [47, 47, 47, 47]) (by decide) (by decide)
    have u1 : toldF [0, 16, 131, 16, 81, 135, 32, 146, 139] [65, 66, 67, 68, 69, 70, 71, 72, 73, 74, 75, 76] = true := by decide +kernel
    have u2 : toldF [251, 255] [43, 47, 56, 61] = true := by decide +kernel
    have u3 : toldF [255, 255, 255] [47, 47, 47, 47] = true := by decide +kernel
    have z1 := sizeIn (-1)
    have z2 := sizeIn 4611686018427387904
    have z3 := sizeIn 1099511627776
    have y1 : sizeF (-1) = 0 := by decide +kernel
    have y2 : sizeF 4611686018427387904 = sizeF 1099511627776 := by decide +kernel
    have q1 := refIn (s := [90, 103, 61, 61, 90, 103, 61, 61]) (by decide)
    have q2 := refIn (s := [90, 104, 61, 61]) (by decide)
    have q3 := refIn (s := [90, 109, 57, 61]) (by decide)
    have q4 := refIn (s := [32, 90, 109, 57, 118]) (by decide)
    have q5 := refIn (s := [90, 109, 57, 118, 10]) (by decide)
    have f1 : refF [90, 103, 61, 61, 90, 103, 61, 61] = true := by decide +kernel
    have f2 : refF [90, 104, 61, 61] = true := by decide +kernel
    have f3 : refF [90, 109, 57, 61] = true := by decide +kernel
    have f4 : refF [32, 90, 109, 57, 118] = true := by decide +kernel
    have f5 : refF [90, 109, 57, 118, 10] = true := by decide +kernel
    obtain ⟨X, hX⟩ : ∃ X : List UInt8, List.replicate 4096 120 = X := ⟨_, rfl⟩
    obtain ⟨V1, hV1⟩ : ∃ X : List UInt8, List.replicate 8193 65 = X := ⟨_, rfl⟩
    obtain ⟨V2, hV2⟩ : ∃ X : List UInt8, List.replicate 8192 65 = X := ⟨_, rfl⟩
    have xl : X.length = 4096 := by rw [← hX]; exact List.length_replicate ..
    simp only [Nat.reduceAdd, Nat.reduceDiv, Nat.reduceMul] at x2 a2
    rw [hX] at x1 x2 x3 r1 e1 e2
    rw [hV1] at o1 o2 r2 d1
    rw [hV2] at a1 a2 r3 d2
    simp [lawKnownSpec, decoSpec, encoSpec, lworksSpec, refoSpec, repoSpec, sizeoSpec, toldoSpec, Tryd.f7, repeatSpec, encSpec, decSpec, sizeSpec, toldSpec, refusedSpec, worksIn, r1, r2, r3, iR1, iR2, iR3, e1, e2, d1, d2, t1, t2, t3, u1, u2, u3, z1, z2, z3, y1, y2, q1, q2, q3, q4, q5, f1, f2, f3, f4, f5, x1, x2, x3, a1, a2, o1, o2, xl]
end Fen
