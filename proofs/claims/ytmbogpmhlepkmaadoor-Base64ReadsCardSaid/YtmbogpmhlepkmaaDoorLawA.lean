/- A part of the proof; no statement is proved here: BBdL, BBdM, BBdT. -/
import Derived.Test.YtmbogpmhlepkmaaDoorRefA
import Derived.Test.YtmbogpmhlepkmaaDoorCoreE

set_option linter.unusedVariables false
set_option linter.unusedSimpArgs false

namespace Fen
open Go Go.Proofs

def toldF (s t : List UInt8) : Bool := decide (encO s = t) && decide (encX s = 0) && decide (decO t = s) && decX t == 0
def toldSpec : Spec := { pre := fun args => ∃ s t : List UInt8, args = [.c (.str s), .c (.str t)] ∧ (s.length : Int) ≤ 9223372036854775807 ∧ (t.length : Int) ≤ 9223372036854775807, res := fun args => match args with
  | [.c (.str s), .c (.str t)] => .one (.val (.c (.bool (toldF s t))))
  | _ => .many [] }
def G_told : Specs := [(8, encSpec), (13, decSpec)]
@[simp] theorem G_told_live : Specs.live G_told = false := rfl
@[simp] theorem G_told_8 : G_told.find 8 = some encSpec := rfl
@[simp] theorem G_told_13 : G_told.find 13 = some decSpec := rfl
theorem G_told_ok (gl : Gl) : SpecsOK Tryd.prog gl G_told := .cons (enc_sound gl) (.cons (dec_sound gl) (.nil _ _))
set_option maxRecDepth 10000 in
theorem told_sound (gl : Gl) : Sound Tryd.prog gl 17 toldSpec := by
  refine sound_fn (N := Tryd.f17.ntmps) (rs := Tryd.f17.results.toList) mixed tok (G_told_ok gl) Tryd.func17 rfl rfl rfl rfl rfl ?_ ?_ ?_
  · rintro args ⟨s,t,rfl,hs,ht⟩; simp [Tryd.f17]
  · rintro args ⟨s,t,rfl,hs,ht⟩; simp [toldSpec, Tryd.f17]
  · rintro args ⟨s,t,rfl,hs,ht⟩ bs hgl hh hro
    have hE : Env.OK ⟨Tryd.prog, T, G_told, bs⟩ := ⟨tok, by rw [hgl]; exact G_told_ok gl⟩
    simp [toldSpec, decSpec, encSpec, Tryd.f17, hs, ht]
    rfl
def refF (s : List UInt8) : Bool := decide (decO s = []) && decX s == 6
def refusedSpec : Spec := { pre := fun args => ∃ s : List UInt8, args = [.c (.str s)] ∧ (s.length : Int) ≤ 9223372036854775807, res := fun args => match args with
  | [.c (.str s)] => .one (.val (.c (.bool (refF s))))
  | _ => .many [] }
def G_refused : Specs := [(13, decSpec)]
@[simp] theorem G_refused_live : Specs.live G_refused = false := rfl
@[simp] theorem G_refused_13 : G_refused.find 13 = some decSpec := rfl
theorem G_refused_ok (gl : Gl) : SpecsOK Tryd.prog gl G_refused := .cons (dec_sound gl) (.nil _ _)
set_option maxRecDepth 10000 in
theorem refused_sound (gl : Gl) : Sound Tryd.prog gl 18 refusedSpec := by
  refine sound_fn (N := Tryd.f18.ntmps) (rs := Tryd.f18.results.toList) mixed tok (G_refused_ok gl) Tryd.func18 rfl rfl rfl rfl rfl ?_ ?_ ?_
  · rintro args ⟨s,rfl,hs⟩; simp [Tryd.f18]
  · rintro args ⟨s,rfl,hs⟩; simp [refusedSpec, Tryd.f18]
  · rintro args ⟨s,rfl,hs⟩ bs hgl hh hro
    have hE : Env.OK ⟨Tryd.prog, T, G_refused, bs⟩ := ⟨tok, by rw [hgl]; exact G_refused_ok gl⟩
    simp [refusedSpec, decSpec, Tryd.f18, hs]
    rfl
def ToldIn (a : List V) : Prop := toldSpec.pre a
def toldoSpec : Spec := { pre := ToldIn, res := toldSpec.res }
theorem toldo_sound (gl : Gl) : Sound Tryd.prog gl 17 toldoSpec := told_sound gl
theorem toldIn {s t : List UInt8} (hs : s.length ≤ 100000) (ht : t.length ≤ 100000) : ToldIn [.c (.str s), .c (.str t)] := ⟨s, t, rfl, by omega, by omega⟩
def EncIn (a : List V) : Prop := encSpec.pre a
def encoSpec : Spec := { pre := EncIn, res := encSpec.res }
theorem enco_sound (gl : Gl) : Sound Tryd.prog gl 8 encoSpec := enc_sound gl
theorem encIn {s : List UInt8} (hs : s.length ≤ 100000) : EncIn [.c (.str s)] := ⟨s, rfl, by omega⟩
def DecIn (a : List V) : Prop := decSpec.pre a
def decoSpec : Spec := { pre := DecIn, res := decSpec.res }
theorem deco_sound (gl : Gl) : Sound Tryd.prog gl 13 decoSpec := dec_sound gl
theorem decIn {s : List UInt8} (hs : s.length ≤ 100000) : DecIn [.c (.str s)] := ⟨s, rfl, by omega⟩
def RefIn (a : List V) : Prop := refusedSpec.pre a
def refoSpec : Spec := { pre := RefIn, res := refusedSpec.res }
theorem refo_sound (gl : Gl) : Sound Tryd.prog gl 18 refoSpec := refused_sound gl
theorem refIn {s : List UInt8} (hs : s.length ≤ 100000) : RefIn [.c (.str s)] := ⟨s, rfl, by omega⟩
def wrkL : List (List UInt8) := [[90, 109, 56, 61, 61], [90, 109, 57], [90], [90, 109, 57, 118, 61], [90, 109, 45, 118], [61], [90, 103, 61]]
def wrkS (i : Nat) : St := ⟨56, [(1, .val (.bool true)), (2, .val (.str [102, 111])), (3, .val (.int .i64 0)), (23, .agg (wrkL.map .str)), (24, .val (.int .i64 i))], []⟩
def lworksSpec : Spec := { pre := fun args => args = [], res := fun _ => .one (.val (.c (.bool true))) }
def G_lworks : Specs := [(17, toldoSpec), (18, refoSpec), (13, decoSpec), (10, sizeSpec)]
@[simp] theorem G_lworks_live : Specs.live G_lworks = false := rfl
@[simp] theorem G_lworks_17 : G_lworks.find 17 = some toldoSpec := rfl
@[simp] theorem G_lworks_18 : G_lworks.find 18 = some refoSpec := rfl
@[simp] theorem G_lworks_13 : G_lworks.find 13 = some decoSpec := rfl
@[simp] theorem G_lworks_10 : G_lworks.find 10 = some sizeSpec := rfl
theorem G_lworks_ok (gl : Gl) : SpecsOK Tryd.prog gl G_lworks := .cons (toldo_sound gl) (.cons (refo_sound gl) (.cons (deco_sound gl) (.cons (size_sound gl) (.nil _ _))))
set_option maxHeartbeats 8000000 in
set_option maxRecDepth 10000 in
theorem lworks_sound (gl : Gl) : Sound Tryd.prog gl 12 lworksSpec := by
  refine sound_awp (N := Tryd.f12.ntmps) (rs := Tryd.f12.results.toList) tok Tryd.func12 rfl rfl rfl rfl rfl ?_ ?_ ?_
  · rintro args rfl; simp [Tryd.f12]
  · rintro args rfl; simp [lworksSpec, Tryd.f12]
  · rintro args rfl bs hgl hh hro
    have hE : Env.OK ⟨Tryd.prog, T, G_lworks, bs⟩ := ⟨tok, by rw [hgl]; exact G_lworks_ok gl⟩
    have t0 : toldF [] [] = true := by decide +kernel
    have t1 : toldF [102] [90, 103, 61, 61] = true := by decide +kernel
    have t2 : toldF [102, 111] [90, 109, 56, 61] = true := by decide +kernel
    have t3 : toldF [102, 111, 111] [90, 109, 57, 118] = true := by decide +kernel
    have t4 : toldF [102, 111, 111, 98] [90, 109, 57, 118, 89, 103, 61, 61] = true := by decide +kernel
    have d1 : decO [90, 109, 56] = [102, 111] := by decide +kernel
    have d2 : decX [90, 109, 56] = 0 := by decide +kernel
    have r0 : refF [90, 109, 56, 61, 61] = true := by decide +kernel
    have r1 : refF [90, 109, 57] = true := by decide +kernel
    have r2 : refF [90] = true := by decide +kernel
    have r3 : refF [90, 109, 57, 118, 61] = true := by decide +kernel
    have r4 : refF [90, 109, 45, 118] = true := by decide +kernel
    have r5 : refF [61] = true := by decide +kernel
    have r6 : refF [90, 103, 61] = true := by decide +kernel
    have i0 := toldIn (s := []) (t := []) (by decide) (by decide)
    have i1 := toldIn (s := [102]) (t := [90, 103, 61, 61]) (by decide) (by decide)
    have i2 := toldIn (s := [102, 111]) (t := [90, 109, 56, 61]) (by decide) (by decide)
    have i3 := toldIn (s := [102, 111, 111]) (t := [90, 109, 57, 118]) (by decide) (by decide)
    have i4 := toldIn (s := [102, 111, 111, 98]) (t := [90, 109, 57, 118, 89, 103, 61, 61]) (by decide) (by decide)
    have j1 := decIn (s := [90, 109, 56]) (by decide)
    have q0 := refIn (s := [90, 109, 56, 61, 61]) (by decide)
    have q1 := refIn (s := [90, 109, 57]) (by decide)
    have q2 := refIn (s := [90]) (by decide)
    have q3 := refIn (s := [90, 109, 57, 118, 61]) (by decide)
    have q4 := refIn (s := [90, 109, 45, 118]) (by decide)
    have q5 := refIn (s := [61]) (by decide)
    have q6 := refIn (s := [90, 103, 61]) (by decide)
    have s0 : sizeF 0 = 0 := by decide +kernel
    have s1 : sizeF 1 = 4 := by decide +kernel
    have s3 : sizeF 3 = 4 := by decide +kernel
    have s4 : sizeF 4 = 8 := by decide +kernel
    refine wpc_ok hE mixed _ _ _ ?_
    simp [lworksSpec, decoSpec, refoSpec, sizeSpec, toldoSpec, Tryd.f12, toldSpec, decSpec, t0, t1, t2, t3, t4, d1, d2, i0, i1, i2, i3, i4, j1]
    refine AWP.rounds (fun i => i ≤ 7) wrkS (fun i => 7 - i) 0 (by omega) ?_ ?_
    · exact Weak.keep (by simp [wrkS, wrkL])
    · intro i hi
      refine wpc_ok hE mixed _ _ _ ?_
      have hc : i = 0 ∨ i = 1 ∨ i = 2 ∨ i = 3 ∨ i = 4 ∨ i = 5 ∨ i = 6 ∨ i = 7 := by omega
      rcases hc with rfl | rfl | rfl | rfl | rfl | rfl | rfl | rfl
      · simp [wrkS, wrkL, and_assoc, decoSpec, refoSpec, sizeSpec, toldoSpec, refusedSpec, r0, q0]
        exact Next.mk 1 (by omega) (by omega) (Weak.keep (by simp [wrkS, wrkL]))
      · simp [wrkS, wrkL, and_assoc, decoSpec, refoSpec, sizeSpec, toldoSpec, refusedSpec, r1, q1]
        exact Next.mk 2 (by omega) (by omega) (Weak.keep (by simp [wrkS, wrkL]))
      · simp [wrkS, wrkL, and_assoc, decoSpec, refoSpec, sizeSpec, toldoSpec, refusedSpec, r2, q2]
        exact Next.mk 3 (by omega) (by omega) (Weak.keep (by simp [wrkS, wrkL]))
      · simp [wrkS, wrkL, and_assoc, decoSpec, refoSpec, sizeSpec, toldoSpec, refusedSpec, r3, q3]
        exact Next.mk 4 (by omega) (by omega) (Weak.keep (by simp [wrkS, wrkL]))
      · simp [wrkS, wrkL, and_assoc, decoSpec, refoSpec, sizeSpec, toldoSpec, refusedSpec, r4, q4]
        exact Next.mk 5 (by omega) (by omega) (Weak.keep (by simp [wrkS, wrkL]))
      · simp [wrkS, wrkL, and_assoc, decoSpec, refoSpec, sizeSpec, toldoSpec, refusedSpec, r5, q5]
        exact Next.mk 6 (by omega) (by omega) (Weak.keep (by simp [wrkS, wrkL]))
      · simp [wrkS, wrkL, and_assoc, decoSpec, refoSpec, sizeSpec, toldoSpec, refusedSpec, r6, q6]
        exact Next.mk 7 (by omega) (by omega) (Weak.keep (by simp [wrkS, wrkL]))
      · simp [wrkS, and_assoc, decoSpec, refoSpec, sizeSpec, toldoSpec, s0, s1, s3, s4]
end Fen

namespace Fen
open Go Go.Proofs

def rencoSpec : Spec := { pre := EncIn, res := encSpec.res }
theorem renco_sound (gl : Gl) : Sound Tryd.prog gl 9 rencoSpec := renc_sound gl
def rdecoSpec : Spec := { pre := DecIn, res := decSpec.res }
theorem rdeco_sound (gl : Gl) : Sound Tryd.prog gl 14 rdecoSpec := rdec_sound gl
def TrimIn (a : List V) : Prop := trimSpec.pre a
def trimoSpec : Spec := { pre := TrimIn, res := trimSpec.res }
theorem trimo_sound (gl : Gl) : Sound Tryd.prog gl 15 trimoSpec := trim_sound gl
theorem trimIn {s : List UInt8} (hs : s.length ≤ 100000) : TrimIn [.c (.str s), .c (.str [61])] := ⟨s, rfl, by omega⟩
def SizeIn (a : List V) : Prop := sizeSpec.pre a
def sizeoSpec : Spec := { pre := SizeIn, res := sizeSpec.res }
theorem sizeo_sound (gl : Gl) : Sound Tryd.prog gl 10 sizeoSpec := size_sound gl
theorem sizeIn (n : Int) : SizeIn [.c (.int .i64 n)] := ⟨n, rfl⟩
theorem worksIn : lworksSpec.pre [] := rfl
theorem cut_of (s : List UInt8) (n : Nat) : (if (n : Int) < (s.length : Int) then (n : Int) else (s.length : Int)) = ((s.take n).length : Int) ∧ (((s.take n).length : Int) ≤ s.length) ∧ s.take (s.take n).length = s.take n := by
  rw [List.length_take]
  rcases Nat.le_total n s.length with h | h
  · rw [Nat.min_eq_left h]
    refine ⟨by split <;> omega, by omega, rfl⟩
  · rw [Nat.min_eq_right h, List.take_length, List.take_of_length_le h]
    refine ⟨by split <;> omega, by omega, rfl⟩
theorem encO_of {s : List UInt8} (h : s.length ≤ 4096) : encO s = encI s ∧ encX s = 0 := by
  unfold encO encX
  rw [if_neg (by omega), if_neg (by omega)]
  exact ⟨rfl, rfl⟩
theorem natsI_str (s : List UInt8) : (natsI s).map UInt8.ofNat = s := by
  simp only [natsI, List.map_map]
  conv => rhs; rw [← List.map_id s]
  exact List.map_congr_left fun x _ => by simp
theorem decO_enc {s : List UInt8} (h : s.length ≤ 4096) : decO (encI s) = s ∧ decX (encI s) = 0 := by
  have hl := encI_len s
  unfold decO decX
  rw [if_neg (by omega), if_neg (by omega), dec_encI]
  exact ⟨natsI_str s, rfl⟩
theorem decO_bare {s : List UInt8} (h : s.length ≤ 4096) : decO (bareE s) = s ∧ decX (bareE s) = 0 := by
  have hl := bareE_len s
  unfold decO decX
  rw [if_neg (by omega), if_neg (by omega), dec_bareE]
  exact ⟨natsI_str s, rfl⟩
end Fen

namespace Fen
open Go Go.Proofs

/-! ### typed arguments -/
theorem u8_rng {n : Int} (h : IntKind.u8.min ≤ n ∧ n ≤ IntKind.u8.max) : 0 ≤ n ∧ n < 256 := by
  simp [IntKind.min, IntKind.max, IntKind.signed, IntKind.bits] at h
  omega
theorem maxLen_le {n : Nat} (h : n ≤ maxLen) : (n : Int) ≤ 9223372036854775807 := by
  unfold maxLen at h; omega
theorem arg_bytes {A : V} (h : TypedV T 28 A) : ∃ l : List Int, A = bytesV l ∧ Bytes l ∧ (l.length : Int) ≤ 9223372036854775807 := by
  obtain ⟨l, rfl, hl, hq⟩ := arg_ints T_28 T_5 h
  exact ⟨l, rfl, fun a ha => u8_rng (hq a ha), maxLen_le hl⟩
theorem arg_u8 {A : V} (h : TypedV T 5 A) : ∃ n : Int, A = .c (.int .u8 n) ∧ 0 ≤ n ∧ n < 256 := by
  obtain ⟨n, rfl, hn⟩ := arg_int T_5 h
  exact ⟨n, rfl, u8_rng hn⟩
theorem arg_text {A : V} (h : TypedV T 9 A) : ∃ l : List UInt8, A = .c (.str l) ∧ (l.length : Int) ≤ 9223372036854775807 := by
  obtain ⟨l, rfl, hl⟩ := arg_str T_9 h
  exact ⟨l, rfl, maxLen_le hl⟩
theorem arg_i64 {A : V} (h : TypedV T 3 A) : ∃ n : Int, A = .c (.int .i64 n) ∧ True := by
  obtain ⟨n, rfl, _⟩ := arg_int T_3 h
  exact ⟨n, rfl, trivial⟩
end Fen
