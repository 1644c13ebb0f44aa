/- A part of the proof; no statement is proved here: BBdJ, BBdK. -/
import Derived.Test.YtmbogpmhlepkmaaDoorEncB

set_option linter.unusedVariables false
set_option linter.unusedSimpArgs false

namespace Fen
open Go Go.Proofs

/-! ### the reference: value, Bare, Encode -/
def valF (c : UInt8) : Int := match valI c with
  | some n => n
  | none => -1
def valSt (c : Int) (k : Nat) : St := ⟨13, [(0, .val (.int .u8 c)), (3, .val (.int .i64 k))], []⟩
def rvalSpec : Spec := { pre := fun args => ∃ c : Int, args = [.c (.int .u8 c)] ∧ 0 ≤ c ∧ c < 256, res := fun args => match args with
  | [.c (.int _ c)] => .one (.val (.c (.int .i64 (valF (u8i c)))))
  | _ => .many [] }
def G_rval : Specs := []
@[simp] theorem G_rval_live : Specs.live G_rval = false := rfl
theorem G_rval_ok (gl : Gl) : SpecsOK Tryd.prog gl G_rval := .nil _ _
set_option maxHeartbeats 4000000 in
set_option maxRecDepth 10000 in
theorem rval_sound (gl : Gl) : Sound Tryd.prog gl 27 rvalSpec := by
  refine sound_awp (N := Tryd.f27.ntmps) (rs := Tryd.f27.results.toList) tok Tryd.func27 rfl rfl rfl rfl rfl ?_ ?_ ?_
  · rintro args ⟨c,rfl,h0,h1⟩; simp [Tryd.f27]
  · rintro args ⟨c,rfl,h0,h1⟩; simp [rvalSpec, Tryd.f27]
  · rintro args ⟨c,rfl,h0,h1⟩ bs hgl hh hro
    have hE : Env.OK ⟨Tryd.prog, T, G_rval, bs⟩ := ⟨tok, by rw [hgl]; exact G_rval_ok gl⟩
    obtain ⟨b, hb⟩ : ∃ b, u8i c = b := ⟨_, rfl⟩
    have hc : c = ((b.toNat : Nat) : Int) := by rw [← hb]; exact (byteC_u8i h0 h1).symm
    refine wpc_ok hE mixed _ _ _ ?_
    simp [rvalSpec, Tryd.f27, hb]
    refine AWP.rounds (fun k => k ≤ 64 ∧ ∀ i, i < k → sgnI i ≠ b) (valSt c) (fun k => 64 - k) 0 ⟨by omega, fun i h => by omega⟩ ?_ ?_
    · exact Weak.keep (by simp [valSt])
    · rintro k ⟨hk, hi⟩
      refine wpc_ok hE mixed _ _ _ ?_
      rcases Nat.lt_or_ge k 64 with q | q
      · have hs := sgn_at2 (n := (k : Int)) (by omega) (by omega)
        have hs' := sgn_at0 k q
        simp only [Int.toNat_natCast] at hs
        have w1 : IntKind.i64.wrap ((k : Int) + 1) = ((k + 1 : Nat) : Int) := by rw [wrap64 _ (by omega) (by omega)]; omega
        have kl : ((k : Int) < 64) = True := eq_true (by omega)
        by_cases e : sgnI k = b
        · have e' : ((((sgnI k).toNat : Nat) : Int) = c) = True := eq_true (by rw [hc, e])
          have hv : valF b = k := by rw [← e]; unfold valF; rw [val_sgn k q]
          simp [valSt, hs, hs', kl, e', hv]
        · have e' : ((((sgnI k).toNat : Nat) : Int) = c) = False := eq_false (fun h => e (by
            rw [hc] at h
            exact UInt8.toNat_inj.1 (by omega)))
          simp [valSt, hs, hs', kl, e', w1]
          exact Next.mk (k + 1) ⟨by omega, fun i h => by
            rcases Nat.lt_or_ge i k with h' | h'
            · exact hi i h'
            · obtain rfl : i = k := by omega
              exact e⟩ (by omega) (Weak.keep (by simp [valSt]))
      · obtain rfl : k = 64 := by omega
        have hv : valF b = -1 := by
          unfold valF
          cases hq : valI b with
          | none => rfl
          | some n => exact absurd (sgn_val hq).1 (hi n (sgn_val hq).2)
        simp [valSt, hv]
def bitsI (l : List Nat) (m : Nat) : Nat → Nat
  | 0 => 0
  | i + 1 => 2 * bitsI l m i + bitV l (m + i)
theorem bitsI_six (l : List Nat) (m : Nat) : bitsI l m 6 = sextV l m := by
  simp only [bitsI, sextV, Nat.add_zero]
  omega
theorem bitsI_lt (l : List Nat) (m : Nat) : ∀ i, bitsI l m i < 2 ^ i
  | 0 => by simp [bitsI]
  | i + 1 => by
    have := bitsI_lt l m i
    have hb : bitV l (m + i) < 2 := by unfold bitV; omega
    simp only [bitsI, Nat.pow_succ]
    omega
def bareB (s : List UInt8) (j : Nat) : List UInt8 := (bareE s).take j
def barS (s : List UInt8) (j : Nat) : St := ⟨49, [(0, .val (.str s)), (3, .ref 0 0), (4, .val (.int .i64 (6 * j : Nat)))], [.sl 5 0 true 1 j ((bareB s j).map byteC)]⟩
def barT (s : List UInt8) (j i : Nat) : St := ⟨49, [(0, .val (.str s)), (3, .ref 0 0), (4, .val (.int .i64 (6 * j : Nat))), (5, .val (.int .i64 (bitsI (natsI s) (6 * j) i))), (6, .val (.int .i64 (6 * j + i : Nat)))], [.sl 5 0 true 1 j ((bareB s j).map byteC)]⟩
theorem pow_at {i : Nat} (h : i < 8) : ([.int .i64 128, .int .i64 64, .int .i64 32, .int .i64 16, .int .i64 8, .int .i64 4, .int .i64 2, .int .i64 1] : List C)[i]?.getD .nilf = .int .i64 (2 ^ (7 - i) : Nat) := by
  match i, h with
  | 0, _ | 1, _ | 2, _ | 3, _ | 4, _ | 5, _ | 6, _ | 7, _ => rfl
theorem pow_at2 {i : Nat} (h : i < 8) (hq : i < ([.int .i64 128, .int .i64 64, .int .i64 32, .int .i64 16, .int .i64 8, .int .i64 4, .int .i64 2, .int .i64 1] : List C).length) : ([.int .i64 128, .int .i64 64, .int .i64 32, .int .i64 16, .int .i64 8, .int .i64 4, .int .i64 2, .int .i64 1] : List C)[i]'hq = .int .i64 (2 ^ (7 - i) : Nat) := by
  match i, h with
  | 0, _ | 1, _ | 2, _ | 3, _ | 4, _ | 5, _ | 6, _ | 7, _ => rfl
theorem bareB_succ {s : List UInt8} {j : Nat} (h : j < (bareE s).length) : bareB s (j + 1) = bareB s j ++ [sgnI (sextV (natsI s) (6 * j))] := by
  unfold bareB
  rw [List.take_add_one]
  congr 1
  have hl : (enc6 (natsI s)).length = (bareE s).length := by simp [bareE, txtI]
  have := enc_sext (natsI s) (natsI_by s) j (by omega)
  unfold bareE txtI
  rw [List.getElem?_map, this]
  rfl
def rbareSpec : Spec := { pre := fun args => ∃ s : List UInt8, args = [.c (.str s)] ∧ s.length ≤ 50000, res := fun args => match args with
  | [.c (.str s)] => .one (.val (.c (.str (bareE s))))
  | _ => .many [] }
def G_rbare : Specs := []
@[simp] theorem G_rbare_live : Specs.live G_rbare = false := rfl
theorem G_rbare_ok (gl : Gl) : SpecsOK Tryd.prog gl G_rbare := .nil _ _
set_option maxHeartbeats 8000000 in
set_option maxRecDepth 10000 in
theorem rbare_sound (gl : Gl) : Sound Tryd.prog gl 24 rbareSpec := by
  refine sound_awp (N := Tryd.f24.ntmps) (rs := Tryd.f24.results.toList) tok Tryd.func24 rfl rfl rfl rfl rfl ?_ ?_ ?_
  · rintro args ⟨s,rfl,hs⟩; simp [Tryd.f24]
  · rintro args ⟨s,rfl,hs⟩; simp [rbareSpec, Tryd.f24]
  · rintro args ⟨s,rfl,hs⟩ bs hgl hh hro
    have hE : Env.OK ⟨Tryd.prog, T, G_rbare, bs⟩ := ⟨tok, by rw [hgl]; exact G_rbare_ok gl⟩
    refine wpc_ok hE mixed _ _ _ ?_
    simp [rbareSpec, Tryd.f24]
    have hbl := bareE_len s
    refine AWP.rounds (fun j => j ≤ (bareE s).length) (barS s) (fun j => (bareE s).length - j) 0 (by omega) ?_ ?_
    · exact Weak.ren [none] (baseOK.nil hh) (by simp) (by simp [barS, bareB]) (by simp [barS])
    · intro j hj
      refine wpc_ok hE mixed _ _ _ ?_
      have w8 : IntKind.i64.wrap (8 * (s.length : Int)) = 8 * (s.length : Int) := wrap64 _ (by omega) (by omega)
      rcases Nat.lt_or_ge j (bareE s).length with q | q
      · have lt1 : (6 * (j : Int) < 8 * (s.length : Int)) = True := eq_true (by omega)
        simp [barS, w8, lt1]
        refine AWP.leaves 2 (barT s j 6) (AWP.rounds (fun i => i ≤ 6) (barT s j) (fun i => 6 - i) 0 (by omega) ?_ ?_) ?_
        · exact Weak.keep (by simp [barT, bitsI])
        · intro i hi
          refine wpc_ok hE mixed _ _ _ ?_
          have w6 : IntKind.i64.wrap (6 * (j : Int) + 6) = 6 * (j : Int) + 6 := wrap64 _ (by omega) (by omega)
          rcases Nat.lt_or_ge i 6 with c | c
          · have il : ((i : Int) < 6) = True := eq_true (by omega)
            obtain ⟨Q, hQ⟩ : ∃ Q, (6 * j + i) / 8 = Q := ⟨_, rfl⟩
            obtain ⟨R, hR⟩ : ∃ R, (6 * j + i) % 8 = R := ⟨_, rfl⟩
            have hM : (6 * (j : Int) + (i : Int)) = ((6 * j + i : Nat) : Int) := by push_cast; rfl
            have td : IntKind.i64.wrap ((6 * (j : Int) + (i : Int)).tdiv 8) = (Q : Int) := by
              rw [Int.tdiv_eq_ediv_of_nonneg (by omega), wrap64 _ (by omega) (by omega)]; omega
            have tm : (6 * (j : Int) + (i : Int)).tmod 8 = (R : Int) := by rw [Int.tmod_eq_emod_of_nonneg (by omega)]; omega
            have R8 : R < 8 := by omega
            have Rl : ((R : Int) < 8) = True := eq_true (by omega)
            obtain ⟨P, hP⟩ : ∃ P, 2 ^ (7 - R) = P := ⟨_, rfl⟩
            have hP0 : 0 < P := by rw [← hP]; exact Nat.two_pow_pos _
            have hP1 : P ≤ 128 := by rw [← hP]; exact Nat.pow_le_pow_right (n := 2) (by omega) (by omega : 7 - R ≤ 7)
            have p1 := pow_at R8
            have p2 := pow_at2 R8
            rw [hP] at p1
            simp only [hP] at p2
            obtain ⟨N, hN⟩ : ∃ N, bitsI (natsI s) (6 * j) i = N := ⟨_, rfl⟩
            have hNl : N < 64 := by
              have h1 := bitsI_lt (natsI s) (6 * j) i
              have h2 : 2 ^ i ≤ 2 ^ 6 := Nat.pow_le_pow_right (by omega) (by omega)
              omega
            have wN : IntKind.i64.wrap (2 * (N : Int)) = 2 * (N : Int) := wrap64 _ (by omega) (by omega)
            have wi : IntKind.i64.wrap (6 * (j : Int) + (i : Int) + 1) = 6 * (j : Int) + ((i : Int) + 1) := by rw [wrap64 _ (by omega) (by omega)]; omega
            rcases Nat.lt_or_ge Q s.length with g | g
            · have gl : ((Q : Int) < s.length) = True := eq_true (by omega)
              obtain ⟨D, hD⟩ : ∃ D, s[Q].toNat / P = D := ⟨_, rfl⟩
              obtain ⟨B, hB⟩ : ∃ B, D % 2 = B := ⟨_, rfl⟩
              have hb : bitV (natsI s) (6 * j + i) = B := by
                unfold bitV
                rw [hQ, hR, hP, ← hB, ← hD]
                simp [natsI, g]
              have hN1 : bitsI (natsI s) (6 * j) (i + 1) = 2 * N + B := by rw [bitsI, hN, hb]
              have hc := (s[Q]).toNat_lt
              have hd1 : D ≤ s[Q].toNat := by rw [← hD]; exact Nat.div_le_self _ _
              have wc : IntKind.i64.wrap ((s[Q].toNat : Nat) : Int) = ((s[Q].toNat : Nat) : Int) := wrap64 _ (by omega) (by omega)
              have t1 : IntKind.i64.wrap (((s[Q].toNat : Nat) : Int) / (P : Int)) = (D : Int) := by
                rw [← Int.natCast_ediv, hD, wrap64 _ (by omega) (by omega)]
              have t2 : (D : Int).tmod 2 = (B : Int) := by
                rw [Int.tmod_eq_emod_of_nonneg (by omega)]; omega
              have hP' : (P = 0) = False := eq_false (by omega)
              have wf : IntKind.i64.wrap (2 * (N : Int) + (B : Int)) = 2 * (N : Int) + (B : Int) := wrap64 _ (by omega) (by omega)
              have Rl' : (R < 8) = True := eq_true R8
              simp [barT, w6, il, td, tm, g, gl, Rl, Rl', p1, p2, wc, t1, t2, hN, wN, wi, wf, hP']
              refine ⟨rfl, Next.mk (i + 1) (by omega) (by omega) (Weak.keep ?_)⟩
              simp [barT, hN1]
            · have gl : ((Q : Int) < s.length) = False := eq_false (by omega)
              have hb : bitV (natsI s) (6 * j + i) = 0 := by
                unfold bitV
                rw [hQ, List.getD_eq_getElem?_getD, List.getElem?_eq_none (by simp; omega)]
                simp
              have hN1 : bitsI (natsI s) (6 * j) (i + 1) = 2 * N := by rw [bitsI, hN, hb]; rfl
              simp [barT, w6, il, td, gl, hN, wN, wi]
              refine Next.mk (i + 1) (by omega) (by omega) (Weak.keep ?_)
              simp [barT, hN1]
          · obtain rfl : i = 6 := by omega
            simp [barT, w6]
            exact Leaves.mk (Weak.keep (by simp [barT]))
        · have h6 := bitsI_six (natsI s) (6 * j)
          have hlt := sextV_lt (natsI s) (6 * j)
          have hsu := bareB_succ q
          obtain ⟨N, hN⟩ : ∃ N, sextV (natsI s) (6 * j) = N := ⟨_, rfl⟩
          rw [hN] at h6 hlt hsu
          have hs := sgn_at2 (n := (N : Int)) (by omega) (by omega)
          have hs' := sgn_at0 N hlt
          simp only [Int.toNat_natCast] at hs
          have Nl : ((N : Int) < 64) = True := eq_true (by omega)
          have Nl' : (N < 64) = True := eq_true hlt
          have wj : IntKind.i64.wrap (6 * (j : Int) + 6) = 6 * ((j : Int) + 1) := by rw [wrap64 _ (by omega) (by omega)]; omega
          simp [barT, h6, hs, hs', Nl, Nl', wj]
          refine ⟨by omega, Next.mk (j + 1) (by omega) (by omega) (Weak.ren [some 0] (baseOK.nil hh) (by simp) (by simp [barS, hsu]) (by simp [barS]))⟩
      · obtain rfl : j = (bareE s).length := by omega
        have lt1 : (6 * (((bareE s).length : Nat) : Int) < 8 * (s.length : Int)) = False := eq_false (by omega)
        have e : bareB s (bareE s).length = bareE s := by unfold bareB; rw [List.take_length]
        have bb := byteOf_byteC (bareE s)
        simp [barS, w8, lt1, e]
        simpa using bb
end Fen

namespace Fen
open Go Go.Proofs

theorem len_mod {α : Type} (l : List α) (n : Nat) : (l.length : Int).tmod 4 = ((l.length % 4 : Nat) : Int) := by rw [Int.tmod_eq_emod_of_nonneg (by omega)]; rfl
/-- as many fillers as up to a multiple of four -/
def padS (b : List UInt8) (i : Nat) : List UInt8 := b ++ List.replicate i 61
theorem padS_len (b : List UInt8) (i : Nat) : (padS b i).length = b.length + i := by simp [padS]
theorem padS_succ (b : List UInt8) (i : Nat) : padS b i ++ [61] = padS b (i + 1) := by simp [padS, List.replicate_succ']
def rencS (s b : List UInt8) (i : Nat) : St := ⟨17, [(4, .val (.str (padS b i)))], []⟩
def rencSpec : Spec := { pre := encSpec.pre, res := encSpec.res }
def G_renc : Specs := [(24, rbareSpec)]
@[simp] theorem G_renc_live : Specs.live G_renc = false := rfl
@[simp] theorem G_renc_24 : G_renc.find 24 = some rbareSpec := rfl
theorem G_renc_ok (gl : Gl) : SpecsOK Tryd.prog gl G_renc := .cons (rbare_sound gl) (.nil _ _)
set_option maxHeartbeats 4000000 in
set_option maxRecDepth 10000 in
theorem renc_sound (gl : Gl) : Sound Tryd.prog gl 9 rencSpec := by
  refine sound_awp (N := Tryd.f9.ntmps) (rs := Tryd.f9.results.toList) tok Tryd.func9 rfl rfl rfl rfl rfl ?_ ?_ ?_
  · rintro args ⟨s,rfl,hs⟩; simp [encSpec, Tryd.f9]
  · rintro args ⟨s,rfl,hs⟩; simp [encSpec, rencSpec, Tryd.f9]
  · rintro args ⟨s,rfl,hs⟩ bs hgl hh hro
    have hE : Env.OK ⟨Tryd.prog, T, G_renc, bs⟩ := ⟨tok, by rw [hgl]; exact G_renc_ok gl⟩
    simp only [rencSpec, encSpec]
    rcases Nat.lt_or_ge 4096 s.length with c1 | c1
    · have c1' : (4096 < (s.length : Int)) = True := eq_true (by omega)
      refine wpc_ok hE mixed _ _ _ ?_
      simp [rencSpec, rbareSpec, Tryd.f9, c1, c1', encO, encX]
    have c1' : (4096 < (s.length : Int)) = False := eq_false (by omega)
    have c2 : (4096 < s.length) = False := eq_false (by omega)
    have hI : encI s = padS (bareE s) ((4 - (bareE s).length % 4) % 4) := rfl
    have hbl := bareE_len s
    refine wpc_ok hE mixed _ _ _ ?_
    simp [rencSpec, rbareSpec, Tryd.f9, c2, c1', encO, encX]
    refine ⟨by omega, ?_⟩
    refine AWP.rounds (fun i => i ≤ (4 - (bareE s).length % 4) % 4) (rencS s (bareE s)) (fun i => (4 - (bareE s).length % 4) % 4 - i) 0 (by omega) ?_ ?_
    · exact Weak.ren [] (baseOK.nil hh) (by simp) (by simp [rencS]) (by simp [rencS, padS])
    · intro i hi
      refine wpc_ok hE mixed _ _ _ ?_
      have pl := padS_len (bareE s) i
      have ps := padS_succ (bareE s) i
      rcases Nat.lt_or_ge i ((4 - (bareE s).length % 4) % 4) with c | c
      · have tm : (((padS (bareE s) i).length : Int).tmod 4 = 0) = False := eq_false (by rw [len_mod _ 0]; omega)
        simp [rencS, tm, ps]
        refine ⟨by omega, Next.mk (i + 1) (by omega) (by omega) (Weak.keep (by simp [rencS]))⟩
      · obtain rfl : i = (4 - (bareE s).length % 4) % 4 := by omega
        have tm : (((padS (bareE s) ((4 - (bareE s).length % 4) % 4)).length : Int).tmod 4 = 0) = True := eq_true (by rw [len_mod _ 0]; omega)
        simp [rencS, tm, hI]
/-! ### the reference's Decode -/
structure Rr where
  m : Nat
  n : Nat
  out : List Nat
def goR (x : Rr) (v : Nat) : Rr :=
  if 8 ≤ x.m + 6 then ⟨x.m + 6 - 8, (x.n * 64 + v) % 1048576, x.out ++ [(x.n * 64 + v) % 1048576 / 2 ^ (x.m + 6 - 8) % 256]⟩ else ⟨x.m + 6, (x.n * 64 + v) % 1048576, x.out⟩
/-- the same as the program's: its rest are the low bits -/
def RrOK (x : Rr) (y : Rg) : Prop := x.m = y.w ∧ x.n < 1048576 ∧ x.n % 2 ^ x.m = y.r ∧ x.out = y.out ∧ (y.w = 0 ∨ y.w = 2 ∨ y.w = 4 ∨ y.w = 6)
theorem goR_ok {x : Rr} {y : Rg} {v : Nat} (h : RrOK x y) (hv : v < 64) : RrOK (goR x v) (goD y v) := by
  obtain ⟨m, n, o⟩ := x
  obtain ⟨w, r, o'⟩ := y
  obtain ⟨h1, h2, h3, h4, h5⟩ := h
  simp only at h1 h2 h3 h4 h5
  subst h1 h4
  rcases h5 with rfl | rfl | rfl | rfl
  · simp only [Nat.pow_zero, Nat.mod_one] at h3
    subst h3
    simp [RrOK, goR, goD]
    omega
  · have e : n % 4 = r := h3
    simp [RrOK, goR, goD]
    omega
  · have e : n % 16 = r := h3
    simp [RrOK, goR, goD]
    omega
  · have e : n % 64 = r := h3
    simp [RrOK, goR, goD]
    omega
theorem goR_all : ∀ {l : List Nat} {x : Rr} {y : Rg}, Sx l → RrOK x y → RrOK (l.foldl goR x) (l.foldl goD y)
  | [], _, _, _, h => h
  | v :: l, x, y, hs, h => goR_all (l := l) (Sx.tail hs).2 (goR_ok h (Sx.tail hs).1)
def rdR (s : List UInt8) (k : Nat) : Rr := (valsI (s.take k)).foldl goR ⟨0, 0, []⟩
theorem rdR_ok (s : List UInt8) (k : Nat) : RrOK (rdR s k) (decR s k) := goR_all (vals_sx _) ⟨rfl, by simp, by simp, rfl, .inl rfl⟩
theorem goR_app (m n : Nat) (o : List Nat) (v : Nat) : goR ⟨m, n, o⟩ v = ⟨(goR ⟨m, n, []⟩ v).m, (goR ⟨m, n, []⟩ v).n, o ++ (goR ⟨m, n, []⟩ v).out⟩ := by
  unfold goR
  split <;> simp
theorem rdR_succ {b : List UInt8} {k n : Nat} (h : k < b.length) (ha : allI (b.take k) = true) (hv : valI b[k] = some n) : rdR b (k + 1) = goR (rdR b k) n ∧ allI (b.take (k + 1)) = true := by
  have e1 : b.take (k + 1) = b.take k ++ [b[k]] := by rw [List.take_add_one, List.getElem?_eq_getElem h]; rfl
  have e2 : valsI [b[k]] = [n] := by simp [valsI, hv]
  constructor
  · unfold rdR
    rw [e1, vals_app _ ha, e2, List.foldl_append]
    rfl
  · rw [e1]
    unfold allI at ha ⊢
    rw [List.all_append, ha]
    simp [hv]
theorem vals_cut {s : List UInt8} {k : Nat} (hk : k ≤ s.length) (ha : allI (s.take k) = true) (hs : ∀ h : k < s.length, valI s[k] = none) : valsI s = valsI (s.take k) := by
  conv => lhs; rw [← List.take_append_drop k s]
  rw [vals_app _ ha]
  rcases Nat.lt_or_ge k s.length with h | h
  · rw [List.drop_eq_getElem_cons h, vals_stop (hs h)]; simp
  · rw [List.drop_eq_nil_of_le h]; simp [valsI]
def byN (l : List Nat) : List UInt8 := l.map UInt8.ofNat
def rdcS (s : List UInt8) (k : Nat) : St := ⟨69, [(0, .val (.str s)), (4, .val (.int .i64 (rdR s k).n)), (5, .val (.int .i64 (rdR s k).m)), (6, .ref 0 0), (7, .val (.int .i64 k))], [.sl 5 0 true 1 (rdR s k).out.length ((byN (rdR s k).out).map byteC)]⟩
def rdT (s t : List UInt8) : St := ⟨69, [(0, .val (.str s)), (6, .ref 0 0)], [.sl 5 0 true 1 t.length (t.map byteC)]⟩
def rdU (s t : List UInt8) (i : Nat) : St := ⟨69, [(0, .val (.str s)), (8, .val (.str t)), (9, .val (.str (bareE t))), (10, .val (.str (padS (bareE t) i)))], []⟩
def rdecSpec : Spec := { pre := decSpec.pre, res := decSpec.res }
def G_rdec : Specs := [(27, rvalSpec), (24, rbareSpec)]
@[simp] theorem G_rdec_live : Specs.live G_rdec = false := rfl
@[simp] theorem G_rdec_27 : G_rdec.find 27 = some rvalSpec := rfl
@[simp] theorem G_rdec_24 : G_rdec.find 24 = some rbareSpec := rfl
theorem G_rdec_ok (gl : Gl) : SpecsOK Tryd.prog gl G_rdec := .cons (rval_sound gl) (.cons (rbare_sound gl) (.nil _ _))
set_option maxHeartbeats 16000000 in
set_option maxRecDepth 10000 in
theorem rdec_sound (gl : Gl) : Sound Tryd.prog gl 14 rdecSpec := by
  refine sound_awp (N := Tryd.f14.ntmps) (rs := Tryd.f14.results.toList) tok Tryd.func14 rfl rfl rfl rfl rfl ?_ ?_ ?_
  · rintro args ⟨s,rfl,hs⟩; simp [decSpec, Tryd.f14]
  · rintro args ⟨s,rfl,hs⟩; simp [decSpec, rdecSpec, Tryd.f14]
  · rintro args ⟨s,rfl,hs⟩ bs hgl hh hro
    have hE : Env.OK ⟨Tryd.prog, T, G_rdec, bs⟩ := ⟨tok, by rw [hgl]; exact G_rdec_ok gl⟩
    simp only [rdecSpec, decSpec]
    rcases Nat.lt_or_ge 8192 s.length with c1 | c1
    · have c1' : (8192 < (s.length : Int)) = True := eq_true (by omega)
      refine wpc_ok hE mixed _ _ _ ?_
      simp [rdecSpec, rbareSpec, rvalSpec, Tryd.f14, c1, c1', decO, decX]
    have c1' : (8192 < (s.length : Int)) = False := eq_false (by omega)
    have c2 : (8192 < s.length) = False := eq_false (by omega)
    refine wpc_ok hE mixed _ _ _ ?_
    simp [rdecSpec, rbareSpec, rvalSpec, Tryd.f14, c2, c1', decO, decX]
    obtain ⟨t, ht⟩ : ∃ t, byN (dec6 (valsI s)) = t := ⟨_, rfl⟩
    have hD := dec_by (vals_sx s)
    have hnt : natsI t = dec6 (valsI s) := by rw [← ht]; exact natsI_back hD
    have hI : decI s = if s = bareE t ∨ s = padS (bareE t) ((4 - (bareE t).length % 4) % 4) then some (dec6 (valsI s)) else none := by
      have e1 : txtI (enc6 (dec6 (valsI s))) = bareE t := by unfold bareE; rw [hnt]
      have e2 : padI (enc6 (dec6 (valsI s))).length = List.replicate ((4 - (bareE t).length % 4) % 4) 61 := by
        unfold padI; rw [← e1]; simp [txtI]
      rw [dec_eq]; unfold rdecI padS; rw [e1, e2]
    have htl : t.length ≤ s.length := by
      have h1 := dec6_len (valsI s)
      have h2 : (valsI s).length ≤ s.length := by
        have : ∀ l : List UInt8, (valsI l).length ≤ l.length := fun l => by
          induction l with
          | nil => simp [valsI]
          | cons c l ih => unfold valsI; split <;> simp; omega
        exact this s
      rw [← ht]; unfold byN; rw [List.length_map]; omega
    refine AWP.leaves 0 (rdT s t) (AWP.rounds (fun k => k ≤ s.length ∧ allI (s.take k) = true) (rdcS s) (fun k => s.length - k) 0 ⟨by omega, by simp [allI]⟩ ?_ ?_) ?_
    · exact Weak.ren [none] (baseOK.nil hh) (by simp) (by simp [rdcS, rdR, valsI, byN]) (by simp [rdcS, rdR, valsI])
    · rintro k ⟨hk, hal⟩
      obtain ⟨q1, q2, q3, q4, q5⟩ := rdR_ok s k
      obtain ⟨o3, o4⟩ := decR_out hal
      obtain ⟨m, n, o, hR⟩ : ∃ m n o, rdR s k = ⟨m, n, o⟩ := ⟨_, _, _, rfl⟩
      have lv : ∀ (hz : ∀ h : k < s.length, valI s[k] = none), byN o = t ∧ o.length = t.length := fun hz => by
        have h1 := vals_cut hk hal hz
        have h2 : o = dec6 (valsI s) := by
          have : o = (rdR s k).out := by rw [hR]
          rw [this, q4, o3, ← h1]
        rw [← ht, h2]
        exact ⟨rfl, by simp [byN]⟩
      rw [← q1] at q5
      rw [hR] at q1 q2 q3 q4 q5
      simp only at q1 q2 q3 q4 q5
      refine wpc_ok hE mixed _ _ _ ?_
      rcases Nat.lt_or_ge k s.length with h | h
      · have hc := (s[k]).toNat_lt
        have kl : ((k : Int) < s.length) = True := eq_true (by omega)
        have ub := u8i_nat s[k]
        have cl : ((s[k].toNat : Int) < 256) = True := eq_true (by omega)
        have w1 : IntKind.i64.wrap ((k : Int) + 1) = ((k + 1 : Nat) : Int) := by rw [wrap64 _ (by omega) (by omega)]; omega
        cases hv : valI s[k] with
        | none =>
          have hvF : valF s[k] = -1 := by unfold valF; rw [hv]
          obtain ⟨l1, l2⟩ := lv (fun _ => hv)
          simp [rdcS, hR, h, kl, and_assoc, rbareSpec, rvalSpec, ub, cl, hvF]
          exact Leaves.mk (Weak.heap (by simp [rdT, l1, l2]) (by simp [rdT]))
        | some v =>
          obtain ⟨hT, hal'⟩ := rdR_succ h hal hv
          have hv64 := (sgn_val hv).2
          have hvF : valF s[k] = v := by unfold valF; rw [hv]
          have v0 : (0 ≤ (v : Int)) = True := eq_true (by omega)
          obtain ⟨N, hN⟩ : ∃ N, (n * 64 + v) % 1048576 = N := ⟨_, rfl⟩
          have wn : IntKind.i64.wrap ((n : Int) * 64) = (n : Int) * 64 := wrap64 _ (by omega) (by omega)
          have wv : IntKind.i64.wrap ((n : Int) * 64 + (v : Int)) = (n : Int) * 64 + (v : Int) := wrap64 _ (by omega) (by omega)
          have tm : ((n : Int) * 64 + (v : Int)).tmod 1048576 = (N : Int) := by rw [Int.tmod_eq_emod_of_nonneg (by omega)]; omega
          have wm : IntKind.i64.wrap ((m : Int) + 6) = (m : Int) + 6 := wrap64 _ (by omega) (by omega)
          rw [hR] at hT
          by_cases h8 : 8 ≤ m + 6
          · have h8' : (8 ≤ (m : Int) + 6) = True := eq_true (by omega)
            have wm2 : IntKind.i64.wrap ((m : Int) + 6 - 8) = (m : Int) + 6 - 8 := wrap64 _ (by omega) (by omega)
            obtain ⟨M, hM⟩ : ∃ M, m + 6 - 8 = M := ⟨_, rfl⟩
            have hT2 : rdR s (k + 1) = ⟨M, N, o ++ [N / 2 ^ M % 256]⟩ := by rw [hT]; unfold goR; rw [if_pos h8]; simp only [hN, hM]
            have hM8 : M < 8 := by omega
            have wu : IntKind.u64.wrap ((m : Int) + 6 - 8) = (M : Int) := by
              have : IntKind.u64.wrap ((m : Int) + 6 - 8) = ((m : Int) + 6 - 8) % 18446744073709551616 := by simp [IntKind.wrap, IntKind.bits, IntKind.signed]
              rw [this]; omega
            have bt : IntKind.i64.bits = 64 := rfl
            have mm : min M 64 = M := by omega
            have hp : ((2 : Int) ^ M) = ((2 ^ M : Nat) : Int) := by push_cast; rfl
            obtain ⟨X, hX⟩ : ∃ X, N / 2 ^ M % 256 = X := ⟨_, rfl⟩
            have wb : IntKind.u8.wrap ((N : Int).fdiv (2 ^ M)) = (X : Int) := by
              rw [hp, Int.fdiv_eq_ediv_of_nonneg _ (Int.natCast_nonneg _), ← Int.natCast_ediv]
              have : IntKind.u8.wrap ((N / 2 ^ M : Nat) : Int) = ((N / 2 ^ M : Nat) : Int) % 256 := by simp [IntKind.wrap, IntKind.bits, IntKind.signed]
              rw [this, ← hX]; rfl
            have xb : (UInt8.ofNat X).toNat = X := by rw [UInt8.toNat_ofNat']; omega
            rw [hX] at hT2
            have hol : o.length ≤ s.length := by rw [q4]; exact o4
            simp [rdcS, hR, h, kl, and_assoc, rbareSpec, rvalSpec, ub, cl, hvF, v0, wn, wv, tm, wm, h8', wm2, wu, bt, mm, wb, w1]
            refine ⟨by omega, by omega, Next.mk (k + 1) ⟨by omega, hal'⟩ (by omega) (Weak.ren [some 0] (baseOK.nil hh) (by simp) ?_ ?_)⟩
            · simp [rdcS, hT2, byN, byteC, xb]
            · simp [rdcS, hT2]
              omega
          · have h8' : (8 ≤ (m : Int) + 6) = False := eq_false (by omega)
            have hT2 : rdR s (k + 1) = ⟨m + 6, N, o⟩ := by rw [hT]; unfold goR; rw [if_neg h8]; simp only [hN]
            simp [rdcS, hR, h, kl, and_assoc, rbareSpec, rvalSpec, ub, cl, hvF, v0, wn, wv, tm, wm, h8', w1]
            refine Next.mk (k + 1) ⟨by omega, hal'⟩ (by omega) (Weak.heap ?_ ?_)
            · simp [rdcS, hT2]
            · simp [rdcS, hT2]
      · obtain rfl : k = s.length := by omega
        obtain ⟨l1, l2⟩ := lv (fun q => by omega)
        simp [rdcS, hR, and_assoc, rbareSpec, rvalSpec]
        exact Leaves.mk (Weak.heap (by simp [rdT, l1, l2]) (by simp [rdT]))
    · have bb := byteOf_byteC t
      have hbl := bareE_len t
      have bb2 : t.map (byteOf ∘ byteC) = t := by simpa using bb
      simp [rdT, and_assoc, rbareSpec, rvalSpec, bb2]
      refine ⟨by omega, ?_⟩
      refine AWP.rounds (fun i => i ≤ (4 - (bareE t).length % 4) % 4) (rdU s t) (fun i => (4 - (bareE t).length % 4) % 4 - i) 0 (by omega) ?_ ?_
      · exact Weak.ren [] (baseOK.nil hh) (by simp) (by simp [rdU]) (by simp [rdU, padS])
      · intro i hi
        refine wpc_ok hE mixed _ _ _ ?_
        have pl := padS_len (bareE t) i
        have ps := padS_succ (bareE t) i
        rcases Nat.lt_or_ge i ((4 - (bareE t).length % 4) % 4) with c | c
        · have tm : (((padS (bareE t) i).length : Int).tmod 4 = 0) = False := eq_false (by rw [len_mod _ 0]; omega)
          simp [rdU, tm, ps]
          refine ⟨by omega, Next.mk (i + 1) (by omega) (by omega) (Weak.keep (by simp [rdU]))⟩
        · obtain rfl : i = (4 - (bareE t).length % 4) % 4 := by omega
          have tm : (((padS (bareE t) ((4 - (bareE t).length % 4) % 4)).length : Int).tmod 4 = 0) = True := eq_true (by rw [len_mod _ 0]; omega)
          obtain ⟨B, hB⟩ : ∃ B, bareE t = B := ⟨_, rfl⟩
          obtain ⟨F, hF⟩ : ∃ F, padS (bareE t) ((4 - (bareE t).length % 4) % 4) = F := ⟨_, rfl⟩
          rw [hF] at hI tm
          rw [hB] at hI hF
          have hts : (dec6 (valsI s)).map UInt8.ofNat = t := ht
          by_cases k1 : s = B
          · have hd : decI s = some (dec6 (valsI s)) := by rw [hI, if_pos (.inl k1)]
            have k1' : (s = B) = True := eq_true k1
            simp [rdU, hF, hB, tm, hd, hts, k1']
          · have k1' : (s = B) = False := eq_false k1
            by_cases k2 : s = F
            · have hd : decI s = some (dec6 (valsI s)) := by rw [hI, if_pos (.inr k2)]
              have k2' : (s = F) = True := eq_true k2
              simp [rdU, hF, hB, tm, hd, hts, k1', k2']
            · have hd : decI s = none := by rw [hI, if_neg (by rintro (q | q); exact k1 q; exact k2 q)]
              have k2' : (s = F) = False := eq_false k2
              simp [rdU, hF, hB, tm, hd, k1', k2']
end Fen
