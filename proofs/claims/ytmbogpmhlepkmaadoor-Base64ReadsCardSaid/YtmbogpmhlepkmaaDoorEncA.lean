/- A part of the proof; no statement is proved here: BBdC, BBdD. -/
import Derived.Test.YtmbogpmhlepkmaaDoorBldA
import Derived.Test.YtmbogpmhlepkmaaDoorPlaA
import Derived.Test.YtmbogpmhlepkmaaDoorCoreE
import Derived.Test.YtmbogpmhlepkmaaDoorRptA

set_option linter.unusedVariables false
set_option linter.unusedSimpArgs false

namespace Fen
open Go Go.Proofs

/-! ### the closures of Encode -/
theorem sgn_at {n : Int} (h0 : 0 ≤ n) (h1 : n < 64) : ([65, 66, 67, 68, 69, 70, 71, 72, 73, 74, 75, 76, 77, 78, 79, 80, 81, 82, 83, 84, 85, 86, 87, 88, 89, 90, 97, 98, 99, 100, 101, 102, 103, 104, 105, 106, 107, 108, 109, 110, 111, 112, 113, 114, 115, 116, 117, 118, 119, 120, 121, 122, 48, 49, 50, 51, 52, 53, 54, 55, 56, 57, 43, 47] : List UInt8)[n.toNat]?.getD 0 = sgnI n.toNat := by
  obtain ⟨k, rfl⟩ : ∃ k : Nat, n = k := ⟨n.toNat, by omega⟩
  simp only [Int.toNat_natCast]
  have : ∀ k, k < 64 → ([65, 66, 67, 68, 69, 70, 71, 72, 73, 74, 75, 76, 77, 78, 79, 80, 81, 82, 83, 84, 85, 86, 87, 88, 89, 90, 97, 98, 99, 100, 101, 102, 103, 104, 105, 106, 107, 108, 109, 110, 111, 112, 113, 114, 115, 116, 117, 118, 119, 120, 121, 122, 48, 49, 50, 51, 52, 53, 54, 55, 56, 57, 43, 47] : List UInt8)[k]?.getD 0 = sgnI k := by decide +kernel
  exact this k (by omega)
theorem sgn_at2 {n : Int} (h0 : 0 ≤ n) (h1 : n < 64) (h : n.toNat < ([65, 66, 67, 68, 69, 70, 71, 72, 73, 74, 75, 76, 77, 78, 79, 80, 81, 82, 83, 84, 85, 86, 87, 88, 89, 90, 97, 98, 99, 100, 101, 102, 103, 104, 105, 106, 107, 108, 109, 110, 111, 112, 113, 114, 115, 116, 117, 118, 119, 120, 121, 122, 48, 49, 50, 51, 52, 53, 54, 55, 56, 57, 43, 47] : List UInt8).length) : ([65, 66, 67, 68, 69, 70, 71, 72, 73, 74, 75, 76, 77, 78, 79, 80, 81, 82, 83, 84, 85, 86, 87, 88, 89, 90, 97, 98, 99, 100, 101, 102, 103, 104, 105, 106, 107, 108, 109, 110, 111, 112, 113, 114, 115, 116, 117, 118, 119, 120, 121, 122, 48, 49, 50, 51, 52, 53, 54, 55, 56, 57, 43, 47] : List UInt8)[n.toNat]'h = sgnI n.toNat := by
  have := sgn_at h0 h1
  rwa [List.getElem?_eq_getElem h, Option.getD_some] at this
theorem u8i_nat (b : UInt8) : u8i (b.toNat : Int) = b := by simp [u8i]
def ehHS : HS := { wr := true, eff := fun xs h => match xs, h with
  | [.val (.int .i64 n), .ptr 0 0 0], b :: x1 :: x2 :: x3 :: x4 :: x5 :: t => (hOK 6 b t ∧ 0 ≤ n ∧ n < 64, .tup [], hB 6 (outOf t ++ [sgnI n.toNat]) :: x1 :: x2 :: x3 :: x4 :: x5 :: hS (outOf t ++ [sgnI n.toNat]))
  | _, _ => (False, .dead, h) }
def ehSpec : Spec := { pre := fun _ => False, res := fun _ => .many [], hp := some ehHS }
def G_eh : Specs := [(21, wbSpec)]
@[simp] theorem G_eh_live : Specs.live G_eh = false := rfl
@[simp] theorem G_eh_21 : G_eh.find 21 = some wbSpec := rfl
theorem G_eh_ok (gl : Gl) : SpecsOK Tryd.prog gl G_eh := .cons (wb_sound gl) (.nil _ _)
set_option maxHeartbeats 2000000 in
set_option maxRecDepth 10000 in
theorem eh_sound (gl : Gl) : Sound Tryd.prog gl 20 ehSpec := by
  refine sound_heap (hs := ehHS) (N := Tryd.f20.ntmps) (rs := Tryd.f20.results.toList) mixed tok (G_eh_ok gl) Tryd.func20 rfl rfl rfl rfl rfl ?_ ?_
  · intro xs h hp
    simp only [ehHS] at hp
    split at hp
    all_goals first | exact hp.elim | simp [Tryd.f20]
  · intro xs h hp bs hgl hh hro
    have hE : Env.OK ⟨Tryd.prog, T, G_eh, bs⟩ := ⟨tok, by rw [hgl]; exact G_eh_ok gl⟩
    simp only [ehHS] at hp
    split at hp
    · rename_i n b x1 x2 x3 x4 x5 t
      obtain ⟨hk, h0, h1⟩ := hp
      have hs := sgn_at2 h0 h1
      have hk' : hOK 6 b t = True := eq_true hk
      have hn : (n < 64) = True := eq_true h1
      have hn0 : (0 ≤ n) = True := eq_true h0
      have hu := u8i_nat (sgnI n.toNat)
      have hc : (((sgnI n.toNat).toNat : Int) < 256) = True := eq_true (by have := (sgnI n.toNat).toNat_lt; omega)
      simp [Tryd.f20, hcEff, ehHS, wbSpec, wbHS, hs, hk', hn, hn0, hu, hc]
      exact RetTo.same ⟨rfl, rfl⟩
    · exact hp.elim
def rgE (w r n : Int) : Rg := goE ⟨w.toNat, r.toNat, []⟩ n.toNat
def rgHS : HS := { wr := true, eff := fun xs h => match xs, h with
  | [.val (.int .i64 n), .ptr 5 0 0, .ptr 1 0 0, .ptr 4 0 0, .ptr 2 0 0, .ptr 3 0 0], b :: x1 :: x2 :: x3 :: .box 3 [.val (.int .i64 w)] :: .box 3 [.val (.int .i64 r)] :: t =>
    (hOK 6 b t ∧ (outOf t).length < 90000 ∧ x1 = .box 3 [.val (.int .i64 8)] ∧ x2 = .box 3 [.val (.int .i64 6)] ∧ x3 = .box 46 [.clos 20 [.ptr 0 0 0]] ∧ 0 ≤ n ∧ n < 256 ∧ (w = 0 ∨ w = 2 ∨ w = 4) ∧ 0 ≤ r ∧ r < 2 ^ w.toNat,
      .tup [.val (.int .i64 (rgE w r n).w), .val (.int .i64 (rgE w r n).r)], hB 6 (outOf t ++ (rgE w r n).out.map sgnI) :: x1 :: x2 :: x3 :: .box 3 [.val (.int .i64 (rgE w r n).w)] :: .box 3 [.val (.int .i64 (rgE w r n).r)] :: hS (outOf t ++ (rgE w r n).out.map sgnI))
  | _, _ => (False, .dead, h) }
def rgSpec : Spec := { pre := fun _ => False, res := fun _ => .many [], hp := some rgHS }
def G_rg : Specs := [(20, ehSpec)]
@[simp] theorem G_rg_live : Specs.live G_rg = false := rfl
@[simp] theorem G_rg_20 : G_rg.find 20 = some ehSpec := rfl
theorem G_rg_ok (gl : Gl) : SpecsOK Tryd.prog gl G_rg := .cons (eh_sound gl) (.nil _ _)
set_option maxHeartbeats 8000000 in
set_option maxRecDepth 10000 in
theorem rg_sound (gl : Gl) : Sound Tryd.prog gl 36 rgSpec := by
  refine sound_heapA (hs := rgHS) (N := Tryd.f36.ntmps) (rs := Tryd.f36.results.toList) tok Tryd.func36 rfl rfl rfl rfl rfl ?_ ?_
  · intro xs h hp
    simp only [rgHS] at hp
    split at hp
    all_goals first | exact hp.elim | simp [Tryd.f36]
  · intro xs h hp bs hgl hh hro
    have hE : Env.OK ⟨Tryd.prog, T, G_rg, bs⟩ := ⟨tok, by rw [hgl]; exact G_rg_ok gl⟩
    simp only [rgHS] at hp
    split at hp
    · rename_i n b x1 x2 x3 w r t
      obtain ⟨⟨out, rfl, rfl, hl0⟩, hl, rfl, rfl, rfl, hn0, hn1, hw, hr0, hr1⟩ := hp
      rw [outOf_hS] at hl
      have ok1 : ∀ c, hOK 6 (hB 6 (out ++ [c])) (hS (out ++ [c])) = True := fun c => eq_true (hOK_mk (by simp; omega))
      have ok0 : hOK 6 (hB 6 out) (hS out) = True := eq_true (hOK_mk (by omega))
      have fd : ∀ (a b : Int), 0 ≤ a → 0 ≤ b → a.fdiv b = a / b := fun a b h1 h2 => Int.fdiv_eq_ediv_of_nonneg a h2
      have bt : IntKind.i64.bits = 64 := rfl
      have v4 : IntKind.i64.wrap 4 = 4 := by decide
      have v3 : IntKind.i64.wrap 3 = 3 := by decide
      have v16 : IntKind.i64.wrap 16 = 16 := by decide
      have v15 : IntKind.i64.wrap 15 = 15 := by decide
      have v64 : IntKind.i64.wrap 64 = 64 := by decide
      have v63 : IntKind.i64.wrap 63 = 63 := by decide
      rcases hw with rfl | rfl | rfl
      · obtain rfl : r = 0 := by simp at hr1; omega
        have o1 : bits2 (fun _ x y => x ||| y) .i64 0 n = n := by
          have := or_add64 (a := 0) (b := n) 8 (by omega) (by omega) hn0 (by omega) (by omega)
          simpa using this
        have d1 : n.fdiv 4 = n / 4 := fd _ _ (by omega) (by omega)
        have m1 : bits2 (fun _ x y => x &&& y) .i64 n 3 = n % 4 := and_mask64 2 (by decide) (by omega) hn0 (by omega)
        have e : rgE 0 0 n = ⟨2, (n % 4).toNat, [(n / 4).toNat]⟩ := by
          simp only [rgE, goE, Int.toNat_zero, if_true, List.nil_append, Rg.mk.injEq, List.cons.injEq, and_true, true_and]
          omega
        have k1 : (((n % 4).toNat : Nat) : Int) = n % 4 := Int.toNat_of_nonneg (by omega)
        refine wpc_ok hE mixed _ _ _ ?_
        simp [Tryd.f36, hcEff, rgHS, o1]
        refine AWP.unroll hE mixed 3 ?_
        simp [Tryd.f36, hcEff, rgHS, ehSpec, ehHS, ok0, ok1, bt, d1, m1, v4, v3, e, k1]
        exact ⟨⟨by omega, by omega⟩, rfl, rfl, rfl, RetTo.same ⟨rfl, rfl⟩⟩
      · have hr4 : r < 4 := by simpa using hr1
        obtain ⟨R, hR⟩ : ∃ R : Int, r * 256 + n = R := ⟨_, rfl⟩
        have s1 : IntKind.i64.wrap (r * 256) = r * 256 := wrap64 _ (by omega) (by omega)
        have o1 : bits2 (fun _ x y => x ||| y) .i64 (r * 256) n = R := by
          rw [← hR]
          exact or_add64 (a := r) (b := n) 8 (by omega) (by omega) hn0 (by omega) (by omega)
        have d1 : R.fdiv 16 = R / 16 := fd _ _ (by omega) (by omega)
        have m1 : bits2 (fun _ x y => x &&& y) .i64 R 15 = R % 16 := and_mask64 4 (by decide) (by omega) (by omega) (by omega)
        have e : rgE 2 r n = ⟨4, (R % 16).toNat, [(R / 16).toNat]⟩ := by
          have : ((2 : Int).toNat) = 2 := rfl
          simp only [rgE, goE, this, if_true, List.nil_append, Nat.reduceEqDiff, if_false, Rg.mk.injEq, List.cons.injEq, and_true, true_and, show ((2 : Nat) = 0) = False by simp]
          omega
        have k1 : (((R % 16).toNat : Nat) : Int) = R % 16 := Int.toNat_of_nonneg (by omega)
        refine wpc_ok hE mixed _ _ _ ?_
        simp [Tryd.f36, hcEff, rgHS, bt, s1, o1]
        refine AWP.unroll hE mixed 3 ?_
        simp [Tryd.f36, hcEff, rgHS, ehSpec, ehHS, ok0, ok1, bt, d1, m1, v16, v15, e, k1]
        exact ⟨⟨by omega, by omega⟩, rfl, rfl, rfl, RetTo.same ⟨rfl, rfl⟩⟩
      · have hr4 : r < 16 := by simpa using hr1
        obtain ⟨R, hR⟩ : ∃ R : Int, r * 256 + n = R := ⟨_, rfl⟩
        have s1 : IntKind.i64.wrap (r * 256) = r * 256 := wrap64 _ (by omega) (by omega)
        have o1 : bits2 (fun _ x y => x ||| y) .i64 (r * 256) n = R := by
          rw [← hR]
          exact or_add64 (a := r) (b := n) 8 (by omega) (by omega) hn0 (by omega) (by omega)
        have d1 : R.fdiv 64 = R / 64 := fd _ _ (by omega) (by omega)
        have d2 : (R % 64).fdiv 1 = R % 64 := by rw [fd _ _ (by omega) (by omega)]; omega
        have m1 : bits2 (fun _ x y => x &&& y) .i64 R 63 = R % 64 := and_mask64 6 (by decide) (by omega) (by omega) (by omega)
        have m2 : bits2 (fun _ x y => x &&& y) .i64 (R % 64) 0 = 0 := by
          have := and_mask64 (a := R % 64) (m := 0) 0 (by decide) (by omega) (by omega) (by omega)
          rw [this]; omega
        have e : rgE 4 r n = ⟨0, 0, [(R / 64).toNat, (R % 64).toNat]⟩ := by
          have : ((4 : Int).toNat) = 4 := rfl
          simp only [rgE, goE, this, if_true, List.nil_append, if_false, Rg.mk.injEq, List.cons.injEq, and_true, true_and, show ((4 : Nat) = 0) = False by simp, show ((4 : Nat) = 2) = False by simp]
          omega
        have v1 : IntKind.i64.wrap 1 = 1 := by decide
        have v0 : IntKind.i64.wrap 0 = 0 := by decide
        refine wpc_ok hE mixed _ _ _ ?_
        simp [Tryd.f36, hcEff, rgHS, bt, s1, o1]
        refine AWP.unroll hE mixed 4 ?_
        simp [Tryd.f36, hcEff, rgHS, ehSpec, ehHS, ok0, ok1, bt, d1, d2, m1, m2, v64, v63, v1, v0, e]
        exact ⟨⟨by omega, by omega⟩, rfl, rfl, ⟨by omega, by omega⟩, rfl, rfl, rfl, RetTo.same ⟨rfl, rfl⟩⟩
    · exact hp.elim
def regrHS : HS := { wr := true, eff := fun xs h => match xs, h with
  | [.val (.int .i64 a), .val (.int .i64 c), .clos f [.ptr 0 0 0]], [b] => (True, .clos 36 [.ptr 5 0 0, .ptr 1 0 0, .ptr 4 0 0, .ptr 2 0 0, .ptr 3 0 0],
      [b, .box 3 [.val (.int .i64 a)], .box 3 [.val (.int .i64 c)], .box 46 [.clos f [.ptr 0 0 0]], .box 3 [.val (.int .i64 0)], .box 3 [.val (.int .i64 0)]])
  | _, _ => (False, .dead, h) }
def regrSpec : Spec := { pre := fun _ => False, res := fun _ => .many [], hp := some regrHS }
def G_regr : Specs := []
@[simp] theorem G_regr_live : Specs.live G_regr = false := rfl
theorem G_regr_ok (gl : Gl) : SpecsOK Tryd.prog gl G_regr := .nil _ _
set_option maxRecDepth 10000 in
theorem regr_sound (gl : Gl) : Sound Tryd.prog gl 19 regrSpec := by
  refine sound_heap (hs := regrHS) (N := Tryd.f19.ntmps) (rs := Tryd.f19.results.toList) mixed tok (G_regr_ok gl) Tryd.func19 rfl rfl rfl rfl rfl ?_ ?_
  · intro xs h hp
    simp only [regrHS] at hp
    split at hp
    all_goals first | exact hp.elim | simp [Tryd.f19]
  · intro xs h hp bs hgl hh hro
    have hE : Env.OK ⟨Tryd.prog, T, G_regr, bs⟩ := ⟨tok, by rw [hgl]; exact G_regr_ok gl⟩
    simp only [regrHS] at hp
    split at hp
    · simp [Tryd.f19, hcEff, regrHS]
      exact RetTo.same ⟨rfl, rfl⟩
    · exact hp.elim
def clampF (n : Int) : Int := if 0 < (if 1099511627776 < n then 1099511627776 else n) then (if 1099511627776 < n then 1099511627776 else n) else 0
theorem clamp_rng (n : Int) : 0 ≤ clampF n ∧ clampF n ≤ 1099511627776 := by unfold clampF; (repeat' split) <;> omega
def sizeF (n : Int) : Int := (clampF n + 2) / 3 * 4
theorem size_arith {m : Int} (h0 : 0 ≤ m) (h1 : m ≤ 1099511627776) : IntKind.i64.wrap (IntKind.i64.wrap ((IntKind.i64.wrap (m + 2)).tdiv 3) * 4) = (m + 2) / 3 * 4 := by
  rw [wrap64 (m + 2) (by omega) (by omega), Int.tdiv_eq_ediv_of_nonneg (by omega), wrap64 ((m + 2) / 3) (by omega) (by omega), wrap64 _ (by omega) (by omega)]
def sizeSpec : Spec := { pre := fun args => ∃ n : Int, args = [.c (.int .i64 n)], res := fun args => match args with
  | [.c (.int _ n)] => .one (.val (.c (.int .i64 (sizeF n))))
  | _ => .many [] }
def G_size : Specs := []
@[simp] theorem G_size_live : Specs.live G_size = false := rfl
theorem G_size_ok (gl : Gl) : SpecsOK Tryd.prog gl G_size := .nil _ _
set_option maxRecDepth 10000 in
theorem size_sound (gl : Gl) : Sound Tryd.prog gl 10 sizeSpec := by
  refine sound_fn (N := Tryd.f10.ntmps) (rs := Tryd.f10.results.toList) mixed tok (G_size_ok gl) Tryd.func10 rfl rfl rfl rfl rfl ?_ ?_ ?_
  · rintro args ⟨n,rfl⟩; simp [Tryd.f10]
  · rintro args ⟨n,rfl⟩; simp [sizeSpec, Tryd.f10]
  · rintro args ⟨n,rfl⟩ bs hgl hh hro
    have hE : Env.OK ⟨Tryd.prog, T, G_size, bs⟩ := ⟨tok, by rw [hgl]; exact G_size_ok gl⟩
    have h := clamp_rng n
    have e := size_arith h.1 h.2
    simp only [clampF] at e
    simp [sizeSpec, Tryd.f10, sizeF, clampF, e]
def rsizeSpec : Spec := { pre := sizeSpec.pre, res := sizeSpec.res }
def G_rsize : Specs := []
@[simp] theorem G_rsize_live : Specs.live G_rsize = false := rfl
theorem G_rsize_ok (gl : Gl) : SpecsOK Tryd.prog gl G_rsize := .nil _ _
set_option maxRecDepth 10000 in
theorem rsize_sound (gl : Gl) : Sound Tryd.prog gl 11 rsizeSpec := by
  refine sound_fn (N := Tryd.f11.ntmps) (rs := Tryd.f11.results.toList) mixed tok (G_rsize_ok gl) Tryd.func11 rfl rfl rfl rfl rfl ?_ ?_ ?_
  · rintro args ⟨n,rfl⟩; simp [sizeSpec, Tryd.f11]
  · rintro args ⟨n,rfl⟩; simp [sizeSpec, rsizeSpec, Tryd.f11]
  · rintro args ⟨n,rfl⟩ bs hgl hh hro
    have hE : Env.OK ⟨Tryd.prog, T, G_rsize, bs⟩ := ⟨tok, by rw [hgl]; exact G_rsize_ok gl⟩
    simp only [rsizeSpec, sizeSpec]
    have h := clamp_rng n
    have e := size_arith h.1 h.2
    simp only [clampF] at e
    simp [rsizeSpec, Tryd.f11, sizeF, clampF, e]
theorem sizeF_nat {n : Nat} (h : n ≤ 1099511627776) : sizeF n = (((n + 2) / 3 * 4 : Nat) : Int) := by
  unfold sizeF clampF
  (repeat' split) <;> omega
/-! ### Encode -/
theorem sgn_at0 (n : Nat) (h : n < 64) : ([65, 66, 67, 68, 69, 70, 71, 72, 73, 74, 75, 76, 77, 78, 79, 80, 81, 82, 83, 84, 85, 86, 87, 88, 89, 90, 97, 98, 99, 100, 101, 102, 103, 104, 105, 106, 107, 108, 109, 110, 111, 112, 113, 114, 115, 116, 117, 118, 119, 120, 121, 122, 48, 49, 50, 51, 52, 53, 54, 55, 56, 57, 43, 47] : List UInt8)[n]?.getD 0 = sgnI n := by
  have := sgn_at (n := n) (by omega) (by omega)
  simpa using this
end Fen

namespace Fen
open Go Go.Proofs

def regH (o : List UInt8) (w r : Int) : List Blk := hB 6 o :: .box 3 [.val (.int .i64 8)] :: .box 3 [.val (.int .i64 6)] :: .box 46 [.clos 20 [.ptr 0 0 0]] :: .box 3 [.val (.int .i64 w)] :: .box 3 [.val (.int .i64 r)] :: hS o
def encR (s : List UInt8) (k : Nat) : Rg := (natsI (s.take k)).foldl goE ⟨0, 0, []⟩
theorem encR_zero (s : List UInt8) : encR s 0 = ⟨0, 0, []⟩ := rfl
theorem goE_app (w r : Nat) (o : List Nat) (n : Nat) : goE ⟨w, r, o⟩ n = ⟨(goE ⟨w, r, []⟩ n).w, (goE ⟨w, r, []⟩ n).r, o ++ (goE ⟨w, r, []⟩ n).out⟩ := by
  unfold goE
  (repeat' split) <;> simp
theorem encR_succ {s : List UInt8} {k : Nat} (h : k < s.length) {w r : Nat} {o : List Nat} (e : encR s k = ⟨w, r, o⟩) : encR s (k + 1) = ⟨(goE ⟨w, r, []⟩ s[k].toNat).w, (goE ⟨w, r, []⟩ s[k].toNat).r, o ++ (goE ⟨w, r, []⟩ s[k].toNat).out⟩ := by
  rw [← goE_app, ← e]
  unfold encR
  rw [List.take_add_one, List.getElem?_eq_getElem h, natsI, List.map_append, List.foldl_append]
  simp [natsI]
theorem encR_ok (s : List UInt8) (k : Nat) : ((encR s k).w = 0 ∨ (encR s k).w = 2 ∨ (encR s k).w = 4) ∧ (encR s k).r < 2 ^ (encR s k).w ∧ (encR s k).out.length ≤ (s.length * 4 + 2) / 3 ∧ bareE (s.take k) = txtI (encR s k).out ++ (if (encR s k).w = 0 then [] else [sgnI ((encR s k).r * 2 ^ (6 - (encR s k).w))]) := by
  obtain ⟨w, r, o, h1, h2, h3, h4⟩ := enc_run (s.take k)
  unfold encR
  rw [h1]
  refine ⟨h2, h3, ?_, h4⟩
  have h5 := bareE_len (s.take k)
  rw [h4] at h5
  simp [txtI] at h5
  have h6 : (s.take k).length ≤ s.length := by simp; omega
  simp at h6 ⊢
  omega
def encS (s : List UInt8) (k : Nat) : St := ⟨45, [(0, .val (.str s)), (4, .ptr 0 0 0), (5, .clos 36 [.ptr 5 0 0, .ptr 1 0 0, .ptr 4 0 0, .ptr 2 0 0, .ptr 3 0 0]), (6, .val (.int .i64 (encR s k).w)), (7, .val (.int .i64 (encR s k).r)), (15, .val (.int .i64 s.length)), (16, .val (.int .i64 k))], regH ((encR s k).out.map sgnI) (encR s k).w (encR s k).r⟩
def RepIn (a : List V) : Prop := repeatSpec.pre a
def repoSpec : Spec := { pre := RepIn, res := repeatSpec.res }
theorem repo_sound (gl : Gl) : Sound Tryd.prog gl 16 repoSpec := srepeat_sound gl
theorem repL_fill : ∀ n : Nat, repL [61] n = List.replicate n 61
  | 0 => by simp [repL, Lib.repeatL]
  | n + 1 => by
    have := repL_fill n
    simp only [repL] at this ⊢
    simp [Lib.repeatL, List.replicate_succ, this]
def encO (s : List UInt8) : List UInt8 := if 4096 < s.length then [] else encI s
def encX (s : List UInt8) : Int := if 4096 < s.length then 3 else 0
def encSpec : Spec := { pre := fun args => ∃ s : List UInt8, args = [.c (.str s)] ∧ (s.length : Int) ≤ 9223372036854775807, res := fun args => match args with
  | [.c (.str s)] => .many [.val (.c (.str (encO s))), .val (.c (.int .i64 (encX s)))]
  | _ => .many [] }
def G_enc : Specs := [(19, regrSpec), (36, rgSpec), (21, wbSpec), (22, strSpec), (23, blenSpec), (10, sizeSpec), (16, repoSpec)]
@[simp] theorem G_enc_live : Specs.live G_enc = false := rfl
@[simp] theorem G_enc_19 : G_enc.find 19 = some regrSpec := rfl
@[simp] theorem G_enc_36 : G_enc.find 36 = some rgSpec := rfl
@[simp] theorem G_enc_21 : G_enc.find 21 = some wbSpec := rfl
@[simp] theorem G_enc_22 : G_enc.find 22 = some strSpec := rfl
@[simp] theorem G_enc_23 : G_enc.find 23 = some blenSpec := rfl
@[simp] theorem G_enc_10 : G_enc.find 10 = some sizeSpec := rfl
@[simp] theorem G_enc_16 : G_enc.find 16 = some repoSpec := rfl
theorem G_enc_ok (gl : Gl) : SpecsOK Tryd.prog gl G_enc := .cons (regr_sound gl) (.cons (rg_sound gl) (.cons (wb_sound gl) (.cons (str_sound gl) (.cons (blen_sound gl) (.cons (size_sound gl) (.cons (repo_sound gl) (.nil _ _)))))))
set_option maxHeartbeats 8000000 in
set_option maxRecDepth 10000 in
theorem enc_sound (gl : Gl) : Sound Tryd.prog gl 8 encSpec := by
  refine sound_awp (N := Tryd.f8.ntmps) (rs := Tryd.f8.results.toList) tok Tryd.func8 rfl rfl rfl rfl rfl ?_ ?_ ?_
  · rintro args ⟨s,rfl,hs⟩; simp [Tryd.f8]
  · rintro args ⟨s,rfl,hs⟩; simp [encSpec, Tryd.f8]
  · rintro args ⟨s,rfl,hs⟩ bs hgl hh hro
    have hE : Env.OK ⟨Tryd.prog, T, G_enc, bs⟩ := ⟨tok, by rw [hgl]; exact G_enc_ok gl⟩
    rcases Nat.lt_or_ge 4096 s.length with c1 | c1
    · have c1' : (4096 < (s.length : Int)) = True := eq_true (by omega)
      refine wpc_ok hE mixed _ _ _ ?_
      simp [encSpec, blenSpec, regrSpec, repoSpec, rgSpec, sizeSpec, strSpec, wbSpec, Tryd.f8, c1, c1', encO, encX]
    have c1' : (4096 < (s.length : Int)) = False := eq_false (by omega)
    have c2 : (4096 < s.length) = False := eq_false (by omega)
    refine wpc_ok hE mixed _ _ _ ?_
    simp [encSpec, blenSpec, regrSpec, repoSpec, rgSpec, sizeSpec, strSpec, wbSpec, Tryd.f8, c2, c1', hcEff, regrHS, encO, encX]
    refine AWP.rounds (fun k => k ≤ s.length) (encS s) (fun k => s.length - k) 0 (by omega) ?_ ?_
    · refine Weak.heap ?_ ?_
      · simp [encS, encR_zero, regH, hB, hS]
      · simp [encS, encR_zero]
    · intro k hk
      obtain ⟨e1, e2, e3, e4⟩ := encR_ok s k
      obtain ⟨w, r, o, hR⟩ : ∃ w r o, encR s k = ⟨w, r, o⟩ := ⟨_, _, _, rfl⟩
      rw [hR] at e1 e2 e3 e4
      simp only at e1 e2 e3 e4
      refine wpc_ok hE mixed _ _ _ ?_
      rcases Nat.lt_or_ge k s.length with h | h
      · have hT := encR_succ h hR
        have hc := (s[k]).toNat_lt
        have ok0 : hOK 6 (hB 6 (o.map sgnI)) (hS (o.map sgnI)) = True := eq_true (hOK_mk (by simp; omega))
        have hq : rgE (w : Int) (r : Int) ((s[k].toNat : Nat) : Int) = goE ⟨w, r, []⟩ s[k].toNat := by simp [rgE]
        have wc : IntKind.i64.wrap ((s[k].toNat : Nat) : Int) = ((s[k].toNat : Nat) : Int) := wrap64 _ (by omega) (by omega)
        have w1 : IntKind.i64.wrap ((k : Int) + 1) = ((k + 1 : Nat) : Int) := by rw [wrap64 _ (by omega) (by omega)]; omega
        obtain ⟨Y, hY⟩ : ∃ Y, goE ⟨w, r, []⟩ s[k].toNat = Y := ⟨_, rfl⟩
        rw [hY] at hT hq
        simp [encS, hR, regH, encSpec, blenSpec, regrSpec, repoSpec, rgSpec, sizeSpec, strSpec, wbSpec, Tryd.f8, hcEff, rgHS, h, ok0, wc, w1, hq]
        refine ⟨⟨by omega, by omega, by omega, by exact_mod_cast e2⟩, Next.mk (k + 1) (by omega) (by omega) (Weak.heap ?_ ?_)⟩
        · simp [encS, hT, regH]
        · simp [encS, hT]
      · obtain rfl : k = s.length := by omega
        rw [List.take_length] at e4
        have hO := bareE_len s
        have hI : encI s = bareE s ++ List.replicate ((4 - (bareE s).length % 4) % 4) 61 := rfl
        obtain ⟨O, hOe⟩ : ∃ O, bareE s = O := ⟨_, rfl⟩
        rw [hOe] at e4 hO hI
        have ok0 : hOK 6 (hB 6 (o.map sgnI)) (hS (o.map sgnI)) = True := eq_true (hOK_mk (by simp; omega))
        have sz := sizeF_nat (n := s.length) (by omega)
        obtain ⟨p, hp⟩ : ∃ p, (4 - O.length % 4) % 4 = p := ⟨_, rfl⟩
        rw [hp] at hI
        have wd : IntKind.i64.wrap (((s.length : Int) + 2) / 3 * 4 - (O.length : Int)) = (p : Int) := by rw [wrap64 _ (by omega) (by omega)]; omega
        have iR : RepIn [.c (.str [61]), .c (.int .i64 p)] := ⟨[61], p, rfl, by omega, by simp; omega⟩
        have rf := repL_fill p
        have bb := byteOf_byteC O
        rcases e1 with rfl | rfl | rfl
        · have hT : o.map sgnI = O := by rw [e4]; simp [txtI]
          simp [encS, hR, regH, encSpec, blenSpec, regrSpec, repoSpec, rgSpec, sizeSpec, strSpec, wbSpec, Tryd.f8, hcEff, hT]
          by_cases hn : O = []
          · subst hn
            simp only [List.length_nil, Int.natCast_zero, Int.sub_zero] at wd
            simp [hB, hS, strHS, blenHS, hcEff, repeatSpec, sz, wd, iR, rf, hI, encSpec, blenSpec, regrSpec, repoSpec, rgSpec, sizeSpec, strSpec, wbSpec, Tryd.f8]
            omega
          · have hl0 : 0 < O.length := by have : O.length ≠ 0 := by simpa using hn
                                          omega
            simp [hB, hS, hn, strHS, blenHS, hcEff, repeatSpec, sz, wd, iR, rf, hI, bb, encSpec, blenSpec, regrSpec, repoSpec, rgSpec, sizeSpec, strSpec, wbSpec, Tryd.f8]
            exact ⟨hl0, by omega⟩
        · have hT : o.map sgnI ++ [sgnI (r * 16)] = O := by rw [e4]; simp [txtI]
          have hc' := sgn_at0 (r * 16) (by have h4 : r < 4 := e2; omega)
          have hc := sgn_at2 (n := (r : Int) * 16) (by omega) (by have h4 : r < 4 := e2; omega)
          have tn : ((r : Int) * 16).toNat = r * 16 := by omega
          rw [tn] at hc
          have ws : IntKind.i64.wrap ((r : Int) * 16) = (r : Int) * 16 := wrap64 _ (by omega) (by omega)
          have hu := u8i_nat (sgnI (r * 16))
          have hc2 : (((sgnI (r * 16)).toNat : Int) < 256) = True := eq_true (by have := (sgnI (r * 16)).toNat_lt; omega)
          have hr64 : ((r : Int) * 16 < 64) = True := eq_true (by omega)
          have hr0 : (0 ≤ (r : Int) * 16) = True := eq_true (by omega)
          have bt : IntKind.i64.bits = 64 := rfl
          have vv : IntKind.i64.wrap 4 = 4 := by decide
          simp [encS, hR, regH, encSpec, blenSpec, regrSpec, repoSpec, rgSpec, sizeSpec, strSpec, wbSpec, Tryd.f8, hcEff, wbHS, ok0, hc, hc', tn, ws, hu, hc2, hr64, hr0, hT, bt, vv]
          have hn : O ≠ [] := by rw [← hT]; simp
          have hl0 : 0 < O.length := List.length_pos_iff.2 hn
          simp [hB, hS, hn, strHS, blenHS, hcEff, repeatSpec, sz, wd, iR, rf, hI, bb, encSpec, blenSpec, regrSpec, repoSpec, rgSpec, sizeSpec, strSpec, wbSpec, Tryd.f8]
          exact ⟨hl0, by omega⟩
        · have hT : o.map sgnI ++ [sgnI (r * 4)] = O := by rw [e4]; simp [txtI]
          have hc' := sgn_at0 (r * 4) (by have h4 : r < 16 := e2; omega)
          have hc := sgn_at2 (n := (r : Int) * 4) (by omega) (by have h4 : r < 16 := e2; omega)
          have tn : ((r : Int) * 4).toNat = r * 4 := by omega
          rw [tn] at hc
          have ws : IntKind.i64.wrap ((r : Int) * 4) = (r : Int) * 4 := wrap64 _ (by omega) (by omega)
          have hu := u8i_nat (sgnI (r * 4))
          have hc2 : (((sgnI (r * 4)).toNat : Int) < 256) = True := eq_true (by have := (sgnI (r * 4)).toNat_lt; omega)
          have hr64 : ((r : Int) * 4 < 64) = True := eq_true (by omega)
          have hr0 : (0 ≤ (r : Int) * 4) = True := eq_true (by omega)
          have bt : IntKind.i64.bits = 64 := rfl
          have vv : IntKind.i64.wrap 2 = 2 := by decide
          simp [encS, hR, regH, encSpec, blenSpec, regrSpec, repoSpec, rgSpec, sizeSpec, strSpec, wbSpec, Tryd.f8, hcEff, wbHS, ok0, hc, hc', tn, ws, hu, hc2, hr64, hr0, hT, bt, vv]
          have hn : O ≠ [] := by rw [← hT]; simp
          have hl0 : 0 < O.length := List.length_pos_iff.2 hn
          simp [hB, hS, hn, strHS, blenHS, hcEff, repeatSpec, sz, wd, iR, rf, hI, bb, encSpec, blenSpec, regrSpec, repoSpec, rgSpec, sizeSpec, strSpec, wbSpec, Tryd.f8]
          exact ⟨hl0, by omega⟩
end Fen
