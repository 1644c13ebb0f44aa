/- A part of the proof; no statement is proved here: BBdF, BBdG, BBdH, BBdI. -/
import Derived.Test.YtmbogpmhlepkmaaDoorEncA
import Derived.Test.YtmbogpmhlepkmaaDoorCoreE

set_option linter.unusedVariables false
set_option linter.unusedSimpArgs false

namespace Fen
open Go Go.Proofs

/-! ### values: the signs' numbers, as a map -/
def valsK (k : Nat) : List (Int × Int) := (List.range k).map fun i => (((sgnI i).toNat : Int), (i : Int))
theorem valsK_succ (k : Nat) : valsK (k + 1) = valsK k ++ [(((sgnI k).toNat : Int), (k : Int))] := by simp [valsK, List.range_succ]
theorem valsK_new : ∀ k, k < 64 → (valsK k).find? (fun p => p.1 == ((sgnI k).toNat : Int)) = none := by decide +kernel
theorem valsK_get (b : UInt8) : (valsK 64).find? (fun p => p.1 == (b.toNat : Int)) = (valI b).map fun n : Nat => ((b.toNat : Int), (n : Int)) := by
  have key : ∀ m : Fin 256, (valsK 64).find? (fun p => p.1 == (((UInt8.ofNat m.1).toNat : Nat) : Int)) = (valI (UInt8.ofNat m.1)).map fun n : Nat => (((UInt8.ofNat m.1).toNat : Int), (n : Int)) := by decide +kernel
  have := key ⟨b.toNat, b.toNat_lt⟩
  simpa using this
def valS (h : List Blk) (k : Nat) : St := ⟨13, [(1, .mp h.length), (4, .val (.int .i64 k))], h ++ [.mp .u8 .i64 (valsK k)]⟩
def valsHS : HS := { wr := true, eff := fun xs h => match xs with
  | [] => (True, .mp h.length, h ++ [.mp .u8 .i64 (valsK 64)])
  | _ => (False, .dead, h) }
def valsSpec : Spec := { pre := fun _ => False, res := fun _ => .many [], hp := some valsHS }
def G_vals : Specs := []
@[simp] theorem G_vals_live : Specs.live G_vals = false := rfl
theorem G_vals_ok (gl : Gl) : SpecsOK Tryd.prog gl G_vals := .nil _ _
set_option maxHeartbeats 8000000 in
set_option maxRecDepth 10000 in
theorem vals_sound (gl : Gl) : Sound Tryd.prog gl 26 valsSpec := by
  refine sound_heapA (hs := valsHS) (N := Tryd.f26.ntmps) (rs := Tryd.f26.results.toList) tok Tryd.func26 rfl rfl rfl rfl rfl ?_ ?_
  · intro xs h hp
    simp only [valsHS] at hp
    split at hp
    all_goals first | exact hp.elim | simp [Tryd.f26]
  · intro xs h hp bs hgl hh hro
    have hE : Env.OK ⟨Tryd.prog, T, G_vals, bs⟩ := ⟨tok, by rw [hgl]; exact G_vals_ok gl⟩
    simp only [valsHS] at hp
    split at hp
    · have hm : Tryd.prog.underlying 52 = some (.map 5 3) := Tryd.underlying52
      refine wpc_ok hE mixed _ _ _ ?_
      simp [Tryd.f26, hcEff, valsHS]
      refine OpW.mkMap .u8 .i64 (by simp) ?_
      simp
      refine AWP.rounds (fun k => k ≤ 64) (valS h) (fun k => 64 - k) 0 (by omega) ?_ ?_
      · exact Weak.heap (by simp [valS, valsK]) (by simp [valS])
      · intro k hk
        refine wpc_ok hE mixed _ _ _ ?_
        rcases Nat.lt_or_ge k 64 with c | c
        · have hs := sgn_at2 (n := (k : Int)) (by omega) (by omega)
          have hs' := sgn_at0 k c
          simp only [Int.toNat_natCast] at hs
          have w1 : IntKind.i64.wrap ((k : Int) + 1) = ((k + 1 : Nat) : Int) := by rw [wrap64 _ (by omega) (by omega)]; omega
          have kl : ((k : Int) < 64) = True := eq_true (by omega)
          simp [valS, hs, hs', kl]
          refine OpW.putMap (id := h.length) (es := valsK k) (a := ((sgnI k).toNat : Int)) (c := (k : Int)) (kk := .u8) (vk := .i64) tok hm T_5 (by simp) (by simp) (by simp) (by simp) (valsK_new k c) ?_
          simp [w1]
          refine Next.mk (k + 1) (by omega) (by omega) (Weak.heap ?_ ?_)
          · simp [valS, valsK_succ]
          · simp [valS]
        · obtain rfl : k = 64 := by omega
          simp [valS]
          exact RetTo.same ⟨rfl, rfl⟩
    · exact hp.elim
end Fen

namespace Fen
open Go Go.Proofs

/-! ### strings.TrimRight(s, "=") -/
theorem bareI_app (u : List UInt8) : bareI (u ++ [61]) = bareI u := by
  unfold bareI
  rw [List.reverse_append, List.reverse_singleton, List.singleton_append, List.dropWhile_cons_of_pos (by simp)]
theorem bareI_last {u : List UInt8} {c : UInt8} (h : c ≠ 61) : bareI (u ++ [c]) = u ++ [c] := by
  unfold bareI
  rw [List.reverse_append, List.reverse_singleton, List.singleton_append, List.dropWhile_cons_of_neg (by simpa using h)]
  simp
theorem bareI_nil : bareI [] = [] := rfl
theorem bareI_len (s : List UInt8) : (bareI s).length ≤ s.length := (bare_split s).2.2
def trimS (u : List UInt8) : St := ⟨23, [(0, .val (.str u)), (1, .val (.int .u8 61))], []⟩
def trimbSpec : Spec := { pre := fun args => ∃ s : List UInt8, args = [.c (.str s), .c (.int .u8 61)] ∧ (s.length : Int) ≤ 9223372036854775807, res := fun args => match args with
  | [.c (.str s), _] => .one (.val (.c (.str (bareI s))))
  | _ => .many [] }
def G_trimb : Specs := []
@[simp] theorem G_trimb_live : Specs.live G_trimb = false := rfl
theorem G_trimb_ok (gl : Gl) : SpecsOK Tryd.prog gl G_trimb := .nil _ _
set_option maxHeartbeats 4000000 in
set_option maxRecDepth 10000 in
theorem trimb_sound (gl : Gl) : Sound Tryd.prog gl 28 trimbSpec := by
  refine sound_awp (N := Tryd.f28.ntmps) (rs := Tryd.f28.results.toList) tok Tryd.func28 rfl rfl rfl rfl rfl ?_ ?_ ?_
  · rintro args ⟨s,rfl,hs⟩; simp [Tryd.f28]
  · rintro args ⟨s,rfl,hs⟩; simp [trimbSpec, Tryd.f28]
  · rintro args ⟨s,rfl,hs⟩ bs hgl hh hro
    have hE : Env.OK ⟨Tryd.prog, T, G_trimb, bs⟩ := ⟨tok, by rw [hgl]; exact G_trimb_ok gl⟩
    refine wpc_ok hE mixed _ _ _ ?_
    simp [trimbSpec, Tryd.f28]
    refine AWP.rounds (fun k => k ≤ s.length ∧ bareI (s.take (s.length - k)) = bareI s) (fun k => trimS (s.take (s.length - k))) (fun k => s.length - k) 0 ⟨by omega, by simp⟩ ?_ ?_
    · exact Weak.keep (by simp [trimS])
    · rintro k ⟨hk, hb⟩
      obtain ⟨u, hu⟩ : ∃ u, s.take (s.length - k) = u := ⟨_, rfl⟩
      have ul : u.length = s.length - k := by rw [← hu]; simp
      rw [hu] at hb
      refine wpc_ok hE mixed _ _ _ ?_
      rcases List.eq_nil_or_concat u with rfl | ⟨v, c, rfl⟩
      · simp [trimS, hu]
        rw [← hb, bareI_nil]
      · simp only [List.concat_eq_append] at hu hb ul
        have vl : v.length + 1 = s.length - k := by simpa using ul
        have w1 : IntKind.i64.wrap (v.length : Int) = (v.length : Int) := wrap64 _ (by omega) (by omega)
        have lt : ((v.length : Int) < (v.length : Int) + 1) = True := eq_true (by omega)
        have le : ((v.length : Int) ≤ (v.length : Int) + 1) = True := eq_true (by omega)
        have l0 : (0 < (v.length : Int) + 1) = True := eq_true (by omega)
        have gt : (v ++ [c])[v.length]?.getD 0 = c := by simp
        have gt2 : ∀ h, (v ++ [c])[v.length]'h = c := fun h => by simp
        have tk : (v ++ [c]).take v.length = v := by simp
        by_cases c61 : c = 61
        · subst c61
          simp [trimS, hu, w1, lt, le, l0]
          refine Next.mk (k + 1) ⟨by omega, ?_⟩ (by omega) (Weak.keep ?_)
          · have e : s.take (s.length - (k + 1)) = v := by
              have := congrArg (List.take v.length) hu
              rw [tk, List.take_take, Nat.min_eq_left (by omega)] at this
              rw [← this]; congr 1; omega
            rw [e, ← hb, bareI_app]
          · have e : s.take (s.length - (k + 1)) = v := by
              have := congrArg (List.take v.length) hu
              rw [tk, List.take_take, Nat.min_eq_left (by omega)] at this
              rw [← this]; congr 1; omega
            simp [trimS, e]
        · have hne : ((c.toNat : Int) = 61) = False := eq_false (fun q => c61 (by
            have : c.toNat = 61 := by omega
            exact UInt8.toNat_inj.1 this))
          simp [trimS, hu, w1, lt, le, l0, hne]
          rw [← hb, bareI_last c61]
def trimSpec : Spec := { pre := fun args => ∃ s : List UInt8, args = [.c (.str s), .c (.str [61])] ∧ (s.length : Int) ≤ 9223372036854775807, res := fun args => match args with
  | [.c (.str s), _] => .one (.val (.c (.str (bareI s))))
  | _ => .many [] }
def G_trim : Specs := [(28, trimbSpec)]
@[simp] theorem G_trim_live : Specs.live G_trim = false := rfl
@[simp] theorem G_trim_28 : G_trim.find 28 = some trimbSpec := rfl
theorem G_trim_ok (gl : Gl) : SpecsOK Tryd.prog gl G_trim := .cons (trimb_sound gl) (.nil _ _)
set_option maxHeartbeats 4000000 in
set_option maxRecDepth 10000 in
theorem trim_sound (gl : Gl) : Sound Tryd.prog gl 15 trimSpec := by
  refine sound_awp (N := Tryd.f15.ntmps) (rs := Tryd.f15.results.toList) tok Tryd.func15 rfl rfl rfl rfl rfl ?_ ?_ ?_
  · rintro args ⟨s,rfl,hs⟩; simp [Tryd.f15]
  · rintro args ⟨s,rfl,hs⟩; simp [trimSpec, Tryd.f15]
  · rintro args ⟨s,rfl,hs⟩ bs hgl hh hro
    have hE : Env.OK ⟨Tryd.prog, T, G_trim, bs⟩ := ⟨tok, by rw [hgl]; exact G_trim_ok gl⟩
    refine wpc_ok hE mixed _ _ _ ?_
    by_cases e : s = []
    · subst e
      simp [trimSpec, trimbSpec, Tryd.f15, bareI_nil]
    · simp [trimSpec, trimbSpec, Tryd.f15, e]
      exact hs
end Fen

namespace Fen
open Go Go.Proofs

/-! ### the closures of Decode -/
def dhHS : HS := { wr := true, eff := fun xs h => match xs, h with
  | [.val (.int .i64 n), .ptr 0 0 0], b :: x1 :: x2 :: x3 :: x4 :: x5 :: x6 :: t => (hOK 7 b t ∧ 0 ≤ n ∧ n < 256, .tup [], hB 7 (outOf t ++ [u8i n]) :: x1 :: x2 :: x3 :: x4 :: x5 :: x6 :: hS (outOf t ++ [u8i n]))
  | _, _ => (False, .dead, h) }
def dhSpec : Spec := { pre := fun _ => False, res := fun _ => .many [], hp := some dhHS }
def G_dh : Specs := [(21, wb7Spec)]
@[simp] theorem G_dh_live : Specs.live G_dh = false := rfl
@[simp] theorem G_dh_21 : G_dh.find 21 = some wb7Spec := rfl
theorem G_dh_ok (gl : Gl) : SpecsOK Tryd.prog gl G_dh := .cons (wb7_sound gl) (.nil _ _)
set_option maxHeartbeats 2000000 in
set_option maxRecDepth 10000 in
theorem dh_sound (gl : Gl) : Sound Tryd.prog gl 25 dhSpec := by
  refine sound_heap (hs := dhHS) (N := Tryd.f25.ntmps) (rs := Tryd.f25.results.toList) mixed tok (G_dh_ok gl) Tryd.func25 rfl rfl rfl rfl rfl ?_ ?_
  · intro xs h hp
    simp only [dhHS] at hp
    split at hp
    all_goals first | exact hp.elim | simp [Tryd.f25]
  · intro xs h hp bs hgl hh hro
    have hE : Env.OK ⟨Tryd.prog, T, G_dh, bs⟩ := ⟨tok, by rw [hgl]; exact G_dh_ok gl⟩
    simp only [dhHS] at hp
    split at hp
    · rename_i n b x1 x2 x3 x4 x5 x6 t
      obtain ⟨hk, h0, h1⟩ := hp
      have hk' : hOK 7 b t = True := eq_true hk
      have hn : (n < 256) = True := eq_true h1
      have hn0 : (0 ≤ n) = True := eq_true h0
      have hw : IntKind.u8.wrap n = n := wrap8 n h0 h1
      simp [Tryd.f25, hcEff, dhHS, wb7Spec, wb7HS, hk', hn, hn0, hw]
      exact RetTo.same ⟨rfl, rfl⟩
    · exact hp.elim
def rgD (w r n : Int) : Rg := goD ⟨w.toNat, r.toNat, []⟩ n.toNat
def rgdHS : HS := { wr := true, eff := fun xs h => match xs, h with
  | [.val (.int .i64 n), .ptr 5 0 0, .ptr 1 0 0, .ptr 4 0 0, .ptr 2 0 0, .ptr 3 0 0], b :: x1 :: x2 :: x3 :: .box 3 [.val (.int .i64 w)] :: .box 3 [.val (.int .i64 r)] :: x6 :: t =>
    (hOK 7 b t ∧ (outOf t).length < 90000 ∧ x1 = .box 3 [.val (.int .i64 6)] ∧ x2 = .box 3 [.val (.int .i64 8)] ∧ x3 = .box 46 [.clos 25 [.ptr 0 0 0]] ∧ 0 ≤ n ∧ n < 64 ∧ (w = 0 ∨ w = 2 ∨ w = 4 ∨ w = 6) ∧ 0 ≤ r ∧ r < 2 ^ w.toNat,
      .tup [.val (.int .i64 (rgD w r n).w), .val (.int .i64 (rgD w r n).r)], hB 7 (outOf t ++ (rgD w r n).out.map UInt8.ofNat) :: x1 :: x2 :: x3 :: .box 3 [.val (.int .i64 (rgD w r n).w)] :: .box 3 [.val (.int .i64 (rgD w r n).r)] :: x6 :: hS (outOf t ++ (rgD w r n).out.map UInt8.ofNat))
  | _, _ => (False, .dead, h) }
def rgdSpec : Spec := { pre := fun _ => False, res := fun _ => .many [], hp := some rgdHS }
def G_rgd : Specs := [(25, dhSpec)]
@[simp] theorem G_rgd_live : Specs.live G_rgd = false := rfl
@[simp] theorem G_rgd_25 : G_rgd.find 25 = some dhSpec := rfl
theorem G_rgd_ok (gl : Gl) : SpecsOK Tryd.prog gl G_rgd := .cons (dh_sound gl) (.nil _ _)
set_option maxHeartbeats 8000000 in
set_option maxRecDepth 10000 in
theorem rgd_sound (gl : Gl) : Sound Tryd.prog gl 36 rgdSpec := by
  refine sound_heapA (hs := rgdHS) (N := Tryd.f36.ntmps) (rs := Tryd.f36.results.toList) tok Tryd.func36 rfl rfl rfl rfl rfl ?_ ?_
  · intro xs h hp
    simp only [rgdHS] at hp
    split at hp
    all_goals first | exact hp.elim | simp [Tryd.f36]
  · intro xs h hp bs hgl hh hro
    have hE : Env.OK ⟨Tryd.prog, T, G_rgd, bs⟩ := ⟨tok, by rw [hgl]; exact G_rgd_ok gl⟩
    simp only [rgdHS] at hp
    split at hp
    · rename_i n b x1 x2 x3 w r x6 t
      obtain ⟨⟨out, rfl, rfl, hl0⟩, hl, rfl, rfl, rfl, hn0, hn1, hw, hr0, hr1⟩ := hp
      rw [outOf_hS] at hl
      have ok1 : ∀ c, hOK 7 (hB 7 (out ++ [c])) (hS (out ++ [c])) = True := fun c => eq_true (hOK_mk (by simp; omega))
      have ok0 : hOK 7 (hB 7 out) (hS out) = True := eq_true (hOK_mk (by omega))
      have fd : ∀ (a b : Int), 0 ≤ a → 0 ≤ b → a.fdiv b = a / b := fun a b h1 h2 => Int.fdiv_eq_ediv_of_nonneg a h2
      have bt : IntKind.i64.bits = 64 := rfl
      have v4 : IntKind.i64.wrap 4 = 4 := by decide
      have v3 : IntKind.i64.wrap 3 = 3 := by decide
      have v16 : IntKind.i64.wrap 16 = 16 := by decide
      have v15 : IntKind.i64.wrap 15 = 15 := by decide
      have v1 : IntKind.i64.wrap 1 = 1 := by decide
      have v0 : IntKind.i64.wrap 0 = 0 := by decide
      rcases hw with rfl | rfl | rfl | rfl
      · obtain rfl : r = 0 := by simp at hr1; omega
        have o1 : bits2 (fun _ x y => x ||| y) .i64 0 n = n := by
          have := or_add64 (a := 0) (b := n) 6 (by omega) (by omega) hn0 (by omega) (by omega)
          simpa using this
        have e : rgD 0 0 n = ⟨6, n.toNat, []⟩ := by simp only [rgD, goD, Int.toNat_zero, if_true]
        have k1 : (((n).toNat : Nat) : Int) = n := Int.toNat_of_nonneg hn0
        refine wpc_ok hE mixed _ _ _ ?_
        simp [Tryd.f36, hcEff, rgdHS, o1]
        refine AWP.unroll hE mixed 3 ?_
        simp [Tryd.f36, hcEff, rgdHS, e, k1, hn0]
        exact ⟨rfl, RetTo.same ⟨rfl, rfl⟩⟩
      · have hr4 : r < 4 := by simpa using hr1
        obtain ⟨R, hR⟩ : ∃ R : Int, r * 64 + n = R := ⟨_, rfl⟩
        have s1 : IntKind.i64.wrap (r * 64) = r * 64 := wrap64 _ (by omega) (by omega)
        have o1 : bits2 (fun _ x y => x ||| y) .i64 (r * 64) n = R := by
          rw [← hR]
          exact or_add64 (a := r) (b := n) 6 (by omega) (by omega) hn0 (by omega) (by omega)
        have d1 : R.fdiv 1 = R := by rw [fd _ _ (by omega) (by omega)]; omega
        have m1 : bits2 (fun _ x y => x &&& y) .i64 R 0 = 0 := by
          have := and_mask64 (a := R) (m := 0) 0 (by decide) (by omega) (by omega) (by omega)
          rw [this]; omega
        have e : rgD 2 r n = ⟨0, 0, [R.toNat]⟩ := by
          have : ((2 : Int).toNat) = 2 := rfl
          simp only [rgD, goD, this, if_true, List.nil_append, if_false, Rg.mk.injEq, List.cons.injEq, and_true, true_and, show ((2 : Nat) = 0) = False by simp, show ((2 : Nat) = 6) = False by simp, show ((2 : Nat) = 4) = False by simp]
          omega
        have ku : u8i R = UInt8.ofNat R.toNat := rfl
        refine wpc_ok hE mixed _ _ _ ?_
        simp [Tryd.f36, hcEff, rgdHS, bt, s1, o1]
        refine AWP.unroll hE mixed 3 ?_
        simp [Tryd.f36, hcEff, rgdHS, dhSpec, dhHS, ok0, ok1, bt, d1, m1, v0, v1, e, ku]
        exact ⟨⟨by omega, by omega⟩, rfl, rfl, rfl, RetTo.same ⟨rfl, rfl⟩⟩
      · have hr4 : r < 16 := by simpa using hr1
        obtain ⟨R, hR⟩ : ∃ R : Int, r * 64 + n = R := ⟨_, rfl⟩
        have s1 : IntKind.i64.wrap (r * 64) = r * 64 := wrap64 _ (by omega) (by omega)
        have o1 : bits2 (fun _ x y => x ||| y) .i64 (r * 64) n = R := by
          rw [← hR]
          exact or_add64 (a := r) (b := n) 6 (by omega) (by omega) hn0 (by omega) (by omega)
        have d1 : R.fdiv 4 = R / 4 := fd _ _ (by omega) (by omega)
        have m1 : bits2 (fun _ x y => x &&& y) .i64 R 3 = R % 4 := and_mask64 2 (by decide) (by omega) (by omega) (by omega)
        have e : rgD 4 r n = ⟨2, (R % 4).toNat, [(R / 4).toNat]⟩ := by
          have : ((4 : Int).toNat) = 4 := rfl
          simp only [rgD, goD, this, if_true, List.nil_append, if_false, Rg.mk.injEq, List.cons.injEq, and_true, true_and, show ((4 : Nat) = 0) = False by simp, show ((4 : Nat) = 6) = False by simp]
          omega
        have k1 : (((R % 4).toNat : Nat) : Int) = R % 4 := Int.toNat_of_nonneg (by omega)
        have ku : u8i (R / 4) = UInt8.ofNat (R / 4).toNat := rfl
        refine wpc_ok hE mixed _ _ _ ?_
        simp [Tryd.f36, hcEff, rgdHS, bt, s1, o1]
        refine AWP.unroll hE mixed 3 ?_
        simp [Tryd.f36, hcEff, rgdHS, dhSpec, dhHS, ok0, ok1, bt, d1, m1, v4, v3, e, k1, ku]
        exact ⟨⟨by omega, by omega⟩, rfl, rfl, rfl, RetTo.same ⟨rfl, rfl⟩⟩
      · have hr4 : r < 64 := by simpa using hr1
        obtain ⟨R, hR⟩ : ∃ R : Int, r * 64 + n = R := ⟨_, rfl⟩
        have s1 : IntKind.i64.wrap (r * 64) = r * 64 := wrap64 _ (by omega) (by omega)
        have o1 : bits2 (fun _ x y => x ||| y) .i64 (r * 64) n = R := by
          rw [← hR]
          exact or_add64 (a := r) (b := n) 6 (by omega) (by omega) hn0 (by omega) (by omega)
        have d1 : R.fdiv 16 = R / 16 := fd _ _ (by omega) (by omega)
        have m1 : bits2 (fun _ x y => x &&& y) .i64 R 15 = R % 16 := and_mask64 4 (by decide) (by omega) (by omega) (by omega)
        have e : rgD 6 r n = ⟨4, (R % 16).toNat, [(R / 16).toNat]⟩ := by
          have : ((6 : Int).toNat) = 6 := rfl
          simp only [rgD, goD, this, if_true, List.nil_append, if_false, Rg.mk.injEq, List.cons.injEq, and_true, true_and, show ((6 : Nat) = 0) = False by simp]
          omega
        have k1 : (((R % 16).toNat : Nat) : Int) = R % 16 := Int.toNat_of_nonneg (by omega)
        have ku : u8i (R / 16) = UInt8.ofNat (R / 16).toNat := rfl
        refine wpc_ok hE mixed _ _ _ ?_
        simp [Tryd.f36, hcEff, rgdHS, bt, s1, o1]
        refine AWP.unroll hE mixed 3 ?_
        simp [Tryd.f36, hcEff, rgdHS, dhSpec, dhHS, ok0, ok1, bt, d1, m1, v16, v15, e, k1, ku]
        exact ⟨⟨by omega, by omega⟩, rfl, rfl, rfl, RetTo.same ⟨rfl, rfl⟩⟩
    · exact hp.elim
end Fen

namespace Fen
open Go Go.Proofs

/-! ### Decode -/
def decR (b : List UInt8) (k : Nat) : Rg := (valsI (b.take k)).foldl goD ⟨0, 0, []⟩
def RgOK (x : Rg) : Prop := (x.w = 0 ∨ x.w = 2 ∨ x.w = 4 ∨ x.w = 6) ∧ x.r < 2 ^ x.w
theorem goD_ok {x : Rg} {n : Nat} (h : RgOK x) (hn : n < 64) : RgOK (goD x n) := by
  obtain ⟨w, r, o⟩ := x
  obtain ⟨h1, h2⟩ := h
  simp only at h1 h2
  unfold RgOK goD
  rcases h1 with rfl | rfl | rfl | rfl <;> simp <;> omega
theorem goD_all : ∀ {l : List Nat} {x : Rg}, Sx l → RgOK x → RgOK (l.foldl goD x)
  | [], _, _, h => h
  | n :: l, x, hs, h => goD_all (l := l) (Sx.tail hs).2 (goD_ok h (Sx.tail hs).1)
theorem dec6_len : ∀ l : List Nat, (dec6 l).length ≤ l.length
  | p :: q :: r :: t :: l => by have := dec6_len l; simp only [dec6, List.length_cons]; omega
  | [p, q, r] => by simp [dec6]
  | [p, q] => by simp [dec6]
  | [p] => by simp [dec6]
  | [] => by simp [dec6]
theorem decR_zero (b : List UInt8) : decR b 0 = ⟨0, 0, []⟩ := rfl
theorem decR_ok (b : List UInt8) (k : Nat) : RgOK (decR b k) := goD_all (vals_sx _) ⟨.inl rfl, by simp⟩
theorem decR_out {b : List UInt8} {k : Nat} (h : allI (b.take k) = true) : (decR b k).out = dec6 (valsI (b.take k)) ∧ (decR b k).out.length ≤ b.length := by
  obtain ⟨w, r, e, _⟩ := dec_run h
  have e2 : (decR b k).out = dec6 (valsI (b.take k)) := by unfold decR; rw [e]
  refine ⟨e2, ?_⟩
  rw [e2]
  have := dec6_len (valsI (b.take k))
  rw [vals_len h] at this
  have h2 : (b.take k).length ≤ b.length := by simp; omega
  omega
theorem goD_app (w r : Nat) (o : List Nat) (n : Nat) : goD ⟨w, r, o⟩ n = ⟨(goD ⟨w, r, []⟩ n).w, (goD ⟨w, r, []⟩ n).r, o ++ (goD ⟨w, r, []⟩ n).out⟩ := by
  unfold goD
  (repeat' split) <;> simp
theorem decR_succ {b : List UInt8} {k n : Nat} (h : k < b.length) (ha : allI (b.take k) = true) (hv : valI b[k] = some n) {w r : Nat} {o : List Nat} (e : decR b k = ⟨w, r, o⟩) :
    decR b (k + 1) = ⟨(goD ⟨w, r, []⟩ n).w, (goD ⟨w, r, []⟩ n).r, o ++ (goD ⟨w, r, []⟩ n).out⟩ ∧ allI (b.take (k + 1)) = true := by
  have e1 : b.take (k + 1) = b.take k ++ [b[k]] := by rw [List.take_add_one, List.getElem?_eq_getElem h]; rfl
  have e2 : valsI [b[k]] = [n] := by simp [valsI, hv]
  constructor
  · rw [← goD_app, ← e]
    unfold decR
    rw [e1, vals_app _ ha, e2, List.foldl_append]
    rfl
  · rw [e1]
    unfold allI at ha ⊢
    rw [List.all_append, ha]
    simp [hv]
theorem dec_none {s : List UInt8} {k : Nat} (hk : k < (bareI s).length) (h : valI (bareI s)[k] = none) : decI s = none := by
  unfold decI
  split
  · rfl
  · rw [if_neg]
    rintro ⟨h1, _⟩
    have := List.all_eq_true.1 h1 _ (List.getElem_mem hk)
    rw [h] at this; cases this
def regD (o : List UInt8) (w r : Int) : List Blk := hB 7 o :: .box 3 [.val (.int .i64 6)] :: .box 3 [.val (.int .i64 8)] :: .box 46 [.clos 25 [.ptr 0 0 0]] :: .box 3 [.val (.int .i64 w)] :: .box 3 [.val (.int .i64 r)] :: .mp .u8 .i64 (valsK 64) :: hS o
def decS (b : List UInt8) (k : Nat) : St := ⟨69, [(4, .val (.str b)), (5, .ptr 0 0 0), (6, .clos 36 [.ptr 5 0 0, .ptr 1 0 0, .ptr 4 0 0, .ptr 2 0 0, .ptr 3 0 0]), (7, .mp 6), (8, .val (.int .i64 (decR b k).w)), (9, .val (.int .i64 (decR b k).r)), (41, .val (.int .i64 b.length)), (42, .val (.int .i64 k))], regD ((decR b k).out.map UInt8.ofNat) (decR b k).w (decR b k).r⟩
def decO (s : List UInt8) : List UInt8 := if 8192 < s.length then [] else ((decI s).getD []).map UInt8.ofNat
def decX (s : List UInt8) : Int := if 8192 < s.length then 3 else if (decI s).isSome then 0 else 6
def decSpec : Spec := { pre := fun args => ∃ s : List UInt8, args = [.c (.str s)] ∧ (s.length : Int) ≤ 9223372036854775807, res := fun args => match args with
  | [.c (.str s)] => .many [.val (.c (.str (decO s))), .val (.c (.int .i64 (decX s)))]
  | _ => .many [] }
def G_dec : Specs := [(15, trimSpec), (19, regrSpec), (36, rgdSpec), (26, valsSpec), (22, strSpec)]
@[simp] theorem G_dec_live : Specs.live G_dec = false := rfl
@[simp] theorem G_dec_15 : G_dec.find 15 = some trimSpec := rfl
@[simp] theorem G_dec_19 : G_dec.find 19 = some regrSpec := rfl
@[simp] theorem G_dec_36 : G_dec.find 36 = some rgdSpec := rfl
@[simp] theorem G_dec_26 : G_dec.find 26 = some valsSpec := rfl
@[simp] theorem G_dec_22 : G_dec.find 22 = some strSpec := rfl
theorem G_dec_ok (gl : Gl) : SpecsOK Tryd.prog gl G_dec := .cons (trim_sound gl) (.cons (regr_sound gl) (.cons (rgd_sound gl) (.cons (vals_sound gl) (.cons (str_sound gl) (.nil _ _)))))
set_option maxHeartbeats 16000000 in
set_option maxRecDepth 10000 in
theorem dec_sound (gl : Gl) : Sound Tryd.prog gl 13 decSpec := by
  refine sound_awp (N := Tryd.f13.ntmps) (rs := Tryd.f13.results.toList) tok Tryd.func13 rfl rfl rfl rfl rfl ?_ ?_ ?_
  · rintro args ⟨s,rfl,hs⟩; simp [Tryd.f13]
  · rintro args ⟨s,rfl,hs⟩; simp [decSpec, Tryd.f13]
  · rintro args ⟨s,rfl,hs⟩ bs hgl hh hro
    have hE : Env.OK ⟨Tryd.prog, T, G_dec, bs⟩ := ⟨tok, by rw [hgl]; exact G_dec_ok gl⟩
    rcases Nat.lt_or_ge 8192 s.length with c1 | c1
    · have c1' : (8192 < (s.length : Int)) = True := eq_true (by omega)
      refine wpc_ok hE mixed _ _ _ ?_
      simp [decSpec, regrSpec, rgdSpec, strSpec, trimSpec, valsSpec, Tryd.f13, c1, c1', decO, decX]
    have c1' : (8192 < (s.length : Int)) = False := eq_false (by omega)
    have c2 : (8192 < s.length) = False := eq_false (by omega)
    have hm : Tryd.prog.underlying 52 = some (.map 5 3) := Tryd.underlying52
    have hbl := bareI_len s
    obtain ⟨b, hb⟩ : ∃ b, bareI s = b := ⟨_, rfl⟩
    have tm : (s.length : Int).tmod 4 = (s.length : Int) % 4 := Int.tmod_eq_emod_of_nonneg (by omega)
    have hdI : decI s = if b.length ≠ s.length ∧ (s.length % 4 ≠ 0 ∨ 2 < s.length - b.length) then none else if allI b = true ∧ ok6 (valsI b) = true then some (dec6 (valsI b)) else none := by unfold decI; rw [hb]
    have hdN : ∀ k (hk : k < b.length), valI b[k] = none → decI s = none := by subst hb; exact fun k hk h => dec_none hk h
    rw [hb] at hbl
    have ws : IntKind.i64.wrap ((s.length : Int) - b.length) = (s.length : Int) - b.length := wrap64 _ (by omega) (by omega)
    have hcase : (¬ b.length = s.length ∧ ¬ s.length % 4 = 0) ∨ (¬ b.length = s.length ∧ s.length % 4 = 0 ∧ 2 < s.length - b.length) ∨ (b.length = s.length) ∨ (¬ b.length = s.length ∧ s.length % 4 = 0 ∧ ¬ 2 < s.length - b.length) := by omega
    rcases hcase with ⟨h1, h2⟩ | ⟨h1, h2, h3⟩ | h1 | ⟨h1, h2, h3⟩
    · have e1 : ((b.length : Int) = s.length) = False := eq_false (by omega)
      have e2 : ((s.length : Int) % 4 = 0) = False := eq_false (by omega)
      have hd : decI s = none := by rw [hdI, if_pos ⟨h1, .inl h2⟩]
      refine wpc_ok hE mixed _ _ _ ?_
      simp [decSpec, regrSpec, rgdSpec, strSpec, trimSpec, valsSpec, Tryd.f13, c2, c1', hb, tm, e1, e2, hd, decO, decX]
      exact hs
    · have e1 : ((b.length : Int) = s.length) = False := eq_false (by omega)
      have e2 : ((s.length : Int) % 4 = 0) = True := eq_true (by omega)
      have e3 : (2 < (s.length : Int) - b.length) = True := eq_true (by omega)
      have hd : decI s = none := by rw [hdI, if_pos ⟨h1, .inr h3⟩]
      refine wpc_ok hE mixed _ _ _ ?_
      simp [decSpec, regrSpec, rgdSpec, strSpec, trimSpec, valsSpec, Tryd.f13, c2, c1', hb, tm, e1, e2, e3, ws, hd, decO, decX]
      exact hs
    case' inr.inr.inl =>
      have e1 : ((b.length : Int) = s.length) = True := eq_true (by omega)
      have e2 : True := trivial
      have e3 : True := trivial
      have hd : decI s = if allI b = true ∧ ok6 (valsI b) = true then some (dec6 (valsI b)) else none := by rw [hdI, if_neg (by omega)]
    case' inr.inr.inr =>
      have e1 : ((b.length : Int) = s.length) = False := eq_false (by omega)
      have e2 : ((s.length : Int) % 4 = 0) = True := eq_true (by omega)
      have e3 : (2 < (s.length : Int) - b.length) = False := eq_false (by omega)
      have hd : decI s = if allI b = true ∧ ok6 (valsI b) = true then some (dec6 (valsI b)) else none := by rw [hdI, if_neg (by omega)]
    all_goals
      refine wpc_ok hE mixed _ _ _ ?_
      simp [decSpec, regrSpec, rgdSpec, strSpec, trimSpec, valsSpec, Tryd.f13, c2, c1', hb, tm, e1, e2, e3, ws, decO, decX, hcEff, regrHS, valsHS]
      refine ⟨hs, ?_⟩
      refine AWP.rounds (fun k => k ≤ b.length ∧ allI (b.take k) = true) (decS b) (fun k => b.length - k) 0 ⟨by omega, by simp [allI]⟩ ?_ ?_
      · refine Weak.heap ?_ ?_
        · simp [decS, decR_zero, regD, hB, hS]
        · simp [decS, decR_zero]
      · rintro k ⟨hk, hal⟩
        obtain ⟨o1, o2⟩ := decR_ok b k
        obtain ⟨o3, o4⟩ := decR_out hal
        obtain ⟨w, r, o, hR⟩ : ∃ w r o, decR b k = ⟨w, r, o⟩ := ⟨_, _, _, rfl⟩
        rw [hR] at o1 o2 o3 o4
        simp only at o1 o2 o3 o4
        refine wpc_ok hE mixed _ _ _ ?_
        rcases Nat.lt_or_ge k b.length with h | h
        · have hvg := valsK_get b[k]
          have w1 : IntKind.i64.wrap ((k : Int) + 1) = ((k + 1 : Nat) : Int) := by rw [wrap64 _ (by omega) (by omega)]; omega
          simp [decS, hR, h]
          refine OpW.getMap (id := 6) (es := valsK 64) (a := (b[k].toNat : Int)) (kk := .u8) (vk := .i64) tok hm T_5 T_3 Tryd.zeroValue3 (by simp) (by simp) (by simp [regD]) (by simp) ?_
          rw [hvg]
          cases hv : valI b[k] with
          | none =>
            have hn := hdN k h hv
            simp [hn]
          | some n =>
            obtain ⟨hT, hal'⟩ := decR_succ h hal hv hR
            have hn64 := (sgn_val hv).2
            have ok0 : hOK 7 (hB 7 (o.map UInt8.ofNat)) (hS (o.map UInt8.ofNat)) = True := eq_true (hOK_mk (by simp; omega))
            have hq : rgD (w : Int) (r : Int) ((n : Nat) : Int) = goD ⟨w, r, []⟩ n := by simp [rgD]
            obtain ⟨Y, hY⟩ : ∃ Y, goD ⟨w, r, []⟩ n = Y := ⟨_, rfl⟩
            rw [hY] at hT hq
            simp [regD, hcEff, and_assoc, regrSpec, rgdSpec, strSpec, trimSpec, valsSpec, rgdHS, ok0, hq, w1]
            refine ⟨by omega, by omega, by omega, by exact_mod_cast o2, Next.mk (k + 1) ⟨by omega, hal'⟩ (by omega) (Weak.heap ?_ ?_)⟩
            · simp [decS, hT, regD]
            · simp [decS, hT]
        · obtain rfl : k = b.length := by omega
          rw [List.take_length] at hal o3
          obtain ⟨w', r', q1, q2, q3, q4⟩ := dec_run hal
          have q5 : decR b b.length = ⟨w', r', dec6 (valsI b)⟩ := by rw [← q1]; unfold decR; rw [List.take_length]
          rw [hR] at q5
          simp only [Rg.mk.injEq] at q5
          obtain ⟨rfl, rfl, rfl⟩ := q5
          by_cases k6 : w = 6
          · have hn : decI s = none := by rw [hd, if_neg (by rintro ⟨_, q⟩; exact (q2.1 q).1 k6)]
            have k6' : ((w : Int) = 6) = True := eq_true (by omega)
            simp [decS, hR, k6', hn]
          have k6' : ((w : Int) = 6) = False := eq_false (by omega)
          by_cases k0 : r = 0
          · have hs' : decI s = some (dec6 (valsI b)) := by rw [hd, if_pos ⟨hal, q2.2 ⟨k6, k0⟩⟩]
            subst k0
            obtain ⟨O, hO⟩ : ∃ O, (dec6 (valsI b)).map UInt8.ofNat = O := ⟨_, rfl⟩
            have bb := byteOf_byteC O
            by_cases hn : O = []
            · simp [decS, hR, k6', hs', hO, hn, regD, hB, hS, hcEff, strSpec, strHS]
            · have hl0 : 0 < O.length := List.length_pos_iff.2 hn
              simp [decS, hR, k6', hs', hO, hn, regD, hB, hS, hcEff, strSpec, strHS, bb]
              exact hl0
          · have hn : decI s = none := by rw [hd, if_neg (by rintro ⟨_, q⟩; exact k0 (q2.1 q).2)]
            have k0' : ((r : Int) = 0) = False := eq_false (by omega)
            simp [decS, hR, k6', k0', hn, k0]
end Fen
