/- A part of the proof; no statement is proved here: BBdMb. -/
import Derived.Test.YtmbogpmhlepkmaaDoorLawA
import Derived.Test.YtmbogpmhlepkmaaDoorCoreE

set_option linter.unusedVariables false
set_option linter.unusedSimpArgs false

namespace Fen
open Go Go.Proofs

theorem sgn_at3 (n : Nat) (h : n < 64) (hq : n < ([65, 66, 67, 68, 69, 70, 71, 72, 73, 74, 75, 76, 77, 78, 79, 80, 81, 82, 83, 84, 85, 86, 87, 88, 89, 90, 97, 98, 99, 100, 101, 102, 103, 104, 105, 106, 107, 108, 109, 110, 111, 112, 113, 114, 115, 116, 117, 118, 119, 120, 121, 122, 48, 49, 50, 51, 52, 53, 54, 55, 56, 57, 43, 47] : List UInt8).length) : ([65, 66, 67, 68, 69, 70, 71, 72, 73, 74, 75, 76, 77, 78, 79, 80, 81, 82, 83, 84, 85, 86, 87, 88, 89, 90, 97, 98, 99, 100, 101, 102, 103, 104, 105, 106, 107, 108, 109, 110, 111, 112, 113, 114, 115, 116, 117, 118, 119, 120, 121, 122, 48, 49, 50, 51, 52, 53, 54, 55, 56, 57, 43, 47] : List UInt8)[n]'hq = sgnI n := by
  have := sgn_at0 n h
  rwa [List.getElem?_eq_getElem hq, Option.getD_some] at this
theorem u8_at {l : List Int} {k : Nat} (h : k < l.length) : (ints .u8 l).drop k = .int .u8 l[k] :: (ints .u8 l).drop (k + 1) := by
  rw [List.drop_eq_getElem_cons (by simpa [ints] using h)]; simp [ints]
def pkL (L : List Int) : List UInt8 := L.map fun n => sgnI (n % 64).toNat
def rdsS (s T B : List UInt8) (L : List Int) (x z : Int) (i : Nat) : St := ⟨111, [(0, .val (.str s)), (1, .val (.sl L.length (ints .u8 L))), (2, .val (.int .u8 x)), (4, .val (.int .u8 z)), (11, .val (.str T)), (13, .val (.sl B.length (B.map byteC))), (14, .ref 0 0), (15, .val (.int .i64 i))], [.sl 5 0 true 1 i ((pkL (L.take i)).map byteC)]⟩
def rdsT (s T B Y : List UInt8) (x z : Int) : St := ⟨111, [(0, .val (.str s)), (2, .val (.int .u8 x)), (4, .val (.int .u8 z)), (11, .val (.str T)), (13, .val (.sl B.length (B.map byteC))), (14, .ref 0 0)], [.sl 5 0 true 1 Y.length (Y.map byteC)]⟩
def rdsU (F : List (List UInt8)) (i : Nat) : St := ⟨111, [(87, .agg (F.map .str)), (88, .val (.int .i64 i))], []⟩
def lawReadsSpec : Spec := { pre := fun args => ∃ (s : List UInt8) (L : List Int) (x y z : Int), args = [.c (.str s), bytesV L, .c (.int .u8 x), .c (.int .u8 y), .c (.int .u8 z)] ∧ (s.length : Int) ≤ 9223372036854775807 ∧ Bytes L ∧ (L.length : Int) ≤ 9223372036854775807 ∧ 0 ≤ x ∧ x < 256 ∧ 0 ≤ y ∧ y < 256 ∧ 0 ≤ z ∧ z < 256, res := fun _ => .one (.val (.c (.bool true))) }
def G_lawReads : Specs := [(9, rencoSpec), (13, decoSpec), (14, rdecoSpec), (12, lworksSpec)]
@[simp] theorem G_lawReads_live : Specs.live G_lawReads = false := rfl
@[simp] theorem G_lawReads_9 : G_lawReads.find 9 = some rencoSpec := rfl
@[simp] theorem G_lawReads_13 : G_lawReads.find 13 = some decoSpec := rfl
@[simp] theorem G_lawReads_14 : G_lawReads.find 14 = some rdecoSpec := rfl
@[simp] theorem G_lawReads_12 : G_lawReads.find 12 = some lworksSpec := rfl
theorem G_lawReads_ok (gl : Gl) : SpecsOK Tryd.prog gl G_lawReads := .cons (renco_sound gl) (.cons (deco_sound gl) (.cons (rdeco_sound gl) (.cons (lworks_sound gl) (.nil _ _))))
set_option maxHeartbeats 16000000 in
set_option maxRecDepth 10000 in
theorem lawReads_sound (gl : Gl) : Sound Tryd.prog gl 4 lawReadsSpec := by
  refine sound_awp (N := Tryd.f4.ntmps) (rs := Tryd.f4.results.toList) tok Tryd.func4 rfl rfl rfl rfl rfl ?_ ?_ ?_
  · rintro args ⟨s0,L,x,y,z,rfl,hl,hL,hLl,hx0,hx1,hy0,hy1,hz0,hz1⟩; simp [bytesV, Tryd.f4]
  · rintro args ⟨s0,L,x,y,z,rfl,hl,hL,hLl,hx0,hx1,hy0,hy1,hz0,hz1⟩; simp [bytesV, lawReadsSpec, Tryd.f4]
  · rintro args ⟨s0,L,x,y,z,rfl,hl,hL,hLl,hx0,hx1,hy0,hy1,hz0,hz1⟩ bs hgl hh hro
    have hE : Env.OK ⟨Tryd.prog, T, G_lawReads, bs⟩ := ⟨tok, by rw [hgl]; exact G_lawReads_ok gl⟩
    simp only [lawReadsSpec, bytesV]
    obtain ⟨m1, m2, m3⟩ := cut_of s0 200
    obtain ⟨s, hs⟩ : ∃ s, s0.take 200 = s := ⟨_, rfl⟩
    rw [hs] at m1 m2 m3
    have sl : s.length ≤ 200 := by rw [← hs]; simp; omega
    have l2 : ((s.length : Int) ≤ s0.length) = True := eq_true m2
    simp at m1
    have iE := encIn (s := s) (by omega)
    obtain ⟨eT, xT⟩ := encO_of (s := s) (by omega)
    have Tl := encI_len s
    generalize encI s = T0 at *
    have t300 : T0.length ≤ 300 := by omega
    refine wpcU_ok hE mixed 3 _ _ _ ?_
    simp [lawReadsSpec, decoSpec, lworksSpec, rdecoSpec, rencoSpec, Tryd.f4, encSpec, m1, m3, l2, iE, eT, xT]
    refine AWP.regionH hE 1 ?_
    simp
    refine OpW.sbMake (l := T0) tok T_9 T_28 T_5 (by simp) (by unfold maxLen; omega) (by simp) ?_
    simp
    refine OpW.sbLen (id := 0) (n := T0.length) (e' := 5) (cs := T0.map byteC) tok T_28 (by simp) (by simp) (by simp) ?_
    have wx : IntKind.i64.wrap x = x := wrap64 _ (by omega) (by omega)
    by_cases e : T0 = []
    case' pos =>
      have n0 : (0 < T0.length) = False := eq_false (by rw [e]; simp)
      simp [n0]
      obtain ⟨B, hB, hBl⟩ : ∃ B : List UInt8, T0.map byteC = B.map byteC ∧ B.length = T0.length := ⟨T0, rfl, rfl⟩
      simp only [hB]
    case' neg =>
      have n0' := List.length_pos_iff.2 e
      have n0 : (0 < T0.length) = True := eq_true n0'
      simp [n0]
      refine OpW.sbLen (id := 0) (n := T0.length) (e' := 5) (cs := T0.map byteC) tok T_28 (by simp) (by simp) (by simp) ?_
      obtain ⟨M, hM, hMl⟩ : ∃ M : Nat, x.tmod (T0.length : Int) = (M : Int) ∧ M < T0.length := by
        rw [Int.tmod_eq_emod_of_nonneg (by omega)]
        have h1 := Int.emod_nonneg x (show (T0.length : Int) ≠ 0 by omega)
        have h2 := Int.emod_lt_of_pos x (show 0 < (T0.length : Int) by omega)
        exact ⟨(x % (T0.length : Int)).toNat, by omega, by omega⟩
      simp [wx, hM]
      refine ⟨e, ?_⟩
      refine OpW.sbAddr (k := .i64) (id := 0) (n := T0.length) (m := M) (e' := 5) (cs := T0.map byteC) tok T_28 T_5 rfl (by simp) (by simp) (by simp) hMl (by simp) ?_
      simp
      refine OpW.sbPut (id := 0) (n := T0.length) (m := M) (e := 5) (cs := T0.map byteC) (k := .u8) (c := y) tok T_5 rfl (by simp) (by simp) (by simp) hMl ?_
      simp
      obtain ⟨B, hB, hBl⟩ : ∃ B : List UInt8, (T0.map byteC).set M (.int .u8 y) = B.map byteC ∧ B.length = T0.length := ⟨T0.set M (u8i y), by
        rw [List.map_set]
        congr 1
        simp only [byteC, byteC_u8i hy0 hy1], by simp⟩
      simp only [hB]
    all_goals
      refine AWP.weaken (Weak.sbVal 13 (id := 0) (e := 5) (n := T0.length) (cs := B.map byteC) (by simp) (by simp)) ?_
      obtain ⟨Y, hY⟩ : ∃ Y, pkL (L.take 50) = Y := ⟨_, rfl⟩
      have yl : Y.length ≤ 50 := by rw [← hY]; simp [pkL]; omega
      refine AWP.leaves 0 (rdsT s T0 B Y x z) (AWP.rounds (fun i => i ≤ L.length ∧ i ≤ 50) (rdsS s T0 B L x z) (fun i => 50 - i) 0 ⟨by omega, by omega⟩ ?_ ?_) ?_
      · exact Weak.ren [none] (baseOK.nil hh) (by simp) (by simp [rdsS, pkL, hBl]) (by simp [rdsS, hBl])
      · rintro i ⟨hi, hi6⟩
        refine wpc_ok hE mixed _ _ _ ?_
        have pl : (pkL (L.take i)).length = i := by simp [pkL]; omega
        rcases Nat.lt_or_ge i L.length with q | q
        · have ql : ((i : Int) < L.length) = True := eq_true (by omega)
          rcases Nat.lt_or_ge i 50 with c | c
          · have cl : ((i : Int) < 50) = True := eq_true (by omega)
            have hd := u8_at q
            have hx := hL _ (List.getElem_mem q)
            have ht : pkL (L.take (i + 1)) = pkL (L.take i) ++ [sgnI (L[i] % 64).toNat] := by
              rw [List.take_add_one, List.getElem?_eq_getElem q]; unfold pkL; rw [List.map_append]; rfl
            generalize L[i] = n at *
            have tm : n.tmod 64 = (((n % 64).toNat : Nat) : Int) := by rw [Int.tmod_eq_emod_of_nonneg (by omega)]; omega
            obtain ⟨N, hN⟩ : ∃ N, (n % 64).toNat = N := ⟨_, rfl⟩
            have hN64 : N < 64 := by omega
            rw [hN] at tm ht
            have s3 := sgn_at3 N hN64
            have Nl : ((N : Int) < 64) = True := eq_true (by omega)
            have Nl' : (N < 64) = True := eq_true hN64
            have w1 : IntKind.i64.wrap ((i : Int) + 1) = ((i + 1 : Nat) : Int) := by rw [wrap64 _ (by omega) (by omega)]; omega
            simp [rdsS, ql, cl, hd, tm, s3, Nl, Nl', w1]
            refine ⟨⟨by omega, by omega⟩, Next.mk (i + 1) ⟨by omega, by omega⟩ (by omega) (Weak.ren [some 0] (baseOK.nil hh) (by simp) (by simp [rdsS, ht, byteC]) (by simp [rdsS]))⟩
          · obtain rfl : i = 50 := by omega
            simp [rdsS, ql]
            have pl' : Y.length = 50 := by rw [← hY]; exact pl
            exact Leaves.mk (Weak.heap (by simp [rdsT, hY, pl']) (by simp [rdsT]))
        · obtain rfl : i = L.length := by omega
          have e60 : L.take 50 = L := List.take_of_length_le (by omega)
          rw [List.take_length] at pl
          rw [e60] at hY
          rw [hY] at pl
          simp [rdsS]
          exact Leaves.mk (Weak.heap (by simp [rdsT, hY, pl]) (by simp [rdsT]))
      · have bbY : Y.map (byteOf ∘ byteC) = Y := by simpa using byteOf_byteC Y
        have bbB : B.map (byteOf ∘ byteC) = B := by simpa using byteOf_byteC B
        have wl : IntKind.i64.wrap ((T0.length : Int) + 1) = (T0.length : Int) + 1 := wrap64 _ (by omega) (by omega)
        obtain ⟨K1, hK1, hK1l⟩ : ∃ K1 : Nat, x.tmod ((T0.length : Int) + 1) = (K1 : Int) ∧ K1 ≤ T0.length := by
          rw [Int.tmod_eq_emod_of_nonneg (by omega)]
          have h1 := Int.emod_nonneg x (show (T0.length : Int) + 1 ≠ 0 by omega)
          have h2 := Int.emod_lt_of_pos x (show 0 < (T0.length : Int) + 1 by omega)
          exact ⟨(x % ((T0.length : Int) + 1)).toNat, by omega, by omega⟩
        obtain ⟨E5, hE5, hE5l⟩ : ∃ E : Nat, z.tmod 5 = (E : Int) ∧ E ≤ 4 := by
          rw [Int.tmod_eq_emod_of_nonneg (by omega)]
          exact ⟨(z % 5).toNat, by omega, by omega⟩
        obtain ⟨E4, hE4, hE4l⟩ : ∃ E : Nat, z.tmod 4 = (E : Int) ∧ E ≤ 4 := by
          rw [Int.tmod_eq_emod_of_nonneg (by omega)]
          exact ⟨(z % 4).toNat, by omega, by omega⟩
        have kl1 : ((K1 : Int) ≤ T0.length) = True := eq_true (by omega)
        have kl2 : (K1 ≤ T0.length) = True := eq_true hK1l
        have q5 : ((E5 : Int) ≤ 4) = True := eq_true (by omega)
        have q5' : (E5 ≤ 4) = True := eq_true hE5l
        have q4 : ((E4 : Int) ≤ 4) = True := eq_true (by omega)
        have q4' : (E4 ≤ 4) = True := eq_true hE4l
        have n1 : ((T0.length : Int) + 1 = 0) = False := eq_false (by omega)
        obtain ⟨F4, hF4⟩ : ∃ F, T0 ++ List.take E5 [61, 61, 61, 61] = F := ⟨_, rfl⟩
        obtain ⟨F5, hF5⟩ : ∃ F, Y ++ List.take E4 [61, 61, 61, 61] = F := ⟨_, rfl⟩
        have l4 : F4.length ≤ 400 := by rw [← hF4]; simp; omega
        have l5 : F5.length ≤ 400 := by rw [← hF5]; simp; omega
        simp [rdsT, and_assoc, decoSpec, lworksSpec, rdecoSpec, rencoSpec, wx, wl, hK1, hE5, hE4, kl1, kl2, q5, q5', q4, q4', n1, hF4, hF5, bbY, bbB]
        refine ⟨by omega, by omega, rfl, ?_⟩
        obtain ⟨F3, hF3⟩ : ∃ F, T0.take K1 = F := ⟨_, rfl⟩
        have l3 : F3.length ≤ 400 := by rw [← hF3]; simp; omega
        rw [hF3]
        refine AWP.rounds (fun i => i ≤ 6) (rdsU [s, T0, B, F3, F4, F5]) (fun i => 6 - i) 0 (by omega) ?_ ?_
        · exact Weak.ren [] (baseOK.nil hh) (by simp) (by simp [rdsU]) (by simp [rdsU])
        · intro i hi
          refine wpc_ok hE mixed _ _ _ ?_
          have hc : i = 0 ∨ i = 1 ∨ i = 2 ∨ i = 3 ∨ i = 4 ∨ i = 5 ∨ i = 6 := by omega
          rcases hc with rfl | rfl | rfl | rfl | rfl | rfl | rfl
          · have j := decIn (s := s) (by omega)
            simp [rdsU, and_assoc, decoSpec, lworksSpec, rdecoSpec, rencoSpec, decSpec, j]
            exact Next.mk 1 (by omega) (by omega) (Weak.keep (by simp [rdsU]))
          · have j := decIn (s := T0) (by omega)
            simp [rdsU, and_assoc, decoSpec, lworksSpec, rdecoSpec, rencoSpec, decSpec, j]
            exact Next.mk 2 (by omega) (by omega) (Weak.keep (by simp [rdsU]))
          · have j := decIn (s := B) (by omega)
            simp [rdsU, and_assoc, decoSpec, lworksSpec, rdecoSpec, rencoSpec, decSpec, j]
            exact Next.mk 3 (by omega) (by omega) (Weak.keep (by simp [rdsU]))
          · have j := decIn (s := F3) (by omega)
            simp [rdsU, and_assoc, decoSpec, lworksSpec, rdecoSpec, rencoSpec, decSpec, j]
            exact Next.mk 4 (by omega) (by omega) (Weak.keep (by simp [rdsU]))
          · have j := decIn (s := F4) (by omega)
            simp [rdsU, and_assoc, decoSpec, lworksSpec, rdecoSpec, rencoSpec, decSpec, j]
            exact Next.mk 5 (by omega) (by omega) (Weak.keep (by simp [rdsU]))
          · have j := decIn (s := F5) (by omega)
            simp [rdsU, and_assoc, decoSpec, lworksSpec, rdecoSpec, rencoSpec, decSpec, j]
            exact Next.mk 6 (by omega) (by omega) (Weak.keep (by simp [rdsU]))
          · simp [rdsU, and_assoc, decoSpec, lworksSpec, rdecoSpec, rencoSpec, worksIn]
end Fen
