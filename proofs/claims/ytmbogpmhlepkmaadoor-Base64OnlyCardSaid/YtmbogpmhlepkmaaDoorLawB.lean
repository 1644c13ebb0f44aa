/- A part of the proof; no statement is proved here: BBdMd. -/
import Derived.Test.YtmbogpmhlepkmaaDoorLawA

set_option linter.unusedVariables false
set_option linter.unusedSimpArgs false

namespace Fen
open Go Go.Proofs

theorem sgn_at3 (n : Nat) (h : n < 64) (hq : n < ([65, 66, 67, 68, 69, 70, 71, 72, 73, 74, 75, 76, 77, 78, 79, 80, 81, 82, 83, 84, 85, 86, 87, 88, 89, 90, 97, 98, 99, 100, 101, 102, 103, 104, 105, 106, 107, 108, 109, 110, 111, 112, 113, 114, 115, 116, 117, 118, 119, 120, 121, 122, 48, 49, 50, 51, 52, 53, 54, 55, 56, 57, 43, 47] : List UInt8).length) : ([65, 66, 67, 68, 69, 70, 71, 72, 73, 74, 75, 76, 77, 78, 79, 80, 81, 82, 83, 84, 85, 86, 87, 88, 89, 90, 97, 98, 99, 100, 101, 102, 103, 104, 105, 106, 107, 108, 109, 110, 111, 112, 113, 114, 115, 116, 117, 118, 119, 120, 121, 122, 48, 49, 50, 51, 52, 53, 54, 55, 56, 57, 43, 47] : List UInt8)[n]'hq = sgnI n := by
  have := sgn_at0 n h
  rwa [List.getElem?_eq_getElem hq, Option.getD_some] at this
/-- what a string is, as far as Decode and Encode tell -/
theorem dec_or {t : List UInt8} (h : t.length ≤ 4096) : (decO t = [] ∧ decX t = 6) ∨ ∃ x : List UInt8, x.length ≤ 4096 ∧ decO t = x ∧ decX t = 0 ∧ encX x = 0 ∧ encO x = encI x ∧ bareI (encI x) = bareE x ∧ (encI x).length ≤ 100000 ∧ (t = encI x ∨ t = bareE x) := by
  cases hd : decI t with
  | none =>
    left
    unfold decO decX
    rw [if_neg (by omega), if_neg (by omega), hd]
    exact ⟨rfl, rfl⟩
  | some v =>
    right
    obtain ⟨hb, ho⟩ := dec_only hd
    obtain ⟨x, hx⟩ : ∃ x, v.map UInt8.ofNat = x := ⟨_, rfl⟩
    rw [hx] at ho
    have h1 := encI_len x
    have h2 := bareE_len x
    have xl : x.length ≤ 4096 := by
      rcases ho with e | e
      · have := congrArg List.length e; omega
      · have := congrArg List.length e; omega
    have e0 := encO_of (s := x) (by omega)
    refine ⟨x, xl, ?_, ?_, e0.2, e0.1, bare_enc x, by omega, ho⟩
    · unfold decO
      rw [if_neg (by omega), hd]; exact hx
    · unfold decX
      rw [if_neg (by omega), hd]; rfl
theorem u8_at {l : List Int} {k : Nat} (h : k < l.length) : (ints .u8 l).drop k = .int .u8 l[k] :: (ints .u8 l).drop (k + 1) := by
  rw [List.drop_eq_getElem_cons (by simpa [ints] using h)]; simp [ints]
def pkL (L : List Int) : List UInt8 := L.map fun n => sgnI (n % 64).toNat
def onlS (s : List UInt8) (L : List Int) (e : Int) (i : Nat) : St := ⟨84, [(0, .val (.str s)), (1, .val (.sl L.length (ints .u8 L))), (2, .val (.int .u8 e)), (7, .ref 0 0), (8, .val (.int .i64 i))], [.sl 5 0 true 1 i ((pkL (L.take i)).map byteC)]⟩
def onlT (s : List UInt8) (L : List Int) (e : Int) : St := ⟨84, [(0, .val (.str s)), (2, .val (.int .u8 e)), (7, .ref 0 0)], [.sl 5 0 true 1 (pkL (L.take 60)).length ((pkL (L.take 60)).map byteC)]⟩
def onlU (A B : List UInt8) (i : Nat) : St := ⟨84, [(48, .agg [.str A, .str B]), (49, .val (.int .i64 i))], []⟩
def lawOnlySpec : Spec := { pre := fun args => ∃ (s : List UInt8) (L : List Int) (e : Int), args = [.c (.str s), bytesV L, .c (.int .u8 e)] ∧ (s.length : Int) ≤ 9223372036854775807 ∧ Bytes L ∧ (L.length : Int) ≤ 9223372036854775807 ∧ 0 ≤ e ∧ e < 256, res := fun _ => .one (.val (.c (.bool true))) }
def G_lawOnly : Specs := [(12, lworksSpec), (13, decoSpec), (8, encoSpec), (15, trimoSpec), (16, repoSpec)]
@[simp] theorem G_lawOnly_live : Specs.live G_lawOnly = false := rfl
@[simp] theorem G_lawOnly_12 : G_lawOnly.find 12 = some lworksSpec := rfl
@[simp] theorem G_lawOnly_13 : G_lawOnly.find 13 = some decoSpec := rfl
@[simp] theorem G_lawOnly_8 : G_lawOnly.find 8 = some encoSpec := rfl
@[simp] theorem G_lawOnly_15 : G_lawOnly.find 15 = some trimoSpec := rfl
@[simp] theorem G_lawOnly_16 : G_lawOnly.find 16 = some repoSpec := rfl
theorem G_lawOnly_ok (gl : Gl) : SpecsOK Tryd.prog gl G_lawOnly := .cons (lworks_sound gl) (.cons (deco_sound gl) (.cons (enco_sound gl) (.cons (trimo_sound gl) (.cons (repo_sound gl) (.nil _ _)))))
set_option maxHeartbeats 16000000 in
set_option maxRecDepth 10000 in
theorem lawOnly_sound (gl : Gl) : Sound Tryd.prog gl 6 lawOnlySpec := by
  refine sound_awp (N := Tryd.f6.ntmps) (rs := Tryd.f6.results.toList) tok Tryd.func6 rfl rfl rfl rfl rfl ?_ ?_ ?_
  · rintro args ⟨s,L,e,rfl,hl,hL,hLl,he0,he1⟩; simp [bytesV, Tryd.f6]
  · rintro args ⟨s,L,e,rfl,hl,hL,hLl,he0,he1⟩; simp [bytesV, lawOnlySpec, Tryd.f6]
  · rintro args ⟨s,L,e,rfl,hl,hL,hLl,he0,he1⟩ bs hgl hh hro
    have hE : Env.OK ⟨Tryd.prog, T, G_lawOnly, bs⟩ := ⟨tok, by rw [hgl]; exact G_lawOnly_ok gl⟩
    simp only [lawOnlySpec, bytesV]
    refine wpc_ok hE mixed _ _ _ ?_
    simp [lawOnlySpec, decoSpec, encoSpec, lworksSpec, repoSpec, trimoSpec, Tryd.f6, worksIn]
    refine AWP.leaves 0 (onlT s L e) (AWP.rounds (fun i => i ≤ L.length ∧ i ≤ 60) (onlS s L e) (fun i => 60 - i) 0 ⟨by omega, by omega⟩ ?_ ?_) ?_
    · exact Weak.ren [none] (baseOK.nil hh) (by simp) (by simp [onlS, pkL]) (by simp [onlS])
    · rintro i ⟨hi, hi6⟩
      refine wpc_ok hE mixed _ _ _ ?_
      have pl : (pkL (L.take i)).length = i := by simp [pkL]; omega
      rcases Nat.lt_or_ge i L.length with q | q
      · have ql : ((i : Int) < L.length) = True := eq_true (by omega)
        rcases Nat.lt_or_ge i 60 with c | c
        · have cl : ((i : Int) < 60) = True := eq_true (by omega)
          have hd := u8_at q
          have hx := hL _ (List.getElem_mem q)
          have ht : pkL (L.take (i + 1)) = pkL (L.take i) ++ [sgnI (L[i] % 64).toNat] := by
            rw [List.take_add_one, List.getElem?_eq_getElem q]; unfold pkL; rw [List.map_append]; rfl
          generalize L[i] = n at *
          have tm : n.tmod 64 = (((n % 64).toNat : Nat) : Int) := by rw [Int.tmod_eq_emod_of_nonneg (by omega)]; omega
          obtain ⟨N, hN⟩ : ∃ N, (n % 64).toNat = N := ⟨_, rfl⟩
          have hN64 : N < 64 := by omega
          rw [hN] at tm ht
          have s3 := sgn_at3 N hN64
          have Nl : ((N : Int) < 64) = True := eq_true (by omega)
          have Nl' : (N < 64) = True := eq_true hN64
          have w1 : IntKind.i64.wrap ((i : Int) + 1) = ((i + 1 : Nat) : Int) := by rw [wrap64 _ (by omega) (by omega)]; omega
          simp [onlS, ql, cl, hd, tm, s3, Nl, Nl', w1]
          refine ⟨⟨by omega, by omega⟩, Next.mk (i + 1) ⟨by omega, by omega⟩ (by omega) (Weak.ren [some 0] (baseOK.nil hh) (by simp) (by simp [onlS, ht, byteC]) (by simp [onlS]))⟩
        · obtain rfl : i = 60 := by omega
          simp [onlS, ql]
          exact Leaves.mk (Weak.heap (by simp [onlT, pl]) (by simp [onlT]))
      · obtain rfl : i = L.length := by omega
        have e60 : L.take 60 = L := List.take_of_length_le (by omega)
        rw [List.take_length] at pl
        simp [onlS]
        exact Leaves.mk (Weak.heap (by simp [onlT, e60, pl]) (by simp [onlT]))
    · obtain ⟨m1, m2, m3⟩ := cut_of s 200
      obtain ⟨A, hA⟩ : ∃ A, s.take 200 = A := ⟨_, rfl⟩
      rw [hA] at m1 m2 m3
      have al : A.length ≤ 200 := by rw [← hA]; simp; omega
      have l2 : ((A.length : Int) ≤ s.length) = True := eq_true m2
      simp at m1
      obtain ⟨m, hm⟩ : ∃ m : Nat, (e % 4).toNat = m := ⟨_, rfl⟩
      have tm : e.tmod 4 = (m : Int) := by rw [Int.tmod_eq_emod_of_nonneg (by omega)]; omega
      have wm : IntKind.i64.wrap (m : Int) = (m : Int) := wrap64 _ (by omega) (by omega)
      have rf := repL_fill m
      have iR : RepIn [.c (.str [61]), .c (.int .i64 m)] := ⟨[61], m, rfl, by omega, by simp; omega⟩
      obtain ⟨Y, hY⟩ : ∃ Y, pkL (L.take 60) = Y := ⟨_, rfl⟩
      have yl : Y.length ≤ 60 := by rw [← hY]; simp [pkL]; omega
      have bb := byteOf_byteC Y
      have bb2 : Y.map (byteOf ∘ byteC) = Y := by simpa using bb
      obtain ⟨B, hB⟩ : ∃ B, Y ++ List.replicate m 61 = B := ⟨_, rfl⟩
      have bl : B.length ≤ 100 := by rw [← hB]; simp; omega
      simp [onlT, and_assoc, decoSpec, encoSpec, lworksSpec, repoSpec, trimoSpec, repeatSpec, m1, m3, l2, tm, wm, rf, iR, hY, bb2, hB]
      refine ⟨by omega, rfl, ?_⟩
      have key : ∀ t : List UInt8, t.length ≤ 200 → DecIn [.c (.str t)] := fun t h => decIn (by omega)
      refine AWP.rounds (fun i => i ≤ 2) (onlU A B) (fun i => 2 - i) 0 (by omega) ?_ ?_
      · exact Weak.ren [] (baseOK.nil hh) (by simp) (by simp [onlU]) (by simp [onlU])
      · intro i hi
        refine wpc_ok hE mixed _ _ _ ?_
        have hc : i = 0 ∨ i = 1 ∨ i = 2 := by omega
        rcases hc with rfl | rfl | rfl
        · have j0 := key A al
          rcases dec_or (t := A) (by omega) with ⟨q1, q2⟩ | ⟨x, xl, q1, q2, q3, q4, q5, q6, q7⟩
          · simp [onlU, and_assoc, decoSpec, encoSpec, lworksSpec, repoSpec, trimoSpec, decSpec, j0, q1, q2]
            exact Next.mk 1 (by omega) (by omega) (Weak.keep (by simp [onlU]))
          · have iE := encIn (s := x) (by omega)
            have iT := trimIn (s := encI x) (by omega)
            by_cases k : A = encI x
            · have k' : (A = encI x) = True := eq_true k
              simp [onlU, and_assoc, decoSpec, encoSpec, lworksSpec, repoSpec, trimoSpec, decSpec, encSpec, trimSpec, j0, q1, q2, q3, q4, q5, iE, iT, k']
              exact Next.mk 1 (by omega) (by omega) (Weak.keep (by simp [onlU]))
            · have k' : (A = encI x) = False := eq_false k
              have k2 : (A = bareE x) = True := eq_true (q7.resolve_left k)
              simp [onlU, and_assoc, decoSpec, encoSpec, lworksSpec, repoSpec, trimoSpec, decSpec, encSpec, trimSpec, j0, q1, q2, q3, q4, q5, iE, iT, k', k2]
              exact Next.mk 1 (by omega) (by omega) (Weak.keep (by simp [onlU]))
        · have j0 := key B (by omega)
          rcases dec_or (t := B) (by omega) with ⟨q1, q2⟩ | ⟨x, xl, q1, q2, q3, q4, q5, q6, q7⟩
          · simp [onlU, and_assoc, decoSpec, encoSpec, lworksSpec, repoSpec, trimoSpec, decSpec, j0, q1, q2]
            exact Next.mk 2 (by omega) (by omega) (Weak.keep (by simp [onlU]))
          · have iE := encIn (s := x) (by omega)
            have iT := trimIn (s := encI x) (by omega)
            by_cases k : B = encI x
            · have k' : (B = encI x) = True := eq_true k
              simp [onlU, and_assoc, decoSpec, encoSpec, lworksSpec, repoSpec, trimoSpec, decSpec, encSpec, trimSpec, j0, q1, q2, q3, q4, q5, iE, iT, k']
              exact Next.mk 2 (by omega) (by omega) (Weak.keep (by simp [onlU]))
            · have k' : (B = encI x) = False := eq_false k
              have k2 : (B = bareE x) = True := eq_true (q7.resolve_left k)
              simp [onlU, and_assoc, decoSpec, encoSpec, lworksSpec, repoSpec, trimoSpec, decSpec, encSpec, trimSpec, j0, q1, q2, q3, q4, q5, iE, iT, k', k2]
              exact Next.mk 2 (by omega) (by omega) (Weak.keep (by simp [onlU]))
        · simp [onlU]
end Fen
