/- A part of the proof; no statement is proved here: GGridLa, GGridLb. -/
import Derived.Test.YtefciljolljgmaaDoorGridB
import Derived.Test.YtefciljolljgmaaDoorCoreE

set_option linter.unusedVariables false
set_option linter.unusedSimpArgs false

namespace Fen
open Go Go.Proofs

/-- one of so many grids -/
theorem three_grids {X Y Z : List Rw} {L : List C} {p : List Rw → Prop} (h : [C.sl X.length (rowsC X), .sl Y.length (rowsC Y), .sl Z.length (rowsC Z)] = L) (hX : p X) (hY : p Y) (hZ : p Z) {i : Nat} (hi : i < 3) : ∃ (W : List Rw) (hl : i < L.length), p W ∧ L[i] = C.sl W.length (rowsC W) := by
  subst h
  obtain rfl | rfl | rfl : i = 0 ∨ i = 1 ∨ i = 2 := by omega
  · exact ⟨X, by simp, hX, rfl⟩
  · exact ⟨Y, by simp, hY, rfl⟩
  · exact ⟨Z, by simp, hZ, rfl⟩
theorem two_grids {X Y : List Rw} {L : List C} {p : List Rw → Prop} (h : [C.sl X.length (rowsC X), .sl Y.length (rowsC Y)] = L) (hX : p X) (hY : p Y) {i : Nat} (hi : i < 2) : ∃ (W : List Rw) (hl : i < L.length), p W ∧ L[i] = C.sl W.length (rowsC W) := by
  subst h
  obtain rfl | rfl : i = 0 ∨ i = 1 := by omega
  · exact ⟨X, by simp, hX, rfl⟩
  · exact ⟨Y, by simp, hY, rfl⟩
theorem two_rows {X Y : Rw} {L : List C} (h : rowC X ++ rowC Y = L) (hX : X.ok) (hY : Y.ok) {i : Nat} (hi : i < 2) : ∃ Z : Rw, Z.ok ∧ (Z = X ∨ Z = Y) ∧ i * 2 + 2 ≤ L.length ∧ List.take 2 (List.drop (i * 2) L) = rowC Z := by
  subst h
  obtain rfl | rfl : i = 0 ∨ i = 1 := by omega
  · exact ⟨X, hX, .inl rfl, by simp, rfl⟩
  · exact ⟨Y, hY, .inr rfl, by simp, rfl⟩
theorem two_stys {X Y : Sty} {L : List C} (h : styC X ++ styC Y = L) (hX : X.ok) (hY : Y.ok) {i : Nat} (hi : i < 2) : ∃ Z : Sty, Z.ok ∧ i * 8 + 8 ≤ L.length ∧ List.take 8 (List.drop (i * 8) L) = styC Z := by
  subst h
  obtain rfl | rfl : i = 0 ∨ i = 1 := by omega
  · exact ⟨X, hX, by simp, rfl⟩
  · exact ⟨Y, hY, by simp, rfl⟩
theorem two_twos {a b c d : Int} {L : List C} (h : [C.int .i64 a, .int .i64 b, .int .i64 c, .int .i64 d] = L) {i : Nat} (hi : i < 2) : ∃ x y : Int, i * 2 + 2 ≤ L.length ∧ List.take 2 (List.drop (i * 2) L) = [C.int .i64 x, .int .i64 y] := by
  subst h
  obtain rfl | rfl : i = 0 ∨ i = 1 := by omega
  · exact ⟨a, b, by simp, rfl⟩
  · exact ⟨c, d, by simp, rfl⟩
theorem three_threes {a b c d e f g k l : Int} {L : List C} (h : [C.int .i64 a, .int .i64 b, .int .i64 c, .int .i64 d, .int .i64 e, .int .i64 f, .int .i64 g, .int .i64 k, .int .i64 l] = L) {i : Nat} (hi : i < 3) : ∃ x y z : Int, i * 3 + 3 ≤ L.length ∧ List.take 3 (List.drop (i * 3) L) = [C.int .i64 x, .int .i64 y, .int .i64 z] := by
  subst h
  obtain rfl | rfl | rfl : i = 0 ∨ i = 1 ∨ i = 2 := by omega
  · exact ⟨a, b, c, by simp, rfl⟩
  · exact ⟨d, e, f, by simp, rfl⟩
  · exact ⟨g, k, l, by simp, rfl⟩
theorem two_ints {a b : Int} {L : List C} (h : [C.int .i64 a, .int .i64 b] = L) {i : Nat} (hi : i < 2) : ∃ (x : Int) (hl : i < L.length), L[i] = C.int .i64 x := by
  subst h
  obtain rfl | rfl : i = 0 ∨ i = 1 := by omega
  · exact ⟨a, by simp, rfl⟩
  · exact ⟨b, by simp, rfl⟩
def lawChecksSpec : Spec := { pre := fun args => ∃ (g : List Rw) (c : Int) (L : List Dr) (r : Rw) (a : Int), args = [rowsV g, .agg [.int .u8 c, .sl L.length (L.flatMap drC)], rowV r, .c (.int .u8 a)] ∧ RowsOK g ∧ 0 ≤ c ∧ c < 256 ∧ (∀ d ∈ L, d.ok) ∧ r.ok ∧ 0 ≤ a ∧ a < 256, res := fun _ => .one (.val (.c (.bool true))) }
def gckS (g D B : List Rw) (A : List C) (i : Nat) : St :=
  ⟨54, [(24, .val (.int .i64 i)), (23, .agg A), (9, .ptr 0 0 0), (0, .val (.sl g.length (rowsC g)))], [.box 35 [.val (.sl D.length (rowsC D)), .val (.sl D.length (rowsC B))]]⟩
def G_lawChecks : Specs := [(28, gshortSpec), (11, bothSpec), (23, gridckSpec), (31, gridckSpec), (32, samesSpec), (16, samesSpec), (17, gworksSpec)]
@[simp] theorem G_lawChecks_live : Specs.live G_lawChecks = false := rfl
@[simp] theorem G_lawChecks_28 : G_lawChecks.find 28 = some gshortSpec := rfl
@[simp] theorem G_lawChecks_11 : G_lawChecks.find 11 = some bothSpec := rfl
@[simp] theorem G_lawChecks_23 : G_lawChecks.find 23 = some gridckSpec := rfl
@[simp] theorem G_lawChecks_31 : G_lawChecks.find 31 = some gridckSpec := rfl
@[simp] theorem G_lawChecks_32 : G_lawChecks.find 32 = some samesSpec := rfl
@[simp] theorem G_lawChecks_16 : G_lawChecks.find 16 = some samesSpec := rfl
@[simp] theorem G_lawChecks_17 : G_lawChecks.find 17 = some gworksSpec := rfl
theorem G_lawChecks_ok : SpecsOK Tryd.prog glW G_lawChecks := .cons (gshort_sound glW) (.cons (both_sound glW) (.cons gridck_sound (.cons (rgridck_sound glW) (.cons (gsame_sound glW) (.cons (sames_sound glW) (.cons gworks_sound (.nil _ _)))))))
set_option maxHeartbeats 4000000 in
set_option maxRecDepth 10000 in
theorem lawChecks_sound : Sound Tryd.prog glW 9 lawChecksSpec := by
  refine sound_fn (N := Tryd.f9.ntmps) (rs := Tryd.f9.results.toList) mixed tok G_lawChecks_ok Tryd.func9 rfl rfl rfl rfl rfl ?_ ?_ ?_
  · rintro args ⟨g,c,L,r,a,rfl,hg,h0,h1,hL,hr,h2,h3⟩; simp [rowV, Tryd.f9]
  · rintro args ⟨g,c,L,r,a,rfl,hg,h0,h1,hL,hr,h2,h3⟩; simp [rowV, lawChecksSpec, Tryd.f9]
  · rintro args ⟨g,c,L,r,a,rfl,hg,h0,h1,hL,hr,h2,h3⟩ bs hgl hh hro
    have hE : Env.OK ⟨Tryd.prog, T, G_lawChecks, bs⟩ := ⟨tok, by rw [hgl]; exact G_lawChecks_ok⟩
    simp only [lawChecksSpec, rowV]
    have eL : ∃ x : List Dr, L.length = x.length ∧ L.flatMap drC = x.flatMap drC ∧ ∀ d ∈ x, d.ok := ⟨L, rfl, rfl, hL⟩
    obtain ⟨G, hG⟩ : ∃ G, shortG g = G := ⟨_, rfl⟩
    have gO : RowsOK G := hG ▸ shortG_ok hg
    have gF : RowsFin G := hG ▸ shortG_fin g
    obtain ⟨D, hD⟩ : ∃ D, gridD c L = D := ⟨_, rfl⟩
    have dO : RowsOK D := hD ▸ grid_rok c L
    have dF : RowsFin D := hD ▸ grid_fin c L
    obtain ⟨B, hB⟩ : ∃ B, bothG c L r a = B := ⟨_, rfl⟩
    have bO : RowsOK B := hB ▸ both_rok hr
    have bF : RowsFin B := hB ▸ both_fin c L r a
    have hBl : D.length = B.length := by rw [← hB, ← hD, both_len]
    simp -implicitDefEqProofs [-Bool.exists_bool, and_assoc, lawChecksSpec, bothSpec, gridckSpec, gshortSpec, gworksSpec, samesSpec, Tryd.f9, h0, h1, h2, h3, eL, drsOf_C, hG, hD, hB, rowsV, rowV]
    obtain ⟨A, hA⟩ : ∃ A, [C.sl G.length (rowsC G), C.sl D.length (rowsC D), C.sl D.length (rowsC B)] = A := ⟨_, rfl⟩
    simp only [hA]
    have hx := fun i (hi : i < 3) => three_grids (L := A) (p := fun W => RowsOK W ∧ RowsFin W) (by rw [← hA, hBl]) ⟨gO, gF⟩ ⟨dO, dF⟩ ⟨bO, bF⟩ hi
    have xG := exF gF
    refine AWP.leaves 0 (gckS G D B A 3) (AWP.rounds (fun i => i ≤ 3) (gckS G D B A) (fun i => 3 - i) 0 (by simp) ?_ ?_) ?_
    · exact Weak.ren [some 2] (baseOK.nil hh) (by simp) (by simp [gckS]) (by simp [gckS])
    · intro i hi
      refine wpc_ok hE mixed _ _ _ ?_
      rcases Nat.lt_or_ge i 3 with h | h
      · obtain ⟨W, hl, ⟨wO, wF⟩, hd⟩ := hx i h
        have wi : IntKind.i64.wrap ((i : Int) + 1) = ((i + 1 : Nat) : Int) := by rw [wrap64 _ (by omega) (by omega)]; omega
        have h' : (i : Int) < 3 := by omega
        have xO := exO wO
        have xF := exF wF
        simp -implicitDefEqProofs [-Bool.exists_bool, gckS, and_assoc, bothSpec, gridckSpec, gshortSpec, gworksSpec, samesSpec, h, h', hd, hl, wi, xO, xF, xG, rowsV]
        exact ⟨by decide +kernel, Next.mk (i + 1) (by omega) (by omega) (Weak.ren [some 0] (baseOK.nil hh) (by simp) (by simp [gckS]) (by simp [gckS]))⟩
      · obtain rfl : i = 3 := by omega
        simp -implicitDefEqProofs [-Bool.exists_bool, gckS, and_assoc, bothSpec, gridckSpec, gshortSpec, gworksSpec, samesSpec]
        exact Leaves.mk (Weak.keep (by simp [gckS]))
    simp -implicitDefEqProofs [-Bool.exists_bool, gckS, and_assoc, bothSpec, gridckSpec, gshortSpec, gworksSpec, samesSpec]
end Fen

namespace Fen
open Go Go.Proofs

def lawMakesSpec : Spec := { pre := fun args => ∃ (n m : Int) (s : Sty) (c : Int) (L : List Dr) (r : Rw) (a : Int), args = [.agg [.int .i64 n, .int .i64 m], styV s, .agg [.int .u8 c, .sl L.length (L.flatMap drC)], rowV r, .c (.int .u8 a)] ∧ s.ok ∧ 0 ≤ c ∧ c < 256 ∧ (∀ d ∈ L, d.ok) ∧ r.ok ∧ 0 ≤ a ∧ a < 256, res := fun _ => .one (.val (.c (.bool true))) }
def mkH (n m : Int) (s : Sty) (c : Int) (L : List Dr) (r : Rw) : List Blk := [.box 65 [.val (.int .i64 n), .val (.int .i64 m)], .box 32 ((styC s).map .val), .box 24 [.val (.int .u8 c), .val (.sl L.length (L.flatMap drC))], .box 27 ((rowC r).map .val)]
def mkS1 (H : List Blk) (a : Int) (A : List C) (i : Nat) : St :=
  ⟨143, [(43, .val (.int .i64 i)), (42, .agg A), (8, .ptr 3 0 0), (7, .ptr 2 0 0), (6, .ptr 1 0 0), (5, .ptr 0 0 0), (4, .val (.int .u8 a))], H⟩
def mkS2 (H : List Blk) (a : Int) (A : List C) (i : Nat) (x y : Int) (A2 : List C) (j : Nat) : St :=
  ⟨143, [(50, .val (.int .i64 j)), (49, .agg A2), (43, .val (.int .i64 i)), (42, .agg A), (12, .ptr 4 0 0), (8, .ptr 3 0 0), (7, .ptr 2 0 0), (6, .ptr 1 0 0), (5, .ptr 0 0 0), (4, .val (.int .u8 a))], H ++ [.box 65 [.val (.int .i64 x), .val (.int .i64 y)]]⟩
def mkS3 (H : List Blk) (a : Int) (A : List C) (i : Nat) : St :=
  ⟨143, [(86, .val (.int .i64 i)), (85, .agg A), (8, .ptr 3 0 0), (7, .ptr 2 0 0), (5, .ptr 0 0 0), (4, .val (.int .u8 a))], H⟩
def mkS4 (H : List Blk) (a : Int) (A : List C) (i : Nat) (W : List Rw) (A4 : List C) (j : Nat) : St :=
  ⟨143, [(102, .val (.int .i64 j)), (101, .agg A4), (86, .val (.int .i64 i)), (85, .agg A), (20, .val (.sl W.length (rowsC W))), (8, .ptr 3 0 0), (7, .ptr 2 0 0), (5, .ptr 0 0 0), (4, .val (.int .u8 a))], H⟩
def mkS5 (H : List Blk) (a : Int) (A : List C) (i : Nat) (W : List Rw) (A4 : List C) (j : Nat) (Y : Rw) (A5 : List C) (k : Nat) : St :=
  ⟨143, [(113, .val (.int .i64 k)), (112, .agg A5), (102, .val (.int .i64 j)), (101, .agg A4), (86, .val (.int .i64 i)), (85, .agg A), (23, .ptr 4 0 0), (20, .val (.sl W.length (rowsC W))), (8, .ptr 3 0 0), (7, .ptr 2 0 0), (5, .ptr 0 0 0), (4, .val (.int .u8 a))], H ++ [.box 27 ((rowC Y).map .val)]⟩
def G_lawMakes : Specs := [(12, styleSpec), (25, gnewSpec), (26, gnewSpec), (16, samesSpec), (11, bothSpec), (27, draftSpec), (28, gshortSpec), (29, gsetSpec), (30, gsetSpec), (17, gworksSpec)]
@[simp] theorem G_lawMakes_live : Specs.live G_lawMakes = false := rfl
@[simp] theorem G_lawMakes_12 : G_lawMakes.find 12 = some styleSpec := rfl
@[simp] theorem G_lawMakes_25 : G_lawMakes.find 25 = some gnewSpec := rfl
@[simp] theorem G_lawMakes_26 : G_lawMakes.find 26 = some gnewSpec := rfl
@[simp] theorem G_lawMakes_16 : G_lawMakes.find 16 = some samesSpec := rfl
@[simp] theorem G_lawMakes_11 : G_lawMakes.find 11 = some bothSpec := rfl
@[simp] theorem G_lawMakes_27 : G_lawMakes.find 27 = some draftSpec := rfl
@[simp] theorem G_lawMakes_28 : G_lawMakes.find 28 = some gshortSpec := rfl
@[simp] theorem G_lawMakes_29 : G_lawMakes.find 29 = some gsetSpec := rfl
@[simp] theorem G_lawMakes_30 : G_lawMakes.find 30 = some gsetSpec := rfl
@[simp] theorem G_lawMakes_17 : G_lawMakes.find 17 = some gworksSpec := rfl
theorem G_lawMakes_ok : SpecsOK Tryd.prog glW G_lawMakes := .cons (style_sound glW) (.cons (gnew_sound glW) (.cons (rgnew_sound glW) (.cons (sames_sound glW) (.cons (both_sound glW) (.cons (draft_sound glW) (.cons (gshort_sound glW) (.cons gset_sound (.cons (rgset_sound glW) (.cons gworks_sound (.nil _ _))))))))))
set_option maxHeartbeats 8000000 in
set_option maxRecDepth 10000 in
theorem lawMakes_sound : Sound Tryd.prog glW 7 lawMakesSpec := by
  refine sound_fn (N := Tryd.f7.ntmps) (rs := Tryd.f7.results.toList) mixed tok G_lawMakes_ok Tryd.func7 rfl rfl rfl rfl rfl ?_ ?_ ?_
  · rintro args ⟨n,m,s,c,L,r,a,rfl,hs,h0,h1,hL,hr,h2,h3⟩; simp [rowV,styV, Tryd.f7]
  · rintro args ⟨n,m,s,c,L,r,a,rfl,hs,h0,h1,hL,hr,h2,h3⟩; simp [rowV,styV, lawMakesSpec, Tryd.f7]
  · rintro args ⟨n,m,s,c,L,r,a,rfl,hs,h0,h1,hL,hr,h2,h3⟩ bs hgl hh hro
    have hE : Env.OK ⟨Tryd.prog, T, G_lawMakes, bs⟩ := ⟨tok, by rw [hgl]; exact G_lawMakes_ok⟩
    simp only [lawMakesSpec, rowV,styV]
    have eL : ∃ x : List Dr, L.length = x.length ∧ L.flatMap drC = x.flatMap drC ∧ ∀ d ∈ x, d.ok := ⟨L, rfl, rfl, hL⟩
    obtain ⟨D, hD⟩ : ∃ D, gridD c L = D := ⟨_, rfl⟩
    have dO : RowsOK D := hD ▸ grid_rok c L
    have dF : RowsFin D := hD ▸ grid_fin c L
    obtain ⟨B, hB⟩ : ∃ B, bothG c L r a = B := ⟨_, rfl⟩
    have bO : RowsOK B := hB ▸ both_rok hr
    have hBl : D.length = B.length := by rw [← hB, ← hD, both_len]
    have so := style_okr a
    obtain ⟨p, hp, _, _, wp⟩ := remF_ n 84 (by decide) (by decide)
    obtain ⟨q, hq, _, _, wq⟩ := remF_ m 43 (by decide) (by decide)
    obtain ⟨u, hu, _, _, wu⟩ := remF_ n 13 (by decide) (by decide)
    obtain ⟨A, hA⟩ : ∃ A, [C.int .i64 n, .int .i64 m, .int .i64 p, .int .i64 q] = A := ⟨_, rfl⟩
    obtain ⟨A2, hA2⟩ : ∃ A2, styC s ++ styC (styleF a) = A2 := ⟨_, rfl⟩
    have hx := fun i (hi : i < 2) => two_twos hA hi
    have ht := fun i (hi : i < 2) => two_stys hA2 hs so hi
    simp -implicitDefEqProofs [-Bool.exists_bool, and_assoc, lawMakesSpec, bothSpec, draftSpec, gnewSpec, gsetSpec, gshortSpec, gworksSpec, samesSpec, styleSpec, Tryd.f7, wuF, hp, wp, hq, wq, hA, rowV, styV]
    repeat (refine And.intro (by decide +kernel) ?_)
    have eB : ∃ x : List Int, 2 = x.length ∧ [a, 4] = x ∧ Bytes x := ⟨[a, 4], rfl, rfl, fun q hq => by simp at hq; omega⟩
    have eR : rowsC [r] = rowC r := by simp [rowsC]
    have eO : rowsOf (rowC r) = [r] := by rw [← eR, rowsOf_C]
    have eG : ∃ g, rowC r = rowsC g ∧ 1 = g.length := ⟨[r], eR.symm, rfl⟩
    have es : shortG [r] = [shortR r] := rfl
    have eS : rowsC [shortR r] = rowC (shortR r) := by simp [rowsC]
    obtain ⟨A4, hA4⟩ : ∃ A4, rowC (shortR r) ++ rowC (draftF c [a, 4] false) = A4 := ⟨_, rfl⟩
    have hy := fun i (hi : i < 2) => two_rows hA4 (shortR_ok hr) (draft_okr c [a, 4] false) hi
    obtain ⟨A5, hA5⟩ : ∃ A5, [C.int .i64 n, C.int .i64 u] = A5 := ⟨_, rfl⟩
    have h5 := fun i (hi : i < 2) => two_ints hA5 hi
    have nf := fun x y t => exF (new_fin x y t)
    refine AWP.leaves 0 (mkS1 (mkH n m s c L r) a A 2) (AWP.rounds (fun i => i ≤ 2) (mkS1 (mkH n m s c L r) a A) (fun i => 2 - i) 0 (by simp) ?_ ?_) ?_
    · exact Weak.keep (by simp [mkS1, mkH])
    · intro i hi
      refine wpc_ok hE mixed _ _ _ ?_
      rcases Nat.lt_or_ge i 2 with h | h
      · obtain ⟨x, y, fX, hX⟩ := hx i h
        have wi : IntKind.i64.wrap ((i : Int) + 1) = ((i + 1 : Nat) : Int) := by rw [wrap64 _ (by omega) (by omega)]; omega
        have h' : (i : Int) < 2 := by omega
        simp -implicitDefEqProofs [-Bool.exists_bool, mkS1, mkH, and_assoc, bothSpec, draftSpec, gnewSpec, gsetSpec, gshortSpec, gworksSpec, samesSpec, styleSpec, h, h', fX, hX, h2, h3, hA2]
        repeat (refine And.intro (by decide +kernel) ?_)
        refine AWP.leaves 2 (mkS2 (mkH n m s c L r) a A i x y A2 2) (AWP.rounds (fun j => j ≤ 2) (mkS2 (mkH n m s c L r) a A i x y A2) (fun j => 2 - j) 0 (by simp) ?_ ?_) ?_
        · exact Weak.ren [some 0, some 1, some 2, some 3, some 4] (baseOK.nil hh) (by simp) (by simp [mkS2, mkH]) (by simp [mkS2, mkH])
        · intro j hj
          refine wpc_ok hE mixed _ _ _ ?_
          rcases Nat.lt_or_ge j 2 with g | g
          · obtain ⟨t, ot, ft, hT⟩ := ht j g
            have g' : (j : Int) < 2 := by omega
            have wj : IntKind.i64.wrap ((j : Int) + 1) = ((j + 1 : Nat) : Int) := by rw [wrap64 _ (by omega) (by omega)]; omega
            have nf' := nf x y t
            simp -implicitDefEqProofs [-Bool.exists_bool, mkS2, mkH, and_assoc, bothSpec, draftSpec, gnewSpec, gsetSpec, gshortSpec, gworksSpec, samesSpec, styleSpec, g, g', ft, hT, ot, wj, nf', rowsV, styV]
            repeat (refine And.intro (by decide +kernel) ?_)
            exact Next.mk (j + 1) (by omega) (by omega) (Weak.ren [some 0, some 1, some 2, some 3, some 4] (baseOK.nil hh) (by simp) (by simp [mkS2, mkH]) (by simp [mkS2, mkH]))
          · obtain rfl : j = 2 := by omega
            simp -implicitDefEqProofs [-Bool.exists_bool, mkS2, mkH, and_assoc, bothSpec, draftSpec, gnewSpec, gsetSpec, gshortSpec, gworksSpec, samesSpec, styleSpec]
            exact Leaves.mk (Weak.keep (by simp [mkS2, mkH]))
        · simp -implicitDefEqProofs [-Bool.exists_bool, mkS2, mkH, and_assoc, bothSpec, draftSpec, gnewSpec, gsetSpec, gshortSpec, gworksSpec, samesSpec, styleSpec, wi]
          exact Next.mk (i + 1) (by omega) (by omega) (Weak.ren [some 0, some 1, some 2, some 3] (baseOK.nil hh) (by simp) (by simp [mkS1, mkH]) (by simp [mkS1, mkH]))
      · obtain rfl : i = 2 := by omega
        simp -implicitDefEqProofs [-Bool.exists_bool, mkS1, mkH, and_assoc, bothSpec, draftSpec, gnewSpec, gsetSpec, gshortSpec, gworksSpec, samesSpec, styleSpec]
        exact Leaves.mk (Weak.keep (by simp [mkS1, mkH]))
    obtain ⟨A3, hA3⟩ : ∃ A3, [C.sl D.length (rowsC D), C.sl D.length (rowsC B)] = A3 := ⟨_, rfl⟩
    have hg := fun i (hi : i < 2) => two_grids (L := A3) (p := fun W => RowsOK W) (by rw [← hA3, hBl]) dO bO hi
    simp -implicitDefEqProofs [-Bool.exists_bool, mkS1, mkH, and_assoc, bothSpec, draftSpec, gnewSpec, gsetSpec, gshortSpec, gworksSpec, samesSpec, styleSpec, h0, h1, h2, h3, eL, drsOf_C, rowOf_C, hD, hB, hA3, rowV]
    refine AWP.leaves 4 (mkS3 (mkH n m s c L r) a A3 2) (AWP.rounds (fun i => i ≤ 2) (mkS3 (mkH n m s c L r) a A3) (fun i => 2 - i) 0 (by simp) ?_ ?_) ?_
    · exact Weak.keep (by simp [mkS3, mkH])
    · intro i hi
      refine wpc_ok hE mixed _ _ _ ?_
      rcases Nat.lt_or_ge i 2 with h | h
      · obtain ⟨W, hl, wO, hW⟩ := hg i h
        have wi : IntKind.i64.wrap ((i : Int) + 1) = ((i + 1 : Nat) : Int) := by rw [wrap64 _ (by omega) (by omega)]; omega
        have h' : (i : Int) < 2 := by omega
        simp -implicitDefEqProofs [-Bool.exists_bool, mkS3, mkH, and_assoc, bothSpec, draftSpec, gnewSpec, gsetSpec, gshortSpec, gworksSpec, samesSpec, styleSpec, h, h', hl, hW, h0, h1, h2, h3, eB, eO, eG, es, eS, hA4, rowV]
        repeat (refine And.intro (by decide +kernel) ?_)
        refine AWP.leaves 6 (mkS4 (mkH n m s c L r) a A3 i W A4 2) (AWP.rounds (fun j => j ≤ 2) (mkS4 (mkH n m s c L r) a A3 i W A4) (fun j => 2 - j) 0 (by simp) ?_ ?_) ?_
        · exact Weak.ren [some 0, some 1, some 2, some 3] (baseOK.nil hh) (by simp) (by simp [mkS4, mkH]) (by simp [mkS4, mkH])
        · intro j hj
          refine wpc_ok hE mixed _ _ _ ?_
          rcases Nat.lt_or_ge j 2 with g | g
          · obtain ⟨Y, oY, _, fY, hY⟩ := hy j g
            have g' : (j : Int) < 2 := by omega
            have wj : IntKind.i64.wrap ((j : Int) + 1) = ((j + 1 : Nat) : Int) := by rw [wrap64 _ (by omega) (by omega)]; omega
            simp -implicitDefEqProofs [-Bool.exists_bool, mkS4, mkH, and_assoc, bothSpec, draftSpec, gnewSpec, gsetSpec, gshortSpec, gworksSpec, samesSpec, styleSpec, g, g', fY, hY, wuF, hu, wu, hA5]
            repeat (refine And.intro (by decide +kernel) ?_)
            refine AWP.leaves 8 (mkS5 (mkH n m s c L r) a A3 i W A4 j Y A5 2) (AWP.rounds (fun k => k ≤ 2) (mkS5 (mkH n m s c L r) a A3 i W A4 j Y A5) (fun k => 2 - k) 0 (by simp) ?_ ?_) ?_
            · exact Weak.ren [some 0, some 1, some 2, some 3, some 4] (baseOK.nil hh) (by simp) (by simp [mkS5, mkH]) (by simp [mkS5, mkH])
            · intro k hk
              refine wpc_ok hE mixed _ _ _ ?_
              rcases Nat.lt_or_ge k 2 with f | f
              · obtain ⟨x, hxl, hxx⟩ := h5 k f
                have f' : (k : Int) < 2 := by omega
                have wk : IntKind.i64.wrap ((k : Int) + 1) = ((k + 1 : Nat) : Int) := by rw [wrap64 _ (by omega) (by omega)]; omega
                have xO := exO wO
                have sf := exF (set_fin W x Y)
                simp -implicitDefEqProofs [-Bool.exists_bool, mkS5, mkH, and_assoc, bothSpec, draftSpec, gnewSpec, gsetSpec, gshortSpec, gworksSpec, samesSpec, styleSpec, f, f', hxl, hxx, xO, oY, sf, wk, rowsV, rowV]
                repeat (refine And.intro (by decide +kernel) ?_)
                exact Next.mk (k + 1) (by omega) (by omega) (Weak.ren [some 0, some 1, some 2, some 3, some 4] (baseOK.nil hh) (by simp) (by simp [mkS5, mkH]) (by simp [mkS5, mkH]))
              · obtain rfl : k = 2 := by omega
                simp -implicitDefEqProofs [-Bool.exists_bool, mkS5, mkH, and_assoc, bothSpec, draftSpec, gnewSpec, gsetSpec, gshortSpec, gworksSpec, samesSpec, styleSpec]
                exact Leaves.mk (Weak.keep (by simp [mkS5, mkH]))
            · simp -implicitDefEqProofs [-Bool.exists_bool, mkS5, mkH, and_assoc, bothSpec, draftSpec, gnewSpec, gsetSpec, gshortSpec, gworksSpec, samesSpec, styleSpec, wj]
              exact Next.mk (j + 1) (by omega) (by omega) (Weak.ren [some 0, some 1, some 2, some 3] (baseOK.nil hh) (by simp) (by simp [mkS4, mkH]) (by simp [mkS4, mkH]))
          · obtain rfl : j = 2 := by omega
            simp -implicitDefEqProofs [-Bool.exists_bool, mkS4, mkH, and_assoc, bothSpec, draftSpec, gnewSpec, gsetSpec, gshortSpec, gworksSpec, samesSpec, styleSpec]
            exact Leaves.mk (Weak.keep (by simp [mkS4, mkH]))
        · simp -implicitDefEqProofs [-Bool.exists_bool, mkS4, mkH, and_assoc, bothSpec, draftSpec, gnewSpec, gsetSpec, gshortSpec, gworksSpec, samesSpec, styleSpec, wi]
          exact Next.mk (i + 1) (by omega) (by omega) (Weak.ren [some 0, some 1, some 2, some 3] (baseOK.nil hh) (by simp) (by simp [mkS3, mkH]) (by simp [mkS3, mkH]))
      · obtain rfl : i = 2 := by omega
        simp -implicitDefEqProofs [-Bool.exists_bool, mkS3, mkH, and_assoc, bothSpec, draftSpec, gnewSpec, gsetSpec, gshortSpec, gworksSpec, samesSpec, styleSpec]
        exact Leaves.mk (Weak.keep (by simp [mkS3, mkH]))
    simp -implicitDefEqProofs [-Bool.exists_bool, mkS3, mkH, and_assoc, bothSpec, draftSpec, gnewSpec, gsetSpec, gshortSpec, gworksSpec, samesSpec, styleSpec]
end Fen
