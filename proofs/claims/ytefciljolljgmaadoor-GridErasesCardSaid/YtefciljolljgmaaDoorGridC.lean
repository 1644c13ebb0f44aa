/- A part of the proof; no statement is proved here: GGridLa, GGridLd. -/
import Derived.Test.YtefciljolljgmaaDoorGridB
import Derived.Test.YtefciljolljgmaaDoorCoreE

set_option linter.unusedVariables false
set_option linter.unusedSimpArgs false

namespace Fen
open Go Go.Proofs

/-- one of so many grids -/
theorem three_grids {X Y Z : List Rw} {L : List C} {p : List Rw → Prop} (h : [C.sl X.length (rowsC X), .sl Y.length (rowsC Y), .sl Z.length (rowsC Z)] = L) (hX : p X) (hY : p Y) (hZ : p Z) {i : Nat} (hi : i < 3) : ∃ (W : List Rw) (hl : i < L.length), p W ∧ L[i] = C.sl W.length (rowsC W) := by
  subst h
  obtain rfl | rfl | rfl : i = 0 ∨ i = 1 ∨ i = 2 := by omega
  · exact ⟨X, by simp, hX, rfl⟩
  · exact ⟨Y, by simp, hY, rfl⟩
  · exact ⟨Z, by simp, hZ, rfl⟩
theorem two_grids {X Y : List Rw} {L : List C} {p : List Rw → Prop} (h : [C.sl X.length (rowsC X), .sl Y.length (rowsC Y)] = L) (hX : p X) (hY : p Y) {i : Nat} (hi : i < 2) : ∃ (W : List Rw) (hl : i < L.length), p W ∧ L[i] = C.sl W.length (rowsC W) := by
  subst h
  obtain rfl | rfl : i = 0 ∨ i = 1 := by omega
  · exact ⟨X, by simp, hX, rfl⟩
  · exact ⟨Y, by simp, hY, rfl⟩
theorem two_rows {X Y : Rw} {L : List C} (h : rowC X ++ rowC Y = L) (hX : X.ok) (hY : Y.ok) {i : Nat} (hi : i < 2) : ∃ Z : Rw, Z.ok ∧ (Z = X ∨ Z = Y) ∧ i * 2 + 2 ≤ L.length ∧ List.take 2 (List.drop (i * 2) L) = rowC Z := by
  subst h
  obtain rfl | rfl : i = 0 ∨ i = 1 := by omega
  · exact ⟨X, hX, .inl rfl, by simp, rfl⟩
  · exact ⟨Y, hY, .inr rfl, by simp, rfl⟩
theorem two_stys {X Y : Sty} {L : List C} (h : styC X ++ styC Y = L) (hX : X.ok) (hY : Y.ok) {i : Nat} (hi : i < 2) : ∃ Z : Sty, Z.ok ∧ i * 8 + 8 ≤ L.length ∧ List.take 8 (List.drop (i * 8) L) = styC Z := by
  subst h
  obtain rfl | rfl : i = 0 ∨ i = 1 := by omega
  · exact ⟨X, hX, by simp, rfl⟩
  · exact ⟨Y, hY, by simp, rfl⟩
theorem two_twos {a b c d : Int} {L : List C} (h : [C.int .i64 a, .int .i64 b, .int .i64 c, .int .i64 d] = L) {i : Nat} (hi : i < 2) : ∃ x y : Int, i * 2 + 2 ≤ L.length ∧ List.take 2 (List.drop (i * 2) L) = [C.int .i64 x, .int .i64 y] := by
  subst h
  obtain rfl | rfl : i = 0 ∨ i = 1 := by omega
  · exact ⟨a, b, by simp, rfl⟩
  · exact ⟨c, d, by simp, rfl⟩
theorem three_threes {a b c d e f g k l : Int} {L : List C} (h : [C.int .i64 a, .int .i64 b, .int .i64 c, .int .i64 d, .int .i64 e, .int .i64 f, .int .i64 g, .int .i64 k, .int .i64 l] = L) {i : Nat} (hi : i < 3) : ∃ x y z : Int, i * 3 + 3 ≤ L.length ∧ List.take 3 (List.drop (i * 3) L) = [C.int .i64 x, .int .i64 y, .int .i64 z] := by
  subst h
  obtain rfl | rfl | rfl : i = 0 ∨ i = 1 ∨ i = 2 := by omega
  · exact ⟨a, b, c, by simp, rfl⟩
  · exact ⟨d, e, f, by simp, rfl⟩
  · exact ⟨g, k, l, by simp, rfl⟩
theorem two_ints {a b : Int} {L : List C} (h : [C.int .i64 a, .int .i64 b] = L) {i : Nat} (hi : i < 2) : ∃ (x : Int) (hl : i < L.length), L[i] = C.int .i64 x := by
  subst h
  obtain rfl | rfl : i = 0 ∨ i = 1 := by omega
  · exact ⟨a, by simp, rfl⟩
  · exact ⟨b, by simp, rfl⟩
def lawChecksSpec : Spec := { pre := fun args => ∃ (g : List Rw) (c : Int) (L : List Dr) (r : Rw) (a : Int), args = [rowsV g, .agg [.int .u8 c, .sl L.length (L.flatMap drC)], rowV r, .c (.int .u8 a)] ∧ RowsOK g ∧ 0 ≤ c ∧ c < 256 ∧ (∀ d ∈ L, d.ok) ∧ r.ok ∧ 0 ≤ a ∧ a < 256, res := fun _ => .one (.val (.c (.bool true))) }
def gckS (g D B : List Rw) (A : List C) (i : Nat) : St :=
  ⟨54, [(24, .val (.int .i64 i)), (23, .agg A), (9, .ptr 0 0 0), (0, .val (.sl g.length (rowsC g)))], [.box 35 [.val (.sl D.length (rowsC D)), .val (.sl D.length (rowsC B))]]⟩
def G_lawChecks : Specs := [(28, gshortSpec), (11, bothSpec), (23, gridckSpec), (31, gridckSpec), (32, samesSpec), (16, samesSpec), (17, gworksSpec)]
@[simp] theorem G_lawChecks_live : Specs.live G_lawChecks = false := rfl
@[simp] theorem G_lawChecks_28 : G_lawChecks.find 28 = some gshortSpec := rfl
@[simp] theorem G_lawChecks_11 : G_lawChecks.find 11 = some bothSpec := rfl
@[simp] theorem G_lawChecks_23 : G_lawChecks.find 23 = some gridckSpec := rfl
@[simp] theorem G_lawChecks_31 : G_lawChecks.find 31 = some gridckSpec := rfl
@[simp] theorem G_lawChecks_32 : G_lawChecks.find 32 = some samesSpec := rfl
@[simp] theorem G_lawChecks_16 : G_lawChecks.find 16 = some samesSpec := rfl
@[simp] theorem G_lawChecks_17 : G_lawChecks.find 17 = some gworksSpec := rfl
theorem G_lawChecks_ok : SpecsOK Tryd.prog glW G_lawChecks := .cons (gshort_sound glW) (.cons (both_sound glW) (.cons gridck_sound (.cons (rgridck_sound glW) (.cons (gsame_sound glW) (.cons (sames_sound glW) (.cons gworks_sound (.nil _ _)))))))
set_option maxHeartbeats 4000000 in
set_option maxRecDepth 10000 in
theorem lawChecks_sound : Sound Tryd.prog glW 9 lawChecksSpec := by
  refine sound_fn (N := Tryd.f9.ntmps) (rs := Tryd.f9.results.toList) mixed tok G_lawChecks_ok Tryd.func9 rfl rfl rfl rfl rfl ?_ ?_ ?_
  · rintro args ⟨g,c,L,r,a,rfl,hg,h0,h1,hL,hr,h2,h3⟩; simp [rowV, Tryd.f9]
  · rintro args ⟨g,c,L,r,a,rfl,hg,h0,h1,hL,hr,h2,h3⟩; simp [rowV, lawChecksSpec, Tryd.f9]
  · rintro args ⟨g,c,L,r,a,rfl,hg,h0,h1,hL,hr,h2,h3⟩ bs hgl hh hro
    have hE : Env.OK ⟨Tryd.prog, T, G_lawChecks, bs⟩ := ⟨tok, by rw [hgl]; exact G_lawChecks_ok⟩
    simp only [lawChecksSpec, rowV]
    have eL : ∃ x : List Dr, L.length = x.length ∧ L.flatMap drC = x.flatMap drC ∧ ∀ d ∈ x, d.ok := ⟨L, rfl, rfl, hL⟩
    obtain ⟨G, hG⟩ : ∃ G, shortG g = G := ⟨_, rfl⟩
    have gO : RowsOK G := hG ▸ shortG_ok hg
    have gF : RowsFin G := hG ▸ shortG_fin g
    obtain ⟨D, hD⟩ : ∃ D, gridD c L = D := ⟨_, rfl⟩
    have dO : RowsOK D := hD ▸ grid_rok c L
    have dF : RowsFin D := hD ▸ grid_fin c L
    obtain ⟨B, hB⟩ : ∃ B, bothG c L r a = B := ⟨_, rfl⟩
    have bO : RowsOK B := hB ▸ both_rok hr
    have bF : RowsFin B := hB ▸ both_fin c L r a
    have hBl : D.length = B.length := by rw [← hB, ← hD, both_len]
    simp -implicitDefEqProofs [-Bool.exists_bool, and_assoc, lawChecksSpec, bothSpec, gridckSpec, gshortSpec, gworksSpec, samesSpec, Tryd.f9, h0, h1, h2, h3, eL, drsOf_C, hG, hD, hB, rowsV, rowV]
    obtain ⟨A, hA⟩ : ∃ A, [C.sl G.length (rowsC G), C.sl D.length (rowsC D), C.sl D.length (rowsC B)] = A := ⟨_, rfl⟩
    simp only [hA]
    have hx := fun i (hi : i < 3) => three_grids (L := A) (p := fun W => RowsOK W ∧ RowsFin W) (by rw [← hA, hBl]) ⟨gO, gF⟩ ⟨dO, dF⟩ ⟨bO, bF⟩ hi
    have xG := exF gF
    refine AWP.leaves 0 (gckS G D B A 3) (AWP.rounds (fun i => i ≤ 3) (gckS G D B A) (fun i => 3 - i) 0 (by simp) ?_ ?_) ?_
    · exact Weak.ren [some 2] (baseOK.nil hh) (by simp) (by simp [gckS]) (by simp [gckS])
    · intro i hi
      refine wpc_ok hE mixed _ _ _ ?_
      rcases Nat.lt_or_ge i 3 with h | h
      · obtain ⟨W, hl, ⟨wO, wF⟩, hd⟩ := hx i h
        have wi : IntKind.i64.wrap ((i : Int) + 1) = ((i + 1 : Nat) : Int) := by rw [wrap64 _ (by omega) (by omega)]; omega
        have h' : (i : Int) < 3 := by omega
        have xO := exO wO
        have xF := exF wF
        simp -implicitDefEqProofs [-Bool.exists_bool, gckS, and_assoc, bothSpec, gridckSpec, gshortSpec, gworksSpec, samesSpec, h, h', hd, hl, wi, xO, xF, xG, rowsV]
        exact ⟨by decide +kernel, Next.mk (i + 1) (by omega) (by omega) (Weak.ren [some 0] (baseOK.nil hh) (by simp) (by simp [gckS]) (by simp [gckS]))⟩
      · obtain rfl : i = 3 := by omega
        simp -implicitDefEqProofs [-Bool.exists_bool, gckS, and_assoc, bothSpec, gridckSpec, gshortSpec, gworksSpec, samesSpec]
        exact Leaves.mk (Weak.keep (by simp [gckS]))
    simp -implicitDefEqProofs [-Bool.exists_bool, gckS, and_assoc, bothSpec, gridckSpec, gshortSpec, gworksSpec, samesSpec]
end Fen

namespace Fen
open Go Go.Proofs

theorem four_fours {a0 a1 a2 a3 b0 b1 b2 b3 c0 c1 c2 c3 d0 d1 d2 d3 : Int} {L : List C} (h : [C.int .i64 a0, .int .i64 a1, .int .i64 a2, .int .i64 a3, .int .i64 b0, .int .i64 b1, .int .i64 b2, .int .i64 b3, .int .i64 c0, .int .i64 c1, .int .i64 c2, .int .i64 c3, .int .i64 d0, .int .i64 d1, .int .i64 d2, .int .i64 d3] = L) {i : Nat} (hi : i < 4) : ∃ x y z w : Int, i * 4 + 4 ≤ L.length ∧ List.take 4 (List.drop (i * 4) L) = [C.int .i64 x, .int .i64 y, .int .i64 z, .int .i64 w] := by
  subst h
  obtain rfl | rfl | rfl | rfl : i = 0 ∨ i = 1 ∨ i = 2 ∨ i = 3 := by omega
  · exact ⟨a0, a1, a2, a3, by simp, rfl⟩
  · exact ⟨b0, b1, b2, b3, by simp, rfl⟩
  · exact ⟨c0, c1, c2, c3, by simp, rfl⟩
  · exact ⟨d0, d1, d2, d3, by simp, rfl⟩
def lawErasesSpec : Spec := { pre := fun args => ∃ (c : Int) (L : List Dr) (r : Rw) (r0 c0 r1 c1 : Int) (s : Sty) (a : Int), args = [.agg [.int .u8 c, .sl L.length (L.flatMap drC)], rowV r, .agg [.int .i64 r0, .int .i64 c0, .int .i64 r1, .int .i64 c1], styV s, .c (.int .u8 a)] ∧ 0 ≤ c ∧ c < 256 ∧ (∀ d ∈ L, d.ok) ∧ r.ok ∧ s.ok ∧ 0 ≤ a ∧ a < 256, res := fun _ => .one (.val (.c (.bool true))) }
def leH (r0 c0 r1 c1 : Int) (s : Sty) (p q u v : Int) : List Blk := [.box 49 [.val (.int .i64 r0), .val (.int .i64 c0), .val (.int .i64 r1), .val (.int .i64 c1)], .box 32 ((styC s).map .val), .box 48 [.val (.int .i64 p), .val (.int .i64 q)], .box 48 [.val (.int .i64 u), .val (.int .i64 v)]]
def leS1 (H : List Blk) (a : Int) (A : List C) (i : Nat) : St :=
  ⟨129, [(68, .val (.int .i64 i)), (67, .agg A), (13, .ptr 3 0 0), (12, .ptr 2 0 0), (8, .ptr 1 0 0), (7, .ptr 0 0 0), (4, .val (.int .u8 a))], H⟩
def leS2 (H : List Blk) (a : Int) (A : List C) (i : Nat) (W : List Rw) (A9 : List C) (j : Nat) : St :=
  ⟨129, [(86, .val (.int .i64 j)), (85, .agg A9), (68, .val (.int .i64 i)), (67, .agg A), (15, .val (.sl W.length (rowsC W))), (13, .ptr 3 0 0), (12, .ptr 2 0 0), (8, .ptr 1 0 0), (7, .ptr 0 0 0), (4, .val (.int .u8 a))], H⟩
def leS3 (H : List Blk) (a : Int) (A : List C) (i : Nat) (W : List Rw) (A9 : List C) (j : Nat) (x y z w : Int) (A2 : List C) (k : Nat) : St :=
  ⟨129, [(93, .val (.int .i64 k)), (92, .agg A2), (86, .val (.int .i64 j)), (85, .agg A9), (68, .val (.int .i64 i)), (67, .agg A), (17, .ptr 4 0 0), (15, .val (.sl W.length (rowsC W))), (13, .ptr 3 0 0), (12, .ptr 2 0 0), (8, .ptr 1 0 0), (7, .ptr 0 0 0), (4, .val (.int .u8 a))], H ++ [.box 49 [.val (.int .i64 x), .val (.int .i64 y), .val (.int .i64 z), .val (.int .i64 w)]]⟩
def G_lawErases : Specs := [(11, bothSpec), (12, styleSpec), (18, geraseSpec), (19, geraseSpec), (16, samesSpec), (17, gworksSpec)]
@[simp] theorem G_lawErases_live : Specs.live G_lawErases = false := rfl
@[simp] theorem G_lawErases_11 : G_lawErases.find 11 = some bothSpec := rfl
@[simp] theorem G_lawErases_12 : G_lawErases.find 12 = some styleSpec := rfl
@[simp] theorem G_lawErases_18 : G_lawErases.find 18 = some geraseSpec := rfl
@[simp] theorem G_lawErases_19 : G_lawErases.find 19 = some geraseSpec := rfl
@[simp] theorem G_lawErases_16 : G_lawErases.find 16 = some samesSpec := rfl
@[simp] theorem G_lawErases_17 : G_lawErases.find 17 = some gworksSpec := rfl
theorem G_lawErases_ok : SpecsOK Tryd.prog glW G_lawErases := .cons (both_sound glW) (.cons (style_sound glW) (.cons gerase_sound (.cons (rgerase_sound glW) (.cons (sames_sound glW) (.cons gworks_sound (.nil _ _))))))
set_option maxHeartbeats 8000000 in
set_option maxRecDepth 10000 in
theorem lawErases_sound : Sound Tryd.prog glW 4 lawErasesSpec := by
  refine sound_fn (N := Tryd.f4.ntmps) (rs := Tryd.f4.results.toList) mixed tok G_lawErases_ok Tryd.func4 rfl rfl rfl rfl rfl ?_ ?_ ?_
  · rintro args ⟨c,L,r,r0,c0,r1,c1,s,a,rfl,h0,h1,hL,hr,hs,h2,h3⟩; simp [rowV,styV, Tryd.f4]
  · rintro args ⟨c,L,r,r0,c0,r1,c1,s,a,rfl,h0,h1,hL,hr,hs,h2,h3⟩; simp [rowV,styV, lawErasesSpec, Tryd.f4]
  · rintro args ⟨c,L,r,r0,c0,r1,c1,s,a,rfl,h0,h1,hL,hr,hs,h2,h3⟩ bs hgl hh hro
    have hE : Env.OK ⟨Tryd.prog, T, G_lawErases, bs⟩ := ⟨tok, by rw [hgl]; exact G_lawErases_ok⟩
    simp only [lawErasesSpec, rowV,styV]
    have eL : ∃ x : List Dr, L.length = x.length ∧ L.flatMap drC = x.flatMap drC ∧ ∀ d ∈ x, d.ok := ⟨L, rfl, rfl, hL⟩
    obtain ⟨D, hD⟩ : ∃ D, gridD c L = D := ⟨_, rfl⟩
    have dO : RowsOK D := hD ▸ grid_rok c L
    have dL : D.length ≤ 12 := by rw [← hD, grid_len]; exact (many_le L).2
    obtain ⟨B, hB⟩ : ∃ B, bothG c L r a = B := ⟨_, rfl⟩
    have bO : RowsOK B := hB ▸ both_rok hr
    have hBl : D.length = B.length := by rw [← hB, ← hD, both_len]
    have so := style_okr a
    obtain ⟨A, hA⟩ : ∃ A, [C.sl D.length (rowsC D), C.sl D.length (rowsC B)] = A := ⟨_, rfl⟩
    have hg := fun i (hi : i < 2) => two_grids (L := A) (p := fun W => RowsOK W ∧ W.length ≤ 12) (by rw [← hA, hBl]) ⟨dO, dL⟩ ⟨bO, by omega⟩ hi
    obtain ⟨A2, hA2⟩ : ∃ A2, styC s ++ styC (styleF a) = A2 := ⟨_, rfl⟩
    have ht := fun i (hi : i < 2) => two_stys hA2 hs so hi
    have w0 : IntKind.i64.wrap c = c := wrap64 _ (by omega) (by omega)
    have e79 : c.tmod 79 = c % 79 := Int.tmod_eq_emod_of_nonneg h0
    obtain ⟨cols, hc, hc1, hc2⟩ : ∃ cols : Int, c % 79 + 2 = cols ∧ 2 ≤ cols ∧ cols ≤ 80 := ⟨_, rfl, by omega, by omega⟩
    have wc : IntKind.i64.wrap (c % 79 + 2) = cols := by rw [wrap64 _ (by omega) (by omega)]; exact hc
    obtain ⟨col1, hc3⟩ : ∃ col1 : Int, cols + 1 = col1 := ⟨_, rfl⟩
    have wc1 : IntKind.i64.wrap (cols + 1) = col1 := by rw [wrap64 _ (by omega) (by omega)]; exact hc3
    have uc1 : col1 % 18446744073709551616 = col1 := by omega
    have ne0 : ¬ col1 = 0 := by omega
    obtain ⟨p, hp, hp0, hp1, wp⟩ := remF_ r0 13 (by decide) (by decide)
    obtain ⟨q, hq, hq0, hq1, wq⟩ := remF_ c0 col1 (by omega) (by omega)
    obtain ⟨m, hm, hm0, hm1, wm⟩ := remF_ r1 4 (by decide) (by decide)
    obtain ⟨v, hv, hv0, hv1, wv⟩ := remF_ c1 col1 (by omega) (by omega)
    obtain ⟨u, hu⟩ : ∃ u, p + m = u := ⟨_, rfl⟩
    have wu : IntKind.i64.wrap (p + m) = u := by rw [wrap64 _ (by omega) (by omega)]; exact hu
    simp -implicitDefEqProofs [-Bool.exists_bool, and_assoc, lawErasesSpec, bothSpec, geraseSpec, gworksSpec, samesSpec, styleSpec, Tryd.f4, h0, h1, h2, h3, eL, drsOf_C, rowOf_C, w0, e79, wc, wc1, uc1, ne0, wuF, hp, wp, hq, wq, hm, wm, hv, wv, wu, hD, hB, hA, rowV, styV]
    repeat (refine And.intro (by decide +kernel) ?_)
    refine AWP.leaves 0 (leS1 (leH r0 c0 r1 c1 s p q u v) a A 2) (AWP.rounds (fun i => i ≤ 2) (leS1 (leH r0 c0 r1 c1 s p q u v) a A) (fun i => 2 - i) 0 (by simp) ?_ ?_) (by simp [leS1, leH, and_assoc, bothSpec, geraseSpec, gworksSpec, samesSpec, styleSpec])
    · exact Weak.ren [some 2, some 3, some 4, some 5] (baseOK.nil hh) (by simp) (by simp [leS1, leH]) (by simp [leS1, leH])
    · intro i hi
      refine wpc_ok hE mixed _ _ _ ?_
      rcases Nat.lt_or_ge i 2 with h | h
      · obtain ⟨W, hl, ⟨wO, wL⟩, hW⟩ := hg i h
        have wi : IntKind.i64.wrap ((i : Int) + 1) = ((i + 1 : Nat) : Int) := by rw [wrap64 _ (by omega) (by omega)]; omega
        have h' : (i : Int) < 2 := by omega
        obtain ⟨A9, hA9⟩ : ∃ A9, [C.int .i64 r0, C.int .i64 c0, C.int .i64 r1, C.int .i64 c1, C.int .i64 p, C.int .i64 q, C.int .i64 u, C.int .i64 v, C.int .i64 0, C.int .i64 0, C.int .i64 W.length, C.int .i64 0, C.int .i64 p, C.int .i64 q, C.int .i64 W.length, C.int .i64 0] = A9 := ⟨_, rfl⟩
        have h9 := fun j (hj : j < 4) => four_fours hA9 hj
        have xO := exO wO
        simp -implicitDefEqProofs [-Bool.exists_bool, leS1, leH, and_assoc, bothSpec, geraseSpec, gworksSpec, samesSpec, styleSpec, h, h', hl, hW, hA9]
        repeat (refine And.intro (by decide +kernel) ?_)
        refine AWP.leaves 2 (leS2 (leH r0 c0 r1 c1 s p q u v) a A i W A9 4) (AWP.rounds (fun j => j ≤ 4) (leS2 (leH r0 c0 r1 c1 s p q u v) a A i W A9) (fun j => 4 - j) 0 (by simp) ?_ ?_) ?_
        · exact Weak.ren [some 0, some 1, some 2, some 3] (baseOK.nil hh) (by simp) (by simp [leS2, leH]) (by simp [leS2, leH])
        · intro j hj
          refine wpc_ok hE mixed _ _ _ ?_
          rcases Nat.lt_or_ge j 4 with g | g
          · obtain ⟨x, y, z, w, fx, hxyz⟩ := h9 j g
            have g' : (j : Int) < 4 := by omega
            have wj : IntKind.i64.wrap ((j : Int) + 1) = ((j + 1 : Nat) : Int) := by rw [wrap64 _ (by omega) (by omega)]; omega
            simp -implicitDefEqProofs [-Bool.exists_bool, leS2, leH, and_assoc, bothSpec, geraseSpec, gworksSpec, samesSpec, styleSpec, g, g', fx, hxyz, h2, h3, hA2]
            repeat (refine And.intro (by decide +kernel) ?_)
            refine AWP.leaves 4 (leS3 (leH r0 c0 r1 c1 s p q u v) a A i W A9 j x y z w A2 2) (AWP.rounds (fun k => k ≤ 2) (leS3 (leH r0 c0 r1 c1 s p q u v) a A i W A9 j x y z w A2) (fun k => 2 - k) 0 (by simp) ?_ ?_) ?_
            · exact Weak.ren [some 0, some 1, some 2, some 3, some 4] (baseOK.nil hh) (by simp) (by simp [leS3, leH]) (by simp [leS3, leH])
            · intro k hk
              refine wpc_ok hE mixed _ _ _ ?_
              rcases Nat.lt_or_ge k 2 with f | f
              · obtain ⟨t, ot, ft, hT⟩ := ht k f
                have f' : (k : Int) < 2 := by omega
                have wk : IntKind.i64.wrap ((k : Int) + 1) = ((k + 1 : Nat) : Int) := by rw [wrap64 _ (by omega) (by omega)]; omega
                have u1 := exF (erase_fin W x y z w t)
                simp -implicitDefEqProofs [-Bool.exists_bool, leS3, leH, and_assoc, bothSpec, geraseSpec, gworksSpec, samesSpec, styleSpec, f, f', ft, hT, ot, xO, u1, wk, rowsV, styV]
                repeat (refine And.intro (by decide +kernel) ?_)
                exact Next.mk (k + 1) (by omega) (by omega) (Weak.ren [some 0, some 1, some 2, some 3, some 4] (baseOK.nil hh) (by simp) (by simp [leS3, leH]) (by simp [leS3, leH]))
              · obtain rfl : k = 2 := by omega
                simp -implicitDefEqProofs [-Bool.exists_bool, leS3, leH, and_assoc, bothSpec, geraseSpec, gworksSpec, samesSpec, styleSpec]
                exact Leaves.mk (Weak.keep (by simp [leS3, leH]))
            · simp -implicitDefEqProofs [-Bool.exists_bool, leS3, leH, and_assoc, bothSpec, geraseSpec, gworksSpec, samesSpec, styleSpec, wj]
              exact Next.mk (j + 1) (by omega) (by omega) (Weak.ren [some 0, some 1, some 2, some 3] (baseOK.nil hh) (by simp) (by simp [leS2, leH]) (by simp [leS2, leH]))
          · obtain rfl : j = 4 := by omega
            simp -implicitDefEqProofs [-Bool.exists_bool, leS2, leH, and_assoc, bothSpec, geraseSpec, gworksSpec, samesSpec, styleSpec]
            exact Leaves.mk (Weak.keep (by simp [leS2, leH]))
        · simp -implicitDefEqProofs [-Bool.exists_bool, leS2, leH, and_assoc, bothSpec, geraseSpec, gworksSpec, samesSpec, styleSpec, wi]
          exact Next.mk (i + 1) (by omega) (by omega) (Weak.ren [some 0, some 1, some 2, some 3] (baseOK.nil hh) (by simp) (by simp [leS1, leH]) (by simp [leS1, leH]))
      · obtain rfl : i = 2 := by omega
        simp -implicitDefEqProofs [-Bool.exists_bool, leS1, leH, and_assoc, bothSpec, geraseSpec, gworksSpec, samesSpec, styleSpec]
        exact Leaves.mk (Weak.keep (by simp [leS1, leH]))
end Fen
