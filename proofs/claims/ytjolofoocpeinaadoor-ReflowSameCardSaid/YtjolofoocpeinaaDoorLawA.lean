/- A part of the proof; no statement is proved here: FReflLf, FReflX, FReflLs, FGridT, FReflTa. -/
import Derived.Test.YtjolofoocpeinaaDoorReflF
import Derived.Test.YtjolofoocpeinaaDoorCoreF
import Derived.Test.YtjolofoocpeinaaDoorGridA

set_option linter.unusedVariables false
set_option linter.unusedSimpArgs false

namespace Fen
open Go Go.Proofs
theorem u8_tmod {a : Int} (h0 : 0 ≤ a) (m : Int) : a.tmod m = a % m := Int.tmod_eq_emod_of_nonneg h0
theorem headGV {w n : Nat} {g : List Rw} (h : GV w n g) : ∃ r0 : Rw, (∀ d, (rowsC g).head?.getD d = .sl w (celsC r0.cells)) ∧ 0 < g.length := by
 have h1 := h.ne
 match g, h1, h with
 | r :: g, _, h => exact ⟨r, fun d => by rw [← (h.rows r (List.mem_cons_self ..)).2]; rfl, by simp⟩
theorem row_at {w n : Nat} {g : List Rw} (v : GV w n g) {i : Nat} (h : i < n) : ∃ r : Rw, r.cells.length = w ∧ g.getD i ⟨[], false⟩ = r ∧ List.drop (i * 2) (rowsC g) = C.sl w (celsC r.cells) :: C.bool r.wrapped :: rowsC (g.drop (i + 1)) := by
 have h1 := v.len
 have hl : i < g.length := by omega
 have h2 := (v.rows _ (List.getElem_mem hl)).2
 refine ⟨g[i], h2, by simp [List.getD_eq_getElem?_getD, hl], ?_⟩
 rw [rowsC_at hl, ← h2]; rfl
end Fen

namespace Fen
open Go Go.Proofs
def manyP (O : List Dr) : Nat := min O.length 30
def pastD (c : Int) (O : List Dr) : List Rw := (List.range (manyP O)).map (rowG c O)
def draftH (c : Int) (O L : List Dr) (a b : Int) : Hd := ⟨pastD c O, gridD c L, a % (manyG L : Nat), b % ((2 + c.toNat % 79 : Nat) : Int)⟩
def DrIn (c : Int) (O L : List Dr) (a b : Int) : Prop := 0 ≤ c ∧ c < 256 ∧ (∀ d ∈ O, d.ok) ∧ (∀ d ∈ L, d.ok) ∧ 0 ≤ a ∧ a < 256 ∧ 0 ≤ b ∧ b < 256
def drV (c : Int) (O L : List Dr) (a b : Int) : V := .agg [.int .u8 c, .sl O.length (O.flatMap drC), .sl L.length (L.flatMap drC), .int .u8 a, .int .u8 b]
theorem draftH_ok {c : Int} {O L : List Dr} {a b : Int} (h : DrIn c O L a b) : HV (2 + c.toNat % 79) (manyG L) (draftH c O L a b) := by
 obtain ⟨_, _, _, _, a0, _, b0, _⟩ := h
 have hm := many_le L
 refine ⟨GV.grid c L, by simp [draftH, pastD, manyP]; omega, fun r hr => ?_, ?_, ?_, ?_, ?_⟩
 · simp only [draftH, pastD, List.mem_map] at hr
   obtain ⟨i, _, rfl⟩ := hr
   exact ⟨draft_ok _ _ _, draft_len _ _ _⟩
 · exact Int.emod_nonneg _ (by omega)
 · exact Int.emod_lt_of_pos _ (by omega)
 · exact Int.emod_nonneg _ (by omega)
 · exact Int.emod_lt_of_pos _ (by omega)
def dheldSpec : Spec := { pre := fun args => ∃ (c : Int) (O L : List Dr) (a b : Int), args = [drV c O L a b] ∧ DrIn c O L a b, res := fun args => match args with
 | [.agg [.int _ c, .sl _ o, .sl _ l, .int _ a, .int _ b]] => .one (.val (hdV (draftH c (drsOf o) (drsOf l) a b)))
 | _ => .many [] }
def dhS (c : Int) (O L : List Dr) (a b : Int) (i : Nat) : St :=
 ⟨61, [(1, .ptr 0 0 0), (2, .ptr 1 0 0), (3, .ptr 2 0 0), (4, .val (.int .i64 i))], [.box 25 [.val (.int .u8 c), .val (.sl O.length (O.flatMap drC)), .val (.sl L.length (L.flatMap drC)), .val (.int .u8 a), .val (.int .u8 b)],
   .box 35 [.nil, .nil, .val (.int .i64 0), .val (.int .i64 0)], .box 35 [.ref 3 0, .val (.sl (gridD c L).length (rowsC (gridD c L))), .val (.int .i64 0), .val (.int .i64 0)],
   .sl 30 0 true 2 i (rowsC ((pastD c O).take i))]⟩
def dhE (c : Int) (O L : List Dr) (a b : Int) : St :=
 ⟨61, [(1, .ptr 0 0 0), (2, .ptr 1 0 0), (3, .ptr 2 0 0)], [.box 25 [.val (.int .u8 c), .val (.sl O.length (O.flatMap drC)), .val (.sl L.length (L.flatMap drC)), .val (.int .u8 a), .val (.int .u8 b)],
   .box 35 [.nil, .nil, .val (.int .i64 0), .val (.int .i64 0)], .box 35 [.val (.sl (pastD c O).length (rowsC (pastD c O))), .val (.sl (gridD c L).length (rowsC (gridD c L))), .val (.int .i64 0), .val (.int .i64 0)],
   .sl 30 0 false 2 (pastD c O).length (rowsC (pastD c O))]⟩
def G_dheld : Specs := [(24, dgridSpec), (36, (nilsOf draftSpec))]
@[simp] theorem G_dheld_live : Specs.live G_dheld = false := rfl
@[simp] theorem G_dheld_nils : Specs.nils G_dheld = true := rfl
@[simp] theorem G_dheld_24 : G_dheld.find 24 = some dgridSpec := rfl
@[simp] theorem G_dheld_36 : G_dheld.find 36 = some (nilsOf draftSpec) := rfl
theorem G_dheld_ok (gl : Gl) : SpecsOK Tryd.prog gl G_dheld := .cons (dgrid_sound gl) (.cons (draft_sound gl).nils (.nil _ _))
set_option maxHeartbeats 4000000 in
set_option maxRecDepth 10000 in
theorem dheld_sound (gl : Gl) : Sound Tryd.prog gl 10 dheldSpec := by
 refine sound_fn (N := Tryd.f10.ntmps) (rs := Tryd.f10.results.toList) mixed tok (G_dheld_ok gl) Tryd.func10 rfl rfl rfl rfl rfl ?_ ?_ ?_
 · rintro args ⟨c,O,L,a,b,rfl,h0,h1,hO,hL,a0,a1,b0,b1⟩; simp [drsOf_C,drV, Tryd.f10]
 · rintro args ⟨c,O,L,a,b,rfl,h0,h1,hO,hL,a0,a1,b0,b1⟩; simp [drsOf_C,drV, dheldSpec, Tryd.f10]
 · rintro args ⟨c,O,L,a,b,rfl,h0,h1,hO,hL,a0,a1,b0,b1⟩ bs hgl hh hro
   have hE : Env.OK ⟨Tryd.prog, T, G_dheld, bs⟩ := ⟨tok, by rw [hgl]; exact G_dheld_ok gl⟩
   simp only [dheldSpec, drsOf_C,drV]
   have eL : ∃ x : List Dr, L.length = x.length ∧ L.flatMap drC = x.flatMap drC ∧ ∀ d ∈ x, d.ok := ⟨L, rfl, rfl, hL⟩
   have hV := draftH_ok (c := c) (O := O) (L := L) (a := a) (b := b) ⟨h0, h1, hO, hL, a0, a1, b0, b1⟩
   obtain ⟨W, hW⟩ : ∃ W, 2 + c.toNat % 79 = W := ⟨_, rfl⟩
   rw [hW] at hV
   have gl := hV.grid.len
   have g1 := hV.grid.n1
   have hlen : (pastD c O).length = manyP O := by simp [pastD]
   have w2 := hV.grid.w2
   have wa : IntKind.i64.wrap a = a := wrap64 _ (by omega) (by omega)
   have wb : IntKind.i64.wrap b = b := wrap64 _ (by omega) (by omega)
   have ea := u8_tmod a0 ((manyG L : Nat) : Int)
   have eb := u8_tmod b0 (W : Int)
   have m1 := Int.emod_nonneg a (show ((manyG L : Nat) : Int) ≠ 0 by omega)
   have m2 := Int.emod_lt_of_pos a (show (0 : Int) < ((manyG L : Nat) : Int) by omega)
   have m3 := Int.emod_nonneg b (show (W : Int) ≠ 0 by omega)
   have m4 := Int.emod_lt_of_pos b (show (0 : Int) < (W : Int) by omega)
   have n40 := hV.grid.n40
   have wa2 : IntKind.i64.wrap (a % ((manyG L : Nat) : Int)) = a % ((manyG L : Nat) : Int) := wrap64 _ (by omega) (by omega)
   have wb2 : IntKind.i64.wrap (b % (W : Int)) = b % (W : Int) := wrap64 _ (by omega) (by omega)
   obtain ⟨r0, hg0, hgl⟩ := headGV hV.grid
   simp only [draftH] at hg0 gl hgl
   simp -implicitDefEqProofs [-Bool.exists_bool, and_assoc, dheldSpec, dgridSpec, draftSpec, Tryd.f10, h0, h1, eL, drsOf_C, rowsV]
   refine AWP.leaves 0 (dhE c O L a b) (AWP.rounds (fun i => i ≤ manyP O) (dhS c O L a b) (fun i => manyP O - i) 0 (by simp) ?_ ?_) ?_
   · exact Weak.trans (Weak.mkEmpty 2 0 30 2 (by decide) rfl rfl) (Weak.heap (by simp [dhS, rowsC]) (by simp [dhS]))
   · intro i hi
     refine wpc_ok hE mixed _ _ _ ?_
     have hmp : manyP O ≤ O.length ∧ manyP O ≤ 30 ∧ (manyP O = O.length ∨ manyP O = 30) := by unfold manyP; omega
     rcases Nat.lt_or_ge i (manyP O) with h | h
     · have wi : IntKind.i64.wrap ((i : Int) + 1) = ((i + 1 : Nat) : Int) := by rw [wrap64 _ (by omega) (by omega)]; omega
       have t1 : ((i : Int) < O.length) = True := eq_true (by omega)
       have t2 : ((i : Int) < 30) = True := eq_true (by omega)
       have hl : i < O.length := by omega
       have hs := map_step (rowG c O) (g := List.range (manyP O)) (i := i) (by simpa using h)
       rw [List.getElem_range] at hs
       have e : rowsC ((pastD c O).take (i + 1)) = rowsC ((pastD c O).take i) ++ rowC (rowG c O i) := by
         unfold pastD; rw [hs, rowsC_app]; simp [rowsC]
       have hdl := drs_len O
       have ht := drs_at O i hl
       have hd := hO _ (List.getElem_mem hl)
       have hg : O.getD i ⟨0, [], false⟩ = O[i] := by simp [hl]
       have hx : rowG c O i = draftF c O[i].B O[i].w := by unfold rowG; rw [hg]
       rw [hx] at e
       generalize O[i] = d at *
       obtain ⟨k, B, w⟩ := d
       obtain ⟨_, _, hB⟩ := hd
       simp only [drC] at ht e hB
       have eB : ∃ x : List Int, B.length = x.length ∧ B = x ∧ Bytes x := ⟨B, rfl, rfl, hB⟩
       have l1 : 3 ≤ O.length * 3 - i * 3 := by omega
       have l2 : min 3 (O.length * 3 - i * 3) = 3 := by omega
       simp -implicitDefEqProofs [-Bool.exists_bool, dhS, and_assoc, dgridSpec, draftSpec, t1, t2, wi, hdl, ht, l1, l2, h0, h1, eB]
       exact ⟨by omega, by omega, by rfl, Next.mk (i + 1) h (by omega) (Weak.ren [some 0, some 1, some 2, some 3] (baseOK.nil hh) (by simp) (by simp [e]) (by simp))⟩
     · obtain rfl : i = manyP O := by omega
       have hT : (pastD c O).take (manyP O) = pastD c O := List.take_of_length_le (by omega)
       rcases (show manyP O = O.length ∨ (manyP O < O.length ∧ manyP O = 30) by omega) with q | ⟨q0, q⟩
       · have t1 : (((manyP O : Nat) : Int) < O.length) = False := eq_false (by omega)
         simp -implicitDefEqProofs [-Bool.exists_bool, dhS, t1, hT]
         exact Leaves.mk (Weak.trans (Weak.solid 2 3 0 rfl rfl rfl) (Weak.heap (by simp [hlen]) (by simp [dhE])))
       · have t1 : (((manyP O : Nat) : Int) < 30) = False := eq_false (by omega)
         have t0 : (((manyP O : Nat) : Int) < O.length) = True := eq_true (by omega)
         simp -implicitDefEqProofs [-Bool.exists_bool, dhS, t0, t1, hT]
         exact Leaves.mk (Weak.trans (Weak.solid 2 3 0 rfl rfl rfl) (Weak.heap (by simp [hlen]) (by simp [dhE])))
   · have z1 : ¬ (manyG L : Nat) = 0 := by omega
     have z2 : ¬ W = 0 := by omega
     simp -implicitDefEqProofs [dhE, gl, wa, wb, ea, eb, wa2, wb2, hg0, z1, z2]
     exact ⟨g1, by rfl, by simp [draftH, hdV, hdC, hW, gl]⟩
def idHSpec : Spec := { pre := fun args => ∃ h : Hd, args = [hdV h], res := fun args => match args with
 | [.agg cs] => .one (.val (.agg cs))
 | _ => .many [] }
def G_ownH : Specs := []
@[simp] theorem G_ownH_live : Specs.live G_ownH = false := rfl
@[simp] theorem G_ownH_nils : Specs.nils G_ownH = false := rfl
theorem G_ownH_ok (gl : Gl) : SpecsOK Tryd.prog gl G_ownH := .nil _ _
set_option maxRecDepth 10000 in
theorem ownH_sound (gl : Gl) : Sound Tryd.prog gl 13 idHSpec := by
 refine sound_fn (N := Tryd.f13.ntmps) (rs := Tryd.f13.results.toList) mixed tok (G_ownH_ok gl) Tryd.func13 rfl rfl rfl rfl rfl ?_ ?_ ?_
 · rintro args ⟨h,rfl⟩; simp [hdV,hdC, Tryd.f13]
 · rintro args ⟨h,rfl⟩; simp [hdV,hdC, idHSpec, Tryd.f13]
 · rintro args ⟨h,rfl⟩ bs hgl hh hro
   have hE : Env.OK ⟨Tryd.prog, T, G_ownH, bs⟩ := ⟨tok, by rw [hgl]; exact G_ownH_ok gl⟩
   simp only [idHSpec, hdV,hdC]
   simp [and_assoc, idHSpec, Tryd.f13]
def G_refH : Specs := []
@[simp] theorem G_refH_live : Specs.live G_refH = false := rfl
@[simp] theorem G_refH_nils : Specs.nils G_refH = false := rfl
theorem G_refH_ok (gl : Gl) : SpecsOK Tryd.prog gl G_refH := .nil _ _
set_option maxRecDepth 10000 in
theorem refH_sound (gl : Gl) : Sound Tryd.prog gl 23 idHSpec := by
 refine sound_fn (N := Tryd.f23.ntmps) (rs := Tryd.f23.results.toList) mixed tok (G_refH_ok gl) Tryd.func23 rfl rfl rfl rfl rfl ?_ ?_ ?_
 · rintro args ⟨h,rfl⟩; simp [hdV,hdC, Tryd.f23]
 · rintro args ⟨h,rfl⟩; simp [hdV,hdC, idHSpec, Tryd.f23]
 · rintro args ⟨h,rfl⟩ bs hgl hh hro
   have hE : Env.OK ⟨Tryd.prog, T, G_refH, bs⟩ := ⟨tok, by rw [hgl]; exact G_refH_ok gl⟩
   simp only [idHSpec, hdV,hdC]
   simp [and_assoc, idHSpec, Tryd.f23]
def sameHSpec : Spec := { pre := fun args => ∃ a b : Hd, args = [hdV a, hdV b] ∧ HdFin a, res := fun args => match args with
 | [.agg a, .agg b] => .one (.val (.c (.bool (decide (hdOf a = hdOf b)))))
 | _ => .many [] }
def G_sameH : Specs := [(28, samesSpec)]
@[simp] theorem G_sameH_live : Specs.live G_sameH = false := rfl
@[simp] theorem G_sameH_nils : Specs.nils G_sameH = false := rfl
@[simp] theorem G_sameH_28 : G_sameH.find 28 = some samesSpec := rfl
theorem G_sameH_ok (gl : Gl) : SpecsOK Tryd.prog gl G_sameH := .cons (sames_sound gl) (.nil _ _)
set_option maxRecDepth 10000 in
theorem sameH_sound (gl : Gl) : Sound Tryd.prog gl 22 sameHSpec := by
 refine sound_fn (N := Tryd.f22.ntmps) (rs := Tryd.f22.results.toList) mixed tok (G_sameH_ok gl) Tryd.func22 rfl rfl rfl rfl rfl ?_ ?_ ?_
 · rintro args ⟨a,b,rfl,h1,h2⟩; simp [hdV,hdC,hdOf_C,rowsOf_C, Tryd.f22]
 · rintro args ⟨a,b,rfl,h1,h2⟩; simp [hdV,hdC,hdOf_C,rowsOf_C, sameHSpec, Tryd.f22]
 · rintro args ⟨a,b,rfl,h1,h2⟩ bs hgl hh hro
   have hE : Env.OK ⟨Tryd.prog, T, G_sameH, bs⟩ := ⟨tok, by rw [hgl]; exact G_sameH_ok gl⟩
   simp only [sameHSpec, hdV,hdC,hdOf_C,rowsOf_C]
   have ea := hdOf_C a
   have eb := hdOf_C b
   have x1 : ∃ x y : List Rw, a.past.length = x.length ∧ a.past = x ∧ b.past.length = y.length ∧ b.past = y ∧ RowsFin x := ⟨_, _, rfl, rfl, rfl, rfl, h1⟩
   have e : decide (a = b) = (decide (a.past = b.past) && (decide (a.rows = b.rows) && (decide (a.ar = b.ar) && decide (a.ac = b.ac)))) := by
     obtain ⟨p, r, x, y⟩ := a
     obtain ⟨p2, r2, x2, y2⟩ := b
     rw [Bool.eq_iff_iff]; simp
   simp [and_assoc, sameHSpec, samesSpec, Tryd.f22, ea, eb, rowsOf_C, rowsV, e]
   have b1 : (a.ar == b.ar) = decide (a.ar = b.ar) := rfl
   have b2 : (a.ac == b.ac) = decide (a.ac = b.ac) := rfl
   exact ⟨⟨_, rfl, rfl, h1⟩, fun q => ⟨q, _, rfl, rfl, h2⟩, by rw [b1, b2]; simp only [Bool.and_assoc]⟩
def underHSpec : Spec := { pre := fun args => ∃ h : Hd, args = [hdV h] ∧ heldF h = 0, res := fun args => match args with
 | [.agg cs] => .one (.val (celV (underF (hdOf cs))))
 | _ => .many [] }
def G_underH : Specs := []
@[simp] theorem G_underH_live : Specs.live G_underH = false := rfl
@[simp] theorem G_underH_nils : Specs.nils G_underH = false := rfl
theorem G_underH_ok (gl : Gl) : SpecsOK Tryd.prog gl G_underH := .nil _ _
set_option maxRecDepth 10000 in
theorem underH_sound (gl : Gl) : Sound Tryd.prog gl 30 underHSpec := by
 refine sound_fn (N := Tryd.f30.ntmps) (rs := Tryd.f30.results.toList) mixed tok (G_underH_ok gl) Tryd.func30 rfl rfl rfl rfl rfl ?_ ?_ ?_
 · rintro args ⟨h,rfl,hv⟩; simp [hdV,hdC, Tryd.f30]
 · rintro args ⟨h,rfl,hv⟩; simp [hdV,hdC, underHSpec, Tryd.f30]
 · rintro args ⟨h,rfl,hv⟩ bs hgl hh hro
   have hE : Env.OK ⟨Tryd.prog, T, G_underH, bs⟩ := ⟨tok, by rw [hgl]; exact G_underH_ok gl⟩
   simp only [underHSpec, hdV,hdC]
   have v := HV.of hv
   have eo := hdOf_C h
   have r0 := v.r0
   have r1 := v.r1
   have c0 := v.c0
   have c1 := v.c1
   obtain ⟨i, hi⟩ : ∃ i : Nat, h.ar = i := ⟨h.ar.toNat, by omega⟩
   obtain ⟨k, hk⟩ : ∃ k : Nat, h.ac = k := ⟨h.ac.toNat, by omega⟩
   rw [hi] at eo
   rw [hk] at eo
   obtain ⟨r, hrl, hr, hd⟩ := row_at v.grid (i := i) (by omega)
   have hk1 : k < r.cells.length := by omega
   have hc := celsC_at hk1
   have eu : underF h = r.cells[k] := by unfold underF cellAt; rw [hi, hk, Int.toNat_natCast, Int.toNat_natCast, hr, cat_eq hk1]
   simp [and_assoc, underHSpec, Tryd.f30, eo, eu, hi, hk, hd, hc]
   exact ⟨by omega, by omega, by rfl⟩
end Fen

namespace Fen
open Go Go.Proofs
theorem mainF_ok {w n K N : Nat} {h : Hd} (v : HV w n h) (hK : 2 ≤ K ∧ K ≤ 80) (hN : 1 ≤ N ∧ N ≤ 40) : mainF h K N = (sizedF h K N, 0) := by
 have z : sizeOK K N = true := by simp [sizeOK]; omega
 unfold mainF; rw [if_neg (by simp [v.valid]), if_neg (by simp [z])]; simp
theorem HV.ok {w n : Nat} {h : Hd} (v : HV w n h) : HdOK h := ⟨fun r hr => row_okF (v.past r hr).1, v.grid.rok⟩
theorem HV.fin {w n : Nat} {h : Hd} (v : HV w n h) : HdFin h := ⟨rowsFin_of (by have := v.pl; omega) fun r hr => row_lt (v.past r hr).1, v.grid.fin⟩
def lawSameSpec : Spec := { pre := fun args => ∃ (c : Int) (O L : List Dr) (a b m : Int), args = [drV c O L a b, .c (.int .u8 m)] ∧ DrIn c O L a b ∧ 0 ≤ m ∧ m < 256, res := fun _ => .one (.val (.c (.bool true))) }
def G_lawSame : Specs := [(18, lworks9Spec), (10, dheldSpec), (13, idHSpec), (19, mainSpec), (23, idHSpec), (22, sameHSpec), (30, underHSpec), (28, samesSpec)]
@[simp] theorem G_lawSame_live : Specs.live G_lawSame = false := rfl
@[simp] theorem G_lawSame_nils : Specs.nils G_lawSame = false := rfl
@[simp] theorem G_lawSame_18 : G_lawSame.find 18 = some lworks9Spec := rfl
@[simp] theorem G_lawSame_10 : G_lawSame.find 10 = some dheldSpec := rfl
@[simp] theorem G_lawSame_13 : G_lawSame.find 13 = some idHSpec := rfl
@[simp] theorem G_lawSame_19 : G_lawSame.find 19 = some mainSpec := rfl
@[simp] theorem G_lawSame_23 : G_lawSame.find 23 = some idHSpec := rfl
@[simp] theorem G_lawSame_22 : G_lawSame.find 22 = some sameHSpec := rfl
@[simp] theorem G_lawSame_30 : G_lawSame.find 30 = some underHSpec := rfl
@[simp] theorem G_lawSame_28 : G_lawSame.find 28 = some samesSpec := rfl
theorem G_lawSame_ok : SpecsOK Tryd.prog glW G_lawSame := .cons works9_sound (.cons (dheld_sound glW) (.cons (ownH_sound glW) (.cons main_sound (.cons (refH_sound glW) (.cons (sameH_sound glW) (.cons (underH_sound glW) (.cons (sames_sound glW) (.nil _ _))))))))
set_option maxHeartbeats 8000000 in
set_option maxRecDepth 10000 in
theorem lawSame_sound : Sound Tryd.prog glW 7 lawSameSpec := by
 refine sound_fn (N := Tryd.f7.ntmps) (rs := Tryd.f7.results.toList) mixed tok G_lawSame_ok Tryd.func7 rfl rfl rfl rfl rfl ?_ ?_ ?_
 · rintro args ⟨c,O,L,a,b,m,rfl,hD,m0,m1⟩; simp [drV, Tryd.f7]
 · rintro args ⟨c,O,L,a,b,m,rfl,hD,m0,m1⟩; simp [drV, lawSameSpec, Tryd.f7]
 · rintro args ⟨c,O,L,a,b,m,rfl,hD,m0,m1⟩ bs hgl hh hro
   have hE : Env.OK ⟨Tryd.prog, T, G_lawSame, bs⟩ := ⟨tok, by rw [hgl]; exact G_lawSame_ok⟩
   simp only [lawSameSpec, drV]
   have eD : ∃ (c' : Int) (O' L' : List Dr) (a' b' : Int), drV c O L a b = drV c' O' L' a' b' ∧ DrIn c' O' L' a' b' := ⟨c, O, L, a, b, rfl, hD⟩
   have v := draftH_ok hD
   obtain ⟨w, hw⟩ : ∃ w, 2 + c.toNat % 79 = w := ⟨_, rfl⟩
   obtain ⟨n, hn⟩ : ∃ n, manyG L = n := ⟨_, rfl⟩
   obtain ⟨H, hH⟩ : ∃ H, draftH c O L a b = H := ⟨_, rfl⟩
   rw [hw, hn, hH] at v
   have w2 := v.grid.w2
   have n2 : 1 ≤ n ∧ n ≤ 40 := ⟨v.grid.n1, v.grid.n40⟩
   obtain ⟨R, hR⟩ : ∃ R, min (n + m.toNat % 20) 40 = R := ⟨_, rfl⟩
   have R2 : 1 ≤ R ∧ R ≤ 40 := by omega
   have e1 := mainF_ok v w2 n2
   rw [sized_self v] at e1
   have e2 := mainF_ok v w2 R2
   have vY := v.sized w2 R2
   have uY := self_under v R2
   obtain ⟨tl, hall⟩ := taller_all v (rows := R) (by omega)
   generalize sizedF H w R = Y at *
   have e3 := mainF_ok vY w2 n2
   have vZ := vY.sized w2 n2
   have uZ := self_under vY n2
   generalize sizedF Y w n = Z at *
   obtain ⟨r0, hg0, hgl⟩ := headGV v.grid
   have oH := hdOf_C H
   have oY := hdOf_C Y
   have oZ := hdOf_C Z
   have gn := v.grid.len
   have zn := vZ.grid.len
   have wm : IntKind.i64.wrap (m % 20) = m % 20 := wrap64 _ (by omega) (by omega)
   have em := u8_tmod m0 20
   have wm2 : IntKind.u8.wrap (m % 20) = m % 20 := by simp [IntKind.wrap, IntKind.signed, IntKind.bits]; omega
   obtain ⟨q, hq⟩ : ∃ q, n + m.toNat % 20 = q := ⟨_, rfl⟩
   have wm3 : IntKind.i64.wrap ((n : Int) + m % 20) = (q : Int) := by rw [wrap64 _ (by omega) (by omega)]; omega
   have hmin : (if 40 < (q : Int) then (40 : Int) else (q : Int)) = (R : Int) := by split <;> omega
   have yn := vY.grid.len
   rw [gn] at oH
   rw [yn] at oY
   rw [zn] at oZ
   simp -implicitDefEqProofs [and_assoc, lawSameSpec, dheldSpec, idHSpec, lworks9Spec, mainSpec, sameHSpec, samesSpec, underHSpec, Tryd.f7, eD, drsOf_C, hH, hdV, hdC, oH, oY, oZ, hg0, gn, yn, zn, em, wm, wm2, wm3, hmin, e1, e2, e3, uY, uZ]
   have hlH := v.len
   have hlY := vY.len
   have hle : H.past.length + n ≤ Y.past.length + R := by
     have := congrArg List.length hall
     rw [List.length_append] at this
     omega
   have hle' : (H.past.length : Int) + n ≤ (Y.past.length : Int) + R := by omega
   have htk : List.take (((H.past.length : Int) + n).toNat * 2) (rowsC Y.past ++ rowsC Y.rows) = rowsC (allH H) := by
     rw [← rowsC_app, show Y.past ++ Y.rows = allH Y from rfl, hall, rowsC_app, List.take_left' (by simp; omega)]
   have hap : rowsC H.past ++ rowsC H.rows = rowsC (allH H) := (rowsC_app _ _).symm
   have p1 := v.pl
   have p2 := vY.pl
   have fall : RowsFin (allH H) := ⟨by omega, fun r hr => by
     rcases List.mem_append.1 hr with q | q
     · exact v.fin.1.2 r q
     · exact v.fin.2.2 r q⟩
   rw [htk, hap]
   exact ⟨⟨c, O, L, a, b, rfl, hD⟩, ⟨H, rfl, rfl, gn.symm, rfl, rfl, rfl⟩, n2.1, by rfl, ⟨H, rfl, rfl, gn.symm, rfl, rfl, rfl, v.ok⟩, ⟨Y, rfl, rfl, yn.symm, rfl, rfl, rfl, vY.ok⟩,
     ⟨H, rfl, rfl, gn.symm, rfl, rfl, rfl⟩, ⟨H, rfl, rfl, gn.symm, rfl, rfl, rfl, ⟨H, rfl, rfl, gn.symm, rfl, rfl, rfl⟩, v.fin⟩, ⟨Y, rfl, rfl, yn.symm, rfl, rfl, rfl, vY.valid⟩, ⟨H, rfl, rfl, gn.symm, rfl, rfl, rfl, v.valid⟩,
     ⟨Z, rfl, rfl, zn.symm, rfl, rfl, rfl, vZ.valid⟩, ⟨H, rfl, rfl, gn.symm, rfl, rfl, rfl, v.valid⟩, by rfl, by omega, by omega, by omega, by omega, by rfl, by omega, by omega, by omega, by omega, by rfl,
     fun q => ⟨q, by omega, q⟩, fun q => ⟨q, allH H, rfl, by omega, ⟨allH H, rfl, hlH.symm⟩, fall⟩, hle', rfl⟩
end Fen

namespace Fen
open Go Go.Proofs
theorem typed_dr {d : Nat} {p : List C} (h : Typed T d 91 p) : ∃ x : Dr, p = drC x ∧ x.ok := by
 obtain ⟨c, B, w, rfl, h0, h1, hB⟩ := typed_draft h
 exact ⟨⟨c, B, w⟩, rfl, h0, h1, hB⟩
end Fen

namespace Fen
open Go Go.Proofs
theorem arg_hdraft {A : V} (h : TypedV T 25 A) : ∃ (c : Int) (O L : List Dr) (a b : Int), A = drV c O L a b ∧ DrIn c O L a b := by
 obtain ⟨d, ks, rfl, hk0⟩ := arg_agg T_25 rfl h
 obtain ⟨d', parts, rfl, hk⟩ := typed_struct T_25 hk0
 match parts, hk with
 | [p0, p1, p2, p3], ⟨h0, h1, h2, h3, _⟩ =>
   obtain ⟨c, rfl, q0, q1⟩ := typed_u8 h0
   obtain ⟨O, rfl, _, qO⟩ := typed_slice_of (en := drC) T_22 (fun d p h => typed_dr h) h1
   obtain ⟨L, rfl, _, qL⟩ := typed_slice_of (en := drC) T_22 (fun d p h => typed_dr h) h2
   obtain ⟨a, b, rfl, ha, hb⟩ := typed_u8x2 h3
   exact ⟨c, O, L, a, b, rfl, q0, q1, qO, qL, ha.1, ha.2, hb.1, hb.2⟩
end Fen
