/- A part of the proof; no statement is proved here: Kora60, FReflLf, FReflX, FReflLs, FReflY, FReflRb, FReflRc, FReflRd, FReflRe, FReflRf, FGridT, FReflTa, FReflTb, FReflLl, FReflLz. -/
import Derived.Test.YtjolofoocpeinaaDoorCoreF
import Derived.Test.YtjolofoocpeinaaDoorReflF
import Derived.Test.YtjolofoocpeinaaDoorGridA

set_option linter.unusedVariables false
set_option linter.unusedSimpArgs false

/- Part 60: a slot's slice of one's own becomes its value. -/
namespace Fen
open Go Go.RowKit
section
variable {bs : Base} {h : List Blk}
theorem Weak.solidR {n : Nat} {r : List (Nat × X)} (t j : Nat) {ty ver sz m : Nat} {p : Bool} {cs : List C} (hr : lk r t = .ref j ver) (hj : h[j]? = some (.sl ty ver p sz m cs)) :
   Weak bs ⟨n, r, h⟩ ⟨n, (t, .val (.sl m cs)) :: r, h.set j (.sl ty ver false sz m cs)⟩ := by
 intro a w ⟨g, R⟩
 have hu := R.slot t
 rw [show lk (⟨n, r, h⟩ : St).r t = .ref j ver from hr] at hu
 have e : toV1 h (.ref j ver) = some (.c (.sl m cs), h.set j (.sl ty ver false sz m cs)) := by simp only [toV1, hj, if_true]
 obtain ⟨S', E, H', hrep⟩ := toV1_ok R.heap hu e
 refine ⟨_, R.ext.trans E, H', R.defers, R.size, fun t' => ?_⟩
 simp only [lk]
 split
 · rename_i c
   subst c
   simp only [RelX]
   exact hrep
 · exact RelX.mono E _ _ (R.slot t')
end
end Fen

namespace Fen
open Go Go.Proofs
theorem u8_tmod {a : Int} (h0 : 0 ≤ a) (m : Int) : a.tmod m = a % m := Int.tmod_eq_emod_of_nonneg h0
theorem headGV {w n : Nat} {g : List Rw} (h : GV w n g) : ∃ r0 : Rw, (∀ d, (rowsC g).head?.getD d = .sl w (celsC r0.cells)) ∧ 0 < g.length := by
 have h1 := h.ne
 match g, h1, h with
 | r :: g, _, h => exact ⟨r, fun d => by rw [← (h.rows r (List.mem_cons_self ..)).2]; rfl, by simp⟩
end Fen

namespace Fen
open Go Go.Proofs
def manyP (O : List Dr) : Nat := min O.length 30
def pastD (c : Int) (O : List Dr) : List Rw := (List.range (manyP O)).map (rowG c O)
def draftH (c : Int) (O L : List Dr) (a b : Int) : Hd := ⟨pastD c O, gridD c L, a % (manyG L : Nat), b % ((2 + c.toNat % 79 : Nat) : Int)⟩
def DrIn (c : Int) (O L : List Dr) (a b : Int) : Prop := 0 ≤ c ∧ c < 256 ∧ (∀ d ∈ O, d.ok) ∧ (∀ d ∈ L, d.ok) ∧ 0 ≤ a ∧ a < 256 ∧ 0 ≤ b ∧ b < 256
def drV (c : Int) (O L : List Dr) (a b : Int) : V := .agg [.int .u8 c, .sl O.length (O.flatMap drC), .sl L.length (L.flatMap drC), .int .u8 a, .int .u8 b]
theorem draftH_ok {c : Int} {O L : List Dr} {a b : Int} (h : DrIn c O L a b) : HV (2 + c.toNat % 79) (manyG L) (draftH c O L a b) := by
 obtain ⟨_, _, _, _, a0, _, b0, _⟩ := h
 have hm := many_le L
 refine ⟨GV.grid c L, by simp [draftH, pastD, manyP]; omega, fun r hr => ?_, ?_, ?_, ?_, ?_⟩
 · simp only [draftH, pastD, List.mem_map] at hr
   obtain ⟨i, _, rfl⟩ := hr
   exact ⟨draft_ok _ _ _, draft_len _ _ _⟩
 · exact Int.emod_nonneg _ (by omega)
 · exact Int.emod_lt_of_pos _ (by omega)
 · exact Int.emod_nonneg _ (by omega)
 · exact Int.emod_lt_of_pos _ (by omega)
def dheldSpec : Spec := { pre := fun args => ∃ (c : Int) (O L : List Dr) (a b : Int), args = [drV c O L a b] ∧ DrIn c O L a b, res := fun args => match args with
 | [.agg [.int _ c, .sl _ o, .sl _ l, .int _ a, .int _ b]] => .one (.val (hdV (draftH c (drsOf o) (drsOf l) a b)))
 | _ => .many [] }
def dhS (c : Int) (O L : List Dr) (a b : Int) (i : Nat) : St :=
 ⟨61, [(1, .ptr 0 0 0), (2, .ptr 1 0 0), (3, .ptr 2 0 0), (4, .val (.int .i64 i))], [.box 25 [.val (.int .u8 c), .val (.sl O.length (O.flatMap drC)), .val (.sl L.length (L.flatMap drC)), .val (.int .u8 a), .val (.int .u8 b)],
   .box 35 [.nil, .nil, .val (.int .i64 0), .val (.int .i64 0)], .box 35 [.ref 3 0, .val (.sl (gridD c L).length (rowsC (gridD c L))), .val (.int .i64 0), .val (.int .i64 0)],
   .sl 30 0 true 2 i (rowsC ((pastD c O).take i))]⟩
def dhE (c : Int) (O L : List Dr) (a b : Int) : St :=
 ⟨61, [(1, .ptr 0 0 0), (2, .ptr 1 0 0), (3, .ptr 2 0 0)], [.box 25 [.val (.int .u8 c), .val (.sl O.length (O.flatMap drC)), .val (.sl L.length (L.flatMap drC)), .val (.int .u8 a), .val (.int .u8 b)],
   .box 35 [.nil, .nil, .val (.int .i64 0), .val (.int .i64 0)], .box 35 [.val (.sl (pastD c O).length (rowsC (pastD c O))), .val (.sl (gridD c L).length (rowsC (gridD c L))), .val (.int .i64 0), .val (.int .i64 0)],
   .sl 30 0 false 2 (pastD c O).length (rowsC (pastD c O))]⟩
def G_dheld : Specs := [(24, dgridSpec), (36, (nilsOf draftSpec))]
@[simp] theorem G_dheld_live : Specs.live G_dheld = false := rfl
@[simp] theorem G_dheld_nils : Specs.nils G_dheld = true := rfl
@[simp] theorem G_dheld_24 : G_dheld.find 24 = some dgridSpec := rfl
@[simp] theorem G_dheld_36 : G_dheld.find 36 = some (nilsOf draftSpec) := rfl
theorem G_dheld_ok (gl : Gl) : SpecsOK Tryd.prog gl G_dheld := .cons (dgrid_sound gl) (.cons (draft_sound gl).nils (.nil _ _))
set_option maxHeartbeats 4000000 in
set_option maxRecDepth 10000 in
theorem dheld_sound (gl : Gl) : Sound Tryd.prog gl 10 dheldSpec := by
 refine sound_fn (N := Tryd.f10.ntmps) (rs := Tryd.f10.results.toList) mixed tok (G_dheld_ok gl) Tryd.func10 rfl rfl rfl rfl rfl ?_ ?_ ?_
 · rintro args ⟨c,O,L,a,b,rfl,h0,h1,hO,hL,a0,a1,b0,b1⟩; simp [drsOf_C,drV, Tryd.f10]
 · rintro args ⟨c,O,L,a,b,rfl,h0,h1,hO,hL,a0,a1,b0,b1⟩; simp [drsOf_C,drV, dheldSpec, Tryd.f10]
 · rintro args ⟨c,O,L,a,b,rfl,h0,h1,hO,hL,a0,a1,b0,b1⟩ bs hgl hh hro
   have hE : Env.OK ⟨Tryd.prog, T, G_dheld, bs⟩ := ⟨tok, by rw [hgl]; exact G_dheld_ok gl⟩
   simp only [dheldSpec, drsOf_C,drV]
   have eL : ∃ x : List Dr, L.length = x.length ∧ L.flatMap drC = x.flatMap drC ∧ ∀ d ∈ x, d.ok := ⟨L, rfl, rfl, hL⟩
   have hV := draftH_ok (c := c) (O := O) (L := L) (a := a) (b := b) ⟨h0, h1, hO, hL, a0, a1, b0, b1⟩
   obtain ⟨W, hW⟩ : ∃ W, 2 + c.toNat % 79 = W := ⟨_, rfl⟩
   rw [hW] at hV
   have gl := hV.grid.len
   have g1 := hV.grid.n1
   have hlen : (pastD c O).length = manyP O := by simp [pastD]
   have w2 := hV.grid.w2
   have wa : IntKind.i64.wrap a = a := wrap64 _ (by omega) (by omega)
   have wb : IntKind.i64.wrap b = b := wrap64 _ (by omega) (by omega)
   have ea := u8_tmod a0 ((manyG L : Nat) : Int)
   have eb := u8_tmod b0 (W : Int)
   have m1 := Int.emod_nonneg a (show ((manyG L : Nat) : Int) ≠ 0 by omega)
   have m2 := Int.emod_lt_of_pos a (show (0 : Int) < ((manyG L : Nat) : Int) by omega)
   have m3 := Int.emod_nonneg b (show (W : Int) ≠ 0 by omega)
   have m4 := Int.emod_lt_of_pos b (show (0 : Int) < (W : Int) by omega)
   have n40 := hV.grid.n40
   have wa2 : IntKind.i64.wrap (a % ((manyG L : Nat) : Int)) = a % ((manyG L : Nat) : Int) := wrap64 _ (by omega) (by omega)
   have wb2 : IntKind.i64.wrap (b % (W : Int)) = b % (W : Int) := wrap64 _ (by omega) (by omega)
   obtain ⟨r0, hg0, hgl⟩ := headGV hV.grid
   simp only [draftH] at hg0 gl hgl
   simp -implicitDefEqProofs [-Bool.exists_bool, and_assoc, dheldSpec, dgridSpec, draftSpec, Tryd.f10, h0, h1, eL, drsOf_C, rowsV]
   refine AWP.leaves 0 (dhE c O L a b) (AWP.rounds (fun i => i ≤ manyP O) (dhS c O L a b) (fun i => manyP O - i) 0 (by simp) ?_ ?_) ?_
   · exact Weak.trans (Weak.mkEmpty 2 0 30 2 (by decide) rfl rfl) (Weak.heap (by simp [dhS, rowsC]) (by simp [dhS]))
   · intro i hi
     refine wpc_ok hE mixed _ _ _ ?_
     have hmp : manyP O ≤ O.length ∧ manyP O ≤ 30 ∧ (manyP O = O.length ∨ manyP O = 30) := by unfold manyP; omega
     rcases Nat.lt_or_ge i (manyP O) with h | h
     · have wi : IntKind.i64.wrap ((i : Int) + 1) = ((i + 1 : Nat) : Int) := by rw [wrap64 _ (by omega) (by omega)]; omega
       have t1 : ((i : Int) < O.length) = True := eq_true (by omega)
       have t2 : ((i : Int) < 30) = True := eq_true (by omega)
       have hl : i < O.length := by omega
       have hs := map_step (rowG c O) (g := List.range (manyP O)) (i := i) (by simpa using h)
       rw [List.getElem_range] at hs
       have e : rowsC ((pastD c O).take (i + 1)) = rowsC ((pastD c O).take i) ++ rowC (rowG c O i) := by
         unfold pastD; rw [hs, rowsC_app]; simp [rowsC]
       have hdl := drs_len O
       have ht := drs_at O i hl
       have hd := hO _ (List.getElem_mem hl)
       have hg : O.getD i ⟨0, [], false⟩ = O[i] := by simp [hl]
       have hx : rowG c O i = draftF c O[i].B O[i].w := by unfold rowG; rw [hg]
       rw [hx] at e
       generalize O[i] = d at *
       obtain ⟨k, B, w⟩ := d
       obtain ⟨_, _, hB⟩ := hd
       simp only [drC] at ht e hB
       have eB : ∃ x : List Int, B.length = x.length ∧ B = x ∧ Bytes x := ⟨B, rfl, rfl, hB⟩
       have l1 : 3 ≤ O.length * 3 - i * 3 := by omega
       have l2 : min 3 (O.length * 3 - i * 3) = 3 := by omega
       simp -implicitDefEqProofs [-Bool.exists_bool, dhS, and_assoc, dgridSpec, draftSpec, t1, t2, wi, hdl, ht, l1, l2, h0, h1, eB]
       exact ⟨by omega, by omega, by rfl, Next.mk (i + 1) h (by omega) (Weak.ren [some 0, some 1, some 2, some 3] (baseOK.nil hh) (by simp) (by simp [e]) (by simp))⟩
     · obtain rfl : i = manyP O := by omega
       have hT : (pastD c O).take (manyP O) = pastD c O := List.take_of_length_le (by omega)
       rcases (show manyP O = O.length ∨ (manyP O < O.length ∧ manyP O = 30) by omega) with q | ⟨q0, q⟩
       · have t1 : (((manyP O : Nat) : Int) < O.length) = False := eq_false (by omega)
         simp -implicitDefEqProofs [-Bool.exists_bool, dhS, t1, hT]
         exact Leaves.mk (Weak.trans (Weak.solid 2 3 0 rfl rfl rfl) (Weak.heap (by simp [hlen]) (by simp [dhE])))
       · have t1 : (((manyP O : Nat) : Int) < 30) = False := eq_false (by omega)
         have t0 : (((manyP O : Nat) : Int) < O.length) = True := eq_true (by omega)
         simp -implicitDefEqProofs [-Bool.exists_bool, dhS, t0, t1, hT]
         exact Leaves.mk (Weak.trans (Weak.solid 2 3 0 rfl rfl rfl) (Weak.heap (by simp [hlen]) (by simp [dhE])))
   · have z1 : ¬ (manyG L : Nat) = 0 := by omega
     have z2 : ¬ W = 0 := by omega
     simp -implicitDefEqProofs [dhE, gl, wa, wb, ea, eb, wa2, wb2, hg0, z1, z2]
     exact ⟨g1, by rfl, by simp [draftH, hdV, hdC, hW, gl]⟩
def idHSpec : Spec := { pre := fun args => ∃ h : Hd, args = [hdV h], res := fun args => match args with
 | [.agg cs] => .one (.val (.agg cs))
 | _ => .many [] }
def G_ownH : Specs := []
@[simp] theorem G_ownH_live : Specs.live G_ownH = false := rfl
@[simp] theorem G_ownH_nils : Specs.nils G_ownH = false := rfl
theorem G_ownH_ok (gl : Gl) : SpecsOK Tryd.prog gl G_ownH := .nil _ _
set_option maxRecDepth 10000 in
theorem ownH_sound (gl : Gl) : Sound Tryd.prog gl 13 idHSpec := by
 refine sound_fn (N := Tryd.f13.ntmps) (rs := Tryd.f13.results.toList) mixed tok (G_ownH_ok gl) Tryd.func13 rfl rfl rfl rfl rfl ?_ ?_ ?_
 · rintro args ⟨h,rfl⟩; simp [hdV,hdC, Tryd.f13]
 · rintro args ⟨h,rfl⟩; simp [hdV,hdC, idHSpec, Tryd.f13]
 · rintro args ⟨h,rfl⟩ bs hgl hh hro
   have hE : Env.OK ⟨Tryd.prog, T, G_ownH, bs⟩ := ⟨tok, by rw [hgl]; exact G_ownH_ok gl⟩
   simp only [idHSpec, hdV,hdC]
   simp [and_assoc, idHSpec, Tryd.f13]
def G_refH : Specs := []
@[simp] theorem G_refH_live : Specs.live G_refH = false := rfl
@[simp] theorem G_refH_nils : Specs.nils G_refH = false := rfl
theorem G_refH_ok (gl : Gl) : SpecsOK Tryd.prog gl G_refH := .nil _ _
set_option maxRecDepth 10000 in
theorem refH_sound (gl : Gl) : Sound Tryd.prog gl 23 idHSpec := by
 refine sound_fn (N := Tryd.f23.ntmps) (rs := Tryd.f23.results.toList) mixed tok (G_refH_ok gl) Tryd.func23 rfl rfl rfl rfl rfl ?_ ?_ ?_
 · rintro args ⟨h,rfl⟩; simp [hdV,hdC, Tryd.f23]
 · rintro args ⟨h,rfl⟩; simp [hdV,hdC, idHSpec, Tryd.f23]
 · rintro args ⟨h,rfl⟩ bs hgl hh hro
   have hE : Env.OK ⟨Tryd.prog, T, G_refH, bs⟩ := ⟨tok, by rw [hgl]; exact G_refH_ok gl⟩
   simp only [idHSpec, hdV,hdC]
   simp [and_assoc, idHSpec, Tryd.f23]
def sameHSpec : Spec := { pre := fun args => ∃ a b : Hd, args = [hdV a, hdV b] ∧ HdFin a, res := fun args => match args with
 | [.agg a, .agg b] => .one (.val (.c (.bool (decide (hdOf a = hdOf b)))))
 | _ => .many [] }
def G_sameH : Specs := [(28, samesSpec)]
@[simp] theorem G_sameH_live : Specs.live G_sameH = false := rfl
@[simp] theorem G_sameH_nils : Specs.nils G_sameH = false := rfl
@[simp] theorem G_sameH_28 : G_sameH.find 28 = some samesSpec := rfl
theorem G_sameH_ok (gl : Gl) : SpecsOK Tryd.prog gl G_sameH := .cons (sames_sound gl) (.nil _ _)
set_option maxRecDepth 10000 in
theorem sameH_sound (gl : Gl) : Sound Tryd.prog gl 22 sameHSpec := by
 refine sound_fn (N := Tryd.f22.ntmps) (rs := Tryd.f22.results.toList) mixed tok (G_sameH_ok gl) Tryd.func22 rfl rfl rfl rfl rfl ?_ ?_ ?_
 · rintro args ⟨a,b,rfl,h1,h2⟩; simp [hdV,hdC,hdOf_C,rowsOf_C, Tryd.f22]
 · rintro args ⟨a,b,rfl,h1,h2⟩; simp [hdV,hdC,hdOf_C,rowsOf_C, sameHSpec, Tryd.f22]
 · rintro args ⟨a,b,rfl,h1,h2⟩ bs hgl hh hro
   have hE : Env.OK ⟨Tryd.prog, T, G_sameH, bs⟩ := ⟨tok, by rw [hgl]; exact G_sameH_ok gl⟩
   simp only [sameHSpec, hdV,hdC,hdOf_C,rowsOf_C]
   have ea := hdOf_C a
   have eb := hdOf_C b
   have x1 : ∃ x y : List Rw, a.past.length = x.length ∧ a.past = x ∧ b.past.length = y.length ∧ b.past = y ∧ RowsFin x := ⟨_, _, rfl, rfl, rfl, rfl, h1⟩
   have e : decide (a = b) = (decide (a.past = b.past) && (decide (a.rows = b.rows) && (decide (a.ar = b.ar) && decide (a.ac = b.ac)))) := by
     obtain ⟨p, r, x, y⟩ := a
     obtain ⟨p2, r2, x2, y2⟩ := b
     rw [Bool.eq_iff_iff]; simp
   simp [and_assoc, sameHSpec, samesSpec, Tryd.f22, ea, eb, rowsOf_C, rowsV, e]
   have b1 : (a.ar == b.ar) = decide (a.ar = b.ar) := rfl
   have b2 : (a.ac == b.ac) = decide (a.ac = b.ac) := rfl
   exact ⟨⟨_, rfl, rfl, h1⟩, fun q => ⟨q, _, rfl, rfl, h2⟩, by rw [b1, b2]; simp only [Bool.and_assoc]⟩
end Fen

namespace Fen
open Go Go.Proofs
theorem mainF_ok {w n K N : Nat} {h : Hd} (v : HV w n h) (hK : 2 ≤ K ∧ K ≤ 80) (hN : 1 ≤ N ∧ N ≤ 40) : mainF h K N = (sizedF h K N, 0) := by
 have z : sizeOK K N = true := by simp [sizeOK]; omega
 unfold mainF; rw [if_neg (by simp [v.valid]), if_neg (by simp [z])]; simp
theorem HV.ok {w n : Nat} {h : Hd} (v : HV w n h) : HdOK h := ⟨fun r hr => row_okF (v.past r hr).1, v.grid.rok⟩
theorem HV.fin {w n : Nat} {h : Hd} (v : HV w n h) : HdFin h := ⟨rowsFin_of (by have := v.pl; omega) fun r hr => row_lt (v.past r hr).1, v.grid.fin⟩
end Fen

namespace Fen
open Go Go.Proofs
end Fen

namespace Fen
open Go Go.Proofs
def rallSpec : Spec := { pre := fun args => ∃ h : Hd, args = [hdV h] ∧ heldF h = 0, res := fun args => match args with
 | [.agg cs] => .one (.val (rowsV (allH (hdOf cs))))
 | _ => .many [] }
def G_rall : Specs := []
@[simp] theorem G_rall_live : Specs.live G_rall = false := rfl
@[simp] theorem G_rall_nils : Specs.nils G_rall = false := rfl
theorem G_rall_ok (gl : Gl) : SpecsOK Tryd.prog gl G_rall := .nil _ _
set_option maxRecDepth 10000 in
theorem rall_sound (gl : Gl) : Sound Tryd.prog gl 62 rallSpec := by
 refine sound_fn (N := Tryd.f62.ntmps) (rs := Tryd.f62.results.toList) mixed tok (G_rall_ok gl) Tryd.func62 rfl rfl rfl rfl rfl ?_ ?_ ?_
 · rintro args ⟨h,rfl,hv⟩; simp [hdV,hdC, Tryd.f62]
 · rintro args ⟨h,rfl,hv⟩; simp [hdV,hdC, rallSpec, Tryd.f62]
 · rintro args ⟨h,rfl,hv⟩ bs hgl hh hro
   have hE : Env.OK ⟨Tryd.prog, T, G_rall, bs⟩ := ⟨tok, by rw [hgl]; exact G_rall_ok gl⟩
   simp only [rallSpec, hdV,hdC]
   have v := HV.of hv
   have eo := hdOf_C h
   have hl := v.len
   have hp := v.pl
   have n40 := v.grid.n40
   have ha : rowsC h.past ++ rowsC h.rows = rowsC (allH h) := (rowsC_app _ _).symm
   simp [and_assoc, rallSpec, Tryd.f62, eo, ha, rowsV, hl]
   exact ⟨by omega, by omega, by omega, by omega, by rfl⟩
def rgivesSpec : Spec := { pre := fun args => ∃ (h : Hd) (i : Nat), args = [hdV h, rowsV (allH h), .c (.int .i64 i)] ∧ heldF h = 0 ∧ i < (allH h).length, res := fun args => match args with
 | [.agg h, .c (.sl _ l), .c (.int _ i)] => .one (.val (.c (.int .i64 (giveF ((rowsOf l).getD i.toNat ⟨[], false⟩) ((rowsOf l)[i.toNat + 1]?) (decide (i.toNat = (hdOf h).past.length + (hdOf h).ar.toNat)) (hdOf h).ac.toNat))))
 | _ => .many [] }
def G_rgives : Specs := [(43, longSpec), (54, plainSpec)]
@[simp] theorem G_rgives_live : Specs.live G_rgives = false := rfl
@[simp] theorem G_rgives_nils : Specs.nils G_rgives = false := rfl
@[simp] theorem G_rgives_43 : G_rgives.find 43 = some longSpec := rfl
@[simp] theorem G_rgives_54 : G_rgives.find 54 = some plainSpec := rfl
theorem G_rgives_ok (gl : Gl) : SpecsOK Tryd.prog gl G_rgives := .cons (rlong_sound gl) (.cons (rplain_sound gl) (.nil _ _))
set_option maxRecDepth 10000 in
theorem rgives_sound (gl : Gl) : Sound Tryd.prog gl 63 rgivesSpec := by
 refine sound_fn (N := Tryd.f63.ntmps) (rs := Tryd.f63.results.toList) mixed tok (G_rgives_ok gl) Tryd.func63 rfl rfl rfl rfl rfl ?_ ?_ ?_
 · rintro args ⟨h,i,rfl,hv,hi⟩; simp [hdV,hdC,rowsV, Tryd.f63]
 · rintro args ⟨h,i,rfl,hv,hi⟩; simp [hdV,hdC,rowsV, rgivesSpec, Tryd.f63]
 · rintro args ⟨h,i,rfl,hv,hi⟩ bs hgl hh hro
   have hE : Env.OK ⟨Tryd.prog, T, G_rgives, bs⟩ := ⟨tok, by rw [hgl]; exact G_rgives_ok gl⟩
   simp only [rgivesSpec, hdV,hdC,rowsV]
   have v := HV.of hv
   have eo := hdOf_C h
   have hl := v.len
   have hp := v.pl
   have n40 := v.grid.n40
   have r0 := v.r0
   have r1 := v.r1
   have c0 := v.c0
   have c1 := v.c1
   have w2 := v.grid.w2
   have hdr := rowsC_at hi
   obtain ⟨hrv, hrl⟩ := v.all _ (List.getElem_mem hi)
   have hg : (allH h)[i]?.getD ⟨[], false⟩ = (allH h)[i] := by simp [hi]
   have er := rowOf_C (allH h)[i]
   generalize (allH h)[i] = r at *
   simp only [rowC] at hdr er
   have eP : ((i : Int) = (h.past.length : Int) + h.ar) = (i = h.past.length + h.ar.toNat) := by simp only [eq_iff_iff]; omega
   have wP : IntKind.i64.wrap ((h.past.length : Int) + h.ar) = (h.past.length : Int) + h.ar := wrap64 _ (by omega) (by omega)
   have wc : IntKind.i64.wrap (h.ac + 1) = h.ac + 1 := wrap64 _ (by omega) (by omega)
   cases hw : r.wrapped
   · rw [hw] at er
     have hrc : ∃ x : Rw, [C.sl r.cells.length (celsC r.cells), C.bool false] = rowC x ∧ x.cells.length ≤ 1000000 := ⟨r, by rw [← hw]; rfl, by omega⟩
     by_cases e : i = h.past.length + h.ar.toNat
     · have e' : (i = h.past.length + h.ar.toNat) = True := eq_true e
       simp [and_assoc, rgivesSpec, longSpec, plainSpec, Tryd.f63, eo, hdr, hg, er, hw, eP, wP, wc, e', giveF, rowsOf_C]
       exact ⟨hi, hrc, by split <;> omega⟩
     · have e' : (i = h.past.length + h.ar.toNat) = False := eq_false e
       simp [and_assoc, rgivesSpec, longSpec, plainSpec, Tryd.f63, eo, hdr, hg, er, hw, eP, wP, wc, e', giveF, rowsOf_C]
       exact ⟨hi, hrc⟩
   · have hk1 : r.cells.length - 1 < r.cells.length := by omega
     have hcl := celsC_at hk1
     have wl : IntKind.i64.wrap ((r.cells.length : Int) - 1) = ((r.cells.length - 1 : Nat) : Int) := by rw [wrap64 _ (by omega) (by omega)]; omega
     have wi : IntKind.i64.wrap ((i : Int) + 1) = (i : Int) + 1 := wrap64 _ (by omega) (by omega)
     have hcat := cat_eq hk1
     generalize r.cells[r.cells.length - 1] = z at *
     by_cases e : i + 1 < (allH h).length
     · have e' : ((i : Int) + 1 < (allH h).length) = True := eq_true (by omega)
       have hdn := rowsC_at e
       obtain ⟨hsv, hsl⟩ := v.all _ (List.getElem_mem e)
       have hn : (allH h)[i + 1]? = some (allH h)[i + 1] := List.getElem?_eq_getElem e
       generalize (allH h)[i + 1] = s at *
       have hs0 : 0 < s.cells.length := by omega
       have hcs := celsC_at hs0
       have hcat2 := cat_eq hs0
       have hwd : ∀ d, (celsC s.cells)[3]?.getD d = .int .i64 s.cells[0].wide := fun d => by
         have := hcs
         rw [Nat.zero_mul, List.drop_zero] at this
         rw [this]; rfl
       generalize s.cells[0] = y at *
       simp only [rowC] at hdn
       simp [and_assoc, rgivesSpec, longSpec, plainSpec, Tryd.f63, eo, hdr, hdn, hg, hw, wl, wi, e', hcl, giveF, rowsOf_C, hn, wideQ, hcat, hcat2, hwd]
       exact ⟨hi, hk1, fun q => ⟨q, by omega⟩, fun q => ⟨q, hs0⟩, fun q => ⟨q, by omega⟩, by rfl, fun q1 q2 => by rw [if_pos ⟨q2, q1⟩], fun q => by rw [if_neg (fun e => q e.2 e.1)]⟩
     · have e' : ((i : Int) + 1 < (allH h).length) = False := eq_false (by omega)
       have ho : ∀ d : C, (rowsC (allH h))[(i + 1) * 2]?.getD d = d := fun d => by rw [List.getElem?_eq_none (by simp; omega)]; rfl
       have hn : (allH h)[i + 1]? = none := List.getElem?_eq_none (by omega)
       simp [and_assoc, rgivesSpec, longSpec, plainSpec, Tryd.f63, eo, hdr, hg, hw, wl, wi, e', hcl, giveF, rowsOf_C, hn, wideQ, ho]
       exact ⟨hi, by rfl⟩
def lnC (l : Ln) : List C := [.sl l.cells.length (celsC l.cells), .bool l.opn, .int .i64 l.at', .int .i64 l.fst]
def lnsC (l : List Ln) : List C := l.flatMap lnC
@[simp] theorem lnsC_len (l : List Ln) : (lnsC l).length = l.length * 4 := by
 induction l with
 | nil => rfl
 | cons x l ih => simp only [lnsC, List.flatMap_cons, List.length_append] at ih ⊢; rw [ih]; simp [lnC]; omega
theorem lnsC_snoc (l : List Ln) (x : Ln) : lnsC (l ++ [x]) = lnsC l ++ lnC x := by simp [lnsC]
def rlinesSpec : Spec := { pre := fun args => ∃ h : Hd, args = [hdV h] ∧ heldF h = 0, res := fun args => match args with
 | [.agg cs] => .one (.val (.c (.sl (linesH (hdOf cs)).length (lnsC (linesH (hdOf cs))))))
 | _ => .many [] }
def rlS (h : Hd) (y : Nat × List Ln × Ln) : St :=
 ⟨85, [(1, .ptr 0 0 0), (3, .val (.sl (allH h).length (rowsC (allH h)))), (4, .ref 1 0), (5, .ptr 2 0 0), (6, .val (.int .i64 y.1))],
   [.box 35 ((hdC h).map .val), .sl 105 0 true 4 y.2.1.length (lnsC y.2.1), .box 105 [.ref 3 0, .val (.bool y.2.2.opn), .val (.int .i64 y.2.2.at'), .val (.int .i64 y.2.2.fst)],
     .sl 77 0 true 12 y.2.2.cells.length (celsC y.2.2.cells)]⟩
structure RlI (h : Hd) (y : Nat × List Ln × Ln) : Prop where
 run : linesH h = y.2.1 ++ runF h.past.length (h.past.length + h.ar.toNat) h.ac.toNat ((allH h).drop y.1) y.1 y.2.2
 i : y.1 ≤ (allH h).length
 len : y.2.2.cells.length ≤ 80 * y.1
 out : y.2.1.length ≤ y.1
def G_rlines : Specs := [(62, (nilsOf rallSpec)), (63, rgivesSpec)]
@[simp] theorem G_rlines_live : Specs.live G_rlines = false := rfl
@[simp] theorem G_rlines_nils : Specs.nils G_rlines = true := rfl
@[simp] theorem G_rlines_62 : G_rlines.find 62 = some (nilsOf rallSpec) := rfl
@[simp] theorem G_rlines_63 : G_rlines.find 63 = some rgivesSpec := rfl
theorem G_rlines_ok (gl : Gl) : SpecsOK Tryd.prog gl G_rlines := .cons (rall_sound gl).nils (.cons (rgives_sound gl) (.nil _ _))
set_option maxHeartbeats 8000000 in
set_option maxRecDepth 10000 in
theorem rlines_sound (gl : Gl) : Sound Tryd.prog gl 42 rlinesSpec := by
 refine sound_fn (N := Tryd.f42.ntmps) (rs := Tryd.f42.results.toList) mixed tok (G_rlines_ok gl) Tryd.func42 rfl rfl rfl rfl rfl ?_ ?_ ?_
 · rintro args ⟨h,rfl,hv⟩; simp [hdV,hdC,rowsOf_C, Tryd.f42]
 · rintro args ⟨h,rfl,hv⟩; simp [hdV,hdC,rowsOf_C, rlinesSpec, Tryd.f42]
 · rintro args ⟨h,rfl,hv⟩ bs hgl hh hro
   have hE : Env.OK ⟨Tryd.prog, T, G_rlines, bs⟩ := ⟨tok, by rw [hgl]; exact G_rlines_ok gl⟩
   simp only [rlinesSpec, hdV,hdC,rowsOf_C]
   have v := HV.of hv
   have eo := hdOf_C h
   have hl := v.len
   have hp := v.pl
   have n40 := v.grid.n40
   have r0 := v.r0
   have r1 := v.r1
   have c0 := v.c0
   have c1 := v.c1
   have w2 := v.grid.w2
   simp [and_assoc, rlinesSpec, rallSpec, rgivesSpec, Tryd.f42, eo, rowsV]
   refine ⟨⟨h, rfl, hv⟩, ?_⟩
   refine AWP.rounds (RlI h) (rlS h) (fun y => (allH h).length - y.1) (0, [], ln0) ⟨rfl, Nat.zero_le _, Nat.le_refl _, Nat.le_refl _⟩ (Weak.trans (Weak.mkEmpty 1 0 77 12 (by decide) rfl rfl) (Weak.ren [some 0, none, some 1, some 2] (baseOK.nil hh) (by simp) (by simp [rlS, hdC, lnsC, ln0]) (by simp [rlS]))) ?_
   rintro ⟨i, out, x⟩ ⟨hrun, hi, hxl, hol⟩
   simp only at hrun hi hxl hol
   refine wpc_ok hE mixed _ _ _ ?_
   rcases Nat.lt_or_ge i (allH h).length with g | g
   · have i' : ((i : Int) < (allH h).length) = True := eq_true (by omega)
     have wi : IntKind.i64.wrap ((i : Int) + 1) = ((i + 1 : Nat) : Int) := by rw [wrap64 _ (by omega) (by omega)]; omega
     have wN : IntKind.i64.wrap (((allH h).length : Int) - 1) = (((allH h).length - 1 : Nat) : Int) := by rw [wrap64 _ (by omega) (by omega)]; omega
     have hdr := rowsC_at g
     obtain ⟨_, hrl⟩ := v.all _ (List.getElem_mem g)
     have hg : (allH h)[i]?.getD ⟨[], false⟩ = (allH h)[i] := by simp [g]
     have hra := run_at (P := h.past.length) (a := h.past.length + h.ar.toNat) (col := h.ac.toNat) x g
     rw [hra] at hrun
     generalize (allH h)[i] = r at *
     simp only [rowC] at hdr
     obtain ⟨n, hn⟩ : ∃ n, giveF r (allH h)[i + 1]? (decide (i = h.past.length + h.ar.toNat)) h.ac.toNat = n := ⟨_, rfl⟩
     have hgiv : ∀ b, b = decide (i = h.past.length + h.ar.toNat) → giveF r (allH h)[i + 1]? b h.ac.toNat = n := fun b e => by rw [e, hn]
     have hnl : n ≤ r.cells.length := by rw [← hn]; exact give_le (fun _ => by omega)
     have htk : List.take (n * 12) (celsC r.cells) = celsC (r.cells.take n) := celsC_take _ _
     have htl : (r.cells.take n).length = n := by simp; omega
     have hmin : (if (n : Int) < h.ac then (n : Int) else h.ac) = ((min h.ac.toNat n : Nat) : Int) := by split <;> omega
     have wat : IntKind.i64.wrap ((x.cells.length : Int) + ((min h.ac.toNat n : Nat) : Int)) = ((x.cells.length + min h.ac.toNat n : Nat) : Int) := by rw [wrap64 _ (by omega) (by omega)]; omega
     have eAi : ((i : Int) = (h.past.length : Int) + h.ar) = (i = h.past.length + h.ar.toNat) := by simp only [eq_iff_iff]; omega
     have wP : IntKind.i64.wrap ((h.past.length : Int) + h.ar) = (h.past.length : Int) + h.ar := wrap64 _ (by omega) (by omega)
     have hx : addF h.past.length (h.past.length + h.ar.toNat) h.ac.toNat i r (allH h)[i + 1]? x = ⟨x.cells ++ r.cells.take n, r.wrapped, if i = h.past.length + h.ar.toNat then ((x.cells.length + min h.ac.toNat n : Nat) : Int) else x.at', if i = h.past.length then (x.cells.length : Int) else x.fst⟩ := by
       unfold addF; rw [hn]
     by_cases eP : i = h.past.length
     · rw [if_pos eP] at hx
       have eP' : ((i : Int) = (h.past.length : Int)) = True := eq_true (by omega)
       by_cases eA : i = h.past.length + h.ar.toNat
       · rw [if_pos eA] at hx
         have eA' : (i = h.past.length + h.ar.toNat) = True := eq_true eA
         have hgt := hgiv true (by simp [eA])
         cases hw : r.wrapped
         · rw [hw] at hx
           simp [rlS, hdC, and_assoc, rallSpec, rgivesSpec, eo, rowsOf_C, i', hdr, hg, hgt, eP', eAi, wP, eA', htk, hmin, wat, hw, wi]
           exact ⟨⟨h, rfl, rfl, rfl, i, rfl, hv, g⟩, hnl, by omega, by omega, by omega, by rfl, by omega, by omega, Next.mk (i + 1, out ++ [⟨x.cells ++ r.cells.take n, false, ((x.cells.length + min h.ac.toNat n : Nat) : Int), (x.cells.length : Int)⟩], ln0) ⟨by rw [hrun, if_neg (by simp [hw]), hx]; simp, by simp only; omega, by simp [ln0], by simp; omega⟩ (by simp only; omega) (Weak.trans (Weak.mkEmpty 2 0 77 12 (by decide) rfl rfl) (Weak.ren [some 0, some 1, some 2, some 4] (baseOK.nil hh) (by simp) (by simp [lnsC_snoc, lnC, celsC_app, htl, ln0, hdC]) (by simp)))⟩
         · rw [hw] at hx
           by_cases eN : i + 1 < (allH h).length
           · have eN' : ((i : Int) = (((allH h).length - 1 : Nat) : Int)) = False := eq_false (by omega)
             simp [rlS, hdC, and_assoc, rallSpec, rgivesSpec, eo, rowsOf_C, i', hdr, hg, hgt, eP', eAi, wP, eA', htk, hmin, wat, hw, wi, wN, eN']
             exact ⟨⟨h, rfl, rfl, rfl, i, rfl, hv, g⟩, hnl, by omega, by omega, by omega, by rfl, Next.mk (i + 1, out, ⟨x.cells ++ r.cells.take n, true, ((x.cells.length + min h.ac.toNat n : Nat) : Int), (x.cells.length : Int)⟩) ⟨by rw [hrun, if_pos ⟨hw, eN⟩, hx], by simp only; omega, by simp; omega, by simp only; omega⟩ (by simp only; omega) (Weak.ren [some 0, some 1, some 2, some 3] (baseOK.nil hh) (by simp) (by simp [celsC_app, htl, hdC]) (by simp))⟩
           · have eN' : ((i : Int) = (((allH h).length - 1 : Nat) : Int)) = True := eq_true (by omega)
             simp [rlS, hdC, and_assoc, rallSpec, rgivesSpec, eo, rowsOf_C, i', hdr, hg, hgt, eP', eAi, wP, eA', htk, hmin, wat, hw, wi, wN, eN']
             exact ⟨⟨h, rfl, rfl, rfl, i, rfl, hv, g⟩, hnl, by omega, by omega, by omega, by rfl, by omega, by omega, Next.mk (i + 1, out ++ [⟨x.cells ++ r.cells.take n, true, ((x.cells.length + min h.ac.toNat n : Nat) : Int), (x.cells.length : Int)⟩], ln0) ⟨by rw [hrun, if_neg (fun q => eN q.2), hx]; simp, by simp only; omega, by simp [ln0], by simp; omega⟩ (by simp only; omega) (Weak.trans (Weak.mkEmpty 2 0 77 12 (by decide) rfl rfl) (Weak.ren [some 0, some 1, some 2, some 4] (baseOK.nil hh) (by simp) (by simp [lnsC_snoc, lnC, celsC_app, htl, ln0, hdC]) (by simp)))⟩
       · rw [if_neg eA] at hx
         have eA' : (i = h.past.length + h.ar.toNat) = False := eq_false eA
         have hgt := hgiv false (by simp [eA])
         cases hw : r.wrapped
         · rw [hw] at hx
           simp [rlS, hdC, and_assoc, rallSpec, rgivesSpec, eo, rowsOf_C, i', hdr, hg, hgt, eP', eAi, wP, eA', htk, hmin, wat, hw, wi]
           exact ⟨⟨h, rfl, rfl, rfl, i, rfl, hv, g⟩, hnl, by omega, by omega, by omega, by rfl, by omega, by omega, Next.mk (i + 1, out ++ [⟨x.cells ++ r.cells.take n, false, x.at', (x.cells.length : Int)⟩], ln0) ⟨by rw [hrun, if_neg (by simp [hw]), hx]; simp, by simp only; omega, by simp [ln0], by simp; omega⟩ (by simp only; omega) (Weak.trans (Weak.mkEmpty 2 0 77 12 (by decide) rfl rfl) (Weak.ren [some 0, some 1, some 2, some 4] (baseOK.nil hh) (by simp) (by simp [lnsC_snoc, lnC, celsC_app, htl, ln0, hdC]) (by simp)))⟩
         · rw [hw] at hx
           by_cases eN : i + 1 < (allH h).length
           · have eN' : ((i : Int) = (((allH h).length - 1 : Nat) : Int)) = False := eq_false (by omega)
             simp [rlS, hdC, and_assoc, rallSpec, rgivesSpec, eo, rowsOf_C, i', hdr, hg, hgt, eP', eAi, wP, eA', htk, hmin, wat, hw, wi, wN, eN']
             exact ⟨⟨h, rfl, rfl, rfl, i, rfl, hv, g⟩, hnl, by omega, by omega, by omega, by rfl, Next.mk (i + 1, out, ⟨x.cells ++ r.cells.take n, true, x.at', (x.cells.length : Int)⟩) ⟨by rw [hrun, if_pos ⟨hw, eN⟩, hx], by simp only; omega, by simp; omega, by simp only; omega⟩ (by simp only; omega) (Weak.ren [some 0, some 1, some 2, some 3] (baseOK.nil hh) (by simp) (by simp [celsC_app, htl, hdC]) (by simp))⟩
           · have eN' : ((i : Int) = (((allH h).length - 1 : Nat) : Int)) = True := eq_true (by omega)
             simp [rlS, hdC, and_assoc, rallSpec, rgivesSpec, eo, rowsOf_C, i', hdr, hg, hgt, eP', eAi, wP, eA', htk, hmin, wat, hw, wi, wN, eN']
             exact ⟨⟨h, rfl, rfl, rfl, i, rfl, hv, g⟩, hnl, by omega, by omega, by omega, by rfl, by omega, by omega, Next.mk (i + 1, out ++ [⟨x.cells ++ r.cells.take n, true, x.at', (x.cells.length : Int)⟩], ln0) ⟨by rw [hrun, if_neg (fun q => eN q.2), hx]; simp, by simp only; omega, by simp [ln0], by simp; omega⟩ (by simp only; omega) (Weak.trans (Weak.mkEmpty 2 0 77 12 (by decide) rfl rfl) (Weak.ren [some 0, some 1, some 2, some 4] (baseOK.nil hh) (by simp) (by simp [lnsC_snoc, lnC, celsC_app, htl, ln0, hdC]) (by simp)))⟩
     · rw [if_neg eP] at hx
       have eP' : ((i : Int) = (h.past.length : Int)) = False := eq_false (by omega)
       by_cases eA : i = h.past.length + h.ar.toNat
       · rw [if_pos eA] at hx
         have eA' : (i = h.past.length + h.ar.toNat) = True := eq_true eA
         have hgt := hgiv true (by simp [eA])
         cases hw : r.wrapped
         · rw [hw] at hx
           simp [rlS, hdC, and_assoc, rallSpec, rgivesSpec, eo, rowsOf_C, i', hdr, hg, hgt, eP', eAi, wP, eA', htk, hmin, wat, hw, wi]
           exact ⟨⟨h, rfl, rfl, rfl, i, rfl, hv, g⟩, hnl, by omega, by omega, by omega, by rfl, by omega, by omega, Next.mk (i + 1, out ++ [⟨x.cells ++ r.cells.take n, false, ((x.cells.length + min h.ac.toNat n : Nat) : Int), x.fst⟩], ln0) ⟨by rw [hrun, if_neg (by simp [hw]), hx]; simp, by simp only; omega, by simp [ln0], by simp; omega⟩ (by simp only; omega) (Weak.trans (Weak.mkEmpty 2 0 77 12 (by decide) rfl rfl) (Weak.ren [some 0, some 1, some 2, some 4] (baseOK.nil hh) (by simp) (by simp [lnsC_snoc, lnC, celsC_app, htl, ln0, hdC]) (by simp)))⟩
         · rw [hw] at hx
           by_cases eN : i + 1 < (allH h).length
           · have eN' : ((i : Int) = (((allH h).length - 1 : Nat) : Int)) = False := eq_false (by omega)
             simp [rlS, hdC, and_assoc, rallSpec, rgivesSpec, eo, rowsOf_C, i', hdr, hg, hgt, eP', eAi, wP, eA', htk, hmin, wat, hw, wi, wN, eN']
             exact ⟨⟨h, rfl, rfl, rfl, i, rfl, hv, g⟩, hnl, by omega, by omega, by omega, by rfl, Next.mk (i + 1, out, ⟨x.cells ++ r.cells.take n, true, ((x.cells.length + min h.ac.toNat n : Nat) : Int), x.fst⟩) ⟨by rw [hrun, if_pos ⟨hw, eN⟩, hx], by simp only; omega, by simp; omega, by simp only; omega⟩ (by simp only; omega) (Weak.ren [some 0, some 1, some 2, some 3] (baseOK.nil hh) (by simp) (by simp [celsC_app, htl, hdC]) (by simp))⟩
           · have eN' : ((i : Int) = (((allH h).length - 1 : Nat) : Int)) = True := eq_true (by omega)
             simp [rlS, hdC, and_assoc, rallSpec, rgivesSpec, eo, rowsOf_C, i', hdr, hg, hgt, eP', eAi, wP, eA', htk, hmin, wat, hw, wi, wN, eN']
             exact ⟨⟨h, rfl, rfl, rfl, i, rfl, hv, g⟩, hnl, by omega, by omega, by omega, by rfl, by omega, by omega, Next.mk (i + 1, out ++ [⟨x.cells ++ r.cells.take n, true, ((x.cells.length + min h.ac.toNat n : Nat) : Int), x.fst⟩], ln0) ⟨by rw [hrun, if_neg (fun q => eN q.2), hx]; simp, by simp only; omega, by simp [ln0], by simp; omega⟩ (by simp only; omega) (Weak.trans (Weak.mkEmpty 2 0 77 12 (by decide) rfl rfl) (Weak.ren [some 0, some 1, some 2, some 4] (baseOK.nil hh) (by simp) (by simp [lnsC_snoc, lnC, celsC_app, htl, ln0, hdC]) (by simp)))⟩
       · rw [if_neg eA] at hx
         have eA' : (i = h.past.length + h.ar.toNat) = False := eq_false eA
         have hgt := hgiv false (by simp [eA])
         cases hw : r.wrapped
         · rw [hw] at hx
           simp [rlS, hdC, and_assoc, rallSpec, rgivesSpec, eo, rowsOf_C, i', hdr, hg, hgt, eP', eAi, wP, eA', htk, hmin, wat, hw, wi]
           exact ⟨⟨h, rfl, rfl, rfl, i, rfl, hv, g⟩, hnl, by omega, by omega, by omega, by rfl, by omega, by omega, Next.mk (i + 1, out ++ [⟨x.cells ++ r.cells.take n, false, x.at', x.fst⟩], ln0) ⟨by rw [hrun, if_neg (by simp [hw]), hx]; simp, by simp only; omega, by simp [ln0], by simp; omega⟩ (by simp only; omega) (Weak.trans (Weak.mkEmpty 2 0 77 12 (by decide) rfl rfl) (Weak.ren [some 0, some 1, some 2, some 4] (baseOK.nil hh) (by simp) (by simp [lnsC_snoc, lnC, celsC_app, htl, ln0, hdC]) (by simp)))⟩
         · rw [hw] at hx
           by_cases eN : i + 1 < (allH h).length
           · have eN' : ((i : Int) = (((allH h).length - 1 : Nat) : Int)) = False := eq_false (by omega)
             simp [rlS, hdC, and_assoc, rallSpec, rgivesSpec, eo, rowsOf_C, i', hdr, hg, hgt, eP', eAi, wP, eA', htk, hmin, wat, hw, wi, wN, eN']
             exact ⟨⟨h, rfl, rfl, rfl, i, rfl, hv, g⟩, hnl, by omega, by omega, by omega, by rfl, Next.mk (i + 1, out, ⟨x.cells ++ r.cells.take n, true, x.at', x.fst⟩) ⟨by rw [hrun, if_pos ⟨hw, eN⟩, hx], by simp only; omega, by simp; omega, by simp only; omega⟩ (by simp only; omega) (Weak.ren [some 0, some 1, some 2, some 3] (baseOK.nil hh) (by simp) (by simp [celsC_app, htl, hdC]) (by simp))⟩
           · have eN' : ((i : Int) = (((allH h).length - 1 : Nat) : Int)) = True := eq_true (by omega)
             simp [rlS, hdC, and_assoc, rallSpec, rgivesSpec, eo, rowsOf_C, i', hdr, hg, hgt, eP', eAi, wP, eA', htk, hmin, wat, hw, wi, wN, eN']
             exact ⟨⟨h, rfl, rfl, rfl, i, rfl, hv, g⟩, hnl, by omega, by omega, by omega, by rfl, by omega, by omega, Next.mk (i + 1, out ++ [⟨x.cells ++ r.cells.take n, true, x.at', x.fst⟩], ln0) ⟨by rw [hrun, if_neg (fun q => eN q.2), hx]; simp, by simp only; omega, by simp [ln0], by simp; omega⟩ (by simp only; omega) (Weak.trans (Weak.mkEmpty 2 0 77 12 (by decide) rfl rfl) (Weak.ren [some 0, some 1, some 2, some 4] (baseOK.nil hh) (by simp) (by simp [lnsC_snoc, lnC, celsC_app, htl, ln0, hdC]) (by simp)))⟩
   · obtain rfl : i = (allH h).length := by omega
     have e : linesH h = out := by rw [hrun, List.drop_length, runF, List.append_nil]
     simp [rlS, e]
end Fen

namespace Fen
open Go Go.Proofs
theorem lnsC_at {l : List Ln} {i : Nat} (h : i < l.length) : (lnsC l).drop (i * 4) = lnC l[i] ++ lnsC (l.drop (i + 1)) := by
 have key : ∀ (l : List Ln) (i : Nat) (h : i < l.length), (lnsC l).drop (i * 4) = lnC l[i] ++ lnsC (l.drop (i + 1)) := by
   intro l
   induction l with
   | nil => intro i h; simp at h
   | cons x l ih =>
     intro i h
     have e : lnsC (x :: l) = lnC x ++ lnsC l := by simp [lnsC]
     cases i with
     | zero => simp [e]
     | succ i =>
       have := ih i (by simpa using h)
       rw [e, List.drop_append, List.drop_of_length_le (by simp [lnC]; omega), List.nil_append, show (i + 1) * 4 - (lnC x).length = i * 4 by simp [lnC]; omega, this]
       simp
 exact key l i h
def r90 (r : Rw) : Rw := ⟨r.cells.take (min r.cells.length 90), r.wrapped⟩
def bentF (x y : Int) (r : Rw) (p : Bool) (k : Int) (h : Hd) : Hd :=
 if p = true then ⟨h.past ++ [r90 r], h.rows, x, y⟩ else if 0 < k % 4 then ⟨h.past, h.rows.set (k % (h.rows.length : Int)).toNat (r90 r), x, y⟩ else ⟨h.past, h.rows, x, y⟩
def spV (x y : Int) (r : Rw) (p : Bool) (k : Int) : V := .agg [.int .i64 x, .int .i64 y, .sl r.cells.length (celsC r.cells), .bool r.wrapped, .bool p, .int .u8 k]
def bentSpec : Spec := { pre := fun args => ∃ (x y : Int) (r : Rw) (p : Bool) (k : Int) (h : Hd), args = [spV x y r p k, hdV h] ∧ 0 ≤ k ∧ k < 256 ∧ h.rows ≠ [] ∧ h.past.length ≤ 1000 ∧ h.rows.length ≤ 1000, res := fun args => match args with
 | [.agg [.int _ x, .int _ y, .sl _ c, .bool w, .bool p, .int _ k], .agg h] => .one (.val (hdV (bentF x y ⟨celsOf c, w⟩ p k (hdOf h))))
 | _ => .many [] }
def G_bent : Specs := []
@[simp] theorem G_bent_live : Specs.live G_bent = false := rfl
@[simp] theorem G_bent_nils : Specs.nils G_bent = false := rfl
theorem G_bent_ok (gl : Gl) : SpecsOK Tryd.prog gl G_bent := .nil _ _
set_option maxHeartbeats 2000000 in
set_option maxRecDepth 10000 in
theorem bent_sound (gl : Gl) : Sound Tryd.prog gl 11 bentSpec := by
 refine sound_awp (N := Tryd.f11.ntmps) (rs := Tryd.f11.results.toList) tok Tryd.func11 rfl rfl rfl rfl rfl ?_ ?_ ?_
 · rintro args ⟨x,y,r,p,k,h,rfl,k0,k1,hr,hp1,hp2⟩; simp [hdV,hdC,spV,celsOf_C, Tryd.f11]
 · rintro args ⟨x,y,r,p,k,h,rfl,k0,k1,hr,hp1,hp2⟩; simp [hdV,hdC,spV,celsOf_C, bentSpec, Tryd.f11]
 · rintro args ⟨x,y,r,p,k,h,rfl,k0,k1,hr,hp1,hp2⟩ bs hgl hh hro
   have hE : Env.OK ⟨Tryd.prog, T, G_bent, bs⟩ := ⟨tok, by rw [hgl]; exact G_bent_ok gl⟩
   simp only [bentSpec, hdV,hdC,spV,celsOf_C]
   have eo := hdOf_C h
   have hn : 0 < h.rows.length := by
     rcases Nat.eq_zero_or_pos h.rows.length with e | e
     · exact absurd (List.eq_nil_of_length_eq_zero e) hr
     · exact e
   obtain ⟨q, hq⟩ : ∃ q, min r.cells.length 90 = q := ⟨_, rfl⟩
   have hmin : (if 90 < (r.cells.length : Int) then (90 : Int) else (r.cells.length : Int)) = (q : Int) := by split <;> omega
   have tk : List.take (q * 12) (celsC r.cells) = celsC (r.cells.take q) := celsC_take _ _
   have e90 : rowC (r90 r) = [C.sl q (celsC (r.cells.take q)), C.bool r.wrapped] := by simp [r90, rowC, hq]; omega
   have ek := u8_tmod k0 4
   have wk4 : IntKind.u8.wrap (k % 4) = k % 4 := by simp [IntKind.wrap, IntKind.signed, IntKind.bits]; omega
   refine wpcU_ok hE mixed 9 _ _ _ ?_
   cases p
   · by_cases c : 0 < k % 4
     · have c' : (0 < k % 4) = True := eq_true c
       have wk : IntKind.i64.wrap k = k := wrap64 _ (by omega) (by omega)
       have en := u8_tmod k0 (h.rows.length : Int)
       have m1 := Int.emod_nonneg k (show (h.rows.length : Int) ≠ 0 by omega)
       have m2 := Int.emod_lt_of_pos k (show (0 : Int) < (h.rows.length : Int) by omega)
       have wkn : IntKind.i64.wrap (k % (h.rows.length : Int)) = k % (h.rows.length : Int) := wrap64 _ (by omega) (by omega)
       have nz : ¬ h.rows.length = 0 := by omega
       simp [and_assoc, bentSpec, Tryd.f11, eo, hmin, tk, ek, wk4, c', wk, en, wkn, nz]
       have eb : bentF x y ⟨r.cells, r.wrapped⟩ false k h = ⟨h.past, h.rows.set (k % (h.rows.length : Int)).toNat (r90 r), x, y⟩ := by unfold bentF; rw [if_neg (by simp), if_pos c]
       have hs := rowsC_set (l := h.rows) (k := (k % (h.rows.length : Int)).toNat) (by omega) (r90 r)
       rw [e90] at hs
       simp only [List.cons_append, List.nil_append] at hs
       refine ⟨by omega, by omega, by omega, by omega, by omega, by omega, by rfl, AWP.weaken (Weak.solid 1 4 1 rfl rfl rfl) (wpc_ok hE mixed _ _ _ ?_)⟩
       simp [eb, hs]
     · have c' : (0 < k % 4) = False := eq_false c
       simp [and_assoc, bentSpec, Tryd.f11, eo, hmin, tk, ek, wk4, c']
       have eb : bentF x y ⟨r.cells, r.wrapped⟩ false k h = ⟨h.past, h.rows, x, y⟩ := by unfold bentF; rw [if_neg (by simp), if_neg c]
       refine ⟨by omega, wpc_ok hE mixed _ _ _ ?_⟩
       simp [eb]
   · simp [and_assoc, bentSpec, Tryd.f11, eo, hmin, tk]
     have eb : bentF x y ⟨r.cells, r.wrapped⟩ true k h = ⟨h.past ++ [r90 r], h.rows, x, y⟩ := by unfold bentF; rw [if_pos rfl]
     have er : rowsC (h.past ++ [r90 r]) = rowsC h.past ++ [C.sl q (celsC (r.cells.take q)), C.bool r.wrapped] := by rw [rowsC_app, ← e90]; simp [rowsC]
     refine ⟨by omega, by omega, by omega, by omega, by omega, by rfl, AWP.weaken (Weak.solid 1 4 0 rfl rfl rfl) (wpc_ok hE mixed _ _ _ ?_)⟩
     simp [eb, er]
end Fen

namespace Fen
open Go Go.Proofs
theorem rnvb (h h' : List Blk) (ids : List (Option Nat)) (r r' : List X) : ∀ cs : List C, renXs h h' ids (cs.map X.val ++ r) (cs.map X.val ++ r') = renXs h h' ids r r'
 | [] => by simp
 | c :: cs => by simp [renXs, renX, rnvb h h' ids r r' cs]
def plC (l : List Cel) (K n : Nat) : List C := (List.range n).flatMap fun i => [.int .i64 (spotC K l i).1, .int .i64 (spotC K l i).2]
@[simp] theorem plC_len (l : List Cel) (K n : Nat) : (plC l K n).length = n * 2 := by
 induction n with
 | zero => rfl
 | succ n ih => simp only [plC] at ih ⊢; rw [List.range_succ, List.flatMap_append, List.length_append, ih]; simp; omega
theorem plC_succ (l : List Cel) (K n : Nat) : plC l K (n + 1) = plC l K n ++ [.int .i64 (spotC K l n).1, .int .i64 (spotC K l n).2] := by
 simp [plC, List.range_succ]
def rcutSpec : Spec := { pre := fun args => ∃ (l : Ln) (K : Nat), args = [lnV l, .c (.int .i64 K)] ∧ 2 ≤ K ∧ K ≤ 80 ∧ VL l.cells ∧ l.cells.length ≤ 11200, res := fun args => match args with
 | [.agg [.sl _ c, .bool o, _, _], .c (.int _ k)] => .many [.val (rowsV (wrapL k.toNat (celsOf c) o)), .val (.c (.sl (celsOf c).length (plC (celsOf c) k.toNat (celsOf c).length)))]
 | _ => .many [] }
def cuB (l : Ln) : Blk := .box 105 [.val (.sl l.cells.length (celsC l.cells)), .val (.bool l.opn), .val (.int .i64 l.at'), .val (.int .i64 l.fst)]
def cu0 (l : Ln) (K : Nat) : St :=
 ⟨129, [(1, .val (.int .i64 K)), (2, .ptr 0 0 0), (6, .ref 1 0), (7, .ref 2 0), (8, .val (.int .i64 0))], [cuB l, .slx 30 0 2 1 [.nil, .val (.bool false)], .sl 27 0 true 2 0 []]⟩
def cuS (l : Ln) (K : Nat) (i : Nat) : St :=
 ⟨129, [(1, .val (.int .i64 K)), (2, .ptr 0 0 0), (6, .ref 1 0), (7, .ref 2 0), (8, .val (.int .i64 i))],
   [cuB l, .slx 30 0 2 ((cutF K (l.cells.take i)).1.length + 1) ((rowsC (cutF K (l.cells.take i)).1).map .val ++ [.ref 3 0, .val (.bool false)]), .sl 27 0 true 2 i (plC l.cells K i),
     .sl 77 0 true 12 (cutF K (l.cells.take i)).2.length (celsC (cutF K (l.cells.take i)).2)]⟩
def cuL (l : Ln) (K : Nat) (i : Nat) (R : List Rw) (cs : List Cel) : St :=
 ⟨129, [(1, .val (.int .i64 K)), (2, .ptr 0 0 0), (6, .ref 1 0), (7, .ref 2 0), (8, .val (.int .i64 i))],
   [cuB l, .slx 30 0 2 (R.length + 1) ((rowsC R).map .val ++ [.ref 3 0, .val (.bool false)]), .sl 27 0 true 2 i (plC l.cells K i), .sl 77 0 true 12 cs.length (celsC cs)]⟩
def cuP (l : Ln) (K : Nat) (R : List Rw) (cs : List Cel) (j : Nat) : St :=
 ⟨129, [(1, .val (.int .i64 K)), (2, .ptr 0 0 0), (6, .ref 1 0), (7, .ref 2 0), (10, .val (.int .i64 R.length))],
   [cuB l, .slx 30 0 2 (R.length + 1) ((rowsC R).map .val ++ [.ref 3 0, .val (.bool false)]), .sl 27 0 true 2 l.cells.length (plC l.cells K l.cells.length), .sl 77 0 true 12 (cs.length + j) (celsC (cs ++ List.replicate j (blankF sty0)))]⟩
def cuH (l : Ln) (K : Nat) : List Blk := [cuB l, .sl 30 0 true 2 (wrapL K l.cells l.opn).length (rowsC (wrapL K l.cells l.opn)), .sl 27 0 true 2 l.cells.length (plC l.cells K l.cells.length)]
def cuN (l : Ln) (K : Nat) : St :=
 ⟨129, [(1, .val (.int .i64 K)), (2, .ptr 0 0 0), (6, .ref 1 0), (7, .ref 2 0), (10, .val (.int .i64 0))], [cuB l, .slx 30 0 2 1 [.nil, .val (.bool false)], .sl 27 0 true 2 0 []]⟩
def cuQ (l : Ln) (K : Nat) (R : List Rw) (cs : List Cel) (j : Nat) : St :=
 if l.cells.length = 0 ∧ j = 0 then cuN l K
 else cuP l K R cs j
def cuX (l : Ln) (K : Nat) (i : Nat) : St := if i = 0 then cu0 l K else cuS l K i
def G_rcut : Specs := [(54, (nilsOf (liveOf plainSpec)))]
@[simp] theorem G_rcut_live : Specs.live G_rcut = true := rfl
@[simp] theorem G_rcut_nils : Specs.nils G_rcut = true := rfl
@[simp] theorem G_rcut_54 : G_rcut.find 54 = some (nilsOf (liveOf plainSpec)) := rfl
theorem G_rcut_ok (gl : Gl) : SpecsOK Tryd.prog gl G_rcut := .cons (rplain_sound gl).live.nils (.nil _ _)
set_option maxHeartbeats 8000000 in
set_option maxRecDepth 10000 in
theorem rcut_sound (gl : Gl) : Sound Tryd.prog gl 69 rcutSpec := by
 refine sound_awp (N := Tryd.f69.ntmps) (rs := Tryd.f69.results.toList) tok Tryd.func69 rfl rfl rfl rfl rfl ?_ ?_ ?_
 · rintro args ⟨l,K,rfl,hK1,hK2,hv,hl⟩; simp [lnV, Tryd.f69]
 · rintro args ⟨l,K,rfl,hK1,hK2,hv,hl⟩; simp [lnV, rcutSpec, Tryd.f69]
 · rintro args ⟨l,K,rfl,hK1,hK2,hv,hl⟩ bs hgl hh hro
   have hE : Env.OK ⟨Tryd.prog, T, G_rcut, bs⟩ := ⟨tok, by rw [hgl]; exact G_rcut_ok gl⟩
   simp only [rcutSpec, lnV]
   have co : celsOf (celsC l.cells) = l.cells := celsOf_C l.cells
   refine wpcU_ok hE mixed 19 _ _ _ ?_
   simp [and_assoc, rcutSpec, plainSpec, Tryd.f69, co]
   have wK : IntKind.i64.wrap ((K : Int) - 1) = ((K - 1 : Nat) : Int) := by rw [wrap64 _ (by omega) (by omega)]; omega
   refine AWP.rounds (fun i => i ≤ l.cells.length) (cuX l K) (fun i => l.cells.length - i) 0 (by omega) ?_ ?_
   · exact Weak.ren [some 0, some 1, none] (baseOK.nil hh) (by simp) (by simp [cuX, cu0, cuB]) (by simp [cuX, cu0, cuB])
   · intro i hi
     refine wpc_ok hE mixed _ _ _ ?_
     rcases Nat.lt_or_ge i l.cells.length with g | g
     · have i' : ((i : Int) < l.cells.length) = True := eq_true (by omega)
       have wi : IntKind.i64.wrap ((i : Int) + 1) = (i : Int) + 1 := wrap64 _ (by omega) (by omega)
       have hd := celsC_at g
       have hcs := cut_step K g
       have hcl := cut_le hK1 (l.cells.take i)
       have hsp : spotC K l.cells i = ((cutF K (l.cells.take (i + 1))).1.length, (cutF K (l.cells.take (i + 1))).2.length - 1) := rfl
       have hpl := plC_succ l.cells K i
       have hwd : ∀ d, (celsC l.cells)[i * 12 + 3]?.getD d = .int .i64 l.cells[i].wide := fun d => by
         rw [← List.getElem?_drop, hd]; rfl
       rw [hsp] at hpl
       by_cases i0 : i = 0
       · subst i0
         have h1 := wideN_le l.cells[0]
         rw [List.take_zero, cut_nil] at hcs
         unfold putC at hcs
         rw [if_neg (by simp only [List.length_nil]; omega)] at hcs
         simp only [List.nil_append] at hcs
         rw [hcs] at hpl
         have k1 : ((0 : Int) = ((K - 1 : Nat) : Int)) = False := eq_false (by omega)
         have k2 : ((0 : Int) = (K : Int)) = False := eq_false (by omega)
         simp -implicitDefEqProofs [cuX, cu0, cuB, and_assoc, plainSpec, i', g, wi, wK, hd, hwd, k1, k2]
         refine ⟨by rfl, Next.mk 1 g (by omega) ?_⟩
         have W : ∀ st, Weak bs st (cuS l K 1) → Weak bs st (cuX l K 1) := fun st h => h
         refine W _ (Weak.ren [some 0, some 1, some 2, some 4] (baseOK.nil hh) (by simp) ?_ ?_)
         · have hs0 : spotC K l.cells 0 = (0, 0) := by rw [hsp, hcs]; rfl
           simp [hcs, hpl, hs0, cuB, plC, celsC_one, rowsC]
         · simp [cuB]
       · have hX : cuX l K i = cuS l K i := if_neg i0
         have hX' : cuX l K (i + 1) = cuS l K (i + 1) := rfl
         rw [hX]
         have hSi : ∀ R cs, cutF K (l.cells.take i) = (R, cs) → cuS l K i = cuL l K i R cs := fun R cs e => by simp [cuS, cuL, e]
         have hWn : ∀ R cs st, cutF K (l.cells.take (i + 1)) = (R, cs) → Weak bs st (cuL l K (i + 1) R cs) → Weak bs st (cuX l K (i + 1)) := fun R cs st e h => by
           rw [hX']; simpa [cuS, cuL, e] using h
         have c1 := hcl.1
         have c2 := hcl.2.2 (by rw [List.length_take]; omega)
         have c3 := hcl.2.1
         rw [List.length_take] at c3
         generalize hcut : cutF K (l.cells.take i) = cut at *
         obtain ⟨R, cs⟩ := cut
         rw [hSi R cs rfl]
         simp only at c1 c2 c3
         simp only [putC] at hcs
         have hwn : wideN l.cells[i] = if l.cells[i].wide = 1 then 2 else 1 := rfl
         have wR : IntKind.i64.wrap (R.length : Int) = (R.length : Int) := wrap64 _ (by omega) (by omega)
         generalize l.cells[i] = x at *
         have dr1 : ∀ (a b : X), List.drop (R.length * 2 + 1) ((rowsC R).map X.val ++ [a, b]) = [b] := fun a b => by
           rw [List.drop_append, List.drop_of_length_le (by simp)]; simp [show R.length * 2 + 1 - R.length * 2 = 1 by omega]
         have wR1 : IntKind.i64.wrap ((R.length : Int) + 1) = ((R.length + 1 : Nat) : Int) := by rw [wrap64 _ (by omega) (by omega)]; omega
         have tk1 : ∀ (a b : X), List.take (R.length * 2 + 1) ((rowsC R).map X.val ++ [a, b]) = (rowsC R).map X.val ++ [a] := fun a b => by
           rw [List.take_append, List.take_of_length_le (by simp)]; simp [show R.length * 2 + 1 - R.length * 2 = 1 by omega]
         have dr2 : ∀ (a b : X), List.drop (R.length * 2 + 1 + 1) ((rowsC R).map X.val ++ [a, b]) = [] := fun a b => List.drop_eq_nil_of_le (by simp)
         have dr3 : ∀ (a b c d : X), List.drop ((R.length + 1) * 2) ((rowsC R).map X.val ++ [a, b, c, d]) = [c, d] := fun a b c d => by
           rw [List.drop_append, List.drop_of_length_le (by simp; omega)]; simp [show (R.length + 1) * 2 - R.length * 2 = 2 by omega]
         have dr4 : ∀ (a b c d : X), List.drop ((R.length + 1) * 2 + 1) ((rowsC R).map X.val ++ [a, b, c, d]) = [d] := fun a b c d => by
           rw [List.drop_append, List.drop_of_length_le (by simp; omega)]; simp [show (R.length + 1) * 2 + 1 - R.length * 2 = 3 by omega]
         have tk3 : ∀ (a b c d : X), List.take ((R.length + 1) * 2) ((rowsC R).map X.val ++ [a, b, c, d]) = (rowsC R).map X.val ++ [a, b] := fun a b c d => by
           rw [List.take_append, List.take_of_length_le (by simp; omega)]; simp [show (R.length + 1) * 2 - R.length * 2 = 2 by omega]
         have hset1 : ∀ (a b c d v : X), ((rowsC R).map X.val ++ [a, b, c, d]).set (R.length * 2) v = (rowsC R).map X.val ++ [v, b, c, d] := fun a b c d v => by
           rw [List.set_append_right _ _ (by simp)]; simp
         have hk4 : ∀ (a b c d : X), ((rowsC R).map X.val ++ [a, b, c, d])[R.length * 2]? = some a := fun a b c d => by
           rw [List.getElem?_append_right (by simp)]; simp
         by_cases w : K < cs.length + wideN x
         · rw [if_pos w] at hcs
           rw [hcs] at hpl
           have kk : ((cs.length : Int) = ((K - 1 : Nat) : Int)) = (cs.length + 1 = K) := by simp only [eq_iff_iff]; omega
           by_cases q : cs.length = K
           · have q1 : (cs.length + 1 = K) = False := eq_false (by omega)
             have k2 : ((cs.length : Int) = (K : Int)) = True := eq_true (by omega)
             have ep : padF K cs = cs := by unfold padF; rw [q]; simp
             rw [ep] at hcs hpl
             simp -implicitDefEqProofs [cuL, cuB, and_assoc, plainSpec, i', g, wi, wK, wR, wR1, tk1, dr1, dr2, dr3, dr4, tk3, hd, hwd, kk, k2, q1]
             refine ⟨by omega, by omega, by omega, by omega, by omega, by omega, by omega, by omega, by omega, by omega, by omega, by omega, by rfl, Next.mk (i + 1) g (by omega) (hWn _ _ _ hcs (Weak.trans (Weak.solidX 1 3 (R.length * 2) rfl (hk4 _ _ _ _) rfl) ?_))⟩
             simp only [List.set_cons_succ, List.set_cons_zero, hset1]
             exact Weak.ren [some 0, some 1, some 2, some 6] (baseOK.nil hh) (by simp) (by simp [rnvb, hpl, cuB, celsC_app, celsC_one, rowsC_app, rowsC, rowC]) (by simp [cuB])
           · have wx : x.wide = 1 := by
               rcases Decidable.em (x.wide = 1) with e | e
               · exact e
               · rw [hwn, if_neg e] at w; omega
             have hq : cs.length + 1 = K := by rw [hwn, if_pos wx] at w; omega
             have wx' : (x.wide = 1) = True := eq_true wx
             have q1 : (cs.length + 1 = K) = True := eq_true hq
             have k2 : ((cs.length : Int) + 1 = (K : Int)) = True := eq_true (by omega)
             have ep : padF K cs = cs ++ [blankF sty0] := by unfold padF; rw [show K - cs.length = 1 by omega]; rfl
             rw [ep] at hcs hpl
             simp -implicitDefEqProofs [cuL, cuB, and_assoc, plainSpec, i', g, wi, wK, wR, wR1, tk1, dr1, dr2, dr3, dr4, tk3, hd, hwd, kk, k2, q1, wx']
             refine ⟨by omega, by omega, by omega, by omega, by rfl, by omega, by omega, by omega, by omega, by omega, by omega, by omega, by omega, by omega, by omega, by omega, by omega, by rfl, Next.mk (i + 1) g (by omega) (hWn _ _ _ hcs (Weak.trans (Weak.solidX 1 3 (R.length * 2) rfl (hk4 _ _ _ _) rfl) ?_))⟩
             simp only [List.set_cons_succ, List.set_cons_zero, hset1]
             exact Weak.ren [some 0, some 1, some 2, some 6] (baseOK.nil hh) (by simp) (by simp [rnvb, hpl, cuB, celsC_app, celsC_one, rowsC_app, rowsC, rowC]) (by simp [cuB])
         · rw [if_neg w] at hcs
           rw [hcs] at hpl
           have kk : ((cs.length : Int) = ((K - 1 : Nat) : Int)) = (cs.length + 1 = K) := by simp only [eq_iff_iff]; omega
           have k2 : ((cs.length : Int) = (K : Int)) = False := eq_false (by have := wideN_le x; omega)
           by_cases wd : x.wide = 1
           · have wd' : (x.wide = 1) = True := eq_true wd
             have q1 : (cs.length + 1 = K) = False := eq_false (by rw [hwn, if_pos wd] at w; omega)
             simp -implicitDefEqProofs [cuL, cuB, and_assoc, plainSpec, i', g, wi, wK, wR, hd, hwd, kk, k2, wd', q1]
             exact ⟨by omega, by omega, by omega, by omega, by omega, by omega, by omega, by rfl, Next.mk (i + 1) g (by omega) (hWn _ _ _ hcs (Weak.ren [some 0, some 1, some 2, some 3] (baseOK.nil hh) (by simp) (by simp [rnvb, dr1, hpl, cuB, celsC_app, celsC_one]) (by simp [cuB])))⟩
           · have wd' : (x.wide = 1) = False := eq_false wd
             simp -implicitDefEqProofs [cuL, cuB, and_assoc, plainSpec, i', g, wi, wK, wR, hd, hwd, kk, k2, wd']
             exact ⟨by omega, by omega, by omega, by omega, by omega, by omega, by omega, by rfl, Next.mk (i + 1) g (by omega) (hWn _ _ _ hcs (Weak.ren [some 0, some 1, some 2, some 3] (baseOK.nil hh) (by simp) (by simp [rnvb, dr1, hpl, cuB, celsC_app, celsC_one]) (by simp [cuB])))⟩
     · obtain rfl : i = l.cells.length := by omega
       have hT : l.cells.take l.cells.length = l.cells := List.take_of_length_le (Nat.le_refl _)
       have hcl := cut_le hK1 l.cells
       have hwl : wrapL K l.cells l.opn = (cutF K l.cells).1 ++ [⟨padF K (cutF K l.cells).2, l.opn⟩] := rfl
       have hS0 : ∀ R cs, cutF K l.cells = (R, cs) → cuX l K l.cells.length = (if l.cells.length = 0 then cu0 l K else cuL l K l.cells.length R cs) := fun R cs e => by
         unfold cuX; split
         · rfl
         · simp [cuS, cuL, hT, e]
       have c3 := hcl.2.1
       have c1 := hcl.1
       have hemp : l.cells.length = 0 → cutF K l.cells = ([], []) := fun e => by rw [List.eq_nil_of_length_eq_zero e]; rfl
       generalize hcut : cutF K l.cells = cut at *
       obtain ⟨R, cs⟩ := cut
       rw [hS0 R cs rfl]
       simp only at c1 c3 hwl
       have wR : IntKind.i64.wrap (R.length : Int) = (R.length : Int) := wrap64 _ (by omega) (by omega)
       have i' : ((l.cells.length : Int) < l.cells.length) = False := eq_false (by omega)
       obtain ⟨m, hm⟩ : ∃ m, K - cs.length = m := ⟨_, rfl⟩
       have hP : padF K cs = cs ++ List.replicate m (blankF sty0) := by unfold padF; rw [hm]
       have dr1 : ∀ (a b : X), List.drop (R.length * 2 + 1) ((rowsC R).map X.val ++ [a, b]) = [b] := fun a b => by
         rw [List.drop_append, List.drop_of_length_le (by simp)]; simp [show R.length * 2 + 1 - R.length * 2 = 1 by omega]
       have tk1 : ∀ (a b : X), List.take (R.length * 2 + 1) ((rowsC R).map X.val ++ [a, b]) = (rowsC R).map X.val ++ [a] := fun a b => by
         rw [List.take_append, List.take_of_length_le (by simp)]; simp [show R.length * 2 + 1 - R.length * 2 = 1 by omega]
       have dr2 : ∀ (a b : X), List.drop (R.length * 2 + 1 + 1) ((rowsC R).map X.val ++ [a, b]) = [] := fun a b => List.drop_eq_nil_of_le (by simp)
       by_cases l0 : l.cells.length = 0
       · have e := hemp l0
         simp only [Prod.mk.injEq] at e
         obtain ⟨rfl, rfl⟩ := e
         rw [if_pos l0]
         have k0 : 0 < K := by omega
         have hm2 : K = m := by simpa using hm
         simp -implicitDefEqProofs [cu0, cuB, l0]
         have hQ0 : cuQ l K [] [] 0 = cuN l K := if_pos ⟨l0, rfl⟩
         refine AWP.leaves 2 (cuP l K [] [] m) (AWP.rounds (fun j => j ≤ m) (cuQ l K [] []) (fun j => m - j) 0 (Nat.zero_le _) (by rw [hQ0]; exact Weak.heap (by simp [cuN, cuP, cuB, l0, plC]) (by simp [cuN, cuP, cuB, l0])) ?_) ?_
         · intro j hj
           refine wpc_ok hE mixed _ _ _ ?_
           by_cases j0 : j = 0
           · subst j0
             rw [hQ0]
             simp -implicitDefEqProofs [cuN, cuB, and_assoc, plainSpec, l0, k0]
             exact ⟨by rfl, Next.mk 1 (by omega) (by omega) (by rw [show cuQ l K [] [] 1 = cuP l K [] [] 1 from if_neg (fun q => by omega)]; exact Weak.ren [some 0, some 1, some 2, some 3] (baseOK.nil hh) (by simp) (by simp [rnvb, cuB, celsC_one, l0, plC]) (by simp [cuB]))⟩
           have hQ : cuQ l K [] [] j = cuP l K [] [] j := if_neg (fun q => j0 q.2)
           have hQ' : cuQ l K [] [] (j + 1) = cuP l K [] [] (j + 1) := if_neg (fun q => by omega)
           rw [hQ]
           have er : celsC ([] ++ List.replicate (j + 1) (blankF sty0)) = celsC ([] ++ List.replicate j (blankF sty0)) ++ celC (blankF sty0) := by
             rw [List.replicate_succ', ← List.append_assoc, celsC_app, celsC_one]
           rcases Nat.lt_or_ge j m with c | c
           · have t1 : ((j : Int) < (K : Int)) = True := eq_true (by simp at hm; omega)
             simp -implicitDefEqProofs [cuP, cuB, and_assoc, plainSpec, t1, wR, dr1, er]
             have er0 : celsC (List.replicate (j + 1) (blankF sty0)) = celsC (List.replicate j (blankF sty0)) ++ celC (blankF sty0) := by simpa using er
             exact ⟨by omega, by omega, by rfl, Next.mk (j + 1) c (by omega) (by rw [hQ']; exact Weak.ren [some 0, some 1, some 2, some 3] (baseOK.nil hh) (by simp) (by simp [rnvb, cuB, celsC_app, er0, Nat.add_assoc]) (by simp [cuB]))⟩
           · obtain rfl : j = m := by omega
             have t1 : ((j : Int) < (K : Int)) = False := eq_false (by simp at hm; omega)
             simp -implicitDefEqProofs [cuP, cuB, and_assoc, plainSpec, t1, wR, dr1, er]
             exact Leaves.mk (Weak.heap rfl (by simp))
         · simp -implicitDefEqProofs [cuP, cuB, and_assoc, plainSpec, wR]
           refine AWP.weaken (Weak.trans (Weak.solidX 1 3 0 rfl rfl rfl) (Weak.ren (h' := cuH l K) (r' := [(6, .ref 1 0), (7, .ref 2 0)]) [some 0, some 1, some 2] (baseOK.nil hh) (by simp) ?_ ?_)) (wpc_ok hE mixed _ _ _ ?_)
           · simp [cuH, cuB, hwl, hP, rowsC, rowC]
           · simp [cuH]
           · simp [cuH, rowsV, l0]
       · rw [if_neg l0]
         simp -implicitDefEqProofs [cuL, cuB, wR]
         have hQ0 : cuQ l K R cs 0 = cuP l K R cs 0 := if_neg (fun q => l0 q.1)
         refine AWP.leaves 2 (cuP l K R cs m) (AWP.rounds (fun j => j ≤ m) (cuQ l K R cs) (fun j => m - j) 0 (Nat.zero_le _) (by rw [hQ0]; exact Weak.heap (by simp [cuN, cuP, cuB, l0, plC]) (by simp [cuN, cuP, cuB, l0])) ?_) ?_
         · intro j hj
           refine wpc_ok hE mixed _ _ _ ?_
           have hQ : cuQ l K R cs j = cuP l K R cs j := if_neg (fun q => l0 q.1)
           have hQ' : cuQ l K R cs (j + 1) = cuP l K R cs (j + 1) := if_neg (fun q => by omega)
           rw [hQ]
           have er : celsC (cs ++ List.replicate (j + 1) (blankF sty0)) = celsC (cs ++ List.replicate j (blankF sty0)) ++ celC (blankF sty0) := by
             rw [List.replicate_succ', ← List.append_assoc, celsC_app, celsC_one]
           rcases Nat.lt_or_ge j m with c | c
           · have t1 : ((cs.length : Int) + j < (K : Int)) = True := eq_true (by omega)
             simp -implicitDefEqProofs [cuP, cuB, and_assoc, plainSpec, t1, wR, dr1, er]
             exact ⟨by omega, by omega, by omega, by omega, by rfl, Next.mk (j + 1) c (by omega) (by rw [hQ']; exact Weak.ren [some 0, some 1, some 2, some 3] (baseOK.nil hh) (by simp) (by simp [rnvb, cuB, celsC_app, er, Nat.add_assoc]) (by simp [cuB]))⟩
           · obtain rfl : j = m := by omega
             have t1 : ((cs.length : Int) + j < (K : Int)) = False := eq_false (by omega)
             simp -implicitDefEqProofs [cuP, cuB, and_assoc, plainSpec, t1, wR, dr1, er]
             exact ⟨by omega, Leaves.mk (Weak.heap rfl (by simp))⟩
         · simp -implicitDefEqProofs [cuP, cuB, and_assoc, plainSpec, wR, tk1, dr2]
           have hk2 : ∀ a b : X, ((rowsC R).map X.val ++ [a, b])[R.length * 2]? = some a := fun a b => by rw [List.getElem?_append_right (by simp)]; simp
           have hs2 : ∀ a b v : X, ((rowsC R).map X.val ++ [a, b]).set (R.length * 2) v = (rowsC R).map X.val ++ [v, b] := fun a b v => by rw [List.set_append_right _ _ (by simp)]; simp
           refine ⟨by omega, AWP.weaken (Weak.trans (Weak.solidX 1 3 (R.length * 2) rfl (hk2 _ _) rfl) (Weak.ren (h' := cuH l K) (r' := [(6, .ref 1 0), (7, .ref 2 0)]) [some 0, some 1, some 2] (baseOK.nil hh) (by simp) ?_ ?_)) (wpc_ok hE mixed _ _ _ ?_)⟩
           · simp [cuH, cuB, hs2, hwl, hP, rowsC_app, rowsC, rowC]
           · simp [cuH, hs2]
           · simp [cuH, rowsV]
end Fen

namespace Fen
open Go Go.Proofs
theorem plC_at (l : List Cel) (K : Nat) {n i : Nat} (h : i < n) : ∃ rest, (plC l K n).drop (i * 2) = [C.int .i64 (spotC K l i).1, .int .i64 (spotC K l i).2] ++ rest := by
 induction n with
 | zero => omega
 | succ n ih =>
   rw [plC_succ]
   rcases Nat.lt_or_ge i n with c | c
   · obtain ⟨rest, e⟩ := ih c
     rw [List.drop_append, e, show i * 2 - (plC l K n).length = 0 by simp; omega]
     exact ⟨_, by rw [List.append_assoc]⟩
   · obtain rfl : i = n := by omega
     rw [List.drop_append, List.drop_of_length_le (by simp), show i * 2 - (plC l K i).length = 0 by simp]
     exact ⟨[], by simp⟩
def rallOSpec : Spec := { pre := rallSpec.pre, res := fun args => match args with
 | [.agg cs] => .one (.own 30 true 2 (allH (hdOf cs)).length (rowsC (allH (hdOf cs))))
 | _ => .many [] }
def G_rallO : Specs := []
@[simp] theorem G_rallO_live : Specs.live G_rallO = false := rfl
@[simp] theorem G_rallO_nils : Specs.nils G_rallO = false := rfl
theorem G_rallO_ok (gl : Gl) : SpecsOK Tryd.prog gl G_rallO := .nil _ _
set_option maxRecDepth 10000 in
theorem rallO_sound (gl : Gl) : Sound Tryd.prog gl 62 rallOSpec := by
 refine sound_fn (N := Tryd.f62.ntmps) (rs := Tryd.f62.results.toList) mixed tok (G_rallO_ok gl) Tryd.func62 rfl rfl rfl rfl rfl ?_ ?_ ?_
 · rintro args ⟨h,rfl,hv⟩; simp [hdV,hdC, Tryd.f62]
 · rintro args ⟨h,rfl,hv⟩; simp [hdV,hdC, rallOSpec, Tryd.f62]
 · rintro args ⟨h,rfl,hv⟩ bs hgl hh hro
   have hE : Env.OK ⟨Tryd.prog, T, G_rallO, bs⟩ := ⟨tok, by rw [hgl]; exact G_rallO_ok gl⟩
   simp only [rallOSpec, hdV,hdC]
   have v := HV.of hv
   have eo := hdOf_C h
   have hl := v.len
   have hp := v.pl
   have n40 := v.grid.n40
   have ha : rowsC h.past ++ rowsC h.rows = rowsC (allH h) := (rowsC_app _ _).symm
   simp [and_assoc, rallOSpec, Tryd.f62, eo, ha, hl]
   exact ⟨by omega, by omega, by omega, by omega, by rfl⟩
def ranewSpec : Spec := { pre := fun args => ∃ (h : Hd) (K : Nat), args = [hdV h, .c (.int .i64 K)] ∧ heldF h = 0 ∧ 2 ≤ K ∧ K ≤ 80, res := fun args => match args with
 | [.agg cs, .c (.int _ k)] => .many [.own 30 true 2 (anewF (hdOf cs) k.toNat).rows.length (rowsC (anewF (hdOf cs) k.toNat).rows), .val (.c (.int .i64 (anewF (hdOf cs) k.toNat).border)), .val (.agg [.int .i64 (anewF (hdOf cs) k.toNat).ar, .int .i64 (anewF (hdOf cs) k.toNat).ac])]
 | _ => .many [] }
def rwS (h : Hd) (K : Nat) (L : List Ln) (i : Nat) (W : Wh) : St :=
 ⟨123, [(1, .val (.int .i64 K)), (2, .ptr 0 0 0), (6, .ptr 1 0 0), (7, .ref 3 0), (8, .val (.int .i64 W.border)), (9, .ptr 2 0 0), (10, .val (.sl L.length (lnsC L))), (11, .val (.int .i64 i))],
   [.box 35 ((hdC h).map .val), .box 27 [.val (.int .i64 0), .val (.int .i64 0)], .box 27 [.val (.int .i64 W.ar), .val (.int .i64 W.ac)], .sl 30 0 true 2 W.rows.length (rowsC W.rows)]⟩
def G_ranew : Specs := [(62, rallOSpec), (42, rlinesSpec), (69, rcutSpec)]
@[simp] theorem G_ranew_live : Specs.live G_ranew = false := rfl
@[simp] theorem G_ranew_nils : Specs.nils G_ranew = false := rfl
@[simp] theorem G_ranew_62 : G_ranew.find 62 = some rallOSpec := rfl
@[simp] theorem G_ranew_42 : G_ranew.find 42 = some rlinesSpec := rfl
@[simp] theorem G_ranew_69 : G_ranew.find 69 = some rcutSpec := rfl
theorem G_ranew_ok (gl : Gl) : SpecsOK Tryd.prog gl G_ranew := .cons (rallO_sound gl) (.cons (rlines_sound gl) (.cons (rcut_sound gl) (.nil _ _)))
set_option maxHeartbeats 8000000 in
set_option maxRecDepth 10000 in
theorem ranew_sound (gl : Gl) : Sound Tryd.prog gl 48 ranewSpec := by
 refine sound_fn (N := Tryd.f48.ntmps) (rs := Tryd.f48.results.toList) mixed tok (G_ranew_ok gl) Tryd.func48 rfl rfl rfl rfl rfl ?_ ?_ ?_
 · rintro args ⟨h,K,rfl,hv,hK1,hK2⟩; simp [hdV,hdC,lnV, Tryd.f48]
 · rintro args ⟨h,K,rfl,hv,hK1,hK2⟩; simp [hdV,hdC,lnV, ranewSpec, Tryd.f48]
 · rintro args ⟨h,K,rfl,hv,hK1,hK2⟩ bs hgl hh hro
   have hE : Env.OK ⟨Tryd.prog, T, G_ranew, bs⟩ := ⟨tok, by rw [hgl]; exact G_ranew_ok gl⟩
   simp only [ranewSpec, hdV,hdC,lnV]
   have v := HV.of hv
   have eo := hdOf_C h
   obtain ⟨r0, hg0, hgl⟩ := headGV v.grid
   have c0 := v.c0
   have c1 := v.c1
   have q0 := v.r0
   have q1 := v.r1
   have hpl := v.pl
   have n40 := v.grid.n40
   have w2 := v.grid.w2
   by_cases e : K = colsG h.rows
   · have e' : ((K : Int) = ((colsG h.rows : Nat) : Int)) = True := eq_true (by omega)
     have ea : anewF h K = ⟨allH h, h.past.length, h.past.length + h.ar.toNat, h.ac.toNat⟩ := by rw [e]; exact anew_self v
     have m1 : max h.ar 0 = h.ar := by omega
     have m2 : max h.ac 0 = h.ac := by omega
     have wr : IntKind.i64.wrap ((h.past.length : Int) + h.ar) = (h.past.length : Int) + h.ar := wrap64 _ (by omega) (by omega)
     simp [and_assoc, ranewSpec, rallOSpec, rcutSpec, rlinesSpec, Tryd.f48, eo, hg0, e', ea, m1, m2, wr]
     exact ⟨hgl, ⟨h, rfl, hv⟩, by rfl⟩
   · have e' : ((K : Int) = ((colsG h.rows : Nat) : Int)) = False := eq_false (by omega)
     have ea : anewF h K = (linesH h).foldl (lineW K) wh0 := by unfold anewF; rw [if_neg e]
     have hcnt := v.lines_count
     have hlen := v.lines_len
     have hin := v.lines_in
     have hVL := v.lines_VL
     simp [and_assoc, ranewSpec, rallOSpec, rcutSpec, rlinesSpec, Tryd.f48, eo, hg0, e', ea]
     refine ⟨hgl, ⟨h, rfl, hv⟩, ?_⟩
     refine AWP.rounds (fun i => i ≤ (linesH h).length) (fun i => rwS h K (linesH h) i (((linesH h).take i).foldl (lineW K) wh0)) (fun i => (linesH h).length - i) 0 (by omega) (Weak.ren [some 0, some 1, some 2, none] (baseOK.nil hh) (by simp) (by simp [wh0, hdC, rowsC]) (by simp [wh0])) ?_
     intro i hi
     refine wpc_ok hE mixed _ _ _ ?_
     rcases Nat.lt_or_ge i (linesH h).length with g | g
     · have i' : ((i : Int) < (linesH h).length) = True := eq_true (by omega)
       have wi : IntKind.i64.wrap ((i : Int) + 1) = ((i + 1 : Nat) : Int) := by rw [wrap64 _ (by omega) (by omega)]; omega
       have hd := lnsC_at g
       have hm := List.getElem_mem g
       have l1 := hlen _ hm
       have l2 := hin _ hm
       have l3 := hVL _ hm
       have hfold : ((linesH h).take (i + 1)).foldl (lineW K) wh0 = lineW K (((linesH h).take i).foldl (lineW K) wh0) (linesH h)[i] := by
         rw [List.take_succ_eq_append_getElem g, List.foldl_append]; rfl
       have hWn : (((linesH h).take i).foldl (lineW K) wh0).rows.length ≤ 1900000 := by
         have h1 := fold_count hK1 ((linesH h).take i) wh0 11200 (fun x hx => hlen x (List.mem_of_mem_take hx))
         have h2 : ((linesH h).take i).length * 11201 ≤ 140 * 11201 := Nat.mul_le_mul (by simp; omega) (Nat.le_refl _)
         have h3 : wh0.rows.length = 0 := rfl
         omega
       generalize (linesH h)[i] = l at *
       generalize hWe : ((linesH h).take i).foldl (lineW K) wh0 = W at *
       have hcut := (cut_le hK1 l.cells).2.1
       have hwr : (wrapL K l.cells l.opn).length = (cutF K l.cells).1.length + 1 := wrap_len _ _
       have co : celsOf (celsC l.cells) = l.cells := celsOf_C l.cells
       have hat : atF K W l l.cells.length = if 0 ≤ l.at' then (W.rows.length + (spotC K l.cells l.at'.toNat).1, (spotC K l.cells l.at'.toNat).2) else (W.ar, W.ac) := by
         unfold atF
         by_cases c : 0 ≤ l.at'
         · rw [if_pos ⟨c, l2⟩, if_pos c]
         · rw [if_neg (fun q => c q.1), if_neg c]
       have hW2 : ((linesH h).take (i + 1)).foldl (lineW K) wh0 = ⟨W.rows ++ wrapL K l.cells l.opn, if 0 ≤ l.fst ∧ (l.cells.length : Int) ≤ l.fst ∧ 0 < l.cells.length then W.rows.length + (wrapL K l.cells l.opn).length else bordF K W l l.cells.length, (atF K W l l.cells.length).1, (atF K W l l.cells.length).2⟩ := hfold
       rw [hat] at hW2
       have hra : rowsC (W.rows ++ wrapL K l.cells l.opn) = rowsC W.rows ++ rowsC (wrapL K l.cells l.opn) := rowsC_app _ _
       obtain ⟨WL, hWL⟩ : ∃ WL, wrapL K l.cells l.opn = WL := ⟨_, rfl⟩
       rw [hWL] at hW2 hwr hra
       by_cases hF : 0 ≤ l.fst
       · obtain ⟨p, hp⟩ : ∃ p : Nat, l.fst = p := ⟨l.fst.toNat, by omega⟩
         have hF' : (0 ≤ l.fst) = True := eq_true hF
         by_cases hL : p < l.cells.length
         · have hL' : ((p : Int) < l.cells.length) = True := eq_true (by omega)
           have hpc := place_lt hK1 hL
           obtain ⟨rest, hpe⟩ := plC_at l.cells K hL
           have hbo : bordF K W l l.cells.length = W.rows.length + (spotC K l.cells p).1 := by unfold bordF; rw [if_pos hF, if_pos (by omega), hp, Int.toNat_natCast]
           rw [if_neg (by omega), hbo] at hW2
           have wb : IntKind.i64.wrap ((W.rows.length : Int) + ((spotC K l.cells p).1 : Nat)) = ((W.rows.length + (spotC K l.cells p).1 : Nat) : Int) := by rw [wrap64 _ (by omega) (by omega)]; omega
           by_cases hA : 0 ≤ l.at'
           · obtain ⟨u, hu⟩ : ∃ u : Nat, l.at' = u := ⟨l.at'.toNat, by omega⟩
             have hA' : (0 ≤ l.at') = True := eq_true hA
             have huc : u < l.cells.length := by omega
             have hus := place_lt hK1 huc
             obtain ⟨rest2, hue⟩ := plC_at l.cells K huc
             rw [if_pos hA, hu, Int.toNat_natCast] at hW2
             have wa : IntKind.i64.wrap ((W.rows.length : Int) + ((spotC K l.cells u).1 : Nat)) = ((W.rows.length + (spotC K l.cells u).1 : Nat) : Int) := by rw [wrap64 _ (by omega) (by omega)]; omega
             simp -implicitDefEqProofs [rwS, hdC, and_assoc, rallOSpec, rcutSpec, rlinesSpec, i', wi, hd, lnC, co, hWL, hA', hF', hu, hue, wa, hp, hL', hpe, wb]
             exact ⟨⟨l, by simp [lnV, hu, hp], K, rfl, hK1, hK2, l3, l1⟩, huc, by rfl, by omega, by omega, Next.mk (i + 1) (by omega) (by omega) (Weak.ren [some 0, some 1, some 2, some 3] (baseOK.nil hh) (by simp) (by simp [hW2, hra]) (by simp [hW2]))⟩
           · have hA' : (0 ≤ l.at') = False := eq_false hA
             rw [if_neg hA] at hW2
             simp -implicitDefEqProofs [rwS, hdC, and_assoc, rallOSpec, rcutSpec, rlinesSpec, i', wi, hd, lnC, co, hWL, hA', hF', hp, hL', hpe, wb]
             exact ⟨⟨l, by simp [lnV, hp], K, rfl, hK1, hK2, l3, l1⟩, by omega, by omega, Next.mk (i + 1) (by omega) (by omega) (Weak.ren [some 0, some 1, some 2, some 3] (baseOK.nil hh) (by simp) (by simp [hW2, hra]) (by simp [hW2]))⟩
         · have hL' : ((p : Int) < l.cells.length) = False := eq_false (by omega)
           have hbo : bordF K W l l.cells.length = W.rows.length := by unfold bordF; rw [if_pos hF, if_neg (by omega)]
           by_cases h0 : 0 < l.cells.length
           · have h0' : (0 < l.cells.length) = True := eq_true h0
             rw [if_pos ⟨hF, by omega, h0⟩] at hW2
             have wb : IntKind.i64.wrap ((W.rows.length : Int) + (WL.length : Nat)) = ((W.rows.length + WL.length : Nat) : Int) := by rw [wrap64 _ (by omega) (by omega)]; omega
             by_cases hA : 0 ≤ l.at'
             · obtain ⟨u, hu⟩ : ∃ u : Nat, l.at' = u := ⟨l.at'.toNat, by omega⟩
               have hA' : (0 ≤ l.at') = True := eq_true hA
               have huc : u < l.cells.length := by omega
               have hus := place_lt hK1 huc
               obtain ⟨rest2, hue⟩ := plC_at l.cells K huc
               rw [if_pos hA, hu, Int.toNat_natCast] at hW2
               have wa : IntKind.i64.wrap ((W.rows.length : Int) + ((spotC K l.cells u).1 : Nat)) = ((W.rows.length + (spotC K l.cells u).1 : Nat) : Int) := by rw [wrap64 _ (by omega) (by omega)]; omega
               simp -implicitDefEqProofs [rwS, hdC, and_assoc, rallOSpec, rcutSpec, rlinesSpec, i', wi, hd, lnC, co, hWL, hA', hF', hu, hue, wa, hp, hL', h0', wb]
               exact ⟨⟨l, by simp [lnV, hu, hp], K, rfl, hK1, hK2, l3, l1⟩, huc, by rfl, by omega, by omega, Next.mk (i + 1) (by omega) (by omega) (Weak.ren [some 0, some 1, some 2, some 3] (baseOK.nil hh) (by simp) (by simp [hW2, hra]) (by simp [hW2]))⟩
             · have hA' : (0 ≤ l.at') = False := eq_false hA
               rw [if_neg hA] at hW2
               simp -implicitDefEqProofs [rwS, hdC, and_assoc, rallOSpec, rcutSpec, rlinesSpec, i', wi, hd, lnC, co, hWL, hA', hF', hp, hL', h0', wb]
               exact ⟨⟨l, by simp [lnV, hp], K, rfl, hK1, hK2, l3, l1⟩, by omega, by omega, Next.mk (i + 1) (by omega) (by omega) (Weak.ren [some 0, some 1, some 2, some 3] (baseOK.nil hh) (by simp) (by simp [hW2, hra]) (by simp [hW2]))⟩
           · have h0' : (0 < l.cells.length) = False := eq_false h0
             rw [if_neg (fun q => h0 q.2.2), hbo] at hW2
             by_cases hA : 0 ≤ l.at'
             · obtain ⟨u, hu⟩ : ∃ u : Nat, l.at' = u := ⟨l.at'.toNat, by omega⟩
               have hA' : (0 ≤ l.at') = True := eq_true hA
               have huc : u < l.cells.length := by omega
               have hus := place_lt hK1 huc
               obtain ⟨rest2, hue⟩ := plC_at l.cells K huc
               rw [if_pos hA, hu, Int.toNat_natCast] at hW2
               have wa : IntKind.i64.wrap ((W.rows.length : Int) + ((spotC K l.cells u).1 : Nat)) = ((W.rows.length + (spotC K l.cells u).1 : Nat) : Int) := by rw [wrap64 _ (by omega) (by omega)]; omega
               simp -implicitDefEqProofs [rwS, hdC, and_assoc, rallOSpec, rcutSpec, rlinesSpec, i', wi, hd, lnC, co, hWL, hA', hF', hu, hue, wa, hp, hL', h0']
               exact ⟨⟨l, by simp [lnV, hu, hp], K, rfl, hK1, hK2, l3, l1⟩, huc, by rfl, by omega, by omega, Next.mk (i + 1) (by omega) (by omega) (Weak.ren [some 0, some 1, some 2, some 3] (baseOK.nil hh) (by simp) (by simp [hW2, hra]) (by simp [hW2]))⟩
             · have hA' : (0 ≤ l.at') = False := eq_false hA
               rw [if_neg hA] at hW2
               simp -implicitDefEqProofs [rwS, hdC, and_assoc, rallOSpec, rcutSpec, rlinesSpec, i', wi, hd, lnC, co, hWL, hA', hF', hp, hL', h0']
               exact ⟨⟨l, by simp [lnV, hp], K, rfl, hK1, hK2, l3, l1⟩, by omega, by omega, Next.mk (i + 1) (by omega) (by omega) (Weak.ren [some 0, some 1, some 2, some 3] (baseOK.nil hh) (by simp) (by simp [hW2, hra]) (by simp [hW2]))⟩
       · have hF' : (0 ≤ l.fst) = False := eq_false hF
         have hbo : bordF K W l l.cells.length = W.border := by unfold bordF; rw [if_neg hF]
         rw [if_neg (fun q => hF q.1), hbo] at hW2
         by_cases hA : 0 ≤ l.at'
         · obtain ⟨u, hu⟩ : ∃ u : Nat, l.at' = u := ⟨l.at'.toNat, by omega⟩
           have hA' : (0 ≤ l.at') = True := eq_true hA
           have huc : u < l.cells.length := by omega
           have hus := place_lt hK1 huc
           obtain ⟨rest2, hue⟩ := plC_at l.cells K huc
           rw [if_pos hA, hu, Int.toNat_natCast] at hW2
           have wa : IntKind.i64.wrap ((W.rows.length : Int) + ((spotC K l.cells u).1 : Nat)) = ((W.rows.length + (spotC K l.cells u).1 : Nat) : Int) := by rw [wrap64 _ (by omega) (by omega)]; omega
           simp -implicitDefEqProofs [rwS, hdC, and_assoc, rallOSpec, rcutSpec, rlinesSpec, i', wi, hd, lnC, co, hWL, hA', hF', hu, hue, wa, hbo]
           exact ⟨⟨l, by simp [lnV, hu], K, rfl, hK1, hK2, l3, l1⟩, huc, by rfl, by omega, by omega, Next.mk (i + 1) (by omega) (by omega) (Weak.ren [some 0, some 1, some 2, some 3] (baseOK.nil hh) (by simp) (by simp [hW2, hra]) (by simp [hW2]))⟩
         · have hA' : (0 ≤ l.at') = False := eq_false hA
           rw [if_neg hA] at hW2
           simp -implicitDefEqProofs [rwS, hdC, and_assoc, rallOSpec, rcutSpec, rlinesSpec, i', wi, hd, lnC, co, hWL, hA', hF', hbo]
           exact ⟨⟨l, by simp [lnV], K, rfl, hK1, hK2, l3, l1⟩, by omega, by omega, Next.mk (i + 1) (by omega) (by omega) (Weak.ren [some 0, some 1, some 2, some 3] (baseOK.nil hh) (by simp) (by simp [hW2, hra]) (by simp [hW2]))⟩
     · obtain rfl : i = (linesH h).length := by omega
       have hT : (linesH h).take (linesH h).length = linesH h := List.take_of_length_le (Nat.le_refl _)
       simp [rwS, hT]
       rfl
end Fen

namespace Fen
open Go Go.Proofs
def rmainSpec : Spec := { pre := fun args => ∃ (h : Hd) (K N : Nat), args = [hdV h, .c (.int .i64 K), .c (.int .i64 N)] ∧ heldF h = 0 ∧ 2 ≤ K ∧ K ≤ 80 ∧ 1 ≤ N ∧ N ≤ 40, res := fun args => match args with
 | [.agg cs, .c (.int _ a), .c (.int _ b)] => .one (.val (hdV (sizedF (hdOf cs) a.toNat b.toNat)))
 | _ => .many [] }
def rmS (hc : List C) (K N : Nat) (R : List Rw) (p : Bool) (ar ac : Nat) (d : List Rw × Nat) : St :=
 ⟨81, [(1, .val (.int .i64 K)), (2, .val (.int .i64 N)), (6, .ptr 1 0 0), (7, .val (.sl d.1.length (rowsC d.1))), (8, .val (.int .i64 d.2)), (9, .ptr 3 0 0)],
   [.box 35 (hc.map .val), .box 35 [.nil, .nil, .val (.int .i64 0), .val (.int .i64 0)], .sl 30 0 p 2 R.length (rowsC R), .box 27 [.val (.int .i64 ar), .val (.int .i64 ac)]]⟩
def rmG (hc : List C) (K N : Nat) (b ar ac : Nat) (R : List Rw) (j : Nat) : St :=
 ⟨81, [(1, .val (.int .i64 K)), (2, .val (.int .i64 N)), (6, .ptr 1 0 0), (7, .ref 2 0), (8, .val (.int .i64 ((b - min b j : Nat) : Int))), (9, .ptr 3 0 0)],
   [.box 35 (hc.map .val), .box 35 [.nil, .nil, .val (.int .i64 0), .val (.int .i64 0)], .sl 30 0 true 2 (R.length + (j - min b j)) (rowsC (R ++ List.replicate (j - min b j) (blankRow K sty0))), .box 27 [.val (.int .i64 ar), .val (.int .i64 ac)]]⟩
def rmL (hc : List C) (K N : Nat) (ar ac : Nat) (R : List Rw) (q b : Nat) : St :=
 ⟨81, [(1, .val (.int .i64 K)), (2, .val (.int .i64 N)), (6, .ptr 1 0 0), (7, .ref 2 0), (8, .val (.int .i64 b)), (9, .ptr 3 0 0)],
   [.box 35 (hc.map .val), .box 35 [.nil, .nil, .val (.int .i64 0), .val (.int .i64 0)], .sl 30 0 true 2 (R.length + q) (rowsC (R ++ List.replicate q (blankRow K sty0))), .box 27 [.val (.int .i64 ar), .val (.int .i64 ac)]]⟩
def G_rmain : Specs := [(48, ranewSpec), (49, blankRSpec), (50, gblanksSpec)]
@[simp] theorem G_rmain_live : Specs.live G_rmain = false := rfl
@[simp] theorem G_rmain_nils : Specs.nils G_rmain = false := rfl
@[simp] theorem G_rmain_48 : G_rmain.find 48 = some ranewSpec := rfl
@[simp] theorem G_rmain_49 : G_rmain.find 49 = some blankRSpec := rfl
@[simp] theorem G_rmain_50 : G_rmain.find 50 = some gblanksSpec := rfl
theorem G_rmain_ok (gl : Gl) : SpecsOK Tryd.prog gl G_rmain := .cons (ranew_sound gl) (.cons (rblankr_sound gl) (.cons (rgblank_sound gl) (.nil _ _)))
set_option maxHeartbeats 8000000 in
set_option maxRecDepth 10000 in
theorem rmain_sound (gl : Gl) : Sound Tryd.prog gl 21 rmainSpec := by
 refine sound_fn (N := Tryd.f21.ntmps) (rs := Tryd.f21.results.toList) mixed tok (G_rmain_ok gl) Tryd.func21 rfl rfl rfl rfl rfl ?_ ?_ ?_
 · rintro args ⟨h,K,N,rfl,hv,hK1,hK2,hN1,hN2⟩; simp [hdV,hdC, Tryd.f21]
 · rintro args ⟨h,K,N,rfl,hv,hK1,hK2,hN1,hN2⟩; simp [hdV,hdC, rmainSpec, Tryd.f21]
 · rintro args ⟨h,K,N,rfl,hv,hK1,hK2,hN1,hN2⟩ bs hgl hh hro
   have hE : Env.OK ⟨Tryd.prog, T, G_rmain, bs⟩ := ⟨tok, by rw [hgl]; exact G_rmain_ok gl⟩
   simp only [rmainSpec, hdV,hdC]
   have v := HV.of hv
   have eo := hdOf_C h
   have hK : 2 ≤ K ∧ K ≤ 80 := ⟨hK1, hK2⟩
   have vs := v.anew hK
   have hl := v.anew_len hK.1
   have es : sizedF h K N = tallF K N (anewF h K) (dropsF N (anewF h K).ar (anewF h K).rows (anewF h K).border) := rfl
   simp [and_assoc, rmainSpec, blankRSpec, gblanksSpec, ranewSpec, Tryd.f21, eo, es]
   refine ⟨⟨h, rfl, K, rfl, hv, hK1, hK2⟩, ?_⟩
   generalize anewF h K = W at *
   obtain ⟨vr, b1, b2, b3⟩ := vs
   have hrl : ∀ r ∈ W.rows, r.cells.length ≤ 1000000 := fun r hr => by have := (vr r hr).2; omega
   have dok := drops_ok (n := N) (by omega) _ W.rows W.border (Nat.le_refl _) b1 b2
   rcases Nat.lt_or_ge N (W.rows.length - W.border) with c | c
   · generalize hD : dropsF N W.ar W.rows W.border = D at *
     obtain ⟨p1, p2, p3, p4, p5, p6, p7⟩ := dok
     have p7 := p7 c
     refine AWP.leaves 0 (rmS (hdC h) K N W.rows false W.ar W.ac D) (AWP.rounds (fun d => dropsF N W.ar d.1 d.2 = D ∧ d.1 = W.rows.take d.1.length ∧ d.1.length ≤ W.rows.length ∧ d.2 ≤ W.ar ∧ W.ar < d.1.length ∧ N ≤ d.1.length - d.2) (rmS (hdC h) K N W.rows false W.ar W.ac) (fun d => d.1.length - d.2) (W.rows, W.border) ⟨hD, by simp, Nat.le_refl _, b1, b2, by simp only; omega⟩ ?_ ?_) ?_
     · exact Weak.trans (Weak.solidR 7 2 (by simp) rfl) (Weak.heap (by simp [hdC]) (by simp [rmS]))
     · rintro ⟨l, b⟩ ⟨i1, i2, i3, i4, i5, i6⟩
       simp only at i1 i2 i3 i4 i5 i6
       refine wpc_ok hE mixed _ _ _ ?_
       have wd : IntKind.i64.wrap ((l.length : Int) - b) = ((l.length - b : Nat) : Int) := by rw [wrap64 _ (by omega) (by omega)]; omega
       rcases Nat.lt_or_ge N (l.length - b) with g | g
       · have g' : ((N : Int) < ((l.length - b : Nat) : Int)) = True := eq_true (by omega)
         have w1 : IntKind.i64.wrap ((l.length : Int) - 1) = ((l.length - 1 : Nat) : Int) := by rw [wrap64 _ (by omega) (by omega)]; omega
         have wb : IntKind.i64.wrap ((b : Int) + 1) = (b : Int) + 1 := wrap64 _ (by omega) (by omega)
         have hlt : l.length - 1 < l.length := by omega
         have hdl := rowsC_at hlt
         have hml : l[l.length - 1].cells.length ≤ 1000000 := (fun x (hx : x ∈ l) => hrl x (by rw [i2] at hx; exact List.mem_of_mem_take hx)) _ (List.getElem_mem hlt)
         have hgd : l.getD (l.length - 1) ⟨[], false⟩ = l[l.length - 1] := by simp [List.getD_eq_getElem?_getD, hlt]
         have hgF : goesF l b W.ar = ((decide (W.ar + 1 < l.length) && blankR l[l.length - 1]) || decide (W.ar ≤ b)) := by unfold goesF; rw [hgd]
         generalize l[l.length - 1] = r at *
         have er : rowOf [C.sl r.cells.length (celsC r.cells), C.bool r.wrapped] = r := rowOf_C r
         have hrc : ∃ x : Rw, [C.sl r.cells.length (celsC r.cells), C.bool r.wrapped] = rowC x ∧ x.cells.length ≤ 1000000 := ⟨r, rfl, hml⟩
         have ea : ((W.ar : Int) < ((l.length - 1 : Nat) : Int)) = (W.ar + 1 < l.length) := by simp only [eq_iff_iff]; omega
         have ll : (l.take (l.length - 1)).length = l.length - 1 := by simp
         have up : ∀ st, goesF l b W.ar = true → Weak bs st (rmS (hdC h) K N W.rows false W.ar W.ac (l.take (l.length - 1), b)) → Next bs (fun d => dropsF N W.ar d.1 d.2 = D ∧ d.1 = W.rows.take d.1.length ∧ d.1.length ≤ W.rows.length ∧ d.2 ≤ W.ar ∧ W.ar < d.1.length ∧ N ≤ d.1.length - d.2) (rmS (hdC h) K N W.rows false W.ar W.ac) (fun d => d.1.length - d.2) (l, b) st := fun st hg hw => by
           have hlt : W.ar < l.length - 1 := by
             simp only [goesF, Bool.or_eq_true, Bool.and_eq_true, decide_eq_true_eq] at hg
             omega
           exact Next.mk (l.take (l.length - 1), b) ⟨by rw [← drops_goes g hg, i1], by rw [ll]; exact (congrArg (List.take (l.length - 1)) i2).trans (by rw [List.take_take, Nat.min_eq_left (by omega)]), by simp only; omega, i4, by simp only; omega, by simp only; omega⟩ (by simp only; omega) hw
         have dn : ∀ st, goesF l b W.ar = false → Weak bs st (rmS (hdC h) K N W.rows false W.ar W.ac (l, b + 1)) → Next bs (fun d => dropsF N W.ar d.1 d.2 = D ∧ d.1 = W.rows.take d.1.length ∧ d.1.length ≤ W.rows.length ∧ d.2 ≤ W.ar ∧ W.ar < d.1.length ∧ N ≤ d.1.length - d.2) (rmS (hdC h) K N W.rows false W.ar W.ac) (fun d => d.1.length - d.2) (l, b) st := fun st hg hw => by
           have hn : b < W.ar := by
             simp only [goesF, Bool.or_eq_false_iff, decide_eq_false_iff_not] at hg
             omega
           exact Next.mk (l, b + 1) ⟨by rw [← drops_down g hg, i1], i2, i3, by simp only; omega, i5, by simp only; omega⟩ (by simp only; omega) hw
         cases hg : goesF l b W.ar
         · have hg2 := hg
           rw [hgF] at hg2
           simp only [Bool.or_eq_false_iff, decide_eq_false_iff_not] at hg2
           obtain ⟨g1, g3⟩ := hg2
           have g3' : (W.ar ≤ b) = False := eq_false g3
           by_cases g4 : W.ar + 1 < l.length
           · have g4' : (W.ar + 1 < l.length) = True := eq_true g4
             have gb : blankR r = false := by simpa [g4] using g1
             simp [rmS, hdC, and_assoc, blankRSpec, gblanksSpec, ranewSpec, wd, g', w1, wb, hdl, rowC, er, ea, g3', g4', gb]
             exact ⟨hlt, ⟨r, rfl, rfl, rfl, hml⟩, dn _ hg (Weak.heap (by simp [rmS, hdC]) (by simp [rmS]))⟩
           · have g4' : (W.ar + 1 < l.length) = False := eq_false g4
             simp [rmS, hdC, and_assoc, blankRSpec, gblanksSpec, ranewSpec, wd, g', w1, wb, hdl, rowC, er, ea, g3', g4']
             exact dn _ hg (Weak.heap (by simp [rmS, hdC]) (by simp [rmS]))
         · have hg2 := hg
           rw [hgF] at hg2
           by_cases g3 : W.ar ≤ b
           · have g3' : (W.ar ≤ b) = True := eq_true g3
             by_cases g4 : W.ar + 1 < l.length
             · have g4' : (W.ar + 1 < l.length) = True := eq_true g4
               cases gb : blankR r
               · simp [rmS, hdC, and_assoc, blankRSpec, gblanksSpec, ranewSpec, wd, g', w1, wb, hdl, rowC, er, ea, g3', g4', gb]
                 exact ⟨hlt, ⟨r, rfl, rfl, rfl, hml⟩, up _ hg (Weak.heap (by simp [rmS, hdC]) (by simp [rmS, rowsC_take, ll]))⟩
               · simp [rmS, hdC, and_assoc, blankRSpec, gblanksSpec, ranewSpec, wd, g', w1, wb, hdl, rowC, er, ea, g3', g4', gb]
                 exact ⟨hlt, ⟨r, rfl, rfl, rfl, hml⟩, up _ hg (Weak.heap (by simp [rmS, hdC]) (by simp [rmS, rowsC_take, ll]))⟩
             · have g4' : (W.ar + 1 < l.length) = False := eq_false g4
               simp [rmS, hdC, and_assoc, blankRSpec, gblanksSpec, ranewSpec, wd, g', w1, wb, hdl, rowC, er, ea, g3', g4']
               exact up _ hg (Weak.heap (by simp [rmS, hdC]) (by simp [rmS, rowsC_take, ll]))
           · have g3' : (W.ar ≤ b) = False := eq_false g3
             simp only [Bool.or_eq_true, Bool.and_eq_true, decide_eq_true_eq, g3, or_false] at hg2
             obtain ⟨g4, gb⟩ := hg2
             have g4' : (W.ar + 1 < l.length) = True := eq_true g4
             simp [rmS, hdC, and_assoc, blankRSpec, gblanksSpec, ranewSpec, wd, g', w1, wb, hdl, rowC, er, ea, g3', g4', gb]
             exact ⟨hlt, ⟨r, rfl, rfl, rfl, hml⟩, up _ hg (Weak.heap (by simp [rmS, hdC]) (by simp [rmS, rowsC_take, ll]))⟩
       · have g' : ((N : Int) < ((l.length - b : Nat) : Int)) = False := eq_false (by omega)
         have e : D = (l, b) := by rw [← i1, drops_stop g]
         simp [rmS, and_assoc, blankRSpec, gblanksSpec, ranewSpec, wd, g']
         exact Leaves.mk (Weak.heap (by simp) (by simp [e]))
     · obtain ⟨l, b⟩ := D
       simp only at p1 p2 p3 p4 p5 p6 p7
       have el : liftF N l b = b := by unfold liftF; omega
       have eg : growF K N l b = l := by unfold growF; rw [p7]; simp
       have wd : IntKind.i64.wrap ((l.length : Int) - b) = (N : Int) := by rw [wrap64 _ (by omega) (by omega)]; omega
       obtain ⟨z, hz⟩ : ∃ z : Int, z = (b : Int) - 100 := ⟨_, rfl⟩
       have w100 : IntKind.i64.wrap ((b : Int) - 100) = z := by rw [wrap64 _ (by omega) (by omega), hz]
       have hx : (if 0 < z then z else 0) = ((b - 100 : Nat) : Int) := by split <;> omega
       have wr : IntKind.i64.wrap ((W.ar : Int) - b) = (W.ar : Int) - b := wrap64 _ (by omega) (by omega)
       simp [rmS, wd, tallF, el, eg]
       refine AWP.unroll hE mixed 1 ?_
       simp [wd, w100, hx, wr]
       exact ⟨by omega, by rfl, end_ok (by omega)⟩
   · rw [drops_stop c]
     have hbl : W.border ≤ W.rows.length := by omega
     have wd : IntKind.i64.wrap ((W.rows.length : Int) - W.border) = ((W.rows.length - W.border : Nat) : Int) := by rw [wrap64 _ (by omega) (by omega)]; omega
     have g' : ((N : Int) < ((W.rows.length - W.border : Nat) : Int)) = False := eq_false (by omega)
     obtain ⟨J, hJ⟩ : ∃ J, N - (W.rows.length - W.border) = J := ⟨_, rfl⟩
     obtain ⟨B, hB⟩ : ∃ B, liftF N W.rows W.border = B := ⟨_, rfl⟩
     have hB' : W.border - min W.border J = B := by rw [← hB, ← hJ]; rfl
     have hg : growF K N W.rows B = W.rows ++ List.replicate (J - min W.border J) (blankRow K sty0) := by unfold growF; congr 2; omega
     refine AWP.unroll hE mixed 1 ?_
     simp [wd, g']
     refine AWP.leaves 2 (rmS (hdC h) K N (growF K N W.rows B) false W.ar W.ac (growF K N W.rows B, B)) (AWP.rounds (fun j => j ≤ J) (rmG (hdC h) K N W.border W.ar W.ac W.rows) (fun j => J - j) 0 (by omega) (Weak.heap (by simp [hdC]) (by simp [rmG])) ?_) ?_
     · intro j hj
       refine wpc_ok hE mixed _ _ _ ?_
       obtain ⟨q, hq⟩ : ∃ q, j - min W.border j = q := ⟨_, rfl⟩
       obtain ⟨b, hb⟩ : ∃ b, W.border - min W.border j = b := ⟨_, rfl⟩
       have wl : IntKind.i64.wrap ((W.rows.length : Int) + q - b) = ((W.rows.length + q - b : Nat) : Int) := by rw [wrap64 _ (by omega) (by omega)]; omega
       have hS : rmG (hdC h) K N W.border W.ar W.ac W.rows j = rmL (hdC h) K N W.ar W.ac W.rows q b := by simp [rmG, rmL, hq, hb]
       rw [hS]
       rcases Nat.lt_or_ge j J with g | g
       · have g2 : (((W.rows.length + q - b : Nat) : Int) < N) = True := eq_true (by omega)
         by_cases b0 : 0 < b
         · have b0' : (0 < b) = True := eq_true b0
           have wb : IntKind.i64.wrap ((b : Int) - 1) = ((b - 1 : Nat) : Int) := by rw [wrap64 _ (by omega) (by omega)]; omega
           have hn : rmG (hdC h) K N W.border W.ar W.ac W.rows (j + 1) = rmL (hdC h) K N W.ar W.ac W.rows q (b - 1) := by simp [rmG, rmL, show j + 1 - min W.border (j + 1) = q by omega, show W.border - min W.border (j + 1) = b - 1 by omega]
           simp [rmL, and_assoc, blankRSpec, gblanksSpec, ranewSpec, wl, g2, b0', wb]
           exact Next.mk (j + 1) g (by omega) (by rw [hn]; exact Weak.heap (by simp [rmL]) (by simp [rmL]))
         · have b0' : (0 < b) = False := eq_false b0
           have hn : rmG (hdC h) K N W.border W.ar W.ac W.rows (j + 1) = rmL (hdC h) K N W.ar W.ac W.rows (q + 1) b := by simp [rmG, rmL, show j + 1 - min W.border (j + 1) = q + 1 by omega, show W.border - min W.border (j + 1) = b by omega]
           have er : rowsC (W.rows ++ List.replicate (q + 1) (blankRow K sty0)) = rowsC (W.rows ++ List.replicate q (blankRow K sty0)) ++ rowsC [blankRow K sty0] := by
             rw [List.replicate_succ', ← List.append_assoc, rowsC_app (W.rows ++ List.replicate q (blankRow K sty0))]
           simp [rmL, and_assoc, blankRSpec, gblanksSpec, ranewSpec, wl, g2, b0']
           exact ⟨⟨K, rfl, 1, rfl, hK1, hK2, by omega, sty0_ok, styF0⟩, by omega, by omega, Next.mk (j + 1) g (by omega) (by rw [hn]; exact Weak.ren [some 0, some 1, some 2, some 3] (baseOK.nil hh) (by simp) (by simp [rmL, er, Nat.add_assoc]) (by simp [rmL]))⟩
       · obtain rfl : j = J := by omega
         have g2 : (((W.rows.length + q - b : Nat) : Int) < N) = False := eq_false (by omega)
         simp [rmL, and_assoc, blankRSpec, gblanksSpec, ranewSpec, wl, g2]
         exact Leaves.mk (Weak.trans (Weak.solidR 7 2 (by simp) rfl) (Weak.heap (by simp [rmS, hg, hq]) (by simp [rmS, hg, hq]; omega)))
     · obtain ⟨L, hL⟩ : ∃ L, growF K N W.rows B = L := ⟨_, rfl⟩
       have hLl : B ≤ L.length := by rw [← hL, hg]; simp; omega
       obtain ⟨z, hz⟩ : ∃ z : Int, z = (B : Int) - 100 := ⟨_, rfl⟩
       have w100 : IntKind.i64.wrap ((B : Int) - 100) = z := by rw [wrap64 _ (by omega) (by omega), hz]
       have hx : (if 0 < z then z else 0) = ((B - 100 : Nat) : Int) := by split <;> omega
       have wr : IntKind.i64.wrap ((W.ar : Int) - B) = (W.ar : Int) - B := wrap64 _ (by omega) (by omega)
       simp [rmS, tallF, hB, hL, w100, hx, wr]
       exact ⟨by omega, by rfl, end_ok (by omega)⟩
end Fen

namespace Fen
open Go Go.Proofs
theorem typed_dr {d : Nat} {p : List C} (h : Typed T d 91 p) : ∃ x : Dr, p = drC x ∧ x.ok := by
 obtain ⟨c, B, w, rfl, h0, h1, hB⟩ := typed_draft h
 exact ⟨⟨c, B, w⟩, rfl, h0, h1, hB⟩
theorem typed_place {d : Nat} {p : List C} (h : Typed T d 27 p) : ∃ a b : Int, p = [.int .i64 a, .int .i64 b] := by
 obtain ⟨d', parts, rfl, hk⟩ := typed_struct T_27 h
 match parts, hk with
 | [p0, p1], ⟨h0, h1, _⟩ =>
   obtain ⟨a, rfl, _⟩ := typed_i64 h0
   obtain ⟨b, rfl, _⟩ := typed_i64 h1
   exact ⟨a, b, rfl⟩
end Fen

namespace Fen
open Go Go.Proofs
theorem arg_hdraft {A : V} (h : TypedV T 25 A) : ∃ (c : Int) (O L : List Dr) (a b : Int), A = drV c O L a b ∧ DrIn c O L a b := by
 obtain ⟨d, ks, rfl, hk0⟩ := arg_agg T_25 rfl h
 obtain ⟨d', parts, rfl, hk⟩ := typed_struct T_25 hk0
 match parts, hk with
 | [p0, p1, p2, p3], ⟨h0, h1, h2, h3, _⟩ =>
   obtain ⟨c, rfl, q0, q1⟩ := typed_u8 h0
   obtain ⟨O, rfl, _, qO⟩ := typed_slice_of (en := drC) T_22 (fun d p h => typed_dr h) h1
   obtain ⟨L, rfl, _, qL⟩ := typed_slice_of (en := drC) T_22 (fun d p h => typed_dr h) h2
   obtain ⟨a, b, rfl, ha, hb⟩ := typed_u8x2 h3
   exact ⟨c, O, L, a, b, rfl, q0, q1, qO, qL, ha.1, ha.2, hb.1, hb.2⟩
end Fen

namespace Fen
open Go Go.Proofs
theorem arg_spoil {A : V} (h : TypedV T 32 A) : ∃ (x y : Int) (r : Rw) (p : Bool) (k : Int), A = spV x y r p k ∧ r.ok ∧ 0 ≤ k ∧ k < 256 := by
 obtain ⟨d, ks, rfl, hk0⟩ := arg_agg T_32 rfl h
 obtain ⟨d', parts, rfl, hk⟩ := typed_struct T_32 hk0
 match parts, hk with
 | [p0, p1, p2, p3], ⟨h0, h1, h2, h3, _⟩ =>
   obtain ⟨x, y, rfl⟩ := typed_place h0
   obtain ⟨r, rfl, hr, _⟩ := typed_row h1
   obtain ⟨p, rfl⟩ := typed_bool T_4 h2
   obtain ⟨k, rfl, k0, k1⟩ := typed_u8 h3
   exact ⟨x, y, r, p, k, rfl, hr, k0, k1⟩
end Fen

namespace Fen
open Go Go.Proofs
theorem r90_ok {r : Rw} (h : r.ok) : (r90 r).ok := fun c hc => h c (List.mem_of_mem_take hc)
theorem bent_ok {x y k : Int} {r : Rw} {p : Bool} {h : Hd} (hr : r.ok) (hh : HdOK h) : HdOK (bentF x y r p k h) := by
 unfold bentF
 split
 · refine ⟨fun z hz => ?_, hh.2⟩
   rcases List.mem_append.1 hz with q | q
   · exact hh.1 z q
   · simp only [List.mem_singleton] at q; subst q; exact r90_ok hr
 · split
   · refine ⟨hh.1, fun z hz => ?_⟩
     rcases List.mem_or_eq_of_mem_set hz with q | q
     · exact hh.2 z q
     · subst q; exact r90_ok hr
   · exact hh
end Fen

namespace Fen
open Go Go.Proofs
theorem head_rows {l : List Rw} (h : l ≠ []) : ∃ r : Rw, (∀ d, (rowsC l).head?.getD d = C.sl r.cells.length (celsC r.cells)) ∧ 0 < l.length := by
 match l, h with
 | r :: l, _ => exact ⟨r, fun d => rfl, by simp⟩
def lawSizesSpec : Spec := { pre := fun args => ∃ (c : Int) (O L : List Dr) (a b x y : Int) (r : Rw) (p : Bool) (k u v z w : Int), args = [drV c O L a b, spV x y r p k, .agg [.int .i64 u, .int .i64 v], .agg [.int .u8 z, .int .u8 w]] ∧ DrIn c O L a b ∧ r.ok ∧ 0 ≤ k ∧ k < 256 ∧ I64 u ∧ I64 v ∧ 0 ≤ z ∧ z < 256 ∧ 0 ≤ w ∧ w < 256, res := fun _ => .one (.val (.c (.bool true))) }
theorem bent_ne {x y k : Int} {r : Rw} {p : Bool} {h : Hd} (hh : h.rows ≠ []) : (bentF x y r p k h).rows ≠ [] := by
 unfold bentF
 split
 · exact hh
 · split
   · intro e; exact hh (by simpa using e)
   · exact hh
theorem main_size {h : Hd} {a b : Int} (v : heldF h = 0) (z : sizeOK a b = false) : mainF h a b = (hd0, 2) := by unfold mainF; rw [if_neg (by simp [v]), if_pos z]
theorem main_bad {W : Hd} (h : heldF W = 290) (a b : Int) : mainF W a b = (hd0, 290) := by unfold mainF; rw [if_pos (by rw [h]; decide)]
theorem hd0_fin : HdFin hd0 := ⟨⟨by simp [hd0], by simp [hd0]⟩, ⟨by simp [hd0], by simp [hd0]⟩⟩
def szS (LL : List C) (u v s1 s2 z w : Int) (i : Nat) : St :=
 ⟨132, [(6, .ptr 0 0 0), (7, .ptr 1 0 0), (9, .ptr 2 0 0), (41, .agg LL), (42, .val (.int .i64 i))], [.box 51 [.val (.int .i64 u), .val (.int .i64 v)], .box 23 [.val (.int .u8 z), .val (.int .u8 w)], .box 51 [.val (.int .i64 s1), .val (.int .i64 s2)]]⟩
def szS2 (LL : List C) (u v s1 s2 z w : Int) (i : Nat) (X : Hd) (SS : List C) (j : Nat) : St :=
 ⟨132, [(6, .ptr 0 0 0), (7, .ptr 1 0 0), (9, .ptr 2 0 0), (41, .agg LL), (42, .val (.int .i64 i)), (11, .ptr 3 0 0), (56, .agg SS), (57, .val (.int .i64 j))], [.box 51 [.val (.int .i64 u), .val (.int .i64 v)], .box 23 [.val (.int .u8 z), .val (.int .u8 w)], .box 51 [.val (.int .i64 s1), .val (.int .i64 s2)], .box 35 ((hdC X).map .val)]⟩
def G_lawSizes : Specs := [(18, lworks9Spec), (10, dheldSpec), (11, bentSpec), (13, idHSpec), (19, mainSpec), (14, rheldSpec), (20, sizeSpec2), (21, rmainSpec), (23, idHSpec), (22, sameHSpec)]
@[simp] theorem G_lawSizes_live : Specs.live G_lawSizes = false := rfl
@[simp] theorem G_lawSizes_nils : Specs.nils G_lawSizes = false := rfl
@[simp] theorem G_lawSizes_18 : G_lawSizes.find 18 = some lworks9Spec := rfl
@[simp] theorem G_lawSizes_10 : G_lawSizes.find 10 = some dheldSpec := rfl
@[simp] theorem G_lawSizes_11 : G_lawSizes.find 11 = some bentSpec := rfl
@[simp] theorem G_lawSizes_13 : G_lawSizes.find 13 = some idHSpec := rfl
@[simp] theorem G_lawSizes_19 : G_lawSizes.find 19 = some mainSpec := rfl
@[simp] theorem G_lawSizes_14 : G_lawSizes.find 14 = some rheldSpec := rfl
@[simp] theorem G_lawSizes_20 : G_lawSizes.find 20 = some sizeSpec2 := rfl
@[simp] theorem G_lawSizes_21 : G_lawSizes.find 21 = some rmainSpec := rfl
@[simp] theorem G_lawSizes_23 : G_lawSizes.find 23 = some idHSpec := rfl
@[simp] theorem G_lawSizes_22 : G_lawSizes.find 22 = some sameHSpec := rfl
theorem G_lawSizes_ok : SpecsOK Tryd.prog glW G_lawSizes := .cons works9_sound (.cons (dheld_sound glW) (.cons (bent_sound glW) (.cons (ownH_sound glW) (.cons main_sound (.cons (rheld_sound glW) (.cons (rsizeok_sound glW) (.cons (rmain_sound glW) (.cons (refH_sound glW) (.cons (sameH_sound glW) (.nil _ _))))))))))
set_option maxHeartbeats 8000000 in
set_option maxRecDepth 10000 in
theorem lawSizes_sound : Sound Tryd.prog glW 4 lawSizesSpec := by
 refine sound_fn (N := Tryd.f4.ntmps) (rs := Tryd.f4.results.toList) mixed tok G_lawSizes_ok Tryd.func4 rfl rfl rfl rfl rfl ?_ ?_ ?_
 · rintro args ⟨c,O,L,a,b,x,y,r,p,k,u,v,z,w,rfl,hD,hr,k0,k1,⟨u0,u1⟩,⟨v0,v1⟩,z0,z1,w0,w1⟩; simp [drV,spV, Tryd.f4]
 · rintro args ⟨c,O,L,a,b,x,y,r,p,k,u,v,z,w,rfl,hD,hr,k0,k1,⟨u0,u1⟩,⟨v0,v1⟩,z0,z1,w0,w1⟩; simp [drV,spV, lawSizesSpec, Tryd.f4]
 · rintro args ⟨c,O,L,a,b,x,y,r,p,k,u,v,z,w,rfl,hD,hr,k0,k1,⟨u0,u1⟩,⟨v0,v1⟩,z0,z1,w0,w1⟩ bs hgl hh hro
   have hE : Env.OK ⟨Tryd.prog, T, G_lawSizes, bs⟩ := ⟨tok, by rw [hgl]; exact G_lawSizes_ok⟩
   simp only [lawSizesSpec, drV,spV]
   have vH := draftH_ok hD
   obtain ⟨w', hw'⟩ : ∃ w, 2 + c.toNat % 79 = w := ⟨_, rfl⟩
   obtain ⟨n, hn⟩ : ∃ n, manyG L = n := ⟨_, rfl⟩
   obtain ⟨H, hH⟩ : ∃ H, draftH c O L a b = H := ⟨_, rfl⟩
   rw [hw', hn, hH] at vH
   have oH := hdOf_C H
   have okB := bent_ok (x := x) (y := y) (k := k) (p := p) hr vH.ok
   have neB := bent_ne (x := x) (y := y) (k := k) (p := p) (r := r) vH.grid.ne
   have cr : celsOf (celsC r.cells) = r.cells := celsOf_C r.cells
   obtain ⟨B, hB⟩ : ∃ B, bentF x y ⟨r.cells, r.wrapped⟩ p k H = B := ⟨_, rfl⟩
   rw [show bentF x y r p k H = B from hB] at okB neB
   have hp := vH.pl
   have gn := vH.grid.len
   have n40 := vH.grid.n40
   have hne := vH.grid.ne
   obtain ⟨s1, hs1⟩ : ∃ s, IntKind.i64.wrap (IntKind.i64.wrap ((IntKind.u64.wrap u).tmod 84) - 1) = s := ⟨_, rfl⟩
   obtain ⟨s2, hs2⟩ : ∃ s, IntKind.i64.wrap (IntKind.i64.wrap ((IntKind.u64.wrap v).tmod 43) - 1) = s := ⟨_, rfl⟩
   obtain ⟨C2, hC2⟩ : ∃ K, 2 + z.toNat % 79 = K := ⟨_, rfl⟩
   obtain ⟨N2, hN2⟩ : ∃ N, 1 + w.toNat % 40 = N := ⟨_, rfl⟩
   have wz1 : IntKind.i64.wrap z = z := wrap64 _ (by omega) (by omega)
   have wz2 : IntKind.i64.wrap (z % 79) = z % 79 := wrap64 _ (by omega) (by omega)
   have wz3 : IntKind.i64.wrap (2 + z % 79) = (C2 : Int) := by rw [wrap64 _ (by omega) (by omega)]; omega
   have ww1 : IntKind.i64.wrap w = w := wrap64 _ (by omega) (by omega)
   have ww2 : IntKind.i64.wrap (w % 40) = w % 40 := wrap64 _ (by omega) (by omega)
   have ww3 : IntKind.i64.wrap (1 + w % 40) = (N2 : Int) := by rw [wrap64 _ (by omega) (by omega)]; omega
   have ez := u8_tmod z0 79
   have ew := u8_tmod w0 40
   have kC : 2 ≤ C2 ∧ C2 ≤ 80 := by omega
   have kN : 1 ≤ N2 ∧ N2 ≤ 40 := by omega
   simp -implicitDefEqProofs [-Bool.exists_bool, and_assoc, lawSizesSpec, bentSpec, dheldSpec, idHSpec, lworks9Spec, mainSpec, rheldSpec, rmainSpec, sameHSpec, sizeSpec2, Tryd.f4, drsOf_C, hH, hdV, hdC, oH, cr, hB, hs1, hs2]
   refine ⟨⟨c, O, L, a, b, rfl, hD⟩, ⟨x, y, r, p, k, rfl, H, rfl, rfl, rfl, rfl, rfl, rfl, k0, k1, hne, by omega, by omega⟩, by rfl, ?_⟩
   obtain ⟨LL, hLL⟩ : ∃ LL, [C.sl H.past.length (rowsC H.past), C.sl H.rows.length (rowsC H.rows), C.int .i64 H.ar, C.int .i64 H.ac, C.sl B.past.length (rowsC B.past), C.sl B.rows.length (rowsC B.rows), C.int .i64 B.ar, C.int .i64 B.ac] = LL := ⟨_, rfl⟩
   refine AWP.leaves 0 (szS LL u v s1 s2 z w 2) (AWP.rounds (fun i => i ≤ 2) (szS LL u v s1 s2 z w) (fun i => 2 - i) 0 (by omega) (Weak.ren [some 2, some 3, some 4] (baseOK.nil hh) (by simp) (by simp) (by simp [szS, hLL])) ?_) ?_
   · intro i hi
     refine wpc_ok hE mixed _ _ _ ?_
     rcases Nat.lt_or_ge i 2 with h | h
     · have i' : ((i : Int) < 2) = True := eq_true (by omega)
       have wi : IntKind.i64.wrap ((i : Int) + 1) = (i : Int) + 1 := wrap64 _ (by omega) (by omega)
       have hl8 : LL.length = 8 := by rw [← hLL]; rfl
       obtain ⟨X, hX, okX, neX⟩ : ∃ X : Hd, List.take 4 (List.drop (i * 4) LL) = hdC X ∧ HdOK X ∧ X.rows ≠ [] := by
         rcases (show i = 0 ∨ i = 1 by omega) with rfl | rfl
         · exact ⟨H, by subst hLL; rfl, vH.ok, hne⟩
         · exact ⟨B, by subst hLL; rfl, okB, neB⟩
       have oX := hdOf_C X
       simp only [hdC] at hX
       obtain ⟨r0, hg0, hgl⟩ := head_rows neX
       simp -implicitDefEqProofs [szS, i', hl8, hX, hg0]
       refine ⟨by omega, hgl, by rfl, ?_⟩
       obtain ⟨SS, hSS⟩ : ∃ SS, [C.int IntKind.i64 u, C.int .i64 v, C.int .i64 s1, C.int .i64 s2, C.int .i64 r0.cells.length, C.int .i64 s2] = SS := ⟨_, rfl⟩
       refine AWP.rounds (fun j => j ≤ 3) (szS2 LL u v s1 s2 z w i X SS) (fun j => 3 - j) 0 (by omega) (Weak.heap (by simp [hdC]) (by simp [szS2, hSS])) ?_
       intro j hj
       refine wpc_ok hE mixed _ _ _ ?_
       rcases Nat.lt_or_ge j 3 with g | g
       · have j' : ((j : Int) < 3) = True := eq_true (by omega)
         have wj : IntKind.i64.wrap ((j : Int) + 1) = (j : Int) + 1 := wrap64 _ (by omega) (by omega)
         have hsl : SS.length = 6 := by rw [← hSS]; rfl
         obtain ⟨m0, m1, hxy⟩ : ∃ x y : Int, List.take 2 (List.drop (j * 2) SS) = [C.int .i64 x, C.int .i64 y] := by
           rcases (show j = 0 ∨ j = 1 ∨ j = 2 by omega) with rfl | rfl | rfl
           · exact ⟨u, v, by rw [← hSS]; rfl⟩
           · exact ⟨s1, s2, by rw [← hSS]; rfl⟩
           · exact ⟨_, s2, by rw [← hSS]; rfl⟩
         have o0 : hdOf [C.sl 0 [], C.sl 0 [], .int .i64 0, .int .i64 0] = hd0 := rfl
         have c0 : hdC hd0 = [C.sl 0 [], C.sl 0 [], .int .i64 0, .int .i64 0] := rfl
         have hd0p : hd0.past = [] := rfl
         have hd0r : hd0.rows = [] := rfl
         have hd0a : hd0.ar = 0 := rfl
         have hd0c : hd0.ac = 0 := rfl
         by_cases gX : heldF X = 0
         · cases zz : sizeOK m0 m1
           · have e := main_size gX zz
             simp -implicitDefEqProofs [szS2, and_assoc, bentSpec, dheldSpec, idHSpec, lworks9Spec, mainSpec, rheldSpec, rmainSpec, sameHSpec, sizeSpec2, j', wj, hsl, hxy, hdV, hdC, oX, gX, zz, e, o0, hd0p, hd0r, hd0a, hd0c]
             exact ⟨by omega, ⟨X, rfl, rfl, rfl, rfl, rfl, rfl⟩, ⟨X, rfl, rfl, rfl, rfl, rfl, rfl, okX⟩, by rfl, ⟨X, rfl, okX⟩, ⟨hd0, rfl, rfl, rfl, rfl, rfl, rfl⟩, ⟨hd0, rfl, rfl, rfl, rfl, rfl, rfl, ⟨hd0, rfl, rfl, rfl, rfl, rfl, rfl⟩, hd0_fin⟩, by rfl, Next.mk (j + 1) (by omega) (by omega) (Weak.ren [some 0, some 1, some 2, some 3] (baseOK.nil hh) (by simp) (by simp [szS2, hdC]) (by simp [szS2]))⟩
           · have zq := zz
             simp only [sizeOK, Bool.and_eq_true, decide_eq_true_eq] at zq
             obtain ⟨⟨⟨q1, q2⟩, q3⟩, q4⟩ := zq
             obtain ⟨K, rfl⟩ : ∃ K : Nat, m0 = K := ⟨m0.toNat, by omega⟩
             obtain ⟨N, rfl⟩ : ∃ N : Nat, m1 = N := ⟨m1.toNat, by omega⟩
             have vX := HV.of gX
             have hK : 2 ≤ K ∧ K ≤ 80 := by omega
             have hN : 1 ≤ N ∧ N ≤ 40 := by omega
             have e := mainF_ok vX hK hN
             have vY := vX.sized hK hN
             have e2 := mainF_ok vY kC kN
             have vZ := vY.sized kC kN
             generalize hY : sizedF X K N = Y at *
             generalize hZ : sizedF Y C2 N2 = Z at *
             have oY := hdOf_C Y
             have oZ := hdOf_C Z
             simp -implicitDefEqProofs [szS2, and_assoc, bentSpec, dheldSpec, idHSpec, lworks9Spec, mainSpec, rheldSpec, rmainSpec, sameHSpec, sizeSpec2, j', wj, hsl, hxy, hdV, hdC, oX, oY, oZ, gX, zz, e, e2, hY, hZ, ez, ew, wz1, wz2, wz3, ww1, ww2, ww3]
             exact ⟨by omega, ⟨X, rfl, rfl, rfl, rfl, rfl, rfl⟩, ⟨X, rfl, rfl, rfl, rfl, rfl, rfl, okX⟩, by rfl, ⟨X, rfl, okX⟩, ⟨X, rfl, rfl, rfl, rfl, rfl, rfl, K, rfl, N, rfl, gX, hK.1, hK.2, hN.1, hN.2⟩, ⟨Y, rfl, rfl, rfl, rfl, rfl, rfl⟩, ⟨Y, rfl, rfl, rfl, rfl, rfl, rfl, ⟨Y, rfl, rfl, rfl, rfl, rfl, rfl⟩, vY.fin⟩, by rfl, by rfl, ⟨Y, rfl, rfl, rfl, rfl, rfl, rfl, vY.ok⟩, ⟨Z, rfl, rfl, rfl, rfl, rfl, rfl⟩, ⟨Y, rfl, rfl, rfl, rfl, rfl, rfl, C2, rfl, N2, rfl, vY.valid, kC.1, kC.2, kN.1, kN.2⟩, ⟨Z, rfl, rfl, rfl, rfl, rfl, rfl, ⟨Z, rfl, rfl, rfl, rfl, rfl, rfl⟩, vZ.fin⟩, by rfl, Next.mk (j + 1) (by omega) (by omega) (Weak.ren [some 0, some 1, some 2, some 3] (baseOK.nil hh) (by simp) (by simp [szS2, hdC]) (by simp [szS2]))⟩
         · have gX2 := (heldF_or X).resolve_left gX
           have e := main_bad gX2 m0 m1
           simp -implicitDefEqProofs [szS2, and_assoc, bentSpec, dheldSpec, idHSpec, lworks9Spec, mainSpec, rheldSpec, rmainSpec, sameHSpec, sizeSpec2, j', wj, hsl, hxy, hdV, hdC, oX, gX, gX2, e, o0, hd0p, hd0r, hd0a, hd0c]
           exact ⟨by omega, ⟨X, rfl, rfl, rfl, rfl, rfl, rfl⟩, ⟨X, rfl, rfl, rfl, rfl, rfl, rfl, okX⟩, by rfl, ⟨X, rfl, okX⟩, ⟨hd0, rfl, rfl, rfl, rfl, rfl, rfl⟩, ⟨hd0, rfl, rfl, rfl, rfl, rfl, rfl, ⟨hd0, rfl, rfl, rfl, rfl, rfl, rfl⟩, hd0_fin⟩, by rfl, Next.mk (j + 1) (by omega) (by omega) (Weak.ren [some 0, some 1, some 2, some 3] (baseOK.nil hh) (by simp) (by simp [szS2, hdC]) (by simp [szS2]))⟩
       · obtain rfl : j = 3 := by omega
         simp -implicitDefEqProofs [szS2, wi]
         exact Next.mk (i + 1) (by omega) (by omega) (Weak.ren [some 0, some 1, some 2] (baseOK.nil hh) (by simp) (by simp) (by simp))
     · obtain rfl : i = 2 := by omega
       simp -implicitDefEqProofs [szS]
       exact Leaves.mk (Weak.heap rfl (by simp))
   · simp -implicitDefEqProofs [szS, and_assoc, bentSpec, dheldSpec, idHSpec, lworks9Spec, mainSpec, rheldSpec, rmainSpec, sameHSpec, sizeSpec2]
end Fen
