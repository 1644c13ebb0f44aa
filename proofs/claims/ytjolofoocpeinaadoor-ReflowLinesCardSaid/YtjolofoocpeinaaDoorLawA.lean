/- A part of the proof; no statement is proved here: FReflLf, FReflX, FReflLs, FReflY, FReflRb, FReflRc, FGridT, FReflTa, FReflTb, FReflLl. -/
import Derived.Test.YtjolofoocpeinaaDoorReflF
import Derived.Test.YtjolofoocpeinaaDoorCoreF
import Derived.Test.YtjolofoocpeinaaDoorGridA

set_option linter.unusedVariables false
set_option linter.unusedSimpArgs false

namespace Fen
open Go Go.Proofs
theorem u8_tmod {a : Int} (h0 : 0 ≤ a) (m : Int) : a.tmod m = a % m := Int.tmod_eq_emod_of_nonneg h0
theorem headGV {w n : Nat} {g : List Rw} (h : GV w n g) : ∃ r0 : Rw, (∀ d, (rowsC g).head?.getD d = .sl w (celsC r0.cells)) ∧ 0 < g.length := by
 have h1 := h.ne
 match g, h1, h with
 | r :: g, _, h => exact ⟨r, fun d => by rw [← (h.rows r (List.mem_cons_self ..)).2]; rfl, by simp⟩
end Fen

namespace Fen
open Go Go.Proofs
def manyP (O : List Dr) : Nat := min O.length 30
def pastD (c : Int) (O : List Dr) : List Rw := (List.range (manyP O)).map (rowG c O)
def draftH (c : Int) (O L : List Dr) (a b : Int) : Hd := ⟨pastD c O, gridD c L, a % (manyG L : Nat), b % ((2 + c.toNat % 79 : Nat) : Int)⟩
def DrIn (c : Int) (O L : List Dr) (a b : Int) : Prop := 0 ≤ c ∧ c < 256 ∧ (∀ d ∈ O, d.ok) ∧ (∀ d ∈ L, d.ok) ∧ 0 ≤ a ∧ a < 256 ∧ 0 ≤ b ∧ b < 256
def drV (c : Int) (O L : List Dr) (a b : Int) : V := .agg [.int .u8 c, .sl O.length (O.flatMap drC), .sl L.length (L.flatMap drC), .int .u8 a, .int .u8 b]
theorem draftH_ok {c : Int} {O L : List Dr} {a b : Int} (h : DrIn c O L a b) : HV (2 + c.toNat % 79) (manyG L) (draftH c O L a b) := by
 obtain ⟨_, _, _, _, a0, _, b0, _⟩ := h
 have hm := many_le L
 refine ⟨GV.grid c L, by simp [draftH, pastD, manyP]; omega, fun r hr => ?_, ?_, ?_, ?_, ?_⟩
 · simp only [draftH, pastD, List.mem_map] at hr
   obtain ⟨i, _, rfl⟩ := hr
   exact ⟨draft_ok _ _ _, draft_len _ _ _⟩
 · exact Int.emod_nonneg _ (by omega)
 · exact Int.emod_lt_of_pos _ (by omega)
 · exact Int.emod_nonneg _ (by omega)
 · exact Int.emod_lt_of_pos _ (by omega)
def dheldSpec : Spec := { pre := fun args => ∃ (c : Int) (O L : List Dr) (a b : Int), args = [drV c O L a b] ∧ DrIn c O L a b, res := fun args => match args with
 | [.agg [.int _ c, .sl _ o, .sl _ l, .int _ a, .int _ b]] => .one (.val (hdV (draftH c (drsOf o) (drsOf l) a b)))
 | _ => .many [] }
def dhS (c : Int) (O L : List Dr) (a b : Int) (i : Nat) : St :=
 ⟨61, [(1, .ptr 0 0 0), (2, .ptr 1 0 0), (3, .ptr 2 0 0), (4, .val (.int .i64 i))], [.box 25 [.val (.int .u8 c), .val (.sl O.length (O.flatMap drC)), .val (.sl L.length (L.flatMap drC)), .val (.int .u8 a), .val (.int .u8 b)],
   .box 35 [.nil, .nil, .val (.int .i64 0), .val (.int .i64 0)], .box 35 [.ref 3 0, .val (.sl (gridD c L).length (rowsC (gridD c L))), .val (.int .i64 0), .val (.int .i64 0)],
   .sl 30 0 true 2 i (rowsC ((pastD c O).take i))]⟩
def dhE (c : Int) (O L : List Dr) (a b : Int) : St :=
 ⟨61, [(1, .ptr 0 0 0), (2, .ptr 1 0 0), (3, .ptr 2 0 0)], [.box 25 [.val (.int .u8 c), .val (.sl O.length (O.flatMap drC)), .val (.sl L.length (L.flatMap drC)), .val (.int .u8 a), .val (.int .u8 b)],
   .box 35 [.nil, .nil, .val (.int .i64 0), .val (.int .i64 0)], .box 35 [.val (.sl (pastD c O).length (rowsC (pastD c O))), .val (.sl (gridD c L).length (rowsC (gridD c L))), .val (.int .i64 0), .val (.int .i64 0)],
   .sl 30 0 false 2 (pastD c O).length (rowsC (pastD c O))]⟩
def G_dheld : Specs := [(24, dgridSpec), (36, (nilsOf draftSpec))]
@[simp] theorem G_dheld_live : Specs.live G_dheld = false := rfl
@[simp] theorem G_dheld_nils : Specs.nils G_dheld = true := rfl
@[simp] theorem G_dheld_24 : G_dheld.find 24 = some dgridSpec := rfl
@[simp] theorem G_dheld_36 : G_dheld.find 36 = some (nilsOf draftSpec) := rfl
theorem G_dheld_ok (gl : Gl) : SpecsOK Tryd.prog gl G_dheld := .cons (dgrid_sound gl) (.cons (draft_sound gl).nils (.nil _ _))
set_option maxHeartbeats 4000000 in
set_option maxRecDepth 10000 in
theorem dheld_sound (gl : Gl) : Sound Tryd.prog gl 10 dheldSpec := by
 refine sound_fn (N := Tryd.f10.ntmps) (rs := Tryd.f10.results.toList) mixed tok (G_dheld_ok gl) Tryd.func10 rfl rfl rfl rfl rfl ?_ ?_ ?_
 · rintro args ⟨c,O,L,a,b,rfl,h0,h1,hO,hL,a0,a1,b0,b1⟩; simp [drsOf_C,drV, Tryd.f10]
 · rintro args ⟨c,O,L,a,b,rfl,h0,h1,hO,hL,a0,a1,b0,b1⟩; simp [drsOf_C,drV, dheldSpec, Tryd.f10]
 · rintro args ⟨c,O,L,a,b,rfl,h0,h1,hO,hL,a0,a1,b0,b1⟩ bs hgl hh hro
   have hE : Env.OK ⟨Tryd.prog, T, G_dheld, bs⟩ := ⟨tok, by rw [hgl]; exact G_dheld_ok gl⟩
   simp only [dheldSpec, drsOf_C,drV]
   have eL : ∃ x : List Dr, L.length = x.length ∧ L.flatMap drC = x.flatMap drC ∧ ∀ d ∈ x, d.ok := ⟨L, rfl, rfl, hL⟩
   have hV := draftH_ok (c := c) (O := O) (L := L) (a := a) (b := b) ⟨h0, h1, hO, hL, a0, a1, b0, b1⟩
   obtain ⟨W, hW⟩ : ∃ W, 2 + c.toNat % 79 = W := ⟨_, rfl⟩
   rw [hW] at hV
   have gl := hV.grid.len
   have g1 := hV.grid.n1
   have hlen : (pastD c O).length = manyP O := by simp [pastD]
   have w2 := hV.grid.w2
   have wa : IntKind.i64.wrap a = a := wrap64 _ (by omega) (by omega)
   have wb : IntKind.i64.wrap b = b := wrap64 _ (by omega) (by omega)
   have ea := u8_tmod a0 ((manyG L : Nat) : Int)
   have eb := u8_tmod b0 (W : Int)
   have m1 := Int.emod_nonneg a (show ((manyG L : Nat) : Int) ≠ 0 by omega)
   have m2 := Int.emod_lt_of_pos a (show (0 : Int) < ((manyG L : Nat) : Int) by omega)
   have m3 := Int.emod_nonneg b (show (W : Int) ≠ 0 by omega)
   have m4 := Int.emod_lt_of_pos b (show (0 : Int) < (W : Int) by omega)
   have n40 := hV.grid.n40
   have wa2 : IntKind.i64.wrap (a % ((manyG L : Nat) : Int)) = a % ((manyG L : Nat) : Int) := wrap64 _ (by omega) (by omega)
   have wb2 : IntKind.i64.wrap (b % (W : Int)) = b % (W : Int) := wrap64 _ (by omega) (by omega)
   obtain ⟨r0, hg0, hgl⟩ := headGV hV.grid
   simp only [draftH] at hg0 gl hgl
   simp -implicitDefEqProofs [-Bool.exists_bool, and_assoc, dheldSpec, dgridSpec, draftSpec, Tryd.f10, h0, h1, eL, drsOf_C, rowsV]
   refine AWP.leaves 0 (dhE c O L a b) (AWP.rounds (fun i => i ≤ manyP O) (dhS c O L a b) (fun i => manyP O - i) 0 (by simp) ?_ ?_) ?_
   · exact Weak.trans (Weak.mkEmpty 2 0 30 2 (by decide) rfl rfl) (Weak.heap (by simp [dhS, rowsC]) (by simp [dhS]))
   · intro i hi
     refine wpc_ok hE mixed _ _ _ ?_
     have hmp : manyP O ≤ O.length ∧ manyP O ≤ 30 ∧ (manyP O = O.length ∨ manyP O = 30) := by unfold manyP; omega
     rcases Nat.lt_or_ge i (manyP O) with h | h
     · have wi : IntKind.i64.wrap ((i : Int) + 1) = ((i + 1 : Nat) : Int) := by rw [wrap64 _ (by omega) (by omega)]; omega
       have t1 : ((i : Int) < O.length) = True := eq_true (by omega)
       have t2 : ((i : Int) < 30) = True := eq_true (by omega)
       have hl : i < O.length := by omega
       have hs := map_step (rowG c O) (g := List.range (manyP O)) (i := i) (by simpa using h)
       rw [List.getElem_range] at hs
       have e : rowsC ((pastD c O).take (i + 1)) = rowsC ((pastD c O).take i) ++ rowC (rowG c O i) := by
         unfold pastD; rw [hs, rowsC_app]; simp [rowsC]
       have hdl := drs_len O
       have ht := drs_at O i hl
       have hd := hO _ (List.getElem_mem hl)
       have hg : O.getD i ⟨0, [], false⟩ = O[i] := by simp [hl]
       have hx : rowG c O i = draftF c O[i].B O[i].w := by unfold rowG; rw [hg]
       rw [hx] at e
       generalize O[i] = d at *
       obtain ⟨k, B, w⟩ := d
       obtain ⟨_, _, hB⟩ := hd
       simp only [drC] at ht e hB
       have eB : ∃ x : List Int, B.length = x.length ∧ B = x ∧ Bytes x := ⟨B, rfl, rfl, hB⟩
       have l1 : 3 ≤ O.length * 3 - i * 3 := by omega
       have l2 : min 3 (O.length * 3 - i * 3) = 3 := by omega
       simp -implicitDefEqProofs [-Bool.exists_bool, dhS, and_assoc, dgridSpec, draftSpec, t1, t2, wi, hdl, ht, l1, l2, h0, h1, eB]
       exact ⟨by omega, by omega, by rfl, Next.mk (i + 1) h (by omega) (Weak.ren [some 0, some 1, some 2, some 3] (baseOK.nil hh) (by simp) (by simp [e]) (by simp))⟩
     · obtain rfl : i = manyP O := by omega
       have hT : (pastD c O).take (manyP O) = pastD c O := List.take_of_length_le (by omega)
       rcases (show manyP O = O.length ∨ (manyP O < O.length ∧ manyP O = 30) by omega) with q | ⟨q0, q⟩
       · have t1 : (((manyP O : Nat) : Int) < O.length) = False := eq_false (by omega)
         simp -implicitDefEqProofs [-Bool.exists_bool, dhS, t1, hT]
         exact Leaves.mk (Weak.trans (Weak.solid 2 3 0 rfl rfl rfl) (Weak.heap (by simp [hlen]) (by simp [dhE])))
       · have t1 : (((manyP O : Nat) : Int) < 30) = False := eq_false (by omega)
         have t0 : (((manyP O : Nat) : Int) < O.length) = True := eq_true (by omega)
         simp -implicitDefEqProofs [-Bool.exists_bool, dhS, t0, t1, hT]
         exact Leaves.mk (Weak.trans (Weak.solid 2 3 0 rfl rfl rfl) (Weak.heap (by simp [hlen]) (by simp [dhE])))
   · have z1 : ¬ (manyG L : Nat) = 0 := by omega
     have z2 : ¬ W = 0 := by omega
     simp -implicitDefEqProofs [dhE, gl, wa, wb, ea, eb, wa2, wb2, hg0, z1, z2]
     exact ⟨g1, by rfl, by simp [draftH, hdV, hdC, hW, gl]⟩
def idHSpec : Spec := { pre := fun args => ∃ h : Hd, args = [hdV h], res := fun args => match args with
 | [.agg cs] => .one (.val (.agg cs))
 | _ => .many [] }
def G_ownH : Specs := []
@[simp] theorem G_ownH_live : Specs.live G_ownH = false := rfl
@[simp] theorem G_ownH_nils : Specs.nils G_ownH = false := rfl
theorem G_ownH_ok (gl : Gl) : SpecsOK Tryd.prog gl G_ownH := .nil _ _
set_option maxRecDepth 10000 in
theorem ownH_sound (gl : Gl) : Sound Tryd.prog gl 13 idHSpec := by
 refine sound_fn (N := Tryd.f13.ntmps) (rs := Tryd.f13.results.toList) mixed tok (G_ownH_ok gl) Tryd.func13 rfl rfl rfl rfl rfl ?_ ?_ ?_
 · rintro args ⟨h,rfl⟩; simp [hdV,hdC, Tryd.f13]
 · rintro args ⟨h,rfl⟩; simp [hdV,hdC, idHSpec, Tryd.f13]
 · rintro args ⟨h,rfl⟩ bs hgl hh hro
   have hE : Env.OK ⟨Tryd.prog, T, G_ownH, bs⟩ := ⟨tok, by rw [hgl]; exact G_ownH_ok gl⟩
   simp only [idHSpec, hdV,hdC]
   simp [and_assoc, idHSpec, Tryd.f13]
end Fen

namespace Fen
open Go Go.Proofs
theorem HV.ok {w n : Nat} {h : Hd} (v : HV w n h) : HdOK h := ⟨fun r hr => row_okF (v.past r hr).1, v.grid.rok⟩
theorem HV.fin {w n : Nat} {h : Hd} (v : HV w n h) : HdFin h := ⟨rowsFin_of (by have := v.pl; omega) fun r hr => row_lt (v.past r hr).1, v.grid.fin⟩
end Fen

namespace Fen
open Go Go.Proofs
theorem txC_at {ls : List (List Cel)} {i : Nat} (h : i < ls.length) : (txC ls).drop i = C.sl ls[i].length (celsC ls[i]) :: txC (ls.drop (i + 1)) := by
 unfold txC
 rw [← List.map_drop, List.drop_eq_getElem_cons h]; rfl
def sameLSpec : Spec := { pre := fun args => ∃ a b : Rw, args = [rowV a, rowV b] ∧ a.cells.length ≤ 1000000, res := fun args => match args with
 | [.agg a, .agg b] => .one (.val (.c (.bool (decide (rowOf a = rowOf b)))))
 | _ => .many [] }
def G_sameL : Specs := []
@[simp] theorem G_sameL_live : Specs.live G_sameL = false := rfl
@[simp] theorem G_sameL_nils : Specs.nils G_sameL = false := rfl
theorem G_sameL_ok (gl : Gl) : SpecsOK Tryd.prog gl G_sameL := .nil _ _
set_option maxRecDepth 10000 in
theorem sameL_sound (gl : Gl) : Sound Tryd.prog gl 17 sameLSpec := by
 refine sound_fn (N := Tryd.f17.ntmps) (rs := Tryd.f17.results.toList) mixed tok (G_sameL_ok gl) Tryd.func17 rfl rfl rfl rfl rfl ?_ ?_ ?_
 · rintro args ⟨a,b,rfl,ha⟩; simp [rowV, Tryd.f17]
 · rintro args ⟨a,b,rfl,ha⟩; simp [rowV, sameLSpec, Tryd.f17]
 · rintro args ⟨a,b,rfl,ha⟩ bs hgl hh hro
   have hE : Env.OK ⟨Tryd.prog, T, G_sameL, bs⟩ := ⟨tok, by rw [hgl]; exact G_sameL_ok gl⟩
   simp only [sameLSpec, rowV]
   rcases Decidable.em (a.cells.length = b.cells.length) with h1 | h1
   rotate_left
   · have e : decide (a = b) = false := by simp; rintro rfl; exact h1 rfl
     have h1' : ¬ (a.cells.length : Int) = b.cells.length := by omega
     simp [sameLSpec, Tryd.f17, rowV, h1', e]
   rcases Decidable.em (a.wrapped = b.wrapped) with h2 | h2
   rotate_left
   · have e : decide (a = b) = false := by simp; rintro rfl; exact h2 rfl
     simp [sameLSpec, Tryd.f17, rowV, h1, h2, e]
     done
   simp [sameLSpec, Tryd.f17, rowV, h1, h2]
   refine AWP.rounds (fun k => k ≤ a.cells.length ∧ a.cells.take k = b.cells.take k) (sameS a b) (fun k => a.cells.length - k) 0 ⟨by simp, by simp⟩ ?_ ?_
   · refine Weak.keep ?_
     simp [sameS]
   · rintro k ⟨hk, hc⟩
     refine wpc_ok hE mixed _ _ _ ?_
     rcases Nat.lt_or_ge k a.cells.length with h | h
     · have w1 : IntKind.i64.wrap ((k : Int) + 1) = k + 1 := wrap64 _ (by omega) (by omega)
       have hb : k < b.cells.length := by omega
       have hd := celsC_at h
       have hdb := celsC_at hb
       have ht := List.take_add_one (l := a.cells) (i := k)
       have htb := List.take_add_one (l := b.cells) (i := k)
       rw [List.getElem?_eq_getElem h] at ht
       rw [List.getElem?_eq_getElem hb] at htb
       have hne : ¬ a.cells[k] = b.cells[k] → ¬ a = b := fun q e => by subst e; exact q rfl
       generalize a.cells[k] = x at *
       generalize b.cells[k] = y at *
       simp [sameS, hd, hdb, w1, h, hb]
       refine ⟨rfl, hne, fun e => Next.mk (k + 1) ⟨h, by rw [ht, htb, hc, e]⟩ (by omega) (Weak.keep (by simp [sameS]))⟩
     · have : k = a.cells.length := by omega
       subst this
       have e : a = b := by
         rw [List.take_length, h1, List.take_length] at hc
         cases a; cases b; simp_all
       subst e
       simp [sameS]
end Fen

namespace Fen
open Go Go.Proofs
def rallSpec : Spec := { pre := fun args => ∃ h : Hd, args = [hdV h] ∧ heldF h = 0, res := fun args => match args with
 | [.agg cs] => .one (.val (rowsV (allH (hdOf cs))))
 | _ => .many [] }
def G_rall : Specs := []
@[simp] theorem G_rall_live : Specs.live G_rall = false := rfl
@[simp] theorem G_rall_nils : Specs.nils G_rall = false := rfl
theorem G_rall_ok (gl : Gl) : SpecsOK Tryd.prog gl G_rall := .nil _ _
set_option maxRecDepth 10000 in
theorem rall_sound (gl : Gl) : Sound Tryd.prog gl 62 rallSpec := by
 refine sound_fn (N := Tryd.f62.ntmps) (rs := Tryd.f62.results.toList) mixed tok (G_rall_ok gl) Tryd.func62 rfl rfl rfl rfl rfl ?_ ?_ ?_
 · rintro args ⟨h,rfl,hv⟩; simp [hdV,hdC, Tryd.f62]
 · rintro args ⟨h,rfl,hv⟩; simp [hdV,hdC, rallSpec, Tryd.f62]
 · rintro args ⟨h,rfl,hv⟩ bs hgl hh hro
   have hE : Env.OK ⟨Tryd.prog, T, G_rall, bs⟩ := ⟨tok, by rw [hgl]; exact G_rall_ok gl⟩
   simp only [rallSpec, hdV,hdC]
   have v := HV.of hv
   have eo := hdOf_C h
   have hl := v.len
   have hp := v.pl
   have n40 := v.grid.n40
   have ha : rowsC h.past ++ rowsC h.rows = rowsC (allH h) := (rowsC_app _ _).symm
   simp [and_assoc, rallSpec, Tryd.f62, eo, ha, rowsV, hl]
   exact ⟨by omega, by omega, by omega, by omega, by rfl⟩
def rgivesSpec : Spec := { pre := fun args => ∃ (h : Hd) (i : Nat), args = [hdV h, rowsV (allH h), .c (.int .i64 i)] ∧ heldF h = 0 ∧ i < (allH h).length, res := fun args => match args with
 | [.agg h, .c (.sl _ l), .c (.int _ i)] => .one (.val (.c (.int .i64 (giveF ((rowsOf l).getD i.toNat ⟨[], false⟩) ((rowsOf l)[i.toNat + 1]?) (decide (i.toNat = (hdOf h).past.length + (hdOf h).ar.toNat)) (hdOf h).ac.toNat))))
 | _ => .many [] }
def G_rgives : Specs := [(43, longSpec), (54, plainSpec)]
@[simp] theorem G_rgives_live : Specs.live G_rgives = false := rfl
@[simp] theorem G_rgives_nils : Specs.nils G_rgives = false := rfl
@[simp] theorem G_rgives_43 : G_rgives.find 43 = some longSpec := rfl
@[simp] theorem G_rgives_54 : G_rgives.find 54 = some plainSpec := rfl
theorem G_rgives_ok (gl : Gl) : SpecsOK Tryd.prog gl G_rgives := .cons (rlong_sound gl) (.cons (rplain_sound gl) (.nil _ _))
set_option maxRecDepth 10000 in
theorem rgives_sound (gl : Gl) : Sound Tryd.prog gl 63 rgivesSpec := by
 refine sound_fn (N := Tryd.f63.ntmps) (rs := Tryd.f63.results.toList) mixed tok (G_rgives_ok gl) Tryd.func63 rfl rfl rfl rfl rfl ?_ ?_ ?_
 · rintro args ⟨h,i,rfl,hv,hi⟩; simp [hdV,hdC,rowsV, Tryd.f63]
 · rintro args ⟨h,i,rfl,hv,hi⟩; simp [hdV,hdC,rowsV, rgivesSpec, Tryd.f63]
 · rintro args ⟨h,i,rfl,hv,hi⟩ bs hgl hh hro
   have hE : Env.OK ⟨Tryd.prog, T, G_rgives, bs⟩ := ⟨tok, by rw [hgl]; exact G_rgives_ok gl⟩
   simp only [rgivesSpec, hdV,hdC,rowsV]
   have v := HV.of hv
   have eo := hdOf_C h
   have hl := v.len
   have hp := v.pl
   have n40 := v.grid.n40
   have r0 := v.r0
   have r1 := v.r1
   have c0 := v.c0
   have c1 := v.c1
   have w2 := v.grid.w2
   have hdr := rowsC_at hi
   obtain ⟨hrv, hrl⟩ := v.all _ (List.getElem_mem hi)
   have hg : (allH h)[i]?.getD ⟨[], false⟩ = (allH h)[i] := by simp [hi]
   have er := rowOf_C (allH h)[i]
   generalize (allH h)[i] = r at *
   simp only [rowC] at hdr er
   have eP : ((i : Int) = (h.past.length : Int) + h.ar) = (i = h.past.length + h.ar.toNat) := by simp only [eq_iff_iff]; omega
   have wP : IntKind.i64.wrap ((h.past.length : Int) + h.ar) = (h.past.length : Int) + h.ar := wrap64 _ (by omega) (by omega)
   have wc : IntKind.i64.wrap (h.ac + 1) = h.ac + 1 := wrap64 _ (by omega) (by omega)
   cases hw : r.wrapped
   · rw [hw] at er
     have hrc : ∃ x : Rw, [C.sl r.cells.length (celsC r.cells), C.bool false] = rowC x ∧ x.cells.length ≤ 1000000 := ⟨r, by rw [← hw]; rfl, by omega⟩
     by_cases e : i = h.past.length + h.ar.toNat
     · have e' : (i = h.past.length + h.ar.toNat) = True := eq_true e
       simp [and_assoc, rgivesSpec, longSpec, plainSpec, Tryd.f63, eo, hdr, hg, er, hw, eP, wP, wc, e', giveF, rowsOf_C]
       exact ⟨hi, hrc, by split <;> omega⟩
     · have e' : (i = h.past.length + h.ar.toNat) = False := eq_false e
       simp [and_assoc, rgivesSpec, longSpec, plainSpec, Tryd.f63, eo, hdr, hg, er, hw, eP, wP, wc, e', giveF, rowsOf_C]
       exact ⟨hi, hrc⟩
   · have hk1 : r.cells.length - 1 < r.cells.length := by omega
     have hcl := celsC_at hk1
     have wl : IntKind.i64.wrap ((r.cells.length : Int) - 1) = ((r.cells.length - 1 : Nat) : Int) := by rw [wrap64 _ (by omega) (by omega)]; omega
     have wi : IntKind.i64.wrap ((i : Int) + 1) = (i : Int) + 1 := wrap64 _ (by omega) (by omega)
     have hcat := cat_eq hk1
     generalize r.cells[r.cells.length - 1] = z at *
     by_cases e : i + 1 < (allH h).length
     · have e' : ((i : Int) + 1 < (allH h).length) = True := eq_true (by omega)
       have hdn := rowsC_at e
       obtain ⟨hsv, hsl⟩ := v.all _ (List.getElem_mem e)
       have hn : (allH h)[i + 1]? = some (allH h)[i + 1] := List.getElem?_eq_getElem e
       generalize (allH h)[i + 1] = s at *
       have hs0 : 0 < s.cells.length := by omega
       have hcs := celsC_at hs0
       have hcat2 := cat_eq hs0
       have hwd : ∀ d, (celsC s.cells)[3]?.getD d = .int .i64 s.cells[0].wide := fun d => by
         have := hcs
         rw [Nat.zero_mul, List.drop_zero] at this
         rw [this]; rfl
       generalize s.cells[0] = y at *
       simp only [rowC] at hdn
       simp [and_assoc, rgivesSpec, longSpec, plainSpec, Tryd.f63, eo, hdr, hdn, hg, hw, wl, wi, e', hcl, giveF, rowsOf_C, hn, wideQ, hcat, hcat2, hwd]
       exact ⟨hi, hk1, fun q => ⟨q, by omega⟩, fun q => ⟨q, hs0⟩, fun q => ⟨q, by omega⟩, by rfl, fun q1 q2 => by rw [if_pos ⟨q2, q1⟩], fun q => by rw [if_neg (fun e => q e.2 e.1)]⟩
     · have e' : ((i : Int) + 1 < (allH h).length) = False := eq_false (by omega)
       have ho : ∀ d : C, (rowsC (allH h))[(i + 1) * 2]?.getD d = d := fun d => by rw [List.getElem?_eq_none (by simp; omega)]; rfl
       have hn : (allH h)[i + 1]? = none := List.getElem?_eq_none (by omega)
       simp [and_assoc, rgivesSpec, longSpec, plainSpec, Tryd.f63, eo, hdr, hg, hw, wl, wi, e', hcl, giveF, rowsOf_C, hn, wideQ, ho]
       exact ⟨hi, by rfl⟩
def lnC (l : Ln) : List C := [.sl l.cells.length (celsC l.cells), .bool l.opn, .int .i64 l.at', .int .i64 l.fst]
def lnsC (l : List Ln) : List C := l.flatMap lnC
@[simp] theorem lnsC_len (l : List Ln) : (lnsC l).length = l.length * 4 := by
 induction l with
 | nil => rfl
 | cons x l ih => simp only [lnsC, List.flatMap_cons, List.length_append] at ih ⊢; rw [ih]; simp [lnC]; omega
theorem lnsC_snoc (l : List Ln) (x : Ln) : lnsC (l ++ [x]) = lnsC l ++ lnC x := by simp [lnsC]
def rlinesSpec : Spec := { pre := fun args => ∃ h : Hd, args = [hdV h] ∧ heldF h = 0, res := fun args => match args with
 | [.agg cs] => .one (.val (.c (.sl (linesH (hdOf cs)).length (lnsC (linesH (hdOf cs))))))
 | _ => .many [] }
def rlS (h : Hd) (y : Nat × List Ln × Ln) : St :=
 ⟨85, [(1, .ptr 0 0 0), (3, .val (.sl (allH h).length (rowsC (allH h)))), (4, .ref 1 0), (5, .ptr 2 0 0), (6, .val (.int .i64 y.1))],
   [.box 35 ((hdC h).map .val), .sl 105 0 true 4 y.2.1.length (lnsC y.2.1), .box 105 [.ref 3 0, .val (.bool y.2.2.opn), .val (.int .i64 y.2.2.at'), .val (.int .i64 y.2.2.fst)],
     .sl 77 0 true 12 y.2.2.cells.length (celsC y.2.2.cells)]⟩
structure RlI (h : Hd) (y : Nat × List Ln × Ln) : Prop where
 run : linesH h = y.2.1 ++ runF h.past.length (h.past.length + h.ar.toNat) h.ac.toNat ((allH h).drop y.1) y.1 y.2.2
 i : y.1 ≤ (allH h).length
 len : y.2.2.cells.length ≤ 80 * y.1
 out : y.2.1.length ≤ y.1
def G_rlines : Specs := [(62, (nilsOf rallSpec)), (63, rgivesSpec)]
@[simp] theorem G_rlines_live : Specs.live G_rlines = false := rfl
@[simp] theorem G_rlines_nils : Specs.nils G_rlines = true := rfl
@[simp] theorem G_rlines_62 : G_rlines.find 62 = some (nilsOf rallSpec) := rfl
@[simp] theorem G_rlines_63 : G_rlines.find 63 = some rgivesSpec := rfl
theorem G_rlines_ok (gl : Gl) : SpecsOK Tryd.prog gl G_rlines := .cons (rall_sound gl).nils (.cons (rgives_sound gl) (.nil _ _))
set_option maxHeartbeats 8000000 in
set_option maxRecDepth 10000 in
theorem rlines_sound (gl : Gl) : Sound Tryd.prog gl 42 rlinesSpec := by
 refine sound_fn (N := Tryd.f42.ntmps) (rs := Tryd.f42.results.toList) mixed tok (G_rlines_ok gl) Tryd.func42 rfl rfl rfl rfl rfl ?_ ?_ ?_
 · rintro args ⟨h,rfl,hv⟩; simp [hdV,hdC,rowsOf_C, Tryd.f42]
 · rintro args ⟨h,rfl,hv⟩; simp [hdV,hdC,rowsOf_C, rlinesSpec, Tryd.f42]
 · rintro args ⟨h,rfl,hv⟩ bs hgl hh hro
   have hE : Env.OK ⟨Tryd.prog, T, G_rlines, bs⟩ := ⟨tok, by rw [hgl]; exact G_rlines_ok gl⟩
   simp only [rlinesSpec, hdV,hdC,rowsOf_C]
   have v := HV.of hv
   have eo := hdOf_C h
   have hl := v.len
   have hp := v.pl
   have n40 := v.grid.n40
   have r0 := v.r0
   have r1 := v.r1
   have c0 := v.c0
   have c1 := v.c1
   have w2 := v.grid.w2
   simp [and_assoc, rlinesSpec, rallSpec, rgivesSpec, Tryd.f42, eo, rowsV]
   refine ⟨⟨h, rfl, hv⟩, ?_⟩
   refine AWP.rounds (RlI h) (rlS h) (fun y => (allH h).length - y.1) (0, [], ln0) ⟨rfl, Nat.zero_le _, Nat.le_refl _, Nat.le_refl _⟩ (Weak.trans (Weak.mkEmpty 1 0 77 12 (by decide) rfl rfl) (Weak.ren [some 0, none, some 1, some 2] (baseOK.nil hh) (by simp) (by simp [rlS, hdC, lnsC, ln0]) (by simp [rlS]))) ?_
   rintro ⟨i, out, x⟩ ⟨hrun, hi, hxl, hol⟩
   simp only at hrun hi hxl hol
   refine wpc_ok hE mixed _ _ _ ?_
   rcases Nat.lt_or_ge i (allH h).length with g | g
   · have i' : ((i : Int) < (allH h).length) = True := eq_true (by omega)
     have wi : IntKind.i64.wrap ((i : Int) + 1) = ((i + 1 : Nat) : Int) := by rw [wrap64 _ (by omega) (by omega)]; omega
     have wN : IntKind.i64.wrap (((allH h).length : Int) - 1) = (((allH h).length - 1 : Nat) : Int) := by rw [wrap64 _ (by omega) (by omega)]; omega
     have hdr := rowsC_at g
     obtain ⟨_, hrl⟩ := v.all _ (List.getElem_mem g)
     have hg : (allH h)[i]?.getD ⟨[], false⟩ = (allH h)[i] := by simp [g]
     have hra := run_at (P := h.past.length) (a := h.past.length + h.ar.toNat) (col := h.ac.toNat) x g
     rw [hra] at hrun
     generalize (allH h)[i] = r at *
     simp only [rowC] at hdr
     obtain ⟨n, hn⟩ : ∃ n, giveF r (allH h)[i + 1]? (decide (i = h.past.length + h.ar.toNat)) h.ac.toNat = n := ⟨_, rfl⟩
     have hgiv : ∀ b, b = decide (i = h.past.length + h.ar.toNat) → giveF r (allH h)[i + 1]? b h.ac.toNat = n := fun b e => by rw [e, hn]
     have hnl : n ≤ r.cells.length := by rw [← hn]; exact give_le (fun _ => by omega)
     have htk : List.take (n * 12) (celsC r.cells) = celsC (r.cells.take n) := celsC_take _ _
     have htl : (r.cells.take n).length = n := by simp; omega
     have hmin : (if (n : Int) < h.ac then (n : Int) else h.ac) = ((min h.ac.toNat n : Nat) : Int) := by split <;> omega
     have wat : IntKind.i64.wrap ((x.cells.length : Int) + ((min h.ac.toNat n : Nat) : Int)) = ((x.cells.length + min h.ac.toNat n : Nat) : Int) := by rw [wrap64 _ (by omega) (by omega)]; omega
     have eAi : ((i : Int) = (h.past.length : Int) + h.ar) = (i = h.past.length + h.ar.toNat) := by simp only [eq_iff_iff]; omega
     have wP : IntKind.i64.wrap ((h.past.length : Int) + h.ar) = (h.past.length : Int) + h.ar := wrap64 _ (by omega) (by omega)
     have hx : addF h.past.length (h.past.length + h.ar.toNat) h.ac.toNat i r (allH h)[i + 1]? x = ⟨x.cells ++ r.cells.take n, r.wrapped, if i = h.past.length + h.ar.toNat then ((x.cells.length + min h.ac.toNat n : Nat) : Int) else x.at', if i = h.past.length then (x.cells.length : Int) else x.fst⟩ := by
       unfold addF; rw [hn]
     by_cases eP : i = h.past.length
     · rw [if_pos eP] at hx
       have eP' : ((i : Int) = (h.past.length : Int)) = True := eq_true (by omega)
       by_cases eA : i = h.past.length + h.ar.toNat
       · rw [if_pos eA] at hx
         have eA' : (i = h.past.length + h.ar.toNat) = True := eq_true eA
         have hgt := hgiv true (by simp [eA])
         cases hw : r.wrapped
         · rw [hw] at hx
           simp [rlS, hdC, and_assoc, rallSpec, rgivesSpec, eo, rowsOf_C, i', hdr, hg, hgt, eP', eAi, wP, eA', htk, hmin, wat, hw, wi]
           exact ⟨⟨h, rfl, rfl, rfl, i, rfl, hv, g⟩, hnl, by omega, by omega, by omega, by rfl, by omega, by omega, Next.mk (i + 1, out ++ [⟨x.cells ++ r.cells.take n, false, ((x.cells.length + min h.ac.toNat n : Nat) : Int), (x.cells.length : Int)⟩], ln0) ⟨by rw [hrun, if_neg (by simp [hw]), hx]; simp, by simp only; omega, by simp [ln0], by simp; omega⟩ (by simp only; omega) (Weak.trans (Weak.mkEmpty 2 0 77 12 (by decide) rfl rfl) (Weak.ren [some 0, some 1, some 2, some 4] (baseOK.nil hh) (by simp) (by simp [lnsC_snoc, lnC, celsC_app, htl, ln0, hdC]) (by simp)))⟩
         · rw [hw] at hx
           by_cases eN : i + 1 < (allH h).length
           · have eN' : ((i : Int) = (((allH h).length - 1 : Nat) : Int)) = False := eq_false (by omega)
             simp [rlS, hdC, and_assoc, rallSpec, rgivesSpec, eo, rowsOf_C, i', hdr, hg, hgt, eP', eAi, wP, eA', htk, hmin, wat, hw, wi, wN, eN']
             exact ⟨⟨h, rfl, rfl, rfl, i, rfl, hv, g⟩, hnl, by omega, by omega, by omega, by rfl, Next.mk (i + 1, out, ⟨x.cells ++ r.cells.take n, true, ((x.cells.length + min h.ac.toNat n : Nat) : Int), (x.cells.length : Int)⟩) ⟨by rw [hrun, if_pos ⟨hw, eN⟩, hx], by simp only; omega, by simp; omega, by simp only; omega⟩ (by simp only; omega) (Weak.ren [some 0, some 1, some 2, some 3] (baseOK.nil hh) (by simp) (by simp [celsC_app, htl, hdC]) (by simp))⟩
           · have eN' : ((i : Int) = (((allH h).length - 1 : Nat) : Int)) = True := eq_true (by omega)
             simp [rlS, hdC, and_assoc, rallSpec, rgivesSpec, eo, rowsOf_C, i', hdr, hg, hgt, eP', eAi, wP, eA', htk, hmin, wat, hw, wi, wN, eN']
             exact ⟨⟨h, rfl, rfl, rfl, i, rfl, hv, g⟩, hnl, by omega, by omega, by omega, by rfl, by omega, by omega, Next.mk (i + 1, out ++ [⟨x.cells ++ r.cells.take n, true, ((x.cells.length + min h.ac.toNat n : Nat) : Int), (x.cells.length : Int)⟩], ln0) ⟨by rw [hrun, if_neg (fun q => eN q.2), hx]; simp, by simp only; omega, by simp [ln0], by simp; omega⟩ (by simp only; omega) (Weak.trans (Weak.mkEmpty 2 0 77 12 (by decide) rfl rfl) (Weak.ren [some 0, some 1, some 2, some 4] (baseOK.nil hh) (by simp) (by simp [lnsC_snoc, lnC, celsC_app, htl, ln0, hdC]) (by simp)))⟩
       · rw [if_neg eA] at hx
         have eA' : (i = h.past.length + h.ar.toNat) = False := eq_false eA
         have hgt := hgiv false (by simp [eA])
         cases hw : r.wrapped
         · rw [hw] at hx
           simp [rlS, hdC, and_assoc, rallSpec, rgivesSpec, eo, rowsOf_C, i', hdr, hg, hgt, eP', eAi, wP, eA', htk, hmin, wat, hw, wi]
           exact ⟨⟨h, rfl, rfl, rfl, i, rfl, hv, g⟩, hnl, by omega, by omega, by omega, by rfl, by omega, by omega, Next.mk (i + 1, out ++ [⟨x.cells ++ r.cells.take n, false, x.at', (x.cells.length : Int)⟩], ln0) ⟨by rw [hrun, if_neg (by simp [hw]), hx]; simp, by simp only; omega, by simp [ln0], by simp; omega⟩ (by simp only; omega) (Weak.trans (Weak.mkEmpty 2 0 77 12 (by decide) rfl rfl) (Weak.ren [some 0, some 1, some 2, some 4] (baseOK.nil hh) (by simp) (by simp [lnsC_snoc, lnC, celsC_app, htl, ln0, hdC]) (by simp)))⟩
         · rw [hw] at hx
           by_cases eN : i + 1 < (allH h).length
           · have eN' : ((i : Int) = (((allH h).length - 1 : Nat) : Int)) = False := eq_false (by omega)
             simp [rlS, hdC, and_assoc, rallSpec, rgivesSpec, eo, rowsOf_C, i', hdr, hg, hgt, eP', eAi, wP, eA', htk, hmin, wat, hw, wi, wN, eN']
             exact ⟨⟨h, rfl, rfl, rfl, i, rfl, hv, g⟩, hnl, by omega, by omega, by omega, by rfl, Next.mk (i + 1, out, ⟨x.cells ++ r.cells.take n, true, x.at', (x.cells.length : Int)⟩) ⟨by rw [hrun, if_pos ⟨hw, eN⟩, hx], by simp only; omega, by simp; omega, by simp only; omega⟩ (by simp only; omega) (Weak.ren [some 0, some 1, some 2, some 3] (baseOK.nil hh) (by simp) (by simp [celsC_app, htl, hdC]) (by simp))⟩
           · have eN' : ((i : Int) = (((allH h).length - 1 : Nat) : Int)) = True := eq_true (by omega)
             simp [rlS, hdC, and_assoc, rallSpec, rgivesSpec, eo, rowsOf_C, i', hdr, hg, hgt, eP', eAi, wP, eA', htk, hmin, wat, hw, wi, wN, eN']
             exact ⟨⟨h, rfl, rfl, rfl, i, rfl, hv, g⟩, hnl, by omega, by omega, by omega, by rfl, by omega, by omega, Next.mk (i + 1, out ++ [⟨x.cells ++ r.cells.take n, true, x.at', (x.cells.length : Int)⟩], ln0) ⟨by rw [hrun, if_neg (fun q => eN q.2), hx]; simp, by simp only; omega, by simp [ln0], by simp; omega⟩ (by simp only; omega) (Weak.trans (Weak.mkEmpty 2 0 77 12 (by decide) rfl rfl) (Weak.ren [some 0, some 1, some 2, some 4] (baseOK.nil hh) (by simp) (by simp [lnsC_snoc, lnC, celsC_app, htl, ln0, hdC]) (by simp)))⟩
     · rw [if_neg eP] at hx
       have eP' : ((i : Int) = (h.past.length : Int)) = False := eq_false (by omega)
       by_cases eA : i = h.past.length + h.ar.toNat
       · rw [if_pos eA] at hx
         have eA' : (i = h.past.length + h.ar.toNat) = True := eq_true eA
         have hgt := hgiv true (by simp [eA])
         cases hw : r.wrapped
         · rw [hw] at hx
           simp [rlS, hdC, and_assoc, rallSpec, rgivesSpec, eo, rowsOf_C, i', hdr, hg, hgt, eP', eAi, wP, eA', htk, hmin, wat, hw, wi]
           exact ⟨⟨h, rfl, rfl, rfl, i, rfl, hv, g⟩, hnl, by omega, by omega, by omega, by rfl, by omega, by omega, Next.mk (i + 1, out ++ [⟨x.cells ++ r.cells.take n, false, ((x.cells.length + min h.ac.toNat n : Nat) : Int), x.fst⟩], ln0) ⟨by rw [hrun, if_neg (by simp [hw]), hx]; simp, by simp only; omega, by simp [ln0], by simp; omega⟩ (by simp only; omega) (Weak.trans (Weak.mkEmpty 2 0 77 12 (by decide) rfl rfl) (Weak.ren [some 0, some 1, some 2, some 4] (baseOK.nil hh) (by simp) (by simp [lnsC_snoc, lnC, celsC_app, htl, ln0, hdC]) (by simp)))⟩
         · rw [hw] at hx
           by_cases eN : i + 1 < (allH h).length
           · have eN' : ((i : Int) = (((allH h).length - 1 : Nat) : Int)) = False := eq_false (by omega)
             simp [rlS, hdC, and_assoc, rallSpec, rgivesSpec, eo, rowsOf_C, i', hdr, hg, hgt, eP', eAi, wP, eA', htk, hmin, wat, hw, wi, wN, eN']
             exact ⟨⟨h, rfl, rfl, rfl, i, rfl, hv, g⟩, hnl, by omega, by omega, by omega, by rfl, Next.mk (i + 1, out, ⟨x.cells ++ r.cells.take n, true, ((x.cells.length + min h.ac.toNat n : Nat) : Int), x.fst⟩) ⟨by rw [hrun, if_pos ⟨hw, eN⟩, hx], by simp only; omega, by simp; omega, by simp only; omega⟩ (by simp only; omega) (Weak.ren [some 0, some 1, some 2, some 3] (baseOK.nil hh) (by simp) (by simp [celsC_app, htl, hdC]) (by simp))⟩
           · have eN' : ((i : Int) = (((allH h).length - 1 : Nat) : Int)) = True := eq_true (by omega)
             simp [rlS, hdC, and_assoc, rallSpec, rgivesSpec, eo, rowsOf_C, i', hdr, hg, hgt, eP', eAi, wP, eA', htk, hmin, wat, hw, wi, wN, eN']
             exact ⟨⟨h, rfl, rfl, rfl, i, rfl, hv, g⟩, hnl, by omega, by omega, by omega, by rfl, by omega, by omega, Next.mk (i + 1, out ++ [⟨x.cells ++ r.cells.take n, true, ((x.cells.length + min h.ac.toNat n : Nat) : Int), x.fst⟩], ln0) ⟨by rw [hrun, if_neg (fun q => eN q.2), hx]; simp, by simp only; omega, by simp [ln0], by simp; omega⟩ (by simp only; omega) (Weak.trans (Weak.mkEmpty 2 0 77 12 (by decide) rfl rfl) (Weak.ren [some 0, some 1, some 2, some 4] (baseOK.nil hh) (by simp) (by simp [lnsC_snoc, lnC, celsC_app, htl, ln0, hdC]) (by simp)))⟩
       · rw [if_neg eA] at hx
         have eA' : (i = h.past.length + h.ar.toNat) = False := eq_false eA
         have hgt := hgiv false (by simp [eA])
         cases hw : r.wrapped
         · rw [hw] at hx
           simp [rlS, hdC, and_assoc, rallSpec, rgivesSpec, eo, rowsOf_C, i', hdr, hg, hgt, eP', eAi, wP, eA', htk, hmin, wat, hw, wi]
           exact ⟨⟨h, rfl, rfl, rfl, i, rfl, hv, g⟩, hnl, by omega, by omega, by omega, by rfl, by omega, by omega, Next.mk (i + 1, out ++ [⟨x.cells ++ r.cells.take n, false, x.at', x.fst⟩], ln0) ⟨by rw [hrun, if_neg (by simp [hw]), hx]; simp, by simp only; omega, by simp [ln0], by simp; omega⟩ (by simp only; omega) (Weak.trans (Weak.mkEmpty 2 0 77 12 (by decide) rfl rfl) (Weak.ren [some 0, some 1, some 2, some 4] (baseOK.nil hh) (by simp) (by simp [lnsC_snoc, lnC, celsC_app, htl, ln0, hdC]) (by simp)))⟩
         · rw [hw] at hx
           by_cases eN : i + 1 < (allH h).length
           · have eN' : ((i : Int) = (((allH h).length - 1 : Nat) : Int)) = False := eq_false (by omega)
             simp [rlS, hdC, and_assoc, rallSpec, rgivesSpec, eo, rowsOf_C, i', hdr, hg, hgt, eP', eAi, wP, eA', htk, hmin, wat, hw, wi, wN, eN']
             exact ⟨⟨h, rfl, rfl, rfl, i, rfl, hv, g⟩, hnl, by omega, by omega, by omega, by rfl, Next.mk (i + 1, out, ⟨x.cells ++ r.cells.take n, true, x.at', x.fst⟩) ⟨by rw [hrun, if_pos ⟨hw, eN⟩, hx], by simp only; omega, by simp; omega, by simp only; omega⟩ (by simp only; omega) (Weak.ren [some 0, some 1, some 2, some 3] (baseOK.nil hh) (by simp) (by simp [celsC_app, htl, hdC]) (by simp))⟩
           · have eN' : ((i : Int) = (((allH h).length - 1 : Nat) : Int)) = True := eq_true (by omega)
             simp [rlS, hdC, and_assoc, rallSpec, rgivesSpec, eo, rowsOf_C, i', hdr, hg, hgt, eP', eAi, wP, eA', htk, hmin, wat, hw, wi, wN, eN']
             exact ⟨⟨h, rfl, rfl, rfl, i, rfl, hv, g⟩, hnl, by omega, by omega, by omega, by rfl, by omega, by omega, Next.mk (i + 1, out ++ [⟨x.cells ++ r.cells.take n, true, x.at', x.fst⟩], ln0) ⟨by rw [hrun, if_neg (fun q => eN q.2), hx]; simp, by simp only; omega, by simp [ln0], by simp; omega⟩ (by simp only; omega) (Weak.trans (Weak.mkEmpty 2 0 77 12 (by decide) rfl rfl) (Weak.ren [some 0, some 1, some 2, some 4] (baseOK.nil hh) (by simp) (by simp [lnsC_snoc, lnC, celsC_app, htl, ln0, hdC]) (by simp)))⟩
   · obtain rfl : i = (allH h).length := by omega
     have e : linesH h = out := by rw [hrun, List.drop_length, runF, List.append_nil]
     simp [rlS, e]
end Fen

namespace Fen
open Go Go.Proofs
theorem lnsC_at {l : List Ln} {i : Nat} (h : i < l.length) : (lnsC l).drop (i * 4) = lnC l[i] ++ lnsC (l.drop (i + 1)) := by
 have key : ∀ (l : List Ln) (i : Nat) (h : i < l.length), (lnsC l).drop (i * 4) = lnC l[i] ++ lnsC (l.drop (i + 1)) := by
   intro l
   induction l with
   | nil => intro i h; simp at h
   | cons x l ih =>
     intro i h
     have e : lnsC (x :: l) = lnC x ++ lnsC l := by simp [lnsC]
     cases i with
     | zero => simp [e]
     | succ i =>
       have := ih i (by simpa using h)
       rw [e, List.drop_append, List.drop_of_length_le (by simp [lnC]; omega), List.nil_append, show (i + 1) * 4 - (lnC x).length = i * 4 by simp [lnC]; omega, this]
       simp
 exact key l i h
def rLinesSpec : Spec := { pre := fun args => ∃ h : Hd, args = [hdV h] ∧ heldF h = 0, res := fun args => match args with
 | [.agg cs] => .one (.val (txV (textH (hdOf cs))))
 | _ => .many [] }
def rLS (L : List Ln) (T : List (List Cel)) (i : Nat) : St :=
 ⟨33, [(3, .ref 0 0), (4, .val (.sl L.length (lnsC L))), (5, .val (.int .i64 i))], [.sl 28 0 true 1 i (txC (T.take i))]⟩
def G_rLines : Specs := [(42, rlinesSpec), (43, longSpec)]
@[simp] theorem G_rLines_live : Specs.live G_rLines = false := rfl
@[simp] theorem G_rLines_nils : Specs.nils G_rLines = false := rfl
@[simp] theorem G_rLines_42 : G_rLines.find 42 = some rlinesSpec := rfl
@[simp] theorem G_rLines_43 : G_rLines.find 43 = some longSpec := rfl
theorem G_rLines_ok (gl : Gl) : SpecsOK Tryd.prog gl G_rLines := .cons (rlines_sound gl) (.cons (rlong_sound gl) (.nil _ _))
set_option maxHeartbeats 2000000 in
set_option maxRecDepth 10000 in
theorem rLines_sound (gl : Gl) : Sound Tryd.prog gl 16 rLinesSpec := by
 refine sound_fn (N := Tryd.f16.ntmps) (rs := Tryd.f16.results.toList) mixed tok (G_rLines_ok gl) Tryd.func16 rfl rfl rfl rfl rfl ?_ ?_ ?_
 · rintro args ⟨h,rfl,hv⟩; simp [hdV,hdC, Tryd.f16]
 · rintro args ⟨h,rfl,hv⟩; simp [hdV,hdC, rLinesSpec, Tryd.f16]
 · rintro args ⟨h,rfl,hv⟩ bs hgl hh hro
   have hE : Env.OK ⟨Tryd.prog, T, G_rLines, bs⟩ := ⟨tok, by rw [hgl]; exact G_rLines_ok gl⟩
   simp only [rLinesSpec, hdV,hdC]
   have v := HV.of hv
   have eo := hdOf_C h
   have hcnt := v.lines_count
   have hlen := v.lines_len
   have hTl : (textH h).length = (linesH h).length := by simp [textH]
   have hTe : ∀ i, (hi : i < (linesH h).length) → (textH h).take (i + 1) = (textH h).take i ++ [(linesH h)[i].cells.take (longF (linesH h)[i].cells)] := fun i hi => by
     rw [List.take_succ_eq_append_getElem (by omega)]; simp [textH]
   simp [and_assoc, rLinesSpec, longSpec, rlinesSpec, Tryd.f16, eo]
   refine ⟨⟨h, rfl, hv⟩, ?_⟩
   refine AWP.rounds (fun i => i ≤ (linesH h).length) (rLS (linesH h) (textH h)) (fun i => (linesH h).length - i) 0 (by omega) (Weak.ren [none] (baseOK.nil hh) (by simp) (by simp [rLS, txC]) (by simp [rLS])) ?_
   intro i hi
   refine wpc_ok hE mixed _ _ _ ?_
   rcases Nat.lt_or_ge i (linesH h).length with g | g
   · have i' : ((i : Int) < (linesH h).length) = True := eq_true (by omega)
     have wi : IntKind.i64.wrap ((i : Int) + 1) = (i : Int) + 1 := wrap64 _ (by omega) (by omega)
     have hd := lnsC_at g
     have ht := hTe i g
     have hl := hlen _ (List.getElem_mem g)
     generalize (linesH h)[i] = x at *
     have hle := long_le x.cells
     have tk : List.take (longF x.cells * 12) (celsC x.cells) = celsC (x.cells.take (longF x.cells)) := celsC_take _ _
     have er : rowOf [C.sl x.cells.length (celsC x.cells), C.bool false] = ⟨x.cells, false⟩ := rowOf_C ⟨x.cells, false⟩
     have hrc : ∃ r : Rw, [C.sl x.cells.length (celsC x.cells), C.bool false] = rowC r ∧ r.cells.length ≤ 1000000 := ⟨⟨x.cells, false⟩, rfl, by simp only; omega⟩
     simp [rLS, and_assoc, longSpec, rlinesSpec, i', wi, hd, lnC, tk, er, hle]
     exact ⟨hrc, by omega, by omega, Next.mk (i + 1) (by omega) (by omega) (Weak.ren [some 0] (baseOK.nil hh) (by simp) (by simp [ht, txC_snoc, hle]) (by simp))⟩
   · have hT : (textH h).take i = textH h := List.take_of_length_le (by omega)
     obtain rfl : i = (linesH h).length := by omega
     simp [rLS, hT, txV, hTl]
def r90 (r : Rw) : Rw := ⟨r.cells.take (min r.cells.length 90), r.wrapped⟩
def bentF (x y : Int) (r : Rw) (p : Bool) (k : Int) (h : Hd) : Hd :=
 if p = true then ⟨h.past ++ [r90 r], h.rows, x, y⟩ else if 0 < k % 4 then ⟨h.past, h.rows.set (k % (h.rows.length : Int)).toNat (r90 r), x, y⟩ else ⟨h.past, h.rows, x, y⟩
def spV (x y : Int) (r : Rw) (p : Bool) (k : Int) : V := .agg [.int .i64 x, .int .i64 y, .sl r.cells.length (celsC r.cells), .bool r.wrapped, .bool p, .int .u8 k]
def bentSpec : Spec := { pre := fun args => ∃ (x y : Int) (r : Rw) (p : Bool) (k : Int) (h : Hd), args = [spV x y r p k, hdV h] ∧ 0 ≤ k ∧ k < 256 ∧ h.rows ≠ [] ∧ h.past.length ≤ 1000 ∧ h.rows.length ≤ 1000, res := fun args => match args with
 | [.agg [.int _ x, .int _ y, .sl _ c, .bool w, .bool p, .int _ k], .agg h] => .one (.val (hdV (bentF x y ⟨celsOf c, w⟩ p k (hdOf h))))
 | _ => .many [] }
def G_bent : Specs := []
@[simp] theorem G_bent_live : Specs.live G_bent = false := rfl
@[simp] theorem G_bent_nils : Specs.nils G_bent = false := rfl
theorem G_bent_ok (gl : Gl) : SpecsOK Tryd.prog gl G_bent := .nil _ _
set_option maxHeartbeats 2000000 in
set_option maxRecDepth 10000 in
theorem bent_sound (gl : Gl) : Sound Tryd.prog gl 11 bentSpec := by
 refine sound_awp (N := Tryd.f11.ntmps) (rs := Tryd.f11.results.toList) tok Tryd.func11 rfl rfl rfl rfl rfl ?_ ?_ ?_
 · rintro args ⟨x,y,r,p,k,h,rfl,k0,k1,hr,hp1,hp2⟩; simp [hdV,hdC,spV,celsOf_C, Tryd.f11]
 · rintro args ⟨x,y,r,p,k,h,rfl,k0,k1,hr,hp1,hp2⟩; simp [hdV,hdC,spV,celsOf_C, bentSpec, Tryd.f11]
 · rintro args ⟨x,y,r,p,k,h,rfl,k0,k1,hr,hp1,hp2⟩ bs hgl hh hro
   have hE : Env.OK ⟨Tryd.prog, T, G_bent, bs⟩ := ⟨tok, by rw [hgl]; exact G_bent_ok gl⟩
   simp only [bentSpec, hdV,hdC,spV,celsOf_C]
   have eo := hdOf_C h
   have hn : 0 < h.rows.length := by
     rcases Nat.eq_zero_or_pos h.rows.length with e | e
     · exact absurd (List.eq_nil_of_length_eq_zero e) hr
     · exact e
   obtain ⟨q, hq⟩ : ∃ q, min r.cells.length 90 = q := ⟨_, rfl⟩
   have hmin : (if 90 < (r.cells.length : Int) then (90 : Int) else (r.cells.length : Int)) = (q : Int) := by split <;> omega
   have tk : List.take (q * 12) (celsC r.cells) = celsC (r.cells.take q) := celsC_take _ _
   have e90 : rowC (r90 r) = [C.sl q (celsC (r.cells.take q)), C.bool r.wrapped] := by simp [r90, rowC, hq]; omega
   have ek := u8_tmod k0 4
   have wk4 : IntKind.u8.wrap (k % 4) = k % 4 := by simp [IntKind.wrap, IntKind.signed, IntKind.bits]; omega
   refine wpcU_ok hE mixed 9 _ _ _ ?_
   cases p
   · by_cases c : 0 < k % 4
     · have c' : (0 < k % 4) = True := eq_true c
       have wk : IntKind.i64.wrap k = k := wrap64 _ (by omega) (by omega)
       have en := u8_tmod k0 (h.rows.length : Int)
       have m1 := Int.emod_nonneg k (show (h.rows.length : Int) ≠ 0 by omega)
       have m2 := Int.emod_lt_of_pos k (show (0 : Int) < (h.rows.length : Int) by omega)
       have wkn : IntKind.i64.wrap (k % (h.rows.length : Int)) = k % (h.rows.length : Int) := wrap64 _ (by omega) (by omega)
       have nz : ¬ h.rows.length = 0 := by omega
       simp [and_assoc, bentSpec, Tryd.f11, eo, hmin, tk, ek, wk4, c', wk, en, wkn, nz]
       have eb : bentF x y ⟨r.cells, r.wrapped⟩ false k h = ⟨h.past, h.rows.set (k % (h.rows.length : Int)).toNat (r90 r), x, y⟩ := by unfold bentF; rw [if_neg (by simp), if_pos c]
       have hs := rowsC_set (l := h.rows) (k := (k % (h.rows.length : Int)).toNat) (by omega) (r90 r)
       rw [e90] at hs
       simp only [List.cons_append, List.nil_append] at hs
       refine ⟨by omega, by omega, by omega, by omega, by omega, by omega, by rfl, AWP.weaken (Weak.solid 1 4 1 rfl rfl rfl) (wpc_ok hE mixed _ _ _ ?_)⟩
       simp [eb, hs]
     · have c' : (0 < k % 4) = False := eq_false c
       simp [and_assoc, bentSpec, Tryd.f11, eo, hmin, tk, ek, wk4, c']
       have eb : bentF x y ⟨r.cells, r.wrapped⟩ false k h = ⟨h.past, h.rows, x, y⟩ := by unfold bentF; rw [if_neg (by simp), if_neg c]
       refine ⟨by omega, wpc_ok hE mixed _ _ _ ?_⟩
       simp [eb]
   · simp [and_assoc, bentSpec, Tryd.f11, eo, hmin, tk]
     have eb : bentF x y ⟨r.cells, r.wrapped⟩ true k h = ⟨h.past ++ [r90 r], h.rows, x, y⟩ := by unfold bentF; rw [if_pos rfl]
     have er : rowsC (h.past ++ [r90 r]) = rowsC h.past ++ [C.sl q (celsC (r.cells.take q)), C.bool r.wrapped] := by rw [rowsC_app, ← e90]; simp [rowsC]
     refine ⟨by omega, by omega, by omega, by omega, by omega, by rfl, AWP.weaken (Weak.solid 1 4 0 rfl rfl rfl) (wpc_ok hE mixed _ _ _ ?_)⟩
     simp [eb, er]
end Fen

namespace Fen
open Go Go.Proofs
theorem typed_dr {d : Nat} {p : List C} (h : Typed T d 91 p) : ∃ x : Dr, p = drC x ∧ x.ok := by
 obtain ⟨c, B, w, rfl, h0, h1, hB⟩ := typed_draft h
 exact ⟨⟨c, B, w⟩, rfl, h0, h1, hB⟩
theorem typed_place {d : Nat} {p : List C} (h : Typed T d 27 p) : ∃ a b : Int, p = [.int .i64 a, .int .i64 b] := by
 obtain ⟨d', parts, rfl, hk⟩ := typed_struct T_27 h
 match parts, hk with
 | [p0, p1], ⟨h0, h1, _⟩ =>
   obtain ⟨a, rfl, _⟩ := typed_i64 h0
   obtain ⟨b, rfl, _⟩ := typed_i64 h1
   exact ⟨a, b, rfl⟩
end Fen

namespace Fen
open Go Go.Proofs
theorem arg_hdraft {A : V} (h : TypedV T 25 A) : ∃ (c : Int) (O L : List Dr) (a b : Int), A = drV c O L a b ∧ DrIn c O L a b := by
 obtain ⟨d, ks, rfl, hk0⟩ := arg_agg T_25 rfl h
 obtain ⟨d', parts, rfl, hk⟩ := typed_struct T_25 hk0
 match parts, hk with
 | [p0, p1, p2, p3], ⟨h0, h1, h2, h3, _⟩ =>
   obtain ⟨c, rfl, q0, q1⟩ := typed_u8 h0
   obtain ⟨O, rfl, _, qO⟩ := typed_slice_of (en := drC) T_22 (fun d p h => typed_dr h) h1
   obtain ⟨L, rfl, _, qL⟩ := typed_slice_of (en := drC) T_22 (fun d p h => typed_dr h) h2
   obtain ⟨a, b, rfl, ha, hb⟩ := typed_u8x2 h3
   exact ⟨c, O, L, a, b, rfl, q0, q1, qO, qL, ha.1, ha.2, hb.1, hb.2⟩
end Fen

namespace Fen
open Go Go.Proofs
theorem arg_spoil {A : V} (h : TypedV T 32 A) : ∃ (x y : Int) (r : Rw) (p : Bool) (k : Int), A = spV x y r p k ∧ r.ok ∧ 0 ≤ k ∧ k < 256 := by
 obtain ⟨d, ks, rfl, hk0⟩ := arg_agg T_32 rfl h
 obtain ⟨d', parts, rfl, hk⟩ := typed_struct T_32 hk0
 match parts, hk with
 | [p0, p1, p2, p3], ⟨h0, h1, h2, h3, _⟩ =>
   obtain ⟨x, y, rfl⟩ := typed_place h0
   obtain ⟨r, rfl, hr, _⟩ := typed_row h1
   obtain ⟨p, rfl⟩ := typed_bool T_4 h2
   obtain ⟨k, rfl, k0, k1⟩ := typed_u8 h3
   exact ⟨x, y, r, p, k, rfl, hr, k0, k1⟩
end Fen

namespace Fen
open Go Go.Proofs
theorem r90_ok {r : Rw} (h : r.ok) : (r90 r).ok := fun c hc => h c (List.mem_of_mem_take hc)
theorem bent_ok {x y k : Int} {r : Rw} {p : Bool} {h : Hd} (hr : r.ok) (hh : HdOK h) : HdOK (bentF x y r p k h) := by
 unfold bentF
 split
 · refine ⟨fun z hz => ?_, hh.2⟩
   rcases List.mem_append.1 hz with q | q
   · exact hh.1 z q
   · simp only [List.mem_singleton] at q; subst q; exact r90_ok hr
 · split
   · refine ⟨hh.1, fun z hz => ?_⟩
     rcases List.mem_or_eq_of_mem_set hz with q | q
     · exact hh.2 z q
     · subst q; exact r90_ok hr
   · exact hh
theorem said_bad2 {W : Hd} (h : heldF W = 290) : saidF W = ([], 290) := by unfold saidF; rw [if_pos (by rw [h]; decide)]
theorem HV.text_len {w n : Nat} {h : Hd} (v : HV w n h) : (textH h).length ≤ 140 ∧ (textH h).length ≤ 1000000 ∧ ∀ x ∈ textH h, x.length ≤ 1000000 := by
 have h1 := v.lines_count
 have h3 : (textH h).length = (linesH h).length := by simp [textH]
 refine ⟨by omega, by omega, fun x hx => ?_⟩
 simp only [textH, List.mem_map] at hx
 obtain ⟨l, hl, rfl⟩ := hx
 have := v.lines_len l hl
 simp; omega
def lawLinesSpec : Spec := { pre := fun args => ∃ (c : Int) (O L : List Dr) (a b x y : Int) (r : Rw) (p : Bool) (k : Int), args = [drV c O L a b, spV x y r p k] ∧ DrIn c O L a b ∧ r.ok ∧ 0 ≤ k ∧ k < 256, res := fun _ => .one (.val (.c (.bool true))) }
def llS (LL : List C) (i : Nat) : St := ⟨80, [(17, .agg LL), (18, .val (.int .i64 i))], []⟩
def llS2 (LL : List C) (i : Nat) (T : List (List Cel)) (j : Nat) : St := ⟨80, [(17, .agg LL), (18, .val (.int .i64 i)), (7, .val (.sl T.length (txC T))), (9, .val (.sl T.length (txC T))), (10, .val (.int .i64 j))], []⟩
def G_lawLines : Specs := [(18, lworks9Spec), (10, dheldSpec), (11, bentSpec), (13, idHSpec), (12, linesSpec), (14, rheldSpec), (15, heldckSpec), (16, rLinesSpec), (17, sameLSpec)]
@[simp] theorem G_lawLines_live : Specs.live G_lawLines = false := rfl
@[simp] theorem G_lawLines_nils : Specs.nils G_lawLines = false := rfl
@[simp] theorem G_lawLines_18 : G_lawLines.find 18 = some lworks9Spec := rfl
@[simp] theorem G_lawLines_10 : G_lawLines.find 10 = some dheldSpec := rfl
@[simp] theorem G_lawLines_11 : G_lawLines.find 11 = some bentSpec := rfl
@[simp] theorem G_lawLines_13 : G_lawLines.find 13 = some idHSpec := rfl
@[simp] theorem G_lawLines_12 : G_lawLines.find 12 = some linesSpec := rfl
@[simp] theorem G_lawLines_14 : G_lawLines.find 14 = some rheldSpec := rfl
@[simp] theorem G_lawLines_15 : G_lawLines.find 15 = some heldckSpec := rfl
@[simp] theorem G_lawLines_16 : G_lawLines.find 16 = some rLinesSpec := rfl
@[simp] theorem G_lawLines_17 : G_lawLines.find 17 = some sameLSpec := rfl
theorem G_lawLines_ok : SpecsOK Tryd.prog glW G_lawLines := .cons works9_sound (.cons (dheld_sound glW) (.cons (bent_sound glW) (.cons (ownH_sound glW) (.cons lines_sound (.cons (rheld_sound glW) (.cons heldck_sound (.cons (rLines_sound glW) (.cons (sameL_sound glW) (.nil _ _)))))))))
set_option maxHeartbeats 8000000 in
set_option maxRecDepth 10000 in
theorem lawLines_sound : Sound Tryd.prog glW 3 lawLinesSpec := by
 refine sound_fn (N := Tryd.f3.ntmps) (rs := Tryd.f3.results.toList) mixed tok G_lawLines_ok Tryd.func3 rfl rfl rfl rfl rfl ?_ ?_ ?_
 · rintro args ⟨c,O,L,a,b,x,y,r,p,k,rfl,hD,hr,k0,k1⟩; simp [drV,spV, Tryd.f3]
 · rintro args ⟨c,O,L,a,b,x,y,r,p,k,rfl,hD,hr,k0,k1⟩; simp [drV,spV, lawLinesSpec, Tryd.f3]
 · rintro args ⟨c,O,L,a,b,x,y,r,p,k,rfl,hD,hr,k0,k1⟩ bs hgl hh hro
   have hE : Env.OK ⟨Tryd.prog, T, G_lawLines, bs⟩ := ⟨tok, by rw [hgl]; exact G_lawLines_ok⟩
   simp only [lawLinesSpec, drV,spV]
   have v := draftH_ok hD
   obtain ⟨w, hw⟩ : ∃ w, 2 + c.toNat % 79 = w := ⟨_, rfl⟩
   obtain ⟨n, hn⟩ : ∃ n, manyG L = n := ⟨_, rfl⟩
   obtain ⟨H, hH⟩ : ∃ H, draftH c O L a b = H := ⟨_, rfl⟩
   rw [hw, hn, hH] at v
   have oH := hdOf_C H
   have okB := bent_ok (x := x) (y := y) (k := k) (p := p) hr v.ok
   have cr : celsOf (celsC r.cells) = r.cells := celsOf_C r.cells
   obtain ⟨B, hB⟩ : ∃ B, bentF x y ⟨r.cells, r.wrapped⟩ p k H = B := ⟨_, rfl⟩
   rw [show bentF x y r p k H = B from hB] at okB
   have oB := hdOf_C B
   have hp := v.pl
   have gn := v.grid.len
   have n40 := v.grid.n40
   have hne := v.grid.ne
   simp -implicitDefEqProofs [-Bool.exists_bool, and_assoc, lawLinesSpec, bentSpec, dheldSpec, heldckSpec, idHSpec, linesSpec, lworks9Spec, rLinesSpec, rheldSpec, sameLSpec, Tryd.f3, drsOf_C, hH, hdV, hdC, oH, cr, hB]
   refine ⟨⟨c, O, L, a, b, rfl, hD⟩, ⟨x, y, r, p, k, rfl, H, rfl, rfl, rfl, rfl, rfl, rfl, k0, k1, hne, by omega, by omega⟩, by rfl, ?_⟩
   obtain ⟨LL, hLL⟩ : ∃ LL, [C.sl H.past.length (rowsC H.past), C.sl H.rows.length (rowsC H.rows), C.int .i64 H.ar, C.int .i64 H.ac, C.sl B.past.length (rowsC B.past), C.sl B.rows.length (rowsC B.rows), C.int .i64 B.ar, C.int .i64 B.ac] = LL := ⟨_, rfl⟩
   refine AWP.leaves 0 (llS LL 2) (AWP.rounds (fun i => i ≤ 2) (llS LL) (fun i => 2 - i) 0 (by omega) (Weak.ren [] (baseOK.nil hh) (by simp) (by simp) (by simp [llS, hLL])) ?_) ?_
   · intro i hi
     refine wpc_ok hE mixed _ _ _ ?_
     rcases Nat.lt_or_ge i 2 with h | h
     · have i' : ((i : Int) < 2) = True := eq_true (by omega)
       have wi : IntKind.i64.wrap ((i : Int) + 1) = (i : Int) + 1 := wrap64 _ (by omega) (by omega)
       have hl8 : LL.length = 8 := by rw [← hLL]; rfl
       obtain ⟨X, hX, okX⟩ : ∃ X : Hd, List.take 4 (List.drop (i * 4) LL) = hdC X ∧ HdOK X := by
         rcases (show i = 0 ∨ i = 1 by omega) with rfl | rfl
         · exact ⟨H, by subst hLL; rfl, v.ok⟩
         · exact ⟨B, by subst hLL; rfl, okB⟩
       have oX := hdOf_C X
       simp only [hdC] at hX
       by_cases hv : heldF X = 0
       · have vX := HV.of hv
         have l1 : saidF X = (textH X, 0) := by unfold saidF; rw [if_neg (by simp [hv])]
         obtain ⟨f1, f2, f3⟩ := vX.text_len
         generalize hT : textH X = TX at *
         simp -implicitDefEqProofs [llS, and_assoc, bentSpec, dheldSpec, heldckSpec, idHSpec, linesSpec, lworks9Spec, rLinesSpec, rheldSpec, sameLSpec, i', hl8, hX, hdV, hdC, oX, hv, l1, hT, txV]
         refine ⟨by omega, ⟨X, rfl, rfl, rfl, rfl, rfl, rfl⟩, ⟨X, rfl, rfl, rfl, rfl, rfl, rfl, okX⟩, ⟨X, rfl, rfl, rfl, rfl, rfl, rfl, hv⟩, ⟨X, rfl, rfl, rfl, rfl, rfl, rfl⟩, ⟨X, rfl, rfl, rfl, rfl, rfl, rfl, okX⟩, ?_⟩
         refine AWP.rounds (fun j => j ≤ TX.length) (llS2 LL i TX) (fun j => TX.length - j) 0 (by omega) (Weak.ren [] (baseOK.nil hh) (by simp) (by simp) (by simp [llS2])) ?_
         intro j hj
         refine wpc_ok hE mixed _ _ _ ?_
         rcases Nat.lt_or_ge j TX.length with g | g
         · have j' : ((j : Int) < TX.length) = True := eq_true (by omega)
           have wj : IntKind.i64.wrap ((j : Int) + 1) = (j : Int) + 1 := wrap64 _ (by omega) (by omega)
           have hd := txC_at g
           have hm := f3 _ (List.getElem_mem g)
           generalize TX[j] = z at *
           have rz : rowOf [C.sl z.length (celsC z), C.bool false] = ⟨z, false⟩ := rowOf_C ⟨z, false⟩
           simp -implicitDefEqProofs [llS2, and_assoc, bentSpec, dheldSpec, heldckSpec, idHSpec, linesSpec, lworks9Spec, rLinesSpec, rheldSpec, sameLSpec, j', wj, hd, rz]
           exact ⟨⟨⟨z, false⟩, rfl, ⟨⟨z, false⟩, rfl⟩, hm⟩, by rfl, Next.mk (j + 1) (by omega) (by omega) (Weak.heap rfl (by simp))⟩
         · have j' : ((j : Int) < TX.length) = False := eq_false (by omega)
           simp -implicitDefEqProofs [llS2, j', wi]
           exact Next.mk (i + 1) (by omega) (by omega) (Weak.heap rfl (by simp [llS]))
       · have hv2 := (heldF_or X).resolve_left hv
         have m2 := said_bad2 hv2
         simp -implicitDefEqProofs [llS, and_assoc, bentSpec, dheldSpec, heldckSpec, idHSpec, linesSpec, lworks9Spec, rLinesSpec, rheldSpec, sameLSpec, i', wi, hl8, hX, hdV, hdC, oX, hv2, m2, txV, txC]
         exact ⟨by omega, ⟨X, rfl, rfl, rfl, rfl, rfl, rfl⟩, ⟨X, rfl, rfl, rfl, rfl, rfl, rfl, okX⟩, ⟨X, rfl, rfl, rfl, rfl, rfl, rfl⟩, ⟨X, rfl, rfl, rfl, rfl, rfl, rfl, okX⟩, Next.mk (i + 1) (by omega) (by omega) (Weak.ren [] (baseOK.nil hh) (by simp) (by simp) (by simp))⟩
     · obtain rfl : i = 2 := by omega
       simp -implicitDefEqProofs [llS]
       exact Leaves.mk (Weak.heap rfl (by simp))
   · simp -implicitDefEqProofs [llS, and_assoc, bentSpec, dheldSpec, heldckSpec, idHSpec, linesSpec, lworks9Spec, rLinesSpec, rheldSpec, sameLSpec]
end Fen
