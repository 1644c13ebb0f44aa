/- A part of the proof; no statement is proved here: FReflLf, FReflX, FReflLs, FReflY, FGridT, FReflTa, FReflLk. -/
import Derived.Test.YtjolofoocpeinaaDoorReflF
import Derived.Test.YtjolofoocpeinaaDoorCoreF
import Derived.Test.YtjolofoocpeinaaDoorGridA

set_option linter.unusedVariables false
set_option linter.unusedSimpArgs false

namespace Fen
open Go Go.Proofs
theorem u8_tmod {a : Int} (h0 : 0 ≤ a) (m : Int) : a.tmod m = a % m := Int.tmod_eq_emod_of_nonneg h0
theorem headGV {w n : Nat} {g : List Rw} (h : GV w n g) : ∃ r0 : Rw, (∀ d, (rowsC g).head?.getD d = .sl w (celsC r0.cells)) ∧ 0 < g.length := by
 have h1 := h.ne
 match g, h1, h with
 | r :: g, _, h => exact ⟨r, fun d => by rw [← (h.rows r (List.mem_cons_self ..)).2]; rfl, by simp⟩
theorem row_at {w n : Nat} {g : List Rw} (v : GV w n g) {i : Nat} (h : i < n) : ∃ r : Rw, r.cells.length = w ∧ g.getD i ⟨[], false⟩ = r ∧ List.drop (i * 2) (rowsC g) = C.sl w (celsC r.cells) :: C.bool r.wrapped :: rowsC (g.drop (i + 1)) := by
 have h1 := v.len
 have hl : i < g.length := by omega
 have h2 := (v.rows _ (List.getElem_mem hl)).2
 refine ⟨g[i], h2, by simp [List.getD_eq_getElem?_getD, hl], ?_⟩
 rw [rowsC_at hl, ← h2]; rfl
end Fen

namespace Fen
open Go Go.Proofs
def manyP (O : List Dr) : Nat := min O.length 30
def pastD (c : Int) (O : List Dr) : List Rw := (List.range (manyP O)).map (rowG c O)
def draftH (c : Int) (O L : List Dr) (a b : Int) : Hd := ⟨pastD c O, gridD c L, a % (manyG L : Nat), b % ((2 + c.toNat % 79 : Nat) : Int)⟩
def DrIn (c : Int) (O L : List Dr) (a b : Int) : Prop := 0 ≤ c ∧ c < 256 ∧ (∀ d ∈ O, d.ok) ∧ (∀ d ∈ L, d.ok) ∧ 0 ≤ a ∧ a < 256 ∧ 0 ≤ b ∧ b < 256
def drV (c : Int) (O L : List Dr) (a b : Int) : V := .agg [.int .u8 c, .sl O.length (O.flatMap drC), .sl L.length (L.flatMap drC), .int .u8 a, .int .u8 b]
theorem draftH_ok {c : Int} {O L : List Dr} {a b : Int} (h : DrIn c O L a b) : HV (2 + c.toNat % 79) (manyG L) (draftH c O L a b) := by
 obtain ⟨_, _, _, _, a0, _, b0, _⟩ := h
 have hm := many_le L
 refine ⟨GV.grid c L, by simp [draftH, pastD, manyP]; omega, fun r hr => ?_, ?_, ?_, ?_, ?_⟩
 · simp only [draftH, pastD, List.mem_map] at hr
   obtain ⟨i, _, rfl⟩ := hr
   exact ⟨draft_ok _ _ _, draft_len _ _ _⟩
 · exact Int.emod_nonneg _ (by omega)
 · exact Int.emod_lt_of_pos _ (by omega)
 · exact Int.emod_nonneg _ (by omega)
 · exact Int.emod_lt_of_pos _ (by omega)
def dheldSpec : Spec := { pre := fun args => ∃ (c : Int) (O L : List Dr) (a b : Int), args = [drV c O L a b] ∧ DrIn c O L a b, res := fun args => match args with
 | [.agg [.int _ c, .sl _ o, .sl _ l, .int _ a, .int _ b]] => .one (.val (hdV (draftH c (drsOf o) (drsOf l) a b)))
 | _ => .many [] }
def dhS (c : Int) (O L : List Dr) (a b : Int) (i : Nat) : St :=
 ⟨61, [(1, .ptr 0 0 0), (2, .ptr 1 0 0), (3, .ptr 2 0 0), (4, .val (.int .i64 i))], [.box 25 [.val (.int .u8 c), .val (.sl O.length (O.flatMap drC)), .val (.sl L.length (L.flatMap drC)), .val (.int .u8 a), .val (.int .u8 b)],
   .box 35 [.nil, .nil, .val (.int .i64 0), .val (.int .i64 0)], .box 35 [.ref 3 0, .val (.sl (gridD c L).length (rowsC (gridD c L))), .val (.int .i64 0), .val (.int .i64 0)],
   .sl 30 0 true 2 i (rowsC ((pastD c O).take i))]⟩
def dhE (c : Int) (O L : List Dr) (a b : Int) : St :=
 ⟨61, [(1, .ptr 0 0 0), (2, .ptr 1 0 0), (3, .ptr 2 0 0)], [.box 25 [.val (.int .u8 c), .val (.sl O.length (O.flatMap drC)), .val (.sl L.length (L.flatMap drC)), .val (.int .u8 a), .val (.int .u8 b)],
   .box 35 [.nil, .nil, .val (.int .i64 0), .val (.int .i64 0)], .box 35 [.val (.sl (pastD c O).length (rowsC (pastD c O))), .val (.sl (gridD c L).length (rowsC (gridD c L))), .val (.int .i64 0), .val (.int .i64 0)],
   .sl 30 0 false 2 (pastD c O).length (rowsC (pastD c O))]⟩
def G_dheld : Specs := [(24, dgridSpec), (36, (nilsOf draftSpec))]
@[simp] theorem G_dheld_live : Specs.live G_dheld = false := rfl
@[simp] theorem G_dheld_nils : Specs.nils G_dheld = true := rfl
@[simp] theorem G_dheld_24 : G_dheld.find 24 = some dgridSpec := rfl
@[simp] theorem G_dheld_36 : G_dheld.find 36 = some (nilsOf draftSpec) := rfl
theorem G_dheld_ok (gl : Gl) : SpecsOK Tryd.prog gl G_dheld := .cons (dgrid_sound gl) (.cons (draft_sound gl).nils (.nil _ _))
set_option maxHeartbeats 4000000 in
set_option maxRecDepth 10000 in
theorem dheld_sound (gl : Gl) : Sound Tryd.prog gl 10 dheldSpec := by
 refine sound_fn (N := Tryd.f10.ntmps) (rs := Tryd.f10.results.toList) mixed tok (G_dheld_ok gl) Tryd.func10 rfl rfl rfl rfl rfl ?_ ?_ ?_
 · rintro args ⟨c,O,L,a,b,rfl,h0,h1,hO,hL,a0,a1,b0,b1⟩; simp [drsOf_C,drV, Tryd.f10]
 · rintro args ⟨c,O,L,a,b,rfl,h0,h1,hO,hL,a0,a1,b0,b1⟩; simp [drsOf_C,drV, dheldSpec, Tryd.f10]
 · rintro args ⟨c,O,L,a,b,rfl,h0,h1,hO,hL,a0,a1,b0,b1⟩ bs hgl hh hro
   have hE : Env.OK ⟨Tryd.prog, T, G_dheld, bs⟩ := ⟨tok, by rw [hgl]; exact G_dheld_ok gl⟩
   simp only [dheldSpec, drsOf_C,drV]
   have eL : ∃ x : List Dr, L.length = x.length ∧ L.flatMap drC = x.flatMap drC ∧ ∀ d ∈ x, d.ok := ⟨L, rfl, rfl, hL⟩
   have hV := draftH_ok (c := c) (O := O) (L := L) (a := a) (b := b) ⟨h0, h1, hO, hL, a0, a1, b0, b1⟩
   obtain ⟨W, hW⟩ : ∃ W, 2 + c.toNat % 79 = W := ⟨_, rfl⟩
   rw [hW] at hV
   have gl := hV.grid.len
   have g1 := hV.grid.n1
   have hlen : (pastD c O).length = manyP O := by simp [pastD]
   have w2 := hV.grid.w2
   have wa : IntKind.i64.wrap a = a := wrap64 _ (by omega) (by omega)
   have wb : IntKind.i64.wrap b = b := wrap64 _ (by omega) (by omega)
   have ea := u8_tmod a0 ((manyG L : Nat) : Int)
   have eb := u8_tmod b0 (W : Int)
   have m1 := Int.emod_nonneg a (show ((manyG L : Nat) : Int) ≠ 0 by omega)
   have m2 := Int.emod_lt_of_pos a (show (0 : Int) < ((manyG L : Nat) : Int) by omega)
   have m3 := Int.emod_nonneg b (show (W : Int) ≠ 0 by omega)
   have m4 := Int.emod_lt_of_pos b (show (0 : Int) < (W : Int) by omega)
   have n40 := hV.grid.n40
   have wa2 : IntKind.i64.wrap (a % ((manyG L : Nat) : Int)) = a % ((manyG L : Nat) : Int) := wrap64 _ (by omega) (by omega)
   have wb2 : IntKind.i64.wrap (b % (W : Int)) = b % (W : Int) := wrap64 _ (by omega) (by omega)
   obtain ⟨r0, hg0, hgl⟩ := headGV hV.grid
   simp only [draftH] at hg0 gl hgl
   simp -implicitDefEqProofs [-Bool.exists_bool, and_assoc, dheldSpec, dgridSpec, draftSpec, Tryd.f10, h0, h1, eL, drsOf_C, rowsV]
   refine AWP.leaves 0 (dhE c O L a b) (AWP.rounds (fun i => i ≤ manyP O) (dhS c O L a b) (fun i => manyP O - i) 0 (by simp) ?_ ?_) ?_
   · exact Weak.trans (Weak.mkEmpty 2 0 30 2 (by decide) rfl rfl) (Weak.heap (by simp [dhS, rowsC]) (by simp [dhS]))
   · intro i hi
     refine wpc_ok hE mixed _ _ _ ?_
     have hmp : manyP O ≤ O.length ∧ manyP O ≤ 30 ∧ (manyP O = O.length ∨ manyP O = 30) := by unfold manyP; omega
     rcases Nat.lt_or_ge i (manyP O) with h | h
     · have wi : IntKind.i64.wrap ((i : Int) + 1) = ((i + 1 : Nat) : Int) := by rw [wrap64 _ (by omega) (by omega)]; omega
       have t1 : ((i : Int) < O.length) = True := eq_true (by omega)
       have t2 : ((i : Int) < 30) = True := eq_true (by omega)
       have hl : i < O.length := by omega
       have hs := map_step (rowG c O) (g := List.range (manyP O)) (i := i) (by simpa using h)
       rw [List.getElem_range] at hs
       have e : rowsC ((pastD c O).take (i + 1)) = rowsC ((pastD c O).take i) ++ rowC (rowG c O i) := by
         unfold pastD; rw [hs, rowsC_app]; simp [rowsC]
       have hdl := drs_len O
       have ht := drs_at O i hl
       have hd := hO _ (List.getElem_mem hl)
       have hg : O.getD i ⟨0, [], false⟩ = O[i] := by simp [hl]
       have hx : rowG c O i = draftF c O[i].B O[i].w := by unfold rowG; rw [hg]
       rw [hx] at e
       generalize O[i] = d at *
       obtain ⟨k, B, w⟩ := d
       obtain ⟨_, _, hB⟩ := hd
       simp only [drC] at ht e hB
       have eB : ∃ x : List Int, B.length = x.length ∧ B = x ∧ Bytes x := ⟨B, rfl, rfl, hB⟩
       have l1 : 3 ≤ O.length * 3 - i * 3 := by omega
       have l2 : min 3 (O.length * 3 - i * 3) = 3 := by omega
       simp -implicitDefEqProofs [-Bool.exists_bool, dhS, and_assoc, dgridSpec, draftSpec, t1, t2, wi, hdl, ht, l1, l2, h0, h1, eB]
       exact ⟨by omega, by omega, by rfl, Next.mk (i + 1) h (by omega) (Weak.ren [some 0, some 1, some 2, some 3] (baseOK.nil hh) (by simp) (by simp [e]) (by simp))⟩
     · obtain rfl : i = manyP O := by omega
       have hT : (pastD c O).take (manyP O) = pastD c O := List.take_of_length_le (by omega)
       rcases (show manyP O = O.length ∨ (manyP O < O.length ∧ manyP O = 30) by omega) with q | ⟨q0, q⟩
       · have t1 : (((manyP O : Nat) : Int) < O.length) = False := eq_false (by omega)
         simp -implicitDefEqProofs [-Bool.exists_bool, dhS, t1, hT]
         exact Leaves.mk (Weak.trans (Weak.solid 2 3 0 rfl rfl rfl) (Weak.heap (by simp [hlen]) (by simp [dhE])))
       · have t1 : (((manyP O : Nat) : Int) < 30) = False := eq_false (by omega)
         have t0 : (((manyP O : Nat) : Int) < O.length) = True := eq_true (by omega)
         simp -implicitDefEqProofs [-Bool.exists_bool, dhS, t0, t1, hT]
         exact Leaves.mk (Weak.trans (Weak.solid 2 3 0 rfl rfl rfl) (Weak.heap (by simp [hlen]) (by simp [dhE])))
   · have z1 : ¬ (manyG L : Nat) = 0 := by omega
     have z2 : ¬ W = 0 := by omega
     simp -implicitDefEqProofs [dhE, gl, wa, wb, ea, eb, wa2, wb2, hg0, z1, z2]
     exact ⟨g1, by rfl, by simp [draftH, hdV, hdC, hW, gl]⟩
def idHSpec : Spec := { pre := fun args => ∃ h : Hd, args = [hdV h], res := fun args => match args with
 | [.agg cs] => .one (.val (.agg cs))
 | _ => .many [] }
def G_ownH : Specs := []
@[simp] theorem G_ownH_live : Specs.live G_ownH = false := rfl
@[simp] theorem G_ownH_nils : Specs.nils G_ownH = false := rfl
theorem G_ownH_ok (gl : Gl) : SpecsOK Tryd.prog gl G_ownH := .nil _ _
set_option maxRecDepth 10000 in
theorem ownH_sound (gl : Gl) : Sound Tryd.prog gl 13 idHSpec := by
 refine sound_fn (N := Tryd.f13.ntmps) (rs := Tryd.f13.results.toList) mixed tok (G_ownH_ok gl) Tryd.func13 rfl rfl rfl rfl rfl ?_ ?_ ?_
 · rintro args ⟨h,rfl⟩; simp [hdV,hdC, Tryd.f13]
 · rintro args ⟨h,rfl⟩; simp [hdV,hdC, idHSpec, Tryd.f13]
 · rintro args ⟨h,rfl⟩ bs hgl hh hro
   have hE : Env.OK ⟨Tryd.prog, T, G_ownH, bs⟩ := ⟨tok, by rw [hgl]; exact G_ownH_ok gl⟩
   simp only [idHSpec, hdV,hdC]
   simp [and_assoc, idHSpec, Tryd.f13]
def underHSpec : Spec := { pre := fun args => ∃ h : Hd, args = [hdV h] ∧ heldF h = 0, res := fun args => match args with
 | [.agg cs] => .one (.val (celV (underF (hdOf cs))))
 | _ => .many [] }
def G_underH : Specs := []
@[simp] theorem G_underH_live : Specs.live G_underH = false := rfl
@[simp] theorem G_underH_nils : Specs.nils G_underH = false := rfl
theorem G_underH_ok (gl : Gl) : SpecsOK Tryd.prog gl G_underH := .nil _ _
set_option maxRecDepth 10000 in
theorem underH_sound (gl : Gl) : Sound Tryd.prog gl 30 underHSpec := by
 refine sound_fn (N := Tryd.f30.ntmps) (rs := Tryd.f30.results.toList) mixed tok (G_underH_ok gl) Tryd.func30 rfl rfl rfl rfl rfl ?_ ?_ ?_
 · rintro args ⟨h,rfl,hv⟩; simp [hdV,hdC, Tryd.f30]
 · rintro args ⟨h,rfl,hv⟩; simp [hdV,hdC, underHSpec, Tryd.f30]
 · rintro args ⟨h,rfl,hv⟩ bs hgl hh hro
   have hE : Env.OK ⟨Tryd.prog, T, G_underH, bs⟩ := ⟨tok, by rw [hgl]; exact G_underH_ok gl⟩
   simp only [underHSpec, hdV,hdC]
   have v := HV.of hv
   have eo := hdOf_C h
   have r0 := v.r0
   have r1 := v.r1
   have c0 := v.c0
   have c1 := v.c1
   obtain ⟨i, hi⟩ : ∃ i : Nat, h.ar = i := ⟨h.ar.toNat, by omega⟩
   obtain ⟨k, hk⟩ : ∃ k : Nat, h.ac = k := ⟨h.ac.toNat, by omega⟩
   rw [hi] at eo
   rw [hk] at eo
   obtain ⟨r, hrl, hr, hd⟩ := row_at v.grid (i := i) (by omega)
   have hk1 : k < r.cells.length := by omega
   have hc := celsC_at hk1
   have eu : underF h = r.cells[k] := by unfold underF cellAt; rw [hi, hk, Int.toNat_natCast, Int.toNat_natCast, hr, cat_eq hk1]
   simp [and_assoc, underHSpec, Tryd.f30, eo, eu, hi, hk, hd, hc]
   exact ⟨by omega, by omega, by rfl⟩
end Fen

namespace Fen
open Go Go.Proofs
theorem mainF_ok {w n K N : Nat} {h : Hd} (v : HV w n h) (hK : 2 ≤ K ∧ K ≤ 80) (hN : 1 ≤ N ∧ N ≤ 40) : mainF h K N = (sizedF h K N, 0) := by
 have z : sizeOK K N = true := by simp [sizeOK]; omega
 unfold mainF; rw [if_neg (by simp [v.valid]), if_neg (by simp [z])]; simp
theorem HV.ok {w n : Nat} {h : Hd} (v : HV w n h) : HdOK h := ⟨fun r hr => row_okF (v.past r hr).1, v.grid.rok⟩
theorem HV.fin {w n : Nat} {h : Hd} (v : HV w n h) : HdFin h := ⟨rowsFin_of (by have := v.pl; omega) fun r hr => row_lt (v.past r hr).1, v.grid.fin⟩
end Fen

namespace Fen
open Go Go.Proofs
theorem txC_at {ls : List (List Cel)} {i : Nat} (h : i < ls.length) : (txC ls).drop i = C.sl ls[i].length (celsC ls[i]) :: txC (ls.drop (i + 1)) := by
 unfold txC
 rw [← List.map_drop, List.drop_eq_getElem_cons h]; rfl
def txOf : List C → List (List Cel)
 | .sl _ c :: l => celsOf c :: txOf l
 | _ => []
theorem txOf_C : ∀ ls : List (List Cel), txOf (txC ls) = ls
 | [] => rfl
 | x :: l => by
   have : txC (x :: l) = .sl x.length (celsC x) :: txC l := rfl
   rw [this, txOf, celsOf_C, txOf_C l]
def trimSpec : Spec := { pre := fun args => ∃ ls : List (List Cel), args = [txV ls] ∧ ls.length ≤ 1000000, res := fun args => match args with
 | [.c (.sl _ cs)] => .one (.val (txV (trimF (txOf cs))))
 | _ => .many [] }
def trS (ls : List (List Cel)) (m : Nat) : St := ⟨22, [(0, .val (.sl m (txC (ls.take m))))], []⟩
def G_trimmed : Specs := []
@[simp] theorem G_trimmed_live : Specs.live G_trimmed = false := rfl
@[simp] theorem G_trimmed_nils : Specs.nils G_trimmed = false := rfl
theorem G_trimmed_ok (gl : Gl) : SpecsOK Tryd.prog gl G_trimmed := .nil _ _
set_option maxRecDepth 10000 in
theorem trimmed_sound (gl : Gl) : Sound Tryd.prog gl 31 trimSpec := by
 refine sound_fn (N := Tryd.f31.ntmps) (rs := Tryd.f31.results.toList) mixed tok (G_trimmed_ok gl) Tryd.func31 rfl rfl rfl rfl rfl ?_ ?_ ?_
 · rintro args ⟨ls,rfl,hl⟩; simp [txV,txOf_C, Tryd.f31]
 · rintro args ⟨ls,rfl,hl⟩; simp [txV,txOf_C, trimSpec, Tryd.f31]
 · rintro args ⟨ls,rfl,hl⟩ bs hgl hh hro
   have hE : Env.OK ⟨Tryd.prog, T, G_trimmed, bs⟩ := ⟨tok, by rw [hgl]; exact G_trimmed_ok gl⟩
   simp only [trimSpec, txV,txOf_C]
   simp [and_assoc, trimSpec, Tryd.f31]
   refine AWP.rounds (fun m => m ≤ ls.length ∧ trimF ls = trimF (ls.take m)) (trS ls) (fun m => m) ls.length ⟨by omega, by rw [List.take_length]⟩ (Weak.keep (by simp [trS])) ?_
   rintro m ⟨hm, he⟩
   refine wpc_ok hE mixed _ _ _ ?_
   have hlen : (ls.take m).length = m := by simp; omega
   cases m with
   | zero =>
     have he : trimF ls = [] := he
     simp [trS, he, txC]
   | succ k =>
     have hk : k < ls.length := by omega
     have ht : ls.take (k + 1) = ls.take k ++ [ls[k]] := List.take_succ_eq_append_getElem hk
     rw [ht, trim_snoc] at he
     have w1 : IntKind.i64.wrap (k : Int) = k := wrap64 _ (by omega) (by omega)
     have hd : List.drop k (txC (ls.take (k + 1))) = [C.sl ls[k].length (celsC ls[k])] := by
       rw [txC_at (by rw [hlen]; omega)]
       simp [txC, List.getElem_take]
     have htk : List.take k (txC (ls.take (k + 1))) = txC (ls.take k) := by
       rw [ht, txC_snoc, List.take_left' (by simp; omega)]
     generalize ls[k] = x at *
     by_cases e : x = []
     · rw [if_pos e] at he
       subst e
       simp [trS, w1, hd, htk]
       exact ⟨by omega, by omega, Next.mk k ⟨by omega, he⟩ (by omega) (Weak.keep (by simp [trS]))⟩
     · rw [if_neg e] at he
       have e0 : ¬ x.length = 0 := fun q => e (List.eq_nil_of_length_eq_zero q)
       rw [← ht] at he
       simp [trS, w1, hd, htk, e0]
       exact ⟨by omega, by rw [he, hlen], by rw [he]⟩
def sameLSpec : Spec := { pre := fun args => ∃ a b : Rw, args = [rowV a, rowV b] ∧ a.cells.length ≤ 1000000, res := fun args => match args with
 | [.agg a, .agg b] => .one (.val (.c (.bool (decide (rowOf a = rowOf b)))))
 | _ => .many [] }
def G_sameL : Specs := []
@[simp] theorem G_sameL_live : Specs.live G_sameL = false := rfl
@[simp] theorem G_sameL_nils : Specs.nils G_sameL = false := rfl
theorem G_sameL_ok (gl : Gl) : SpecsOK Tryd.prog gl G_sameL := .nil _ _
set_option maxRecDepth 10000 in
theorem sameL_sound (gl : Gl) : Sound Tryd.prog gl 17 sameLSpec := by
 refine sound_fn (N := Tryd.f17.ntmps) (rs := Tryd.f17.results.toList) mixed tok (G_sameL_ok gl) Tryd.func17 rfl rfl rfl rfl rfl ?_ ?_ ?_
 · rintro args ⟨a,b,rfl,ha⟩; simp [rowV, Tryd.f17]
 · rintro args ⟨a,b,rfl,ha⟩; simp [rowV, sameLSpec, Tryd.f17]
 · rintro args ⟨a,b,rfl,ha⟩ bs hgl hh hro
   have hE : Env.OK ⟨Tryd.prog, T, G_sameL, bs⟩ := ⟨tok, by rw [hgl]; exact G_sameL_ok gl⟩
   simp only [sameLSpec, rowV]
   rcases Decidable.em (a.cells.length = b.cells.length) with h1 | h1
   rotate_left
   · have e : decide (a = b) = false := by simp; rintro rfl; exact h1 rfl
     have h1' : ¬ (a.cells.length : Int) = b.cells.length := by omega
     simp [sameLSpec, Tryd.f17, rowV, h1', e]
   rcases Decidable.em (a.wrapped = b.wrapped) with h2 | h2
   rotate_left
   · have e : decide (a = b) = false := by simp; rintro rfl; exact h2 rfl
     simp [sameLSpec, Tryd.f17, rowV, h1, h2, e]
     done
   simp [sameLSpec, Tryd.f17, rowV, h1, h2]
   refine AWP.rounds (fun k => k ≤ a.cells.length ∧ a.cells.take k = b.cells.take k) (sameS a b) (fun k => a.cells.length - k) 0 ⟨by simp, by simp⟩ ?_ ?_
   · refine Weak.keep ?_
     simp [sameS]
   · rintro k ⟨hk, hc⟩
     refine wpc_ok hE mixed _ _ _ ?_
     rcases Nat.lt_or_ge k a.cells.length with h | h
     · have w1 : IntKind.i64.wrap ((k : Int) + 1) = k + 1 := wrap64 _ (by omega) (by omega)
       have hb : k < b.cells.length := by omega
       have hd := celsC_at h
       have hdb := celsC_at hb
       have ht := List.take_add_one (l := a.cells) (i := k)
       have htb := List.take_add_one (l := b.cells) (i := k)
       rw [List.getElem?_eq_getElem h] at ht
       rw [List.getElem?_eq_getElem hb] at htb
       have hne : ¬ a.cells[k] = b.cells[k] → ¬ a = b := fun q e => by subst e; exact q rfl
       generalize a.cells[k] = x at *
       generalize b.cells[k] = y at *
       simp [sameS, hd, hdb, w1, h, hb]
       refine ⟨rfl, hne, fun e => Next.mk (k + 1) ⟨h, by rw [ht, htb, hc, e]⟩ (by omega) (Weak.keep (by simp [sameS]))⟩
     · have : k = a.cells.length := by omega
       subst this
       have e : a = b := by
         rw [List.take_length, h1, List.take_length] at hc
         cases a; cases b; simp_all
       subst e
       simp [sameS]
def alike9Spec : Spec := { pre := fun args => ∃ a b : List Cel, args = [celsV a, celsV b] ∧ a.length ≤ 1000000, res := fun args => match args with
 | [.c (.sl _ a), .c (.sl _ b)] => .one (.val (.c (.bool (decide (celsOf a = celsOf b)))))
 | _ => .many [] }
def G_alike9 : Specs := [(17, sameLSpec)]
@[simp] theorem G_alike9_live : Specs.live G_alike9 = false := rfl
@[simp] theorem G_alike9_nils : Specs.nils G_alike9 = false := rfl
@[simp] theorem G_alike9_17 : G_alike9.find 17 = some sameLSpec := rfl
theorem G_alike9_ok (gl : Gl) : SpecsOK Tryd.prog gl G_alike9 := .cons (sameL_sound gl) (.nil _ _)
set_option maxRecDepth 10000 in
theorem alike9_sound (gl : Gl) : Sound Tryd.prog gl 32 alike9Spec := by
 refine sound_fn (N := Tryd.f32.ntmps) (rs := Tryd.f32.results.toList) mixed tok (G_alike9_ok gl) Tryd.func32 rfl rfl rfl rfl rfl ?_ ?_ ?_
 · rintro args ⟨a,b,rfl,h⟩; simp [celsV,celsOf_C, Tryd.f32]
 · rintro args ⟨a,b,rfl,h⟩; simp [celsV,celsOf_C, alike9Spec, Tryd.f32]
 · rintro args ⟨a,b,rfl,h⟩ bs hgl hh hro
   have hE : Env.OK ⟨Tryd.prog, T, G_alike9, bs⟩ := ⟨tok, by rw [hgl]; exact G_alike9_ok gl⟩
   simp only [alike9Spec, celsV,celsOf_C]
   have ra : rowOf [C.sl a.length (celsC a), C.bool false] = ⟨a, false⟩ := rowOf_C ⟨a, false⟩
   have rb : rowOf [C.sl b.length (celsC b), C.bool false] = ⟨b, false⟩ := rowOf_C ⟨b, false⟩
   simp [and_assoc, alike9Spec, sameLSpec, Tryd.f32, ra, rb]
   exact ⟨⟨a, false⟩, rfl, ⟨⟨b, false⟩, rfl⟩, h⟩
def openC (r : Rw) (k : Nat) : Bool := decide ((cat r.cells k).wide = 1) && decide (cat r.cells (k - 1) = blankF sty0)
def openAt (all : List Rw) (i : Nat) : Bool := ((all.getD i ⟨[], false⟩).wrapped && (decide (i + 1 = all.length) || decide (cat (all.getD i ⟨[], false⟩).cells ((all.getD i ⟨[], false⟩).cells.length - 1) = blankF sty0))) ||
 (List.range (all.getD i ⟨[], false⟩).cells.length).any (fun k => decide (1 ≤ k) && openC (all.getD i ⟨[], false⟩) k)
def opnF (h : Hd) : Bool := (List.range (allH h).length).any (openAt (allH h))
theorem opn_true {h : Hd} {i : Nat} (hi : i < (allH h).length) (e : openAt (allH h) i = true) : opnF h = true := List.any_eq_true.2 ⟨i, by simpa using hi, e⟩
theorem opn_false {h : Hd} (e : ∀ i, i < (allH h).length → openAt (allH h) i = false) : opnF h = false := by
 rw [opnF, List.any_eq_false]
 intro i hi
 rw [e i (by simpa using hi)]; simp
theorem shut_of {h : Hd} (e : opnF h = false) : Shut h := by
 rw [opnF, List.any_eq_false] at e
 have key : ∀ i, (hi : i < (allH h).length) → openAt (allH h) i = false := fun i hi => by
   have := e i (by simpa using hi)
   simpa using this
 constructor
 · intro r hr ho
   obtain ⟨i, hi, rfl⟩ := List.getElem_of_mem hr
   have k := key i hi
   have hg : (allH h).getD i ⟨[], false⟩ = (allH h)[i] := by simp [List.getD_eq_getElem?_getD, hi]
   unfold openAt at k
   rw [hg] at k
   simp only [Bool.or_eq_false_iff, List.any_eq_false] at k
   obtain ⟨k1, k2⟩ := k
   rcases ho with ⟨j, h1, h2, h3⟩ | ⟨h1, h2⟩
   · have := k2 (j + 1) (by simpa using h1)
     simp [openC, h2, h3] at this
   · simp [h1, h2] at k1
 · intro r hr
   rw [List.getLast?_eq_getElem?] at hr
   have hi : (allH h).length - 1 < (allH h).length := lt_of_get hr
   have k := key _ hi
   have hg : (allH h).getD ((allH h).length - 1) ⟨[], false⟩ = r := by simp [List.getD_eq_getElem?_getD, hr]
   unfold openAt at k
   rw [hg] at k
   simp only [Bool.or_eq_false_iff] at k
   cases hw : r.wrapped
   · rfl
   · rw [hw] at k
     simp at k
     omega
def openSpec : Spec := { pre := fun args => ∃ h : Hd, args = [hdV h] ∧ heldF h = 0, res := fun args => match args with
 | [.agg cs] => .one (.val (.c (.bool (opnF (hdOf cs)))))
 | _ => .many [] }
def opB (h : Hd) : Blk := .box 43 ((hdC h).map .val)
def opS1 (h : Hd) (i : Nat) : St := ⟨69, [(3, .ref 1 0), (4, .val (.int .i64 i))], [opB h, .sl 30 0 true 2 (allH h).length (rowsC (allH h))]⟩
def opS2 (h : Hd) (i : Nat) (r : Rw) (k : Nat) : St := ⟨69, [(3, .ref 1 0), (4, .val (.int .i64 i)), (5, .ptr 2 0 0), (6, .val (.int .i64 k))], [opB h, .sl 30 0 true 2 (allH h).length (rowsC (allH h)), .box 30 ((rowC r).map .val)]⟩
def G_openH : Specs := []
@[simp] theorem G_openH_live : Specs.live G_openH = false := rfl
@[simp] theorem G_openH_nils : Specs.nils G_openH = false := rfl
theorem G_openH_ok (gl : Gl) : SpecsOK Tryd.prog gl G_openH := .nil _ _
set_option maxHeartbeats 4000000 in
set_option maxRecDepth 10000 in
theorem openH_sound (gl : Gl) : Sound Tryd.prog gl 29 openSpec := by
 refine sound_fn (N := Tryd.f29.ntmps) (rs := Tryd.f29.results.toList) mixed tok (G_openH_ok gl) Tryd.func29 rfl rfl rfl rfl rfl ?_ ?_ ?_
 · rintro args ⟨h,rfl,hv⟩; simp [hdV,hdC, Tryd.f29]
 · rintro args ⟨h,rfl,hv⟩; simp [hdV,hdC, openSpec, Tryd.f29]
 · rintro args ⟨h,rfl,hv⟩ bs hgl hh hro
   have hE : Env.OK ⟨Tryd.prog, T, G_openH, bs⟩ := ⟨tok, by rw [hgl]; exact G_openH_ok gl⟩
   simp only [openSpec, hdV,hdC]
   have v := HV.of hv
   have eo := hdOf_C h
   have hl := v.len
   have hp := v.pl
   have n40 := v.grid.n40
   have ha : rowsC h.past ++ rowsC h.rows = rowsC (allH h) := (rowsC_app _ _).symm
   have hrows := v.all
   have hn1 := v.grid.n1
   simp [and_assoc, openSpec, Tryd.f29, eo, ha]
   refine ⟨by omega, by omega, by omega, by omega, by rfl, ?_⟩
   refine AWP.rounds (fun i => i ≤ (allH h).length ∧ ∀ j, j < i → openAt (allH h) j = false) (opS1 h) (fun i => (allH h).length - i) 0 ⟨by omega, fun j hj => by omega⟩ (Weak.ren [some 0, some 1] (baseOK.nil hh) (by simp) (by simp [opB, hdC, allH]) (by simp [opB])) ?_
   rintro i ⟨hi, hpre⟩
   refine wpc_ok hE mixed _ _ _ ?_
   rcases Nat.lt_or_ge i (allH h).length with g | g
   · have g' : ((i : Int) < (allH h).length) = True := eq_true (by omega)
     have wi : IntKind.i64.wrap ((i : Int) + 1) = (i : Int) + 1 := wrap64 _ (by omega) (by omega)
     have wN : IntKind.i64.wrap (((allH h).length : Int) - 1) = (((allH h).length - 1 : Nat) : Int) := by rw [wrap64 _ (by omega) (by omega)]; omega
     have hdr := rowsC_at g
     obtain ⟨_, hrl⟩ := hrows _ (List.getElem_mem g)
     have hg : (allH h).getD i ⟨[], false⟩ = (allH h)[i] := by simp [List.getD_eq_getElem?_getD, g]
     have w2 := v.grid.w2
     have hat : openAt (allH h) i = (((allH h)[i].wrapped && (decide (i + 1 = (allH h).length) || decide (cat (allH h)[i].cells ((allH h)[i].cells.length - 1) = blankF sty0))) || (List.range (allH h)[i].cells.length).any (fun k => decide (1 ≤ k) && openC (allH h)[i] k)) := by
       unfold openAt; rw [hg]
     generalize (allH h)[i] = r at *
     have hk1 : r.cells.length - 1 < r.cells.length := by omega
     have wl : IntKind.i64.wrap ((r.cells.length : Int) - 1) = ((r.cells.length - 1 : Nat) : Int) := by rw [wrap64 _ (by omega) (by omega)]; omega
     have hcl := celsC_at hk1
     rw [cat_eq hk1] at hat
     generalize r.cells[r.cells.length - 1] = z at *
     have bl : (⟨32, 0, 0, 0, sty0⟩ : Cel) = blankF sty0 := rfl
     have hiN : ((i : Int) = (((allH h).length - 1 : Nat) : Int)) = (i + 1 = (allH h).length) := by simp only [eq_iff_iff]; omega
     simp -implicitDefEqProofs [opS1, opB, hdC, g', wN, wl, hdr, hcl, bl, hiN, rowC]
     refine ⟨fun a b => ⟨⟨a, b⟩, hk1⟩, fun a => ⟨a, fun b => ⟨a, b⟩⟩, fun a b => opn_true g (by rw [hat, a]; rcases b with b | b <;> simp [b]), fun hq => ?_⟩
     have h1 : (r.wrapped && (decide (i + 1 = (allH h).length) || decide (z = blankF sty0))) = false := by
       cases hwr : r.wrapped
       · rfl
       · obtain ⟨q1, q2⟩ := hq hwr
         simp [q1, q2]
     rw [h1, Bool.false_or] at hat
     refine AWP.rounds (fun k => 1 ≤ k ∧ k ≤ r.cells.length ∧ ∀ j, 1 ≤ j → j < k → openC r j = false) (opS2 h i r) (fun k => r.cells.length - k) 1 ⟨by omega, by omega, fun j _ _ => by omega⟩ (Weak.heap (by simp [opS2, opB, hdC, rowC]) (by simp [opS2])) ?_
     rintro k ⟨k1, k2, kf⟩
     refine wpc_ok hE mixed _ _ _ ?_
     rcases Nat.lt_or_ge k r.cells.length with c | c
     · have c' : ((k : Int) < r.cells.length) = True := eq_true (by omega)
       have wk : IntKind.i64.wrap ((k : Int) + 1) = (k : Int) + 1 := wrap64 _ (by omega) (by omega)
       have wk1 : IntKind.i64.wrap ((k : Int) - 1) = ((k - 1 : Nat) : Int) := by rw [wrap64 _ (by omega) (by omega)]; omega
       have hm : k - 1 < r.cells.length := by omega
       have hcm := celsC_at hm
       have hck := celsC_at c
       have hwd : ∀ d, (celsC r.cells)[k * 12 + 3]?.getD d = .int .i64 r.cells[k].wide := fun d => by
         rw [← List.getElem?_drop, hck]; rfl
       have hoc : openC r k = (decide (r.cells[k].wide = 1) && decide (r.cells[k - 1] = blankF sty0)) := by
         unfold openC; rw [cat_eq c, cat_eq hm]
       generalize r.cells[k] = x at *
       generalize r.cells[k - 1] = y at *
       simp -implicitDefEqProofs [opS2, opB, hdC, rowC, c', wk, wk1, hcm, hwd, bl]
       refine ⟨by omega, fun q => ⟨q, by omega⟩, fun q1 q2 => opn_true g ?_, fun q => Next.mk (k + 1) ⟨by omega, c, fun j j1 j2 => ?_⟩ (by omega) (Weak.heap (by simp [opB, hdC, rowC]) (by simp))⟩
       · rw [hat, List.any_eq_true]
         exact ⟨k, by simpa using c, by rw [hoc]; simp [q1, q2]; omega⟩
       · rcases Nat.lt_or_ge j k with e | e
         · exact kf j j1 e
         · obtain rfl : j = k := by omega
           rw [hoc]
           simpa using q
     · obtain rfl : k = r.cells.length := by omega
       have hf : openAt (allH h) i = false := by
         rw [hat, List.any_eq_false]
         intro j hj
         have hj : j < r.cells.length := by simpa using hj
         by_cases e : 1 ≤ j
         · rw [kf j e hj]; simp
         · simp [e]
       simp -implicitDefEqProofs [opS2, opB, hdC, rowC, wi]
       exact Next.mk (i + 1) ⟨by omega, fun j hj => by
         rcases Nat.lt_or_ge j i with q | q
         · exact hpre j q
         · obtain rfl : j = i := by omega
           exact hf⟩ (by omega) (Weak.ren [some 0, some 1] (baseOK.nil hh) (by simp) (by simp [opB, hdC]) (by simp [opB]))
   · have g' : ((i : Int) < (allH h).length) = False := eq_false (by omega)
     have e := opn_false (h := h) fun j hj => hpre j (by omega)
     simp [opS1, opB, hdC, g', e]
end Fen

namespace Fen
open Go Go.Proofs
theorem typed_dr {d : Nat} {p : List C} (h : Typed T d 91 p) : ∃ x : Dr, p = drC x ∧ x.ok := by
 obtain ⟨c, B, w, rfl, h0, h1, hB⟩ := typed_draft h
 exact ⟨⟨c, B, w⟩, rfl, h0, h1, hB⟩
end Fen

namespace Fen
open Go Go.Proofs
theorem arg_hdraft {A : V} (h : TypedV T 25 A) : ∃ (c : Int) (O L : List Dr) (a b : Int), A = drV c O L a b ∧ DrIn c O L a b := by
 obtain ⟨d, ks, rfl, hk0⟩ := arg_agg T_25 rfl h
 obtain ⟨d', parts, rfl, hk⟩ := typed_struct T_25 hk0
 match parts, hk with
 | [p0, p1, p2, p3], ⟨h0, h1, h2, h3, _⟩ =>
   obtain ⟨c, rfl, q0, q1⟩ := typed_u8 h0
   obtain ⟨O, rfl, _, qO⟩ := typed_slice_of (en := drC) T_22 (fun d p h => typed_dr h) h1
   obtain ⟨L, rfl, _, qL⟩ := typed_slice_of (en := drC) T_22 (fun d p h => typed_dr h) h2
   obtain ⟨a, b, rfl, ha, hb⟩ := typed_u8x2 h3
   exact ⟨c, O, L, a, b, rfl, q0, q1, qO, qL, ha.1, ha.2, hb.1, hb.2⟩
end Fen

namespace Fen
open Go Go.Proofs
theorem mem_trim : ∀ {l : List (List Cel)} {x : List Cel}, x ∈ trimF l → x ∈ l
 | [], x, h => by simp [trimF] at h
 | y :: l, x, h => by
   rw [trim_cons] at h
   split at h
   · split at h
     · simp at h
     · simp only [List.mem_singleton] at h; subst h; exact List.mem_cons_self ..
   · rcases List.mem_cons.1 h with q | q
     · subst q; exact List.mem_cons_self ..
     · exact List.mem_cons_of_mem _ (mem_trim q)
theorem trim_len : ∀ (l : List (List Cel)), (trimF l).length ≤ l.length
 | [] => by simp [trimF]
 | y :: l => by
   have := trim_len l
   rw [trim_cons]
   split
   · split <;> simp
   · simp; omega
theorem HV.text_fin {w n : Nat} {h : Hd} (v : HV w n h) : (trimF (textH h)).length ≤ 1000000 ∧ (textH h).length ≤ 1000000 ∧ ∀ x ∈ trimF (textH h), x.length ≤ 1000000 := by
 have h1 := v.lines_count
 have h2 := trim_len (textH h)
 have h3 : (textH h).length = (linesH h).length := by simp [textH]
 refine ⟨by omega, by omega, fun x hx => ?_⟩
 have hx := mem_trim hx
 simp only [textH, List.mem_map] at hx
 obtain ⟨l, hl, rfl⟩ := hx
 have := v.lines_len l hl
 simp; omega
def lawKeepsSpec : Spec := { pre := fun args => ∃ (c : Int) (O L : List Dr) (a b x y : Int), args = [drV c O L a b, .agg [.int .u8 x, .int .u8 y]] ∧ DrIn c O L a b ∧ 0 ≤ x ∧ x < 256 ∧ 0 ≤ y ∧ y < 256, res := fun _ => .one (.val (.c (.bool true))) }
def keS (A B : List (List Cel)) (i : Nat) : St := ⟨159, [(10, .val (.sl A.length (txC A))), (12, .val (.sl B.length (txC B))), (14, .val (.int .i64 i))], []⟩
def keS2 (A B : List (List Cel)) (i : Nat) : St := ⟨159, [(10, .val (.sl A.length (txC A))), (12, .val (.sl B.length (txC B))), (15, .val (.int .i64 i))], []⟩
def G_lawKeeps : Specs := [(18, lworks9Spec), (10, dheldSpec), (13, idHSpec), (19, mainSpec), (29, openSpec), (15, heldckSpec), (30, underHSpec), (12, linesSpec), (31, trimSpec), (32, alike9Spec)]
@[simp] theorem G_lawKeeps_live : Specs.live G_lawKeeps = false := rfl
@[simp] theorem G_lawKeeps_nils : Specs.nils G_lawKeeps = false := rfl
@[simp] theorem G_lawKeeps_18 : G_lawKeeps.find 18 = some lworks9Spec := rfl
@[simp] theorem G_lawKeeps_10 : G_lawKeeps.find 10 = some dheldSpec := rfl
@[simp] theorem G_lawKeeps_13 : G_lawKeeps.find 13 = some idHSpec := rfl
@[simp] theorem G_lawKeeps_19 : G_lawKeeps.find 19 = some mainSpec := rfl
@[simp] theorem G_lawKeeps_29 : G_lawKeeps.find 29 = some openSpec := rfl
@[simp] theorem G_lawKeeps_15 : G_lawKeeps.find 15 = some heldckSpec := rfl
@[simp] theorem G_lawKeeps_30 : G_lawKeeps.find 30 = some underHSpec := rfl
@[simp] theorem G_lawKeeps_12 : G_lawKeeps.find 12 = some linesSpec := rfl
@[simp] theorem G_lawKeeps_31 : G_lawKeeps.find 31 = some trimSpec := rfl
@[simp] theorem G_lawKeeps_32 : G_lawKeeps.find 32 = some alike9Spec := rfl
theorem G_lawKeeps_ok : SpecsOK Tryd.prog glW G_lawKeeps := .cons works9_sound (.cons (dheld_sound glW) (.cons (ownH_sound glW) (.cons main_sound (.cons (openH_sound glW) (.cons heldck_sound (.cons (underH_sound glW) (.cons lines_sound (.cons (trimmed_sound glW) (.cons (alike9_sound glW) (.nil _ _))))))))))
set_option maxHeartbeats 8000000 in
set_option maxRecDepth 10000 in
theorem lawKeeps_sound : Sound Tryd.prog glW 6 lawKeepsSpec := by
 refine sound_fn (N := Tryd.f6.ntmps) (rs := Tryd.f6.results.toList) mixed tok G_lawKeeps_ok Tryd.func6 rfl rfl rfl rfl rfl ?_ ?_ ?_
 · rintro args ⟨c,O,L,a,b,x,y,rfl,hD,x0,x1,y0,y1⟩; simp [drV, Tryd.f6]
 · rintro args ⟨c,O,L,a,b,x,y,rfl,hD,x0,x1,y0,y1⟩; simp [drV, lawKeepsSpec, Tryd.f6]
 · rintro args ⟨c,O,L,a,b,x,y,rfl,hD,x0,x1,y0,y1⟩ bs hgl hh hro
   have hE : Env.OK ⟨Tryd.prog, T, G_lawKeeps, bs⟩ := ⟨tok, by rw [hgl]; exact G_lawKeeps_ok⟩
   simp only [lawKeepsSpec, drV]
   have v := draftH_ok hD
   obtain ⟨w, hw⟩ : ∃ w, 2 + c.toNat % 79 = w := ⟨_, rfl⟩
   obtain ⟨n, hn⟩ : ∃ n, manyG L = n := ⟨_, rfl⟩
   obtain ⟨H, hH⟩ : ∃ H, draftH c O L a b = H := ⟨_, rfl⟩
   rw [hw, hn, hH] at v
   obtain ⟨K, hK⟩ : ∃ K, 2 + x.toNat % 79 = K := ⟨_, rfl⟩
   obtain ⟨N, hN⟩ : ∃ N, 1 + y.toNat % 40 = N := ⟨_, rfl⟩
   have wa1 : IntKind.i64.wrap x = x := wrap64 _ (by omega) (by omega)
   have wa2 : IntKind.i64.wrap (x % 79) = x % 79 := wrap64 _ (by omega) (by omega)
   have wa3 : IntKind.i64.wrap (2 + x % 79) = (K : Int) := by rw [wrap64 _ (by omega) (by omega)]; omega
   have wb1 : IntKind.i64.wrap y = y := wrap64 _ (by omega) (by omega)
   have wb2 : IntKind.i64.wrap (y % 40) = y % 40 := wrap64 _ (by omega) (by omega)
   have wb3 : IntKind.i64.wrap (1 + y % 40) = (N : Int) := by rw [wrap64 _ (by omega) (by omega)]; omega
   have ea := u8_tmod x0 79
   have eb := u8_tmod y0 40
   have hK2 : 2 ≤ K ∧ K ≤ 80 := by omega
   have hN2 : 1 ≤ N ∧ N ≤ 40 := by omega
   have e1 := mainF_ok v hK2 hN2
   have vX := v.sized hK2 hN2
   have oH := hdOf_C H
   have hE1 : ∃ h : Hd, (H.past.length = h.past.length ∧ H.past = h.past ∧ H.rows.length = h.rows.length ∧ H.rows = h.rows ∧ H.ar = h.ar ∧ H.ac = h.ac) := ⟨H, rfl, rfl, rfl, rfl, rfl, rfl⟩
   cases hopn : opnF H
   · have hs := shut_of hopn
     have hkeep := keeps v hs hK2 hN2
     have uX := sized_under v (anew_cell v hs.rows) hK2 hN2
     generalize sizedF H K N = X at *
     obtain ⟨r0, hg0, hgl⟩ := headGV vX.grid
     have oX := hdOf_C X
     have xn := vX.grid.len
     rw [xn] at oX
     have l1 : saidF H = (textH H, 0) := by unfold saidF; rw [if_neg (by simp [v.valid])]
     have l2 : saidF X = (textH X, 0) := by unfold saidF; rw [if_neg (by simp [vX.valid])]
     have hv := vX.valid
     obtain ⟨fA, fA2, fA3⟩ := v.text_fin
     obtain ⟨fB, fB2, fB3⟩ := vX.text_fin
     generalize textH H = TA at *
     generalize textH X = TB at *
     obtain ⟨k1, k2, k3⟩ := hkeep
     have tA : txOf (txC TA) = TA := txOf_C TA
     have tB : txOf (txC TB) = TB := txOf_C TB
     generalize hA : trimF TA = A at *
     generalize hB : trimF TB = B at *
     by_cases p1 : X.past.length < 100 ∧ 0 < X.ar
     · have p1' : ((X.past.length : Int) < 100) = True := eq_true (by omega)
       have p2' : (0 < X.ar) = True := eq_true p1.2
       have hAB := k1 p1.1 p1.2
       subst hAB
       simp -implicitDefEqProofs [and_assoc, lawKeepsSpec, alike9Spec, dheldSpec, heldckSpec, idHSpec, linesSpec, lworks9Spec, mainSpec, openSpec, trimSpec, underHSpec, Tryd.f6, drsOf_C, hH, hdV, hdC, txV, oH, oX, hg0, xn, ea, eb, wa1, wa2, wa3, wb1, wb2, wb3, e1, uX, hopn, l1, l2, hv, tA, tB, hA, hB, p1', p2']
       refine ⟨⟨c, O, L, a, b, rfl, hD⟩, ⟨H, rfl, rfl, rfl, rfl, rfl, rfl⟩, ⟨H, rfl, rfl, rfl, rfl, rfl, rfl, v.valid⟩, by rfl, ⟨H, rfl, rfl, rfl, rfl, rfl, rfl, v.ok⟩, hN2.1, ⟨X, rfl, rfl, xn.symm, rfl, rfl, rfl, vX.ok⟩, ⟨X, rfl, rfl, xn.symm, rfl, rfl, rfl, vX.valid⟩, ⟨H, rfl, rfl, rfl, rfl, rfl, rfl, v.valid⟩, by rfl, ⟨H, rfl, rfl, rfl, rfl, rfl, rfl, v.ok⟩, ⟨X, rfl, rfl, xn.symm, rfl, rfl, rfl, vX.ok⟩, ⟨TA, rfl, rfl, fA2⟩, ⟨TB, rfl, rfl, fB2⟩, ?_⟩
       refine AWP.rounds (fun i => i ≤ B.length) (keS B B) (fun i => B.length - i) 0 (by simp) (Weak.ren [] (baseOK.nil hh) (by simp) (by simp) (by simp [keS])) ?_
       intro i hi
       refine wpc_ok hE mixed _ _ _ ?_
       rcases Nat.lt_or_ge i B.length with g | g
       · have g' : ((i : Int) < B.length) = True := eq_true (by omega)
         have wi : IntKind.i64.wrap ((i : Int) + 1) = (i : Int) + 1 := wrap64 _ (by omega) (by omega)
         have hd := txC_at g
         have hm := fB3 _ (List.getElem_mem g)
         generalize B[i] = z at *
         simp -implicitDefEqProofs [keS, and_assoc, alike9Spec, dheldSpec, heldckSpec, idHSpec, linesSpec, lworks9Spec, mainSpec, openSpec, trimSpec, underHSpec, celsOf_C, g', wi, hd]
         exact ⟨hm, by rfl, Next.mk (i + 1) g (by omega) (Weak.heap rfl (by simp))⟩
       · have g' : ((i : Int) < B.length) = False := eq_false (by omega)
         simp -implicitDefEqProofs [keS, g']
     · have p1' : ((X.past.length : Int) < 100 ∧ 0 < X.ar) = False := eq_false (by omega)
       have r0 := vX.r0
       by_cases p2 : X.ar = 0
       · have p2' : (X.ar = 0) = True := eq_true p2
         have p3' : (0 < X.ar) = False := eq_false (by omega)
         have kk := k2 p2
         simp -implicitDefEqProofs [and_assoc, lawKeepsSpec, alike9Spec, dheldSpec, heldckSpec, idHSpec, linesSpec, lworks9Spec, mainSpec, openSpec, trimSpec, underHSpec, Tryd.f6, drsOf_C, hH, hdV, hdC, txV, oH, oX, hg0, xn, ea, eb, wa1, wa2, wa3, wb1, wb2, wb3, e1, uX, hopn, l1, l2, hv, tA, tB, hA, hB, p2', p3']
         exact ⟨⟨c, O, L, a, b, rfl, hD⟩, ⟨H, rfl, rfl, rfl, rfl, rfl, rfl⟩, ⟨H, rfl, rfl, rfl, rfl, rfl, rfl, v.valid⟩, by rfl, ⟨H, rfl, rfl, rfl, rfl, rfl, rfl, v.ok⟩, hN2.1, ⟨X, rfl, rfl, xn.symm, rfl, rfl, rfl, vX.ok⟩, ⟨X, rfl, rfl, xn.symm, rfl, rfl, rfl, vX.valid⟩, ⟨H, rfl, rfl, rfl, rfl, rfl, rfl, v.valid⟩, by rfl, ⟨H, rfl, rfl, rfl, rfl, rfl, rfl, v.ok⟩, ⟨X, rfl, rfl, xn.symm, rfl, rfl, rfl, vX.ok⟩, ⟨TA, rfl, rfl, fA2⟩, ⟨TB, rfl, rfl, fB2⟩, kk⟩
       · have p2' : (X.ar = 0) = False := eq_false p2
         have p3' : (0 < X.ar) = True := eq_true (by omega)
         have p4' : ((X.past.length : Int) < 100) = False := eq_false (by omega)
         have kk := k3 (by omega)
         simp -implicitDefEqProofs [and_assoc, lawKeepsSpec, alike9Spec, dheldSpec, heldckSpec, idHSpec, linesSpec, lworks9Spec, mainSpec, openSpec, trimSpec, underHSpec, Tryd.f6, drsOf_C, hH, hdV, hdC, txV, oH, oX, hg0, xn, ea, eb, wa1, wa2, wa3, wb1, wb2, wb3, e1, uX, hopn, l1, l2, hv, tA, tB, hA, hB, p2', p3', p4']
         refine ⟨⟨c, O, L, a, b, rfl, hD⟩, ⟨H, rfl, rfl, rfl, rfl, rfl, rfl⟩, ⟨H, rfl, rfl, rfl, rfl, rfl, rfl, v.valid⟩, by rfl, ⟨H, rfl, rfl, rfl, rfl, rfl, rfl, v.ok⟩, hN2.1, ⟨X, rfl, rfl, xn.symm, rfl, rfl, rfl, vX.ok⟩, ⟨X, rfl, rfl, xn.symm, rfl, rfl, rfl, vX.valid⟩, ⟨H, rfl, rfl, rfl, rfl, rfl, rfl, v.valid⟩, by rfl, ⟨H, rfl, rfl, rfl, rfl, rfl, rfl, v.ok⟩, ⟨X, rfl, rfl, xn.symm, rfl, rfl, rfl, vX.ok⟩, ⟨TA, rfl, rfl, fA2⟩, ⟨TB, rfl, rfl, fB2⟩, ?_⟩
         refine AWP.rounds (fun i => 1 ≤ i) (keS2 A B) (fun i => B.length - i) 1 (by omega) (Weak.ren [] (baseOK.nil hh) (by simp) (by simp) (by simp [keS2])) ?_
         intro i hi
         refine wpc_ok hE mixed _ _ _ ?_
         rcases Nat.lt_or_ge i B.length with g | g
         · have g' : ((i : Int) < B.length) = True := eq_true (by omega)
           obtain ⟨kA, kE⟩ := kk i hi g
           have g2 : ((A.length : Int) < i) = False := eq_false (by omega)
           have wi : IntKind.i64.wrap ((i : Int) + 1) = (i : Int) + 1 := wrap64 _ (by omega) (by omega)
           have wA : IntKind.i64.wrap ((A.length : Int) - i) = ((A.length - i : Nat) : Int) := by rw [wrap64 _ (by omega) (by omega)]; omega
           have wB : IntKind.i64.wrap ((B.length : Int) - i) = ((B.length - i : Nat) : Int) := by rw [wrap64 _ (by omega) (by omega)]; omega
           have a1 : A.length - i < A.length := by omega
           have b1 : B.length - i < B.length := by omega
           have dA := txC_at a1
           have dB := txC_at b1
           have hm := fA3 _ (List.getElem_mem a1)
           rw [List.getD_eq_getElem?_getD, List.getD_eq_getElem?_getD, List.getElem?_eq_getElem a1, List.getElem?_eq_getElem b1, Option.getD_some, Option.getD_some] at kE
           rw [← kE] at dB
           generalize A[A.length - i] = z at *
           simp -implicitDefEqProofs [keS2, and_assoc, alike9Spec, dheldSpec, heldckSpec, idHSpec, linesSpec, lworks9Spec, mainSpec, openSpec, trimSpec, underHSpec, celsOf_C, g', g2, wi, wA, wB, dA, dB]
           exact ⟨a1, b1, hm, by rfl, Next.mk (i + 1) (by omega) (by omega) (Weak.heap rfl (by simp))⟩
         · have g' : ((i : Int) < B.length) = False := eq_false (by omega)
           simp -implicitDefEqProofs [keS2, g']
   · simp -implicitDefEqProofs [and_assoc, lawKeepsSpec, alike9Spec, dheldSpec, heldckSpec, idHSpec, linesSpec, lworks9Spec, mainSpec, openSpec, trimSpec, underHSpec, Tryd.f6, drsOf_C, hH, hdV, hdC, oH, hopn]
     exact ⟨⟨c, O, L, a, b, rfl, hD⟩, ⟨H, rfl, rfl, rfl, rfl, rfl, rfl⟩, ⟨H, rfl, rfl, rfl, rfl, rfl, rfl, v.valid⟩⟩
end Fen
