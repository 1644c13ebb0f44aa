/- A part of the proof; no statement is proved here: FReflI, FReflU. -/
import Derived.Test.YtjolofoocpeinaaDoorReflB
import Derived.Test.YtjolofoocpeinaaDoorGridA
import Derived.Test.YtjolofoocpeinaaDoorCoreF

set_option linter.unusedVariables false
set_option linter.unusedSimpArgs false

namespace Fen
open Go Go.Proofs
def repeatOSpec : Spec := { pre := repeatSpec.pre, res := fun args => match args with
 | [.c (.sl _ cs), .c (.int _ n)] => .one (.own 77 true 12 n.toNat (celsC (List.replicate n.toNat (celOf cs))))
 | _ => .many [] }
def G_repeatO : Specs := [(79, mulSpec)]
@[simp] theorem G_repeatO_live : Specs.live G_repeatO = false := rfl
@[simp] theorem G_repeatO_nils : Specs.nils G_repeatO = false := rfl
@[simp] theorem G_repeatO_79 : G_repeatO.find 79 = some mulSpec := rfl
theorem G_repeatO_ok (gl : Gl) : SpecsOK Tryd.prog gl G_repeatO := .cons (mul_sound gl) (.nil _ _)
set_option maxRecDepth 10000 in
theorem repeatO_sound (gl : Gl) : Sound Tryd.prog gl 68 repeatOSpec := by
 refine sound_fn (N := Tryd.f68.ntmps) (rs := Tryd.f68.results.toList) mixed tok (G_repeatO_ok gl) Tryd.func68 rfl rfl rfl rfl rfl ?_ ?_ ?_
 · rintro args ⟨c,n,rfl,h1,h2⟩; simp [Tryd.f68]
 · rintro args ⟨c,n,rfl,h1,h2⟩; simp [repeatOSpec, Tryd.f68]
 · rintro args ⟨c,n,rfl,h1,h2⟩ bs hgl hh hro
   have hE : Env.OK ⟨Tryd.prog, T, G_repeatO, bs⟩ := ⟨tok, by rw [hgl]; exact G_repeatO_ok gl⟩
   have u1 : IntKind.u64.wrap 1 = 1 := by decide
   have un : IntKind.u64.wrap (n : Int) = n := by simp [IntKind.wrap, IntKind.signed, IntKind.bits]; omega
   have w1 : IntKind.i64.wrap (n : Int) = n := wrap64 _ (by omega) (by omega)
   have n0 : ¬ (n : Int) < 0 := by omega
   have nb : ¬ (9223372036854775807 : Int) < n := by omega
   have nb2 : n * 96 ≤ 140737488355328 := by omega
   have mn : min 1 n = 1 := by omega
   have c0 := celOf_C c
   simp only [repeatOSpec]
   simp [and_assoc, repeatOSpec, mulSpec, Tryd.f68, u1, un, w1, h1, h2, n0, nb, nb2, mn, c0, rep_cel]
   refine ⟨by omega, by omega, by omega, ?_⟩
   refine AWP.rounds (fun m => 1 ≤ m ∧ m ≤ n) (repeatS c n) (fun m => n - m) 1 ⟨by omega, h1⟩ ?_ ?_
   · refine Weak.heap ?_ ?_
     · have q : celsC (List.replicate n cel0) = celC cel0 ++ celsC (List.replicate (n - 1) cel0) := by
         conv => lhs; rw [show n = (n - 1) + 1 by omega, List.replicate_succ]
         rfl
       rw [show (⟨0, 0, 0, 0, sty0⟩ : Cel) = cel0 from rfl, q, drop_cel12]
       simp [celsC]
     · simp
   · rintro m ⟨hm1, hm2⟩
     refine wpc_ok hE mixed _ _ _ ?_
     rcases Nat.lt_or_ge m n with h | h
     · obtain ⟨k, hk, hk1, hk2⟩ : ∃ k, min m (n - m) = k ∧ 1 ≤ k ∧ m + k ≤ n := ⟨_, rfl, by omega, by omega⟩
       have e1 : ((n : Int) - m).toNat = n - m := by omega
       have w2 : IntKind.i64.wrap ((m : Int) + k) = ((m + k : Nat) : Int) := by rw [wrap64 _ (by omega) (by omega)]; omega
       have t1 : List.take (m * 12) (celsC (List.replicate m c ++ List.replicate (n - m) cel0)) = celsC (List.replicate m c) := by
         rw [celsC_take, List.take_left' (by simp)]
       have t2 : List.take (k * 12) (celsC (List.replicate m c)) = celsC (List.replicate k c) := by
         rw [celsC_take, List.take_replicate, Nat.min_eq_left (by omega)]
       simp [repeatS, h, e1, hk, t1, t2, w2]
       refine ⟨hm2, by omega, rfl, Next.mk (m + k) ⟨by omega, hk2⟩ (by omega) (Weak.heap ?_ (by simp))⟩
       rw [← t1, cels_lay _ _ _ _ (by simp), rep_lay _ _ _ _ _ hk2]
     · obtain rfl : m = n := by omega
       simp [repeatS, celsV]
def blkB (K : Nat) : Blk := .sl 77 0 true 12 K (celsC (List.replicate K (blankF sty0)))
def newOHS : HS := { wr := true, eff := fun xs h => match xs with
 | [.val (.int .i64 w), .agg s] => ((∃ n : Nat, w = n ∧ 2 ≤ n ∧ n ≤ 80 ∧ s = styC sty0 ∧ ClosedH h), .tup [.recd [.ref h.length 0, .val (.bool false)], .val (.int .i64 0)], h ++ [blkB w.toNat])
 | _ => (False, .dead, h) }
def newOSpec : Spec := { pre := fun _ => False, res := fun _ => .many [], hp := some newOHS }
def G_newO : Specs := [(67, stySpec), (61, blankSpec), (68, (liveOf repeatOSpec))]
@[simp] theorem G_newO_live : Specs.live G_newO = true := rfl
@[simp] theorem G_newO_nils : Specs.nils G_newO = false := rfl
@[simp] theorem G_newO_67 : G_newO.find 67 = some stySpec := rfl
@[simp] theorem G_newO_61 : G_newO.find 61 = some blankSpec := rfl
@[simp] theorem G_newO_68 : G_newO.find 68 = some (liveOf repeatOSpec) := rfl
theorem G_newO_ok (gl : Gl) : SpecsOK Tryd.prog gl G_newO := .cons (sty_sound gl) (.cons (rowblank_sound gl) (.cons (repeatO_sound gl).live (.nil _ _)))
set_option maxHeartbeats 2000000 in
set_option maxRecDepth 10000 in
theorem newO_sound (gl : Gl) : Sound Tryd.prog gl 47 newOSpec := by
 refine sound_heapA (hs := newOHS) (N := Tryd.f47.ntmps) (rs := Tryd.f47.results.toList) tok Tryd.func47 rfl rfl rfl rfl rfl ?_ ?_
 · intro xs h hp
   simp only [newOHS] at hp
   split at hp
   all_goals first | exact hp.elim | simp [Tryd.f47]
 · intro xs h hp bs hgl hh hro
   have hE : Env.OK ⟨Tryd.prog, T, G_newO, bs⟩ := ⟨tok, by rw [hgl]; exact G_newO_ok gl⟩
   simp only [newOHS] at hp
   split at hp
   · rename_i w s
     obtain ⟨n, rfl, h2, h80, rfl, hcl⟩ := hp
     have g1 : (((n : Int) < 2)) = False := eq_false (by omega)
     have g2 : ((80 < (n : Int))) = False := eq_false (by omega)
     refine wpc_ok hE mixed _ _ _ ?_
     simp [Tryd.f47, and_assoc, blankSpec, repeatOSpec, stySpec, g1, g2, styF0]
     refine ⟨sty0_ok, ⟨blankF sty0, n, rfl, by omega, by omega⟩, ?_⟩
     have H : ShH h.length 2 (h.map (shB h.length 2) ++ [Blk.box 75 (List.map X.val (styC sty0)), Blk.box 30 [X.ref (h.length + 2) 0, X.val (C.bool false)]] ++ [blkB n].map (shB h.length 2)) (h ++ [blkB n]) := ShH.mk rfl rfl
     rw [map_closed hcl] at H
     have es : h ++ [Blk.box 75 (List.map X.val (styC sty0)), Blk.box 30 [X.ref (h.length + 2) 0, X.val (C.bool false)]] ++ [blkB n].map (shB h.length 2) = h ++ [Blk.box 75 (List.map X.val (styC sty0)), Blk.box 30 [X.ref (h.length + 2) 0, X.val (C.bool false)], Blk.sl 77 0 true 12 n (celsC (List.replicate n (blankF sty0)))] := by simp [blkB, shB]
     rw [es] at H
     exact RetTo.mid (.tup [.recd [.ref h.length 0, .val (.bool false)], .val (.int .i64 0)]) _ H (by rw [hh]; exact Nat.le_refl _) (by simp [shX, shXs, shN]) ⟨rfl, rfl⟩
   · exact hp.elim
/-- references to so many blocks in order, each a row's cells -/
def rfs : Nat → Nat → List X
 | _, 0 => []
 | s, m + 1 => .ref s 0 :: .val (.bool false) :: rfs (s + 1) m
@[simp] theorem rfs_len : ∀ (s m : Nat), (rfs s m).length = m * 2
 | _, 0 => rfl
 | s, m + 1 => by simp [rfs, rfs_len (s + 1) m]; omega
theorem rfs_snoc : ∀ (s m : Nat), rfs s (m + 1) = rfs s m ++ [.ref (s + m) 0, .val (.bool false)]
 | s, 0 => rfl
 | s, m + 1 => by rw [rfs, rfs_snoc (s + 1) m, rfs]; simp; omega
theorem rfs_sh (n : Nat) : ∀ (s m : Nat), n ≤ s → shXs n 1 (rfs s m) = rfs (s + 1) m
 | _, 0, _ => rfl
 | s, m + 1, h => by simp only [rfs, shXs, shX]; rw [rfs_sh n (s + 1) m (by omega), shN, if_neg (by omega)]
theorem refsXs_app (n : Nat) : ∀ a b : List X, refsXs n (a ++ b) ↔ refsXs n a ∧ refsXs n b
 | [], b => by simp
 | x :: a, b => by simp [refsXs_app n a b, and_assoc]
theorem refs_rfs (n : Nat) : ∀ (s m : Nat), s + m ≤ n → refsXs n (rfs s m)
 | _, 0, _ => trivial
 | s, m + 1, h => ⟨by simp only [refsX]; omega, trivial, refs_rfs n (s + 1) m (by omega)⟩
theorem refs_zer (n : Nat) : ∀ m, refsXs n (rep m [X.nil, .val (.bool false)])
 | 0 => trivial
 | m + 1 => ⟨trivial, trivial, refs_zer n m⟩
theorem allB_rep {n : Nat} {b : Blk} (h : refsB n b) : ∀ m, allB n (List.replicate m b)
 | 0 => trivial
 | m + 1 => ⟨h, allB_rep h m⟩
def blanksOHS : HS := { wr := true, eff := fun xs h => match xs, h with
 | [.val (.int .i64 w), .val (.int .i64 m), .agg s], [.box t x] => ((∃ n k : Nat, w = n ∧ m = k ∧ 2 ≤ n ∧ n ≤ 80 ∧ k ≤ 40 ∧ s = styC sty0 ∧ t = 75 ∧ x = s.map .val), .ref 1 0, .box t x :: .slx 30 0 2 m.toNat (rfs 2 m.toNat) :: List.replicate m.toNat (blkB w.toNat))
 | _, h => (False, .dead, h) }
def gbO (w n : Nat) (k : Nat) : St :=
 ⟨27, [(0, .val (.int .i64 w)), (5, .ptr 1 0 0), (7, .ref 2 0), (12, .val (.int .i64 n)), (13, .val (.int .i64 k))], .box 75 ((styC sty0).map .val) :: .box 75 ((styC sty0).map .val) :: .slx 30 0 2 n (rfs 3 k ++ rep (n - k) [.nil, .val (.bool false)]) :: List.replicate k (blkB w)⟩
def blanksOSpec : Spec := { pre := fun _ => False, res := fun _ => .many [], hp := some blanksOHS }
def G_blanksO : Specs := [(47, (liveOf newOSpec))]
@[simp] theorem G_blanksO_live : Specs.live G_blanksO = true := rfl
@[simp] theorem G_blanksO_nils : Specs.nils G_blanksO = false := rfl
@[simp] theorem G_blanksO_47 : G_blanksO.find 47 = some (liveOf newOSpec) := rfl
theorem G_blanksO_ok (gl : Gl) : SpecsOK Tryd.prog gl G_blanksO := .cons (newO_sound gl).live (.nil _ _)
set_option maxHeartbeats 2000000 in
set_option maxRecDepth 10000 in
theorem blanksO_sound (gl : Gl) : Sound Tryd.prog gl 71 blanksOSpec := by
 refine sound_heapA (hs := blanksOHS) (N := Tryd.f71.ntmps) (rs := Tryd.f71.results.toList) tok Tryd.func71 rfl rfl rfl rfl rfl ?_ ?_
 · intro xs h hp
   simp only [blanksOHS] at hp
   split at hp
   all_goals first | exact hp.elim | simp [Tryd.f71]
 · intro xs h hp bs hgl hh hro
   have hE : Env.OK ⟨Tryd.prog, T, G_blanksO, bs⟩ := ⟨tok, by rw [hgl]; exact G_blanksO_ok gl⟩
   simp only [blanksOHS] at hp
   split at hp
   · rename_i w m s t x
     obtain ⟨n, k, rfl, rfl, h2, h80, h40, rfl, rfl, rfl⟩ := hp
     have n1 : k ≤ 1000 := by omega
     have b1 : (k : Int) * 32 ≤ 140737488355328 := by omega
     have b2 : (k : Int) ≤ 9223372036854775807 := by omega
     refine wpc_ok hE mixed _ _ _ ?_
     simp [Tryd.f71, and_assoc, newOSpec, b1, b2]
     refine AWP.rounds (fun i => i ≤ k) (gbO n k) (fun i => k - i) 0 (by simp) ?_ ?_
     · exact Weak.heap (by simp [gbO, rfs]) (by simp [gbO])
     · intro i hi
       refine wpc_ok hE mixed _ _ _ ?_
       rcases Nat.lt_or_ge i k with h | h
       · have w1 : IntKind.i64.wrap ((i : Int) + 1) = i + 1 := wrap64 _ (by omega) (by omega)
         simp [gbO, and_assoc, newOSpec, hcEff, newOHS, h, w1]
         obtain ⟨m, hm⟩ : ∃ m, k - i = m + 1 := ⟨k - i - 1, by omega⟩
         have hm2 : k - (i + 1) = m := by omega
         refine ⟨⟨n, rfl, h2, h80, ClosedH.of ⟨by simp, by simp, (refsXs_app _ _ _).2 ⟨refs_rfs _ _ _ (by simp; omega), refs_zer _ _⟩, allB_rep (b := blkB n) (by simp [blkB]) _⟩⟩, by rw [hm]; simp [rep], Next.mk (i + 1) (by omega) (by omega) (Weak.heap ?_ (by simp))⟩
         have ed : List.drop (i * 2 + 2) (rfs 3 i ++ rep (k - i) [X.nil, X.val (C.bool false)]) = rep m [X.nil, X.val (C.bool false)] := by
           rw [hm, ← List.drop_drop, List.drop_left' (by simp)]; rfl
         rw [ed, hm2, rfs_snoc, List.replicate_succ']
         simp; omega
       · obtain rfl : i = k := by omega
         simp [gbO]
         have H : ShH 1 1 ([Blk.box 75 (List.map X.val (styC sty0))].map (shB 1 1) ++ [Blk.box 75 (List.map X.val (styC sty0))] ++ (Blk.slx 30 0 2 i (rfs 2 i) :: List.replicate i (blkB n)).map (shB 1 1)) ([Blk.box 75 (List.map X.val (styC sty0))] ++ (Blk.slx 30 0 2 i (rfs 2 i) :: List.replicate i (blkB n))) := ShH.mk rfl rfl
         have es : [Blk.box 75 (List.map X.val (styC sty0))].map (shB 1 1) ++ [Blk.box 75 (List.map X.val (styC sty0))] ++ (Blk.slx 30 0 2 i (rfs 2 i) :: List.replicate i (blkB n)).map (shB 1 1) = Blk.box 75 (List.map X.val (styC sty0)) :: Blk.box 75 (List.map X.val (styC sty0)) :: Blk.slx 30 0 2 i (rfs 3 i) :: List.replicate i (blkB n) := by
           have e1 := map_closed (m := 1) (h := [Blk.box 75 (List.map X.val (styC sty0))]) (ClosedH.of ⟨by simp, trivial⟩)
           simp only [List.length_cons, List.length_nil, Nat.zero_add] at e1
           rw [e1]
           simp [shB, rfs_sh 1 2 i (by omega), blkB]
         rw [es] at H
         refine RetTo.mid (.ref 1 0) _ H (by rw [hh]; simp) (by simp [shX, shN]) ⟨by simp [hcEff, blanksOHS], by simp [hcEff, blanksOHS]⟩
   · exact hp.elim
def gnewOHS : HS := { wr := true, eff := fun xs h => match xs, h with
 | [.val (.int .i64 w), .val (.int .i64 m), .agg s], [] => ((∃ n k : Nat, w = n ∧ m = k ∧ 2 ≤ n ∧ n ≤ 80 ∧ 1 ≤ k ∧ k ≤ 40 ∧ s = styC sty0), .tup [.ref 0 0, .val (.int .i64 0)], .slx 30 0 2 m.toNat (rfs 1 m.toNat) :: List.replicate m.toNat (blkB w.toNat))
 | _, h => (False, .dead, h) }
def gnewOSpec : Spec := { pre := fun _ => False, res := fun _ => .many [], hp := some gnewOHS }
def G_gnewO : Specs := [(67, stySpec), (71, (liveOf blanksOSpec))]
@[simp] theorem G_gnewO_live : Specs.live G_gnewO = true := rfl
@[simp] theorem G_gnewO_nils : Specs.nils G_gnewO = false := rfl
@[simp] theorem G_gnewO_67 : G_gnewO.find 67 = some stySpec := rfl
@[simp] theorem G_gnewO_71 : G_gnewO.find 71 = some (liveOf blanksOSpec) := rfl
theorem G_gnewO_ok (gl : Gl) : SpecsOK Tryd.prog gl G_gnewO := .cons (sty_sound gl) (.cons (blanksO_sound gl).live (.nil _ _))
set_option maxHeartbeats 2000000 in
set_option maxRecDepth 10000 in
theorem gnewO_sound (gl : Gl) : Sound Tryd.prog gl 51 gnewOSpec := by
 refine sound_heapA (hs := gnewOHS) (N := Tryd.f51.ntmps) (rs := Tryd.f51.results.toList) tok Tryd.func51 rfl rfl rfl rfl rfl ?_ ?_
 · intro xs h hp
   simp only [gnewOHS] at hp
   split at hp
   all_goals first | exact hp.elim | simp [Tryd.f51]
 · intro xs h hp bs hgl hh hro
   have hE : Env.OK ⟨Tryd.prog, T, G_gnewO, bs⟩ := ⟨tok, by rw [hgl]; exact G_gnewO_ok gl⟩
   simp only [gnewOHS] at hp
   split at hp
   · rename_i w m s
     obtain ⟨n, k, rfl, rfl, h2, h80, h1, h40, rfl⟩ := hp
     have g1 : ((n : Int) < 2) = False := eq_false (by omega)
     have g2 : (80 < (n : Int)) = False := eq_false (by omega)
     have g3 : ((k : Int) < 1) = False := eq_false (by omega)
     have g4 : (40 < (k : Int)) = False := eq_false (by omega)
     refine wpc_ok hE mixed _ _ _ ?_
     simp [Tryd.f51, and_assoc, blanksOSpec, stySpec, hcEff, blanksOHS, g1, g2, g3, g4, styF0]
     refine ⟨sty0_ok, ⟨n, rfl, k, rfl, h2, h80, h40⟩, ?_⟩
     have H : ShH 0 1 ([].map (shB 0 1) ++ [Blk.box 75 (List.map X.val (styC sty0))] ++ (Blk.slx 30 0 2 k (rfs 1 k) :: List.replicate k (blkB n)).map (shB 0 1)) ([] ++ (Blk.slx 30 0 2 k (rfs 1 k) :: List.replicate k (blkB n))) := ShH.mk rfl rfl
     have es : [].map (shB 0 1) ++ [Blk.box 75 (List.map X.val (styC sty0))] ++ (Blk.slx 30 0 2 k (rfs 1 k) :: List.replicate k (blkB n)).map (shB 0 1) = Blk.box 75 (List.map X.val (styC sty0)) :: Blk.slx 30 0 2 k (rfs 2 k) :: List.replicate k (blkB n) := by
       simp [shB, rfs_sh 0 1 k (by omega), blkB]
     rw [es] at H
     exact RetTo.mid (.tup [.ref 0 0, .val (.int .i64 0)]) _ H (by rw [hh]; simp) (by simp [shX, shXs, shN]) ⟨by simp [gnewOHS], by simp [gnewOHS]⟩
   · exact hp.elim
end Fen

namespace Fen
open Go Go.Proofs
def altSpec2 : Spec := { pre := fun args => ∃ (g : List Rw) (a b : Int), args = [rowsV g, .c (.int .i64 a), .c (.int .i64 b)] ∧ RowsOK g, res := fun args => match args with
 | [.c (.sl _ cs), .c (.int _ a), .c (.int _ b)] => .many [.val (rowsV (altF (rowsOf cs) a b).1), .val (.c (.int .i64 (altF (rowsOf cs) a b).2))]
 | _ => .many [] }
def alA (g : List Rw) (K n : Nat) (A : List Rw) (D : List Blk) : St :=
 ⟨91, [(0, .val (.sl g.length (rowsC g))), (1, .val (.int .i64 K)), (9, .ref 0 0), (10, .val (.int .i64 0)), (30, .val (.int .i64 n)), (31, .val (.int .i64 D.length))],
   .slx 30 0 2 n ((rowsC A).map .val ++ rfs (D.length + 1) (n - D.length)) :: (D ++ List.replicate (n - D.length) (blkB K))⟩
theorem altR_cells {g : List Rw} {K k : Nat} {r : Rw} (h : k < g.length) (hr : g[k] = r) (hv : VL r.cells) (h2 : 2 ≤ r.cells.length) (hK : 2 ≤ K) {p : Nat} (hp : min r.cells.length K = p) {cs : List Cel} (hcs : r.cells.take p ++ List.replicate (K - p) (blankF sty0) = cs) (hl : p - 1 < cs.length) :
   altR g K k = ⟨if cs[p - 1].wide = 1 then cs.set (p - 1) (blankF sty0) else cs, r.wrapped && decide (r.cells.length = K)⟩ := by
 have hg : g.getD k ⟨[], false⟩ = r := by simp [List.getD_eq_getElem?_getD, h, hr]
 unfold altR
 rw [hg]
 have hcl : cs.length = K := by rw [← hcs]; simp; omega
 have hc : ∀ i, i < K → cs.getD i (blankF sty0) = r.cells.getD i (blankF sty0) := fun i hi => by
   rw [← hcs]
   simp only [List.getD_eq_getElem?_getD]
   rcases Nat.lt_or_ge i p with c | c
   · rw [List.getElem?_append_left (by simp; omega), List.getElem?_take_of_lt c]
   · rw [List.getElem?_append_right (by simp; omega)]
     have : r.cells.length ≤ i := by omega
     rw [List.getElem?_eq_none this]
     simp only [List.getElem?_replicate, Option.getD_none]
     split <;> rfl
 have hlast : cs[p - 1] = cat r.cells (p - 1) := by
   have e := hc (p - 1) (by omega)
   rw [List.getD_eq_getElem?_getD, List.getElem?_eq_getElem hl, Option.getD_some] at e
   rw [e, cat_eq (by omega)]
   simp [List.getD_eq_getElem?_getD, show p - 1 < r.cells.length by omega]
 congr 1
 refine List.ext_getElem (by split <;> simp [hcl]) fun i h1 h2' => ?_
 simp only [List.length_map, List.length_range] at h1
 rw [List.getElem_map, List.getElem_range]
 have hci := hc i h1
 rw [List.getD_eq_getElem?_getD, List.getElem?_eq_getElem (by omega), Option.getD_some] at hci
 unfold altK
 by_cases w : cs[p - 1].wide = 1
 · have hup : K ≤ r.cells.length := by
     rcases Nat.lt_or_ge r.cells.length K with c | c
     · rw [hlast] at w
       have := ((chain_val hv).up (p - 1) (by omega) w).1
       omega
     · exact c
   have hpK : p = K := by omega
   simp only [if_pos w, List.getElem_set]
   by_cases e : i + 1 = K
   · have w2 : (cat r.cells i).wide = 1 := by rw [show i = p - 1 by omega, ← hlast]; exact w
     rw [if_pos ⟨w2, e⟩, if_pos (by omega)]
   · rw [if_neg (fun q => e q.2), if_neg (by omega), hci]
 · simp only [if_neg w]
   rw [if_neg, hci]
   rintro ⟨q1, q2⟩
   apply w
   rw [hlast]
   rcases Nat.lt_or_ge i r.cells.length with c | c
   · rw [show p - 1 = i by omega]; exact q1
   · rw [cat_out c] at q1; simp [cel0] at q1
theorem take_at {α : Type} {L R : List α} {x : α} {k : Nat} (h : L.length = k) : (L ++ x :: R).take (k + 1) = L ++ [x] := by
 subst h; rw [List.take_append, List.take_of_length_le (by omega), show L.length + 1 - L.length = 1 by omega]; rfl
theorem drop_at {α : Type} {L R : List α} {x y : α} {k : Nat} (h : L.length = k) : (L ++ x :: y :: R).drop (k + 1 + 1) = R := by
 subst h; rw [List.drop_append, List.drop_of_length_le (by omega), show L.length + 1 + 1 - L.length = 2 by omega]; rfl
theorem grid_code {g : List Rw} (h : ¬ gridF g = 0) : gridF g = 230 := (gridF_or g).resolve_left h
def alR (g : List Rw) (K n k : Nat) : List (Nat × X) :=
 [(0, .val (.sl g.length (rowsC g))), (1, .val (.int .i64 K)), (9, .ref 0 0), (10, .val (.int .i64 0)), (30, .val (.int .i64 n)), (31, .val (.int .i64 (k : Nat)))]
theorem alt_step {bs : Base} {g : List Rw} {K n m : Nat} {A : List Rw} {D : List Blk} {x : Rw} (hA : A.length = D.length) (hx : x.cells.length = K) (hm : n - D.length = m + 1) :
   Weak bs ⟨91, alR g K n (D.length + 1), .slx 30 0 2 n ((rowsC A).map .val ++ .ref (D.length + 1) 0 :: .val (.bool x.wrapped) :: rfs (D.length + 1 + 1) m) :: (D ++ .sl 77 0 true 12 K (celsC x.cells) :: List.replicate m (blkB K))⟩
     (alA g K n (A ++ [x]) (D ++ [.sl 77 0 false 12 K (celsC x.cells)])) := by
 have hget : ∀ (b : Blk) R, (D ++ b :: R)[D.length]? = some b := fun b R => by rw [List.getElem?_append_right (Nat.le_refl _), Nat.sub_self]; rfl
 have hset : ∀ (b b' : Blk) R, (D ++ b :: R).set D.length b' = D ++ b' :: R := fun b b' R => by rw [List.set_append_right _ _ (Nat.le_refl _), Nat.sub_self]; rfl
 have hk : ((rowsC A).map X.val ++ X.ref (D.length + 1) 0 :: X.val (.bool x.wrapped) :: rfs (D.length + 1 + 1) m)[D.length * 2]? = some (X.ref (D.length + 1) 0) := by
   rw [List.getElem?_append_right (by simp [hA])]; simp [hA]
 refine Weak.trans (Weak.solidX 0 (D.length + 1) (D.length * 2) rfl hk (by rw [List.getElem?_cons_succ]; exact hget _ _)) (Weak.heap ?_ ?_)
 · have hm2 : n - (D.length + 1) = m := by omega
   rw [List.set_cons_succ, hset, List.set_cons_zero, List.set_append_right _ _ (by simp [hA])]
   simp [hA, hm2, rowsC_app, rowsC, rowC, hx]
 · simp [alR]
def alE (g : List Rw) (K n : Nat) : St :=
 ⟨91, [(9, .ref 0 0), (10, .val (.int .i64 0))], [.sl 30 0 true 2 n (rowsC (altG g K n))]⟩
theorem solid_all {bs : Base} {N K n : Nat} {r : List (Nat × X)} : ∀ (m : Nat) (L : List C) (D : List Blk), L.length = D.length * 2 →
   Weak bs ⟨N, r, .slx 30 0 2 n (L.map .val ++ rfs (D.length + 1) m) :: (D ++ List.replicate m (blkB K))⟩
     ⟨N, r, .slx 30 0 2 n ((L ++ rowsC (List.replicate m (blankRow K sty0))).map .val) :: (D ++ List.replicate m (.sl 77 0 false 12 K (celsC (List.replicate K (blankF sty0)))))⟩
 | 0, L, D, hL => by simp only [rfs, List.replicate_zero, List.append_nil, rowsC]; exact Weak.refl _ _
 | m + 1, L, D, hL => by
   have hget : ∀ (b : Blk) R, (D ++ b :: R)[D.length]? = some b := fun b R => by rw [List.getElem?_append_right (Nat.le_refl _), Nat.sub_self]; rfl
   have hset : ∀ (b b' : Blk) R, (D ++ b :: R).set D.length b' = D ++ b' :: R := fun b b' R => by rw [List.set_append_right _ _ (Nat.le_refl _), Nat.sub_self]; rfl
   have hk : (L.map X.val ++ rfs (D.length + 1) (m + 1))[D.length * 2]? = some (X.ref (D.length + 1) 0) := by
     rw [List.getElem?_append_right (by simp [hL])]; simp [hL, rfs]
   have ih := solid_all (bs := bs) (N := N) (K := K) (n := n) (r := r) m (L ++ [.sl K (celsC (List.replicate K (blankF sty0))), .bool false]) (D ++ [.sl 77 0 false 12 K (celsC (List.replicate K (blankF sty0)))]) (by simp [hL]; omega)
   refine Weak.trans (Weak.solidX 0 (D.length + 1) (D.length * 2) rfl hk (by rw [List.getElem?_cons_succ, List.replicate_succ]; exact hget _ _)) ?_
   have e1 : (Blk.slx 30 0 2 n ((L ++ [C.sl K (celsC (List.replicate K (blankF sty0))), C.bool false]).map X.val ++ rfs ((D ++ [Blk.sl 77 0 false 12 K (celsC (List.replicate K (blankF sty0)))]).length + 1) m) :: (D ++ [Blk.sl 77 0 false 12 K (celsC (List.replicate K (blankF sty0)))] ++ List.replicate m (blkB K))) =
     ((Blk.slx 30 0 2 n (L.map .val ++ rfs (D.length + 1) (m + 1)) :: (D ++ List.replicate (m + 1) (blkB K))).set (D.length + 1) (.sl 77 0 false 12 K (celsC (List.replicate K (blankF sty0))))).set 0 (.slx 30 0 2 n ((L.map X.val ++ rfs (D.length + 1) (m + 1)).set (D.length * 2) (.val (.sl K (celsC (List.replicate K (blankF sty0))))))) := by
     rw [List.set_cons_succ, List.replicate_succ, hset, List.set_cons_zero, List.set_append_right _ _ (by simp [hL])]
     simp [hL, rfs]
   rw [e1] at ih
   have e2 : rowsC (List.replicate (m + 1) (blankRow K sty0)) = [.sl K (celsC (List.replicate K (blankF sty0))), .bool false] ++ rowsC (List.replicate m (blankRow K sty0)) := by
     simp [List.replicate_succ, rowsC, rowC, blankRow]
   rw [e2, ← List.append_assoc, List.replicate_succ (n := m) (a := Blk.sl 77 0 false 12 K (celsC (List.replicate K (blankF sty0))))]
   simpa using ih
theorem alt_tail {g : List Rw} {K n k : Nat} (hk : k ≤ n) (h : k = n ∨ g.length ≤ k) : rowsC ((altG g K n).take k) ++ rowsC (List.replicate (n - k) (blankRow K sty0)) = rowsC (altG g K n) := by
 rw [← rowsC_app]
 congr 1
 refine List.ext_getElem (by simp [altG]; omega) fun i h1 h2 => ?_
 have hn : i < n := by simpa [altG] using h2
 rcases Nat.lt_or_ge i k with c | c
 · rw [List.getElem_append_left (by simp [altG]; omega), List.getElem_take]
 · rw [List.getElem_append_right (by simp [altG]; omega), List.getElem_replicate]
   have hg : g.length ≤ i := by omega
   simp only [altG, List.getElem_map, List.getElem_range, altR, List.getD_eq_getElem?_getD, List.getElem?_eq_none hg, Option.getD_none]
   unfold blankRow
   congr 1
   refine List.ext_getElem (by simp) fun j h3 h4 => ?_
   simp [altK, cat, cel0]
theorem alt_fin {bs : Base} {g : List Rw} {K n : Nat} {D : List Blk} {r : List (Nat × X)} (h0 : bs.h0 = []) (hn : D.length ≤ n) (hf : D.length = n ∨ g.length ≤ D.length) (hr : keepR r [(9, .ref 0 0), (10, .val (.int .i64 0))]) :
   Weak bs ⟨91, r, .slx 30 0 2 n ((rowsC ((altG g K n).take D.length)).map .val ++ rfs (D.length + 1) (n - D.length)) :: (D ++ List.replicate (n - D.length) (blkB K))⟩ (alE g K n) := by
 have hA : (rowsC ((altG g K n).take D.length)).length = D.length * 2 := by simp [altG]; omega
 refine Weak.trans (Weak.keep hr) (Weak.trans (solid_all (n - D.length) _ D hA) ?_)
 rw [alt_tail hn hf]
 refine Weak.trans (Weak.drop (h := [.slx 30 0 2 n ((rowsC (altG g K n)).map .val)]) (r' := [(9, .ref 0 0), (10, .val (.int .i64 0))]) (ClosedH.of ⟨by simp [refsB], trivial⟩) (by rw [h0]; simp) (by simp) (by simp [refsX])) ?_
 exact Weak.ren [some 0] (baseOK.nil h0) (by simp) (by simp) (by simp)
def G_alt : Specs := [(33, gridckSpec), (44, sizeSpec2), (51, (liveOf gnewOSpec)), (52, plainSpec)]
@[simp] theorem G_alt_live : Specs.live G_alt = true := rfl
@[simp] theorem G_alt_nils : Specs.nils G_alt = false := rfl
@[simp] theorem G_alt_33 : G_alt.find 33 = some gridckSpec := rfl
@[simp] theorem G_alt_44 : G_alt.find 44 = some sizeSpec2 := rfl
@[simp] theorem G_alt_51 : G_alt.find 51 = some (liveOf gnewOSpec) := rfl
@[simp] theorem G_alt_52 : G_alt.find 52 = some plainSpec := rfl
theorem G_alt_ok : SpecsOK Tryd.prog glW G_alt := .cons gridck_sound (.cons (sizeok_sound glW) (.cons (gnewO_sound glW).live (.cons (plainc_sound glW) (.nil _ _))))
set_option maxHeartbeats 4000000 in
set_option maxRecDepth 10000 in
theorem alt_sound : Sound Tryd.prog glW 25 altSpec2 := by
 refine sound_awp (N := Tryd.f25.ntmps) (rs := Tryd.f25.results.toList) tok Tryd.func25 rfl rfl rfl rfl rfl ?_ ?_ ?_
 · rintro args ⟨g,ca,cb,rfl,hg⟩; simp [rowsV,rowsOf_C, Tryd.f25]
 · rintro args ⟨g,ca,cb,rfl,hg⟩; simp [rowsV,rowsOf_C, altSpec2, Tryd.f25]
 · rintro args ⟨g,ca,cb,rfl,hg⟩ bs hgl hh hro
   have hE : Env.OK ⟨Tryd.prog, T, G_alt, bs⟩ := ⟨tok, by rw [hgl]; exact G_alt_ok⟩
   simp only [altSpec2, rowsV,rowsOf_C]
   by_cases q : gridF g = 0
   · cases z : sizeOK ca cb
     · refine wpc_ok hE mixed _ _ _ ?_
       simp [and_assoc, altSpec2, gnewOSpec, gridckSpec, plainSpec, sizeSpec2, Tryd.f25, altF, q, z, rowsV, rowsOf_C]
       exact ⟨g, rfl, rfl, hg⟩
     · simp only [sizeOK, Bool.and_eq_true, decide_eq_true_eq] at z
       obtain ⟨⟨⟨z1, z2⟩, z3⟩, z4⟩ := z
       obtain ⟨K, rfl⟩ : ∃ K : Nat, ca = K := ⟨ca.toNat, by omega⟩
       obtain ⟨n, rfl⟩ : ∃ n : Nat, cb = n := ⟨cb.toNat, by omega⟩
       have z : sizeOK K n = true := by simp [sizeOK]; omega
       have hK : 2 ≤ K ∧ K ≤ 80 := by omega
       have ef : altF g K n = (altG g K n, 0) := by unfold altF; rw [if_neg (by simp [q]), if_neg (by simp [z])]; simp
       refine wpc_ok hE mixed _ _ _ ?_
       simp [and_assoc, altSpec2, gnewOSpec, gridckSpec, plainSpec, sizeSpec2, Tryd.f25, gnewOHS, hcEff, ef, q, z, rowsOf_C]
       refine ⟨hg, ⟨K, rfl, n, rfl, by omega, by omega, by omega, by omega⟩, ?_⟩
       have v := GV.of q
       have hAl : (altG g K n).length = n := by simp [altG]
       refine AWP.leaves 0 (alE g K n) (AWP.rounds (fun D : List Blk => D.length ≤ n) (fun D => alA g K n ((altG g K n).take D.length) D) (fun D => n - D.length) [] (by simp) (Weak.heap (by simp [alA, rowsC]) (by simp [alA])) ?_) ?_
       · intro D hD
         refine wpc_ok hE mixed _ _ _ ?_
         rcases Nat.lt_or_ge D.length n with h | h
         · have t1 : ((D.length : Int) < n) = True := eq_true (by omega)
           rcases Nat.lt_or_ge D.length g.length with h2 | h2
           · have t2 : ((g.length : Int) ≤ D.length) = False := eq_false (by omega)
             obtain ⟨m, hm⟩ : ∃ m, n - D.length = m + 1 := ⟨n - D.length - 1, by omega⟩
             have hA : ((altG g K n).take D.length).length = D.length := by simp; omega
             have hA' : (altG g K n).take (D.length + 1) = (altG g K n).take D.length ++ [altR g K D.length] := by
               rw [List.take_succ_eq_append_getElem (by omega)]; simp [altG]
             have w1 : IntKind.i64.wrap ((D.length : Int) + 1) = ((D.length + 1 : Nat) : Int) := by rw [wrap64 _ (by omega) (by omega)]; omega
             have hA'' : ∀ b : Blk, (altG g K n).take (D ++ [b]).length = (altG g K n).take D.length ++ [altR g K D.length] := fun b => by rw [List.length_append]; exact hA'
             have bint : (((g[D.length].cells.length : Int)) == (K : Int)) = decide (g[D.length].cells.length = K) := by rw [Bool.eq_iff_iff]; simp only [decide_eq_true_eq, beq_iff_eq]; omega
             generalize hAA : (altG g K n).take D.length = A at *
             have hd := rowsC_at h2
             have hw := v.rows _ (List.getElem_mem h2)
             generalize hr : g[D.length] = r at *
             have hget : ∀ (b : Blk) R, (D ++ b :: R)[D.length]? = some b := fun b R => by rw [List.getElem?_append_right (Nat.le_refl _), Nat.sub_self]; rfl
             have hset : ∀ (b b' : Blk) R, (D ++ b :: R).set D.length b' = D ++ b' :: R := fun b b' R => by rw [List.set_append_right _ _ (Nat.le_refl _), Nat.sub_self]; rfl
             have hrl := row_len hw.1
             obtain ⟨p, hp⟩ : ∃ p, min r.cells.length K = p := ⟨_, rfl⟩
             have wp : IntKind.i64.wrap ((p : Int) - 1) = ((p - 1 : Nat) : Int) := by rw [wrap64 _ (by omega) (by omega)]; omega
             obtain ⟨cs, hcs⟩ : ∃ cs, r.cells.take p ++ List.replicate (K - p) (blankF sty0) = cs := ⟨_, rfl⟩
             have hcp : List.take (p * 12) (celsC r.cells) ++ List.drop (p * 12) (celsC (List.replicate K (blankF sty0))) = celsC cs := by
               rw [celsC_take, celsC_drop, ← celsC_app, List.drop_replicate, hcs]
             have hcl : cs.length = K := by rw [← hcs]; simp; omega
             have hp1 : p - 1 < cs.length := by omega
             have hdc := celsC_at hp1
             have hwd : (celsC cs)[(p - 1) * 12 + 3]?.getD (C.int IntKind.i64 0) = .int .i64 cs[p - 1].wide := by
               rw [← List.getElem?_drop, hdc]; rfl
             have hcset := celsC_set hp1 (blankF sty0)
             generalize hc : cs[p - 1] = c at *
             by_cases cw : c.wide = 1
             · have cw' : (c.wide = 1) = True := eq_true cw
               simp [alA, hm, rfs, blkB, List.replicate_succ, t1, t2, hA, hd, hget, hset, w1, hp, wp, hcp, hdc, hwd, hcl, hcset, cw', and_assoc, gnewOSpec, gridckSpec, plainSpec, sizeSpec2]
               have hal := altR_cells h2 hr hrl.2.2 hrl.1 hK.1 hp hcs hp1
               rw [hc, if_pos cw] at hal
               refine ⟨h2, by omega, by rfl, by omega, by omega, by omega, by omega, by rfl, h2, fun q => ⟨q, h2⟩, fun q => ⟨q, by omega⟩, by omega, Next.mk (D ++ [.sl 77 0 false 12 K (celsC (cs.set (p - 1) (blankF sty0)))]) (by simp; omega) (by simp; omega) ?_⟩
               have W := alt_step (bs := bs) (g := g) (K := K) (n := n) (x := altR g K D.length) hA (by rw [hal]; simp [hcl]) hm
               rw [← hA'', hal] at W
               refine Weak.trans (Weak.heap ?_ ?_) W
               · have e1 : List.take (D.length * 2 + 1) (List.map X.val (rowsC A) ++ X.ref (D.length + 1) 0 :: X.val (C.bool false) :: rfs (D.length + 1 + 1) m) = List.map X.val (rowsC A) ++ [X.ref (D.length + 1) 0] := by
                   exact take_at (by simp [hA])
                 have e2 : List.drop (D.length * 2 + 1 + 1) (List.map X.val (rowsC A) ++ X.ref (D.length + 1) 0 :: X.val (C.bool false) :: rfs (D.length + 1 + 1) m) = rfs (D.length + 1 + 1) m := by
                   exact drop_at (by simp [hA])
                 simp [e1, e2, blkB, bint]
               · simp [alR]
             · have cw' : (c.wide = 1) = False := eq_false cw
               simp [alA, hm, rfs, blkB, List.replicate_succ, t1, t2, hA, hd, hget, hset, w1, hp, wp, hcp, hdc, hwd, hcl, hcset, cw', and_assoc, gnewOSpec, gridckSpec, plainSpec, sizeSpec2]
               have hal := altR_cells h2 hr hrl.2.2 hrl.1 hK.1 hp hcs hp1
               rw [hc, if_neg cw] at hal
               refine ⟨h2, by omega, by rfl, by omega, by omega, h2, fun q => ⟨q, h2⟩, fun q => ⟨q, by omega⟩, by omega, Next.mk (D ++ [.sl 77 0 false 12 K (celsC cs)]) (by simp; omega) (by simp; omega) ?_⟩
               have W := alt_step (bs := bs) (g := g) (K := K) (n := n) (x := altR g K D.length) hA (by rw [hal]; simp [hcl]) hm
               rw [← hA'', hal] at W
               refine Weak.trans (Weak.heap ?_ ?_) W
               · have e1 : List.take (D.length * 2 + 1) (List.map X.val (rowsC A) ++ X.ref (D.length + 1) 0 :: X.val (C.bool false) :: rfs (D.length + 1 + 1) m) = List.map X.val (rowsC A) ++ [X.ref (D.length + 1) 0] := by
                   exact take_at (by simp [hA])
                 have e2 : List.drop (D.length * 2 + 1 + 1) (List.map X.val (rowsC A) ++ X.ref (D.length + 1) 0 :: X.val (C.bool false) :: rfs (D.length + 1 + 1) m) = rfs (D.length + 1 + 1) m := by
                   exact drop_at (by simp [hA])
                 simp [e1, e2, blkB, bint]
               · simp [alR]
           · have t2 : ((g.length : Int) ≤ D.length) = True := eq_true (by omega)
             simp [alA, t1, t2]
             exact Leaves.mk (alt_fin hh hD (.inr h2) (by simp))
         · have t1 : ((D.length : Int) < n) = False := eq_false (by omega)
           simp [alA, t1]
           exact Leaves.mk (alt_fin hh hD (.inl (by omega)) (by simp))
       · simp [alE, hAl, rowsV]
   · refine wpc_ok hE mixed _ _ _ ?_
     simp [and_assoc, altSpec2, gnewOSpec, gridckSpec, plainSpec, sizeSpec2, Tryd.f25, altF, q, rowsV, rowsOf_C]
     exact ⟨⟨g, rfl, rfl, hg⟩, grid_code q⟩
end Fen
