/- A part of the proof; no statement is proved here: FGridA, FGridB, FGridC, FGridD, FGridE, FGridF, FGridG, FGridH, FGridI, FGridJ, FGridK, FGridM. -/
import Derived.Test.YtjolofoocpeinaaDoorRowB
import Derived.Test.YtjolofoocpeinaaDoorCoreE
import Derived.Test.YtjolofoocpeinaaDoorRowC

set_option linter.unusedVariables false
set_option linter.unusedSimpArgs false

namespace Fen
open Go Go.Proofs
def growHS : HS := { wr := true, eff := fun xs h => match xs with
 | [.nil, .val (.int .i64 n)] => ((0 < n ∧ n ≤ 1000), .ref h.length 1, h ++ [.sl 30 1 true 2 0 []])
 | _ => (False, .dead, h) }
def growSpec : Spec := { pre := fun _ => False, res := fun _ => .many [], hp := some growHS }
def G_grow : Specs := []
@[simp] theorem G_grow_live : Specs.live G_grow = false := rfl
@[simp] theorem G_grow_nils : Specs.nils G_grow = false := rfl
theorem G_grow_ok (gl : Gl) : SpecsOK Tryd.prog gl G_grow := .nil _ _
set_option maxRecDepth 10000 in
theorem grow_sound (gl : Gl) : Sound Tryd.prog gl 77 growSpec := by
 refine sound_heapA (hs := growHS) (N := Tryd.f77.ntmps) (rs := Tryd.f77.results.toList) tok Tryd.func77 rfl rfl rfl rfl rfl ?_ ?_
 · intro xs h hp
   simp only [growHS] at hp
   split at hp
   all_goals first | exact hp.elim | simp [Tryd.f77]
 · intro xs h hp bs hgl hh hro
   have hE : Env.OK ⟨Tryd.prog, T, G_grow, bs⟩ := ⟨tok, by rw [hgl]; exact G_grow_ok gl⟩
   simp only [growHS] at hp
   split at hp
   · rename_i n
     obtain ⟨h1, h2⟩ := hp
     obtain ⟨k, rfl⟩ : ∃ k : Nat, n = k := ⟨n.toNat, by omega⟩
     have n0 : ¬ (k : Int) < 0 := by omega
     have k0 : 0 < k := by omega
     have k1 : ¬ k = 0 := by omega
     have w1 : IntKind.i64.wrap (k : Int) = k := wrap64 _ (by omega) (by omega)
     refine wpcU_ok hE mixed 5 _ _ _ ?_
     simp [Tryd.f77, hcEff, growHS, n0]
     refine OpW.capNil tok T_33 (by simp) (by simp) ?_
     simp [w1, k0, k1]
     refine AWP.regionH hE 8 ?_
     simp
     refine OpW.capNil tok T_33 (by simp) (by simp) ?_
     simp
     refine OpW.appMake (k := k) (kq := .i64) tok T_33 T_3 T_30 (by simp) (by simp) (by omega) (by simp; omega) (by unfold maxLen; omega) (by simp) (by simp) ?_
     simp
     refine OpW.trunc (id := h.length) (ver := 0) (sz := 2) (n := k) (e' := 30) (cs := rep k [.sl 0 [], .bool false]) tok T_33 T_30 (by simp) (by simp) (by simp) (by simp) ?_
     simp
     exact RetTo.same ⟨rfl, rfl⟩
   · exact hp.elim
def concatSpec : Spec := { pre := fun args => ∃ p w : List Rw, args = [.c (.sl 2 [.sl p.length (rowsC p), .sl w.length (rowsC w)])] ∧ 0 < p.length + w.length ∧ p.length + w.length ≤ 1000, res := fun args => match args with
 | [.c (.sl _ [.sl _ a, .sl _ b])] => .one (.val (rowsV (rowsOf a ++ rowsOf b)))
 | _ => .many [] }
def G_concat : Specs := [(77, growSpec)]
@[simp] theorem G_concat_live : Specs.live G_concat = false := rfl
@[simp] theorem G_concat_nils : Specs.nils G_concat = false := rfl
@[simp] theorem G_concat_77 : G_concat.find 77 = some growSpec := rfl
theorem G_concat_ok (gl : Gl) : SpecsOK Tryd.prog gl G_concat := .cons (grow_sound gl) (.nil _ _)
set_option maxRecDepth 10000 in
theorem concat_sound (gl : Gl) : Sound Tryd.prog gl 60 concatSpec := by
 refine sound_fn (N := Tryd.f60.ntmps) (rs := Tryd.f60.results.toList) mixed tok (G_concat_ok gl) Tryd.func60 rfl rfl rfl rfl rfl ?_ ?_ ?_
 · rintro args ⟨p,w,rfl,h0,h1⟩; simp [rowsOf_C, Tryd.f60]
 · rintro args ⟨p,w,rfl,h0,h1⟩; simp [rowsOf_C, concatSpec, Tryd.f60]
 · rintro args ⟨p,w,rfl,h0,h1⟩ bs hgl hh hro
   have hE : Env.OK ⟨Tryd.prog, T, G_concat, bs⟩ := ⟨tok, by rw [hgl]; exact G_concat_ok gl⟩
   simp only [concatSpec, rowsOf_C]
   have w1 : IntKind.i64.wrap (p.length : Int) = p.length := wrap64 _ (by omega) (by omega)
   have w2 : IntKind.i64.wrap ((p.length : Int) + w.length) = p.length + w.length := wrap64 _ (by omega) (by omega)
   have n1 : ¬ (p.length : Int) < 0 := by omega
   have n2 : ¬ (p.length : Int) + w.length < 0 := by omega
   have n3 : 0 < (p.length : Int) + w.length := by omega
   have n4 : (p.length : Int) + w.length ≤ 1000 := by omega
   simp [Tryd.f60]
   refine AWP.unroll hE mixed 3 ?_
   simp [and_assoc, growSpec, growHS, w1, w2, n1, n2, n3, n4]
   refine AWP.unroll hE mixed 3 ?_
   simp [and_assoc, growSpec, growHS, rowsV]
   exact ⟨by omega, by omega, by omega, by omega, (rowsC_app p w).symm⟩
def colsG (g : List Rw) : Nat := match g with
 | [] => 0
 | r :: _ => r.cells.length
def gcolsSpec : Spec := { pre := fun args => ∃ g : List Rw, args = [rowsV g] ∧ g ≠ [], res := fun args => match args with
 | [.c (.sl _ cs)] => .one (.val (.c (.int .i64 (colsG (rowsOf cs)))))
 | _ => .many [] }
def G_gcols : Specs := []
@[simp] theorem G_gcols_live : Specs.live G_gcols = false := rfl
@[simp] theorem G_gcols_nils : Specs.nils G_gcols = false := rfl
theorem G_gcols_ok (gl : Gl) : SpecsOK Tryd.prog gl G_gcols := .nil _ _
set_option maxRecDepth 10000 in
theorem gcols_sound (gl : Gl) : Sound Tryd.prog gl 56 gcolsSpec := by
 refine sound_fn (N := Tryd.f56.ntmps) (rs := Tryd.f56.results.toList) mixed tok (G_gcols_ok gl) Tryd.func56 rfl rfl rfl rfl rfl ?_ ?_ ?_
 · rintro args ⟨g,rfl,hg⟩; simp [rowsOf_C,rowsV, Tryd.f56]
 · rintro args ⟨g,rfl,hg⟩; simp [rowsOf_C,rowsV, gcolsSpec, Tryd.f56]
 · rintro args ⟨g,rfl,hg⟩ bs hgl hh hro
   have hE : Env.OK ⟨Tryd.prog, T, G_gcols, bs⟩ := ⟨tok, by rw [hgl]; exact G_gcols_ok gl⟩
   simp only [gcolsSpec, rowsOf_C,rowsV]
   match g, hg with
   | r :: g, _ =>
     simp [and_assoc, gcolsSpec, Tryd.f56, rowsC, rowC, colsG]
def gridF (g : List Rw) : Int := if g.length < 1 ∨ 40 < g.length then 230 else if okRows (colsG g) g = true then 0 else 230
theorem gridF_or (g : List Rw) : gridF g = 0 ∨ gridF g = 230 := by unfold gridF; (repeat' split) <;> simp
theorem gridF_ok {g : List Rw} (h : gridF g = 0) : 1 ≤ g.length ∧ g.length ≤ 40 ∧ okRows (colsG g) g = true := by
 unfold gridF at h
 split at h
 · cases h
 · split at h
   · exact ⟨by omega, by omega, by assumption⟩
   · cases h
def gridckSpec : Spec := { pre := fun args => ∃ g : List Rw, args = [rowsV g] ∧ RowsOK g, res := fun args => match args with
 | [.c (.sl _ cs)] => .one (.val (.c (.int .i64 (gridF (rowsOf cs)))))
 | _ => .many [] }
def gridckS (g : List Rw) (k : Nat) : St := ⟨31, [(0, .val (.sl g.length (rowsC g))), (13, .val (.sl g.length (rowsC g))), (14, .val (.int .i64 g.length)), (15, .val (.int .i64 k))], []⟩
def G_gridck : Specs := [(55, rowckSpec), (56, gcolsSpec)]
@[simp] theorem G_gridck_live : Specs.live G_gridck = false := rfl
@[simp] theorem G_gridck_nils : Specs.nils G_gridck = false := rfl
@[simp] theorem G_gridck_55 : G_gridck.find 55 = some rowckSpec := rfl
@[simp] theorem G_gridck_56 : G_gridck.find 56 = some gcolsSpec := rfl
theorem G_gridck_ok : SpecsOK Tryd.prog glW G_gridck := .cons rowck_sound (.cons (gcols_sound glW) (.nil _ _))
set_option maxRecDepth 10000 in
theorem gridck_sound : Sound Tryd.prog glW 33 gridckSpec := by
 refine sound_fn (N := Tryd.f33.ntmps) (rs := Tryd.f33.results.toList) mixed tok G_gridck_ok Tryd.func33 rfl rfl rfl rfl rfl ?_ ?_ ?_
 · rintro args ⟨g,rfl,hg⟩; simp [rowsOf_C,rowsV, Tryd.f33]
 · rintro args ⟨g,rfl,hg⟩; simp [rowsOf_C,rowsV, gridckSpec, Tryd.f33]
 · rintro args ⟨g,rfl,hg⟩ bs hgl hh hro
   have hE : Env.OK ⟨Tryd.prog, T, G_gridck, bs⟩ := ⟨tok, by rw [hgl]; exact G_gridck_ok⟩
   simp only [gridckSpec, rowsOf_C,rowsV]
   by_cases h0 : g.length < 1
   · have e : gridF g = 230 := by unfold gridF; rw [if_pos (.inl h0)]
     have h0' : (g.length : Int) < 1 := by omega
     simp [gridckSpec, gcolsSpec, rowckSpec, Tryd.f33, h0', e]
   by_cases h40 : 40 < (g.length : Int)
   · have e : gridF g = 230 := by unfold gridF; rw [if_pos (.inr (by omega))]
     have h0' : ¬ (g.length : Int) < 1 := by omega
     simp [gridckSpec, gcolsSpec, rowckSpec, Tryd.f33, h40, h0', e]
   have h0' : ¬ (g.length : Int) < 1 := by omega
   have e : gridF g = if okRows (colsG g) g = true then 0 else 230 := by unfold gridF; rw [if_neg (by omega)]
   have gne : ¬ g = [] := fun q => by rw [q] at h0; exact h0 (by simp)
   have eC : ∃ g' : List Rw, g.length = g'.length ∧ g = g' ∧ ¬ g' = [] := ⟨g, rfl, rfl, fun q => by rw [q] at h0; exact h0 (by simp)⟩
   simp [gridckSpec, gcolsSpec, rowckSpec, Tryd.f33, h0', h40, e]
   refine AWP.rounds (fun k => k ≤ g.length ∧ okRows (colsG g) g = okRows (colsG g) (g.drop k)) (gridckS g) (fun k => g.length - k) 0 ⟨by simp, by simp⟩ ?_ ?_
   · refine Weak.ren [] (baseOK.nil hh) (by simp) (by simp) ?_
     simp [gridckS]
   · rintro k ⟨hk, hc⟩
     refine wpc_ok hE mixed _ _ _ ?_
     rcases Nat.lt_or_ge k g.length with h | h
     · have w1 : IntKind.i64.wrap ((k : Int) + 1) = k + 1 := wrap64 _ (by omega) (by omega)
       have hd := rowsC_at h
       have hok : (g[k]).ok := hg _ (List.getElem_mem h)
       rw [List.drop_eq_getElem_cons h] at hc
       generalize g[k] = r at *
       simp [gridckS, and_assoc, gridckSpec, gcolsSpec, rowckSpec, Tryd.f33, hd, w1, h, hok, eC, gne, rowV]
       refine ⟨by decide +kernel, fun q => ?_, fun q1 q2 => Next.mk (k + 1) ⟨h, by rw [hc]; simp [okRows, q1, q2]⟩ (by omega) (Weak.ren [] (baseOK.nil hh) (by simp) (by simp) (by simp [gridckS]))⟩
       rw [hc]
       simp only [okRows, List.all_cons, Bool.and_eq_false_imp, Bool.and_eq_true, decide_eq_true_eq]
       rintro ⟨k1, k2⟩
       rcases q with q | q
       · exact absurd k2 q
       · exact absurd k1 q
     · have : k = g.length := by omega
       subst this
       have hc : okRows (colsG g) g = true := by rw [hc]; simp [okRows]
       simp [gridckS, hc]
def rrightSpec : Spec := { pre := fun args => ∃ r : Rw, args = [rowV r] ∧ r.ok, res := fun args => .one (.val (.c (.bool (decide (rowF (rowOf (args.headD default).cs) = 0))))) }
def G_rright : Specs := [(72, rowckSpec)]
@[simp] theorem G_rright_live : Specs.live G_rright = false := rfl
@[simp] theorem G_rright_nils : Specs.nils G_rright = false := rfl
@[simp] theorem G_rright_72 : G_rright.find 72 = some rowckSpec := rfl
theorem G_rright_ok (gl : Gl) : SpecsOK Tryd.prog gl G_rright := .cons (rrowck_sound gl) (.nil _ _)
set_option maxRecDepth 10000 in
theorem rright_sound (gl : Gl) : Sound Tryd.prog gl 53 rrightSpec := by
 refine sound_fn (N := Tryd.f53.ntmps) (rs := Tryd.f53.results.toList) mixed tok (G_rright_ok gl) Tryd.func53 rfl rfl rfl rfl rfl ?_ ?_ ?_
 · rintro args ⟨r,rfl,hr⟩; simp [Tryd.f53]
 · rintro args ⟨r,rfl,hr⟩; simp [rrightSpec, Tryd.f53]
 · rintro args ⟨r,rfl,hr⟩ bs hgl hh hro
   have hE : Env.OK ⟨Tryd.prog, T, G_rright, bs⟩ := ⟨tok, by rw [hgl]; exact G_rright_ok gl⟩
   simp [rrightSpec, rowckSpec, Tryd.f53, rowV, hr]
   rfl
def grightSpec : Spec := { pre := fun args => ∃ g : List Rw, args = [rowsV g] ∧ RowsOK g, res := fun args => match args with
 | [.c (.sl _ cs)] => .one (.val (.c (.bool (decide (gridF (rowsOf cs) = 0)))))
 | _ => .many [] }
def grightS (g : List Rw) (k : Nat) : St := ⟨38, [(0, .val (.sl g.length (rowsC g))), (3, .val (.int .i64 k))], []⟩
def G_gright : Specs := [(53, rrightSpec)]
@[simp] theorem G_gright_live : Specs.live G_gright = false := rfl
@[simp] theorem G_gright_nils : Specs.nils G_gright = false := rfl
@[simp] theorem G_gright_53 : G_gright.find 53 = some rrightSpec := rfl
theorem G_gright_ok (gl : Gl) : SpecsOK Tryd.prog gl G_gright := .cons (rright_sound gl) (.nil _ _)
set_option maxRecDepth 10000 in
theorem gright_sound (gl : Gl) : Sound Tryd.prog gl 26 grightSpec := by
 refine sound_fn (N := Tryd.f26.ntmps) (rs := Tryd.f26.results.toList) mixed tok (G_gright_ok gl) Tryd.func26 rfl rfl rfl rfl rfl ?_ ?_ ?_
 · rintro args ⟨g,rfl,hg⟩; simp [rowsOf_C,rowsV, Tryd.f26]
 · rintro args ⟨g,rfl,hg⟩; simp [rowsOf_C,rowsV, grightSpec, Tryd.f26]
 · rintro args ⟨g,rfl,hg⟩ bs hgl hh hro
   have hE : Env.OK ⟨Tryd.prog, T, G_gright, bs⟩ := ⟨tok, by rw [hgl]; exact G_gright_ok gl⟩
   simp only [grightSpec, rowsOf_C,rowsV]
   by_cases h0 : g.length < 1
   · have e : gridF g = 230 := by unfold gridF; rw [if_pos (.inl h0)]
     have h0' : (g.length : Int) < 1 := by omega
     simp [grightSpec, rrightSpec, Tryd.f26, h0', e]
   by_cases h40 : 40 < (g.length : Int)
   · have e : gridF g = 230 := by unfold gridF; rw [if_pos (.inr (by omega))]
     have h0' : ¬ (g.length : Int) < 1 := by omega
     simp [grightSpec, rrightSpec, Tryd.f26, h40, h0', e]
   have h0' : ¬ (g.length : Int) < 1 := by omega
   have e : gridF g = if okRows (colsG g) g = true then 0 else 230 := by unfold gridF; rw [if_neg (by omega)]
   obtain ⟨r0, hr0⟩ : ∃ r0 : Rw, ∀ d, (rowsC g).head?.getD d = .sl (colsG g) (celsC r0.cells) := by
     match g, h0 with
     | r :: g, _ => exact ⟨r, fun _ => rfl⟩
   have gl0 : 0 < g.length := by omega
   simp [grightSpec, rrightSpec, Tryd.f26, h0', h40, e]
   refine AWP.rounds (fun k => k ≤ g.length ∧ okRows (colsG g) g = okRows (colsG g) (g.drop k)) (grightS g) (fun k => g.length - k) 0 ⟨by simp, by simp⟩ ?_ ?_
   · refine Weak.keep ?_
     simp [grightS]
   · rintro k ⟨hk, hc⟩
     refine wpc_ok hE mixed _ _ _ ?_
     rcases Nat.lt_or_ge k g.length with h | h
     · have w1 : IntKind.i64.wrap ((k : Int) + 1) = k + 1 := wrap64 _ (by omega) (by omega)
       have hd := rowsC_at h
       have hok : (g[k]).ok := hg _ (List.getElem_mem h)
       rw [List.drop_eq_getElem_cons h] at hc
       generalize g[k] = r at *
       have p1 : 0 < 2 + (g.length - (k + 1)) * 2 := by omega
       simp [grightS, and_assoc, grightSpec, rrightSpec, Tryd.f26, hd, w1, h, hok, hr0, gl0, p1, rowV]
       refine ⟨by decide +kernel, fun q => ?_, fun q1 q2 => Next.mk (k + 1) ⟨h, by rw [hc]; simp [okRows, q1, q2]⟩ (by omega) (Weak.keep (by simp [grightS]))⟩
       rw [hc]
       simp only [okRows, List.all_cons, Bool.and_eq_false_imp, Bool.and_eq_true, decide_eq_true_eq]
       rintro ⟨k1, k2⟩
       rcases q with q | q
       · exact absurd k2 q
       · exact absurd k1 q
     · have : k = g.length := by omega
       subst this
       have hc : okRows (colsG g) g = true := by rw [hc]; simp [okRows]
       simp [grightS, hc]
end Fen

namespace Fen
open Go Go.Proofs
def blankRow (w : Nat) (s : Sty) : Rw := ⟨List.replicate w (blankF s), false⟩
def gblanksSpec : Spec := { pre := fun args => ∃ (w n : Nat) (s : Sty), args = [.c (.int .i64 w), .c (.int .i64 n), styV s] ∧ 2 ≤ w ∧ w ≤ 80 ∧ n ≤ 40 ∧ s.ok ∧ styF s = 0, res := fun args => match args with
 | [.c (.int _ w), .c (.int _ n), .agg s] => .one (.val (rowsV (List.replicate n.toNat (blankRow w.toNat (stOf s)))))
 | _ => .many [] }
def rblankS (w n : Nat) (s : Sty) (i : Nat) : St :=
 ⟨22, [(0, .val (.int .i64 w)), (1, .val (.int .i64 n)), (5, .ptr 0 0 0), (7, if i = 0 then .nil else .ref 1 0), (8, .val (.int .i64 i))],
   .box 75 ((styC s).map .val) :: if i = 0 then [] else [.sl 30 0 true 2 i (rowsC (List.replicate i (blankRow w s)))]⟩
def G_rgblank : Specs := [(70, blanksSpec)]
@[simp] theorem G_rgblank_live : Specs.live G_rgblank = false := rfl
@[simp] theorem G_rgblank_nils : Specs.nils G_rgblank = false := rfl
@[simp] theorem G_rgblank_70 : G_rgblank.find 70 = some blanksSpec := rfl
theorem G_rgblank_ok (gl : Gl) : SpecsOK Tryd.prog gl G_rgblank := .cons (blanks_sound gl) (.nil _ _)
set_option maxRecDepth 10000 in
theorem rgblank_sound (gl : Gl) : Sound Tryd.prog gl 50 gblanksSpec := by
 refine sound_fn (N := Tryd.f50.ntmps) (rs := Tryd.f50.results.toList) mixed tok (G_rgblank_ok gl) Tryd.func50 rfl rfl rfl rfl rfl ?_ ?_ ?_
 · rintro args ⟨w,n,s,rfl,h1,h2,h3,h4,h5⟩; simp [stOf_C,styV, Tryd.f50]
 · rintro args ⟨w,n,s,rfl,h1,h2,h3,h4,h5⟩; simp [stOf_C,styV, gblanksSpec, Tryd.f50]
 · rintro args ⟨w,n,s,rfl,h1,h2,h3,h4,h5⟩ bs hgl hh hro
   have hE : Env.OK ⟨Tryd.prog, T, G_rgblank, bs⟩ := ⟨tok, by rw [hgl]; exact G_rgblank_ok gl⟩
   simp only [gblanksSpec, stOf_C,styV]
   simp [and_assoc, gblanksSpec, blanksSpec, Tryd.f50]
   refine AWP.rounds (fun i => i ≤ n) (rblankS w n s) (fun i => n - i) 0 (by simp) ?_ ?_
   · refine Weak.keep ?_
     simp [rblankS]
   · intro i hi
     refine wpc_ok hE mixed _ _ _ ?_
     rcases Nat.lt_or_ge i n with hl | hl
     · have w1 : IntKind.i64.wrap ((i : Int) + 1) = i + 1 := wrap64 _ (by omega) (by omega)
       have w80 : w ≤ 1000 := by omega
       have e : rowsC (List.replicate (i + 1) (blankRow w s)) = rowsC (List.replicate i (blankRow w s)) ++ rowC (blankRow w s) := by
         rw [List.replicate_succ', rowsC_app]; simp [rowsC]
       have e0 : [C.sl w (celsC (List.replicate w (blankF s))), C.bool false] = rowC (blankRow w s) := by simp [rowC, blankRow]
       rcases Nat.eq_zero_or_pos i with h0 | h0
       · subst h0
         simp [rblankS, and_assoc, blanksSpec, styV, celsV, hl, w1, w80, e0]
         exact ⟨⟨w, rfl, w80⟩, Next.mk 1 (by omega) (by omega) (Weak.ren [some 0, some 1] (baseOK.nil hh) (by simp) (by simp [rblankS, rowsC]) (by simp [rblankS]))⟩
       · have h0' : ¬ i = 0 := by omega
         simp [rblankS, and_assoc, blanksSpec, styV, celsV, hl, w1, h0', w80, e0]
         exact ⟨⟨w, rfl, w80⟩, by omega, by omega, Next.mk (i + 1) (by omega) (by omega) (Weak.ren [some 0, some 1] (baseOK.nil hh) (by simp) (by simp [rblankS, e]) (by simp [rblankS]))⟩
     · obtain rfl : i = n := by omega
       rcases Nat.eq_zero_or_pos i with h0 | h0
       · subst h0
         simp [rblankS, rowsV]
       · have h0' : ¬ i = 0 := by omega
         simp [rblankS, rowsV, h0']
end Fen

namespace Fen
open Go Go.Proofs
section
variable (w : Nat) (fr fc tr tc : Int) (s : Sty) (l : List Rw)
end
end Fen

namespace Fen
open Go Go.Proofs
end Fen

namespace Fen
open Go Go.Proofs
theorem okRows_RowsOK {cols : Int} {p : List Rw} (h : okRows cols p = true) : ∀ r ∈ p, rowF r = 0 ∧ (r.cells.length : Int) = cols := fun r hr => by
 simp only [okRows, List.all_eq_true, Bool.and_eq_true, decide_eq_true_eq] at h
 exact ⟨(h r hr).2, (h r hr).1⟩
end Fen

namespace Fen
open Go Go.Proofs
end Fen

namespace Fen
open Go Go.Proofs
end Fen

namespace Fen
open Go Go.Proofs
theorem chain_all : ∀ (l : List Cel) (a : Cel), chainF a l = true → ∀ c ∈ l, cellF c = 0
 | [], _, _, c, hc => by simp at hc
 | x :: l, a, h, c, hc => by
   simp only [chainF, Bool.and_eq_true, Bool.not_eq_true'] at h
   rcases List.mem_cons.1 hc with rfl | hc
   · exact ((offF_iff _ _).1 h.1).1
   · exact chain_all l x h.2 c hc
theorem sty_okF {s : Sty} (h : styF s = 0) : s.ok := by
 unfold styF at h
 split at h
 · cases h
 · rename_i q; exact ⟨by omega, by omega⟩
theorem cell_okF {c : Cel} (h : cellF c = 0) : c.ok := sty_okF (cell_sty h)
theorem row_okF {r : Rw} (h : rowF r = 0) : r.ok := fun c hc => cell_okF (chain_all _ _ (row_len h).2.2 c hc)
theorem rowF_of {l : List Cel} {w : Bool} (h2 : 2 ≤ l.length) (h8 : l.length ≤ 80) (h : VL l) : rowF ⟨l, w⟩ = 0 := by unfold rowF; rw [if_pos ⟨h2, h8, h⟩]
theorem row_lt {r : Rw} (h : rowF r = 0) : r.cells.length ≤ 1000 := by have := (row_len h).2.1; omega
theorem map_step {α β : Type} (f : α → β) {g : List α} {i : Nat} (h : i < g.length) : (g.map f).take (i + 1) = (g.map f).take i ++ [f g[i]] := by
 rw [List.take_succ_eq_append_getElem (by simpa using h)]; simp
/-- a grid's draft: columns, and a draft for each row -/
structure Dr where
 k : Int
 B : List Int
 w : Bool
def drC (d : Dr) : List C := [.int .u8 d.k, .sl d.B.length (ints .u8 d.B), .bool d.w]
def Dr.ok (d : Dr) : Prop := 0 ≤ d.k ∧ d.k < 256 ∧ Bytes d.B
@[simp] theorem drC_len (d : Dr) : (drC d).length = 3 := rfl
theorem drs_at : ∀ (l : List Dr) (i : Nat) (h : i < l.length), List.take 3 (List.drop (i * 3) (l.flatMap drC)) = drC l[i]
 | d :: l, 0, _ => by simp [List.take_left' (drC_len d)]
 | d :: l, i + 1, h => by
   rw [List.flatMap_cons, List.drop_append, List.drop_of_length_le (by simp; omega), List.nil_append, drC_len, show (i + 1) * 3 - 3 = i * 3 by omega]
   simpa using drs_at l i (by simpa using h)
theorem drs_len (l : List Dr) : (l.flatMap drC).length = l.length * 3 := by
 induction l with
 | nil => rfl
 | cons d l ih => rw [List.flatMap_cons, List.length_append, ih]; simp; omega
/-- how many rows -/
def manyG (L : List Dr) : Nat := max 1 (min L.length 12)
def rowG (c : Int) (L : List Dr) (i : Nat) : Rw := draftF c (L.getD i ⟨0, [], false⟩).B (L.getD i ⟨0, [], false⟩).w
def gridD (c : Int) (L : List Dr) : List Rw := (List.range (manyG L)).map (rowG c L)
def drsOf : List C → List Dr
 | .int _ k :: .sl _ b :: .bool w :: l => ⟨k, b.map toI, w⟩ :: drsOf l
 | _ => []
theorem drsOf_C : ∀ l : List Dr, drsOf (l.flatMap drC) = l
 | [] => rfl
 | d :: l => by rw [List.flatMap_cons]; simp only [drC, List.cons_append, List.nil_append, drsOf]; rw [drsOf_C l]; simp [ints, Function.comp_def]
def dgridSpec : Spec := { pre := fun args => ∃ (c : Int) (L : List Dr), args = [.agg [.int .u8 c, .sl L.length (L.flatMap drC)]] ∧ 0 ≤ c ∧ c < 256 ∧ ∀ d ∈ L, d.ok, res := fun args => match args with
 | [.agg [.int _ c, .sl _ cs]] => .one (.val (rowsV (gridD c (drsOf cs))))
 | _ => .many [] }
def dgridS (c : Int) (L : List Dr) (i : Nat) : St :=
 ⟨35, [(1, .ptr 0 0 0), (3, if i = 0 then .nil else .ref 1 0), (4, .val (.int .i64 i))], .box 62 [.val (.int .u8 c), .val (.sl L.length (L.flatMap drC))] :: if i = 0 then [] else [.sl 30 0 true 2 i (rowsC ((gridD c L).take i))]⟩
def G_dgrid : Specs := [(36, draftSpec)]
@[simp] theorem G_dgrid_live : Specs.live G_dgrid = false := rfl
@[simp] theorem G_dgrid_nils : Specs.nils G_dgrid = false := rfl
@[simp] theorem G_dgrid_36 : G_dgrid.find 36 = some draftSpec := rfl
theorem G_dgrid_ok (gl : Gl) : SpecsOK Tryd.prog gl G_dgrid := .cons (draft_sound gl) (.nil _ _)
set_option maxRecDepth 10000 in
theorem dgrid_sound (gl : Gl) : Sound Tryd.prog gl 24 dgridSpec := by
 refine sound_fn (N := Tryd.f24.ntmps) (rs := Tryd.f24.results.toList) mixed tok (G_dgrid_ok gl) Tryd.func24 rfl rfl rfl rfl rfl ?_ ?_ ?_
 · rintro args ⟨c,L,rfl,h0,h1,hL⟩; simp [drsOf_C, Tryd.f24]
 · rintro args ⟨c,L,rfl,h0,h1,hL⟩; simp [drsOf_C, dgridSpec, Tryd.f24]
 · rintro args ⟨c,L,rfl,h0,h1,hL⟩ bs hgl hh hro
   have hE : Env.OK ⟨Tryd.prog, T, G_dgrid, bs⟩ := ⟨tok, by rw [hgl]; exact G_dgrid_ok gl⟩
   simp only [dgridSpec, drsOf_C]
   have hm1 : 1 ≤ manyG L ∧ manyG L ≤ 12 := by unfold manyG; omega
   have hlen : (gridD c L).length = manyG L := by simp [gridD]
   have em : (if 12 < (L.length : Int) then (12 : Int) else L.length) = ((min 12 L.length : Nat) : Int) := by split <;> omega
   have em2 : (if 1 < ((min 12 L.length : Nat) : Int) then ((min 12 L.length : Nat) : Int) else 1) = (manyG L : Int) := by unfold manyG; split <;> omega
   simp [and_assoc, dgridSpec, draftSpec, Tryd.f24]
   refine AWP.rounds (fun i => i ≤ manyG L) (dgridS c L) (fun i => manyG L - i) 0 (by simp) ?_ ?_
   · refine Weak.keep ?_
     simp [dgridS]
   · intro i hi
     refine wpc_ok hE mixed _ _ _ ?_
     rcases Nat.lt_or_ge i (manyG L) with h | h
     · have w1 : IntKind.i64.wrap ((i : Int) + 1) = ((i + 1 : Nat) : Int) := by rw [wrap64 _ (by omega) (by omega)]; omega
       have hlt : ((i : Int) < manyG L) = True := eq_true (by omega)
       have hs := map_step (rowG c L) (g := List.range (manyG L)) (i := i) (by simpa using h)
       rw [List.getElem_range] at hs
       have e : rowsC ((gridD c L).take (i + 1)) = rowsC ((gridD c L).take i) ++ rowC (rowG c L i) := by
         unfold gridD; rw [hs, rowsC_app]; simp [rowsC]
       obtain ⟨x, hx⟩ : ∃ x, rowG c L i = x := ⟨_, rfl⟩
       rw [hx] at e
       obtain ⟨O, hO⟩ : ∃ O, gridD c L = O := ⟨_, rfl⟩
       rw [hO] at e hlen
       have hdl := drs_len L
       by_cases hl : i < L.length
       · have ht := drs_at L i hl
         have hd := hL _ (List.getElem_mem hl)
         have hg : L.getD i ⟨0, [], false⟩ = L[i] := by simp [hl]
         unfold rowG at hx
         rw [hg] at hx
         generalize L[i] = d at *
         obtain ⟨k, B, w⟩ := d
         obtain ⟨_, _, hB⟩ := hd
         simp only [drC] at ht hx hB
         have eB : ∃ x : List Int, B.length = x.length ∧ B = x ∧ Bytes x := ⟨B, rfl, rfl, hB⟩
         have l1 : 3 ≤ L.length * 3 - i * 3 := by omega
         have l2 : min 3 (L.length * 3 - i * 3) = 3 := by omega
         rcases Nat.eq_zero_or_pos i with z | z
         · have z' : (i = 0) = True := eq_true z
           have e' : rowsC (O.take 1) = rowC x := by rw [z] at e; simpa [rowsC] using e
           simp -implicitDefEqProofs [-Bool.exists_bool, dgridS, hO, and_assoc, draftSpec, em, em2, w1, hlt, hl, hdl, ht, l1, l2, h0, h1, eB, hx, z']
           exact Next.mk (i + 1) h (by omega) (Weak.ren [some 0, some 2] (baseOK.nil hh) (by simp) (by simp [dgridS, hO, z, e']) (by simp [dgridS]))
         · have z' : ¬ i = 0 := by omega
           simp -implicitDefEqProofs [-Bool.exists_bool, dgridS, hO, and_assoc, draftSpec, em, em2, w1, hlt, hl, hdl, ht, l1, l2, h0, h1, eB, hx, z']
           exact ⟨by omega, by omega, Next.mk (i + 1) h (by omega) (Weak.ren [some 0, some 1] (baseOK.nil hh) (by simp) (by simp [dgridS, hO, e]) (by simp [dgridS]))⟩
       · have hg : L.getD i ⟨0, [], false⟩ = ⟨0, [], false⟩ := by simp [show L.length ≤ i by omega]
         unfold rowG at hx
         rw [hg] at hx
         have eB : ∃ x : List Int, 0 = x.length ∧ x = [] ∧ Bytes x := ⟨[], rfl, rfl, fun q hq => by simp at hq⟩
         rcases Nat.eq_zero_or_pos i with z | z
         · have z' : (i = 0) = True := eq_true z
           have e' : rowsC (O.take 1) = rowC x := by rw [z] at e; simpa [rowsC] using e
           simp -implicitDefEqProofs [-Bool.exists_bool, dgridS, hO, and_assoc, draftSpec, em, em2, w1, hlt, hl, h0, h1, eB, hx, z']
           exact Next.mk (i + 1) h (by omega) (Weak.ren [some 0, some 2] (baseOK.nil hh) (by simp) (by simp [dgridS, hO, z, e']) (by simp [dgridS]))
         · have z' : ¬ i = 0 := by omega
           simp -implicitDefEqProofs [-Bool.exists_bool, dgridS, hO, and_assoc, draftSpec, em, em2, w1, hlt, hl, h0, h1, eB, hx, z']
           exact ⟨by omega, by omega, Next.mk (i + 1) h (by omega) (Weak.ren [some 0, some 1] (baseOK.nil hh) (by simp) (by simp [dgridS, hO, e]) (by simp [dgridS]))⟩
     · have hlt : ((i : Int) < manyG L) = False := eq_false (by omega)
       obtain rfl : i = manyG L := by omega
       have z' : ¬ manyG L = 0 := by omega
       have hT : (gridD c L).take (manyG L) = gridD c L := List.take_of_length_le (by omega)
       simp -implicitDefEqProofs [-Bool.exists_bool, dgridS, and_assoc, draftSpec, em, em2, z', hT, rowsV, hlen]
end Fen

namespace Fen
open Go Go.Proofs
def strsOf : List C → List (List UInt8)
 | .str s :: l => s :: strsOf l
 | _ => []
theorem strsOf_C : ∀ l : List (List UInt8), strsOf (l.map C.str) = l
 | [] => rfl
 | s :: l => by simp only [List.map_cons, strsOf]; rw [strsOf_C l]
end Fen

namespace Fen
open Go Go.Proofs
def b1 : Sty := ⟨1, 0, 0, 0, 0, 0, 0, 0⟩
theorem sty0_ok : sty0.ok := ⟨by decide, by decide⟩
end Fen

namespace Fen
open Go Go.Proofs
theorem rowsFin_of {p : List Rw} (hl : p.length ≤ 1000) (h : ∀ r ∈ p, r.cells.length ≤ 1000) : RowsFin p := ⟨by omega, h⟩
theorem grid_len (c : Int) (L : List Dr) : (gridD c L).length = manyG L := by simp [gridD]
theorem many_le (L : List Dr) : 1 ≤ manyG L ∧ manyG L ≤ 12 := by unfold manyG; omega
section
variable (a b : Rw) (c d : Cel) (s t : Sty) (x y : C) (l : List C)
@[simp] theorem row_d4 : List.drop 4 (rowC a ++ x :: y :: l) = l := rfl
@[simp] theorem row_d4r : List.drop 4 (rowC a ++ (rowC b ++ l)) = l := rfl
@[simp] theorem row_t4 : List.take 4 (rowC a ++ (rowC b ++ l)) = rowC a ++ rowC b := rfl
@[simp] theorem row_t4x : List.take 4 (rowC a ++ x :: y :: l) = rowC a ++ [x, y] := rfl
@[simp] theorem row_d6 : List.drop 6 (rowC a ++ (rowC b ++ x :: y :: l)) = l := rfl
@[simp] theorem cel_d24 : List.drop 24 (celC c ++ l) = l.drop 12 := rfl
@[simp] theorem cel_d12z : List.drop 12 (celC c) = [] := rfl
@[simp] theorem sty_d16 : List.drop 16 (styC s ++ l) = l.drop 8 := rfl
@[simp] theorem sty_d8z : List.drop 8 (styC s ++ l) = l := rfl
@[simp] theorem sty_d8' : List.drop 8 (styC s) = [] := rfl
end
end Fen

namespace Fen
open Go Go.Proofs
structure Kept (r x : Rw) : Prop where
 ok : rowF x = 0
 len : x.cells.length = r.cells.length
 wr : x.wrapped = true → r.wrapped = true
theorem Kept.of {r : Rw} {l : List Cel} {w : Bool} (h : rowF r = 0) (hl : l.length = r.cells.length) (hv : VL l) (hw : w = true → r.wrapped = true) : Kept r ⟨l, w⟩ := by
 obtain ⟨h2, h8, _⟩ := row_len h
 exact ⟨rowF_of (by omega) (by omega) hv, hl, hw⟩
/-- a valid grid of n rows of w cells -/
structure GV (w n : Nat) (g : List Rw) : Prop where
 len : g.length = n
 n1 : 1 ≤ n
 n40 : n ≤ 40
 rows : ∀ r ∈ g, rowF r = 0 ∧ r.cells.length = w
section
variable {w n : Nat} {g : List Rw}
theorem GV.ne (h : GV w n g) : g ≠ [] := by
 rintro rfl
 have h1 := h.len
 have h2 := h.n1
 simp at h1
 omega
theorem GV.cols (h : GV w n g) : colsG g = w := by
 have h1 := h.ne
 match g, h1 with
 | [], h1 => exact absurd rfl h1
 | r :: g, _ => exact (h.rows r (List.mem_cons_self ..)).2
theorem GV.valid (h : GV w n g) : gridF g = 0 := by
 unfold gridF
 have h1 := h.len
 have h2 := h.n1
 have h3 := h.n40
 rw [if_neg (by omega), if_pos]
 rw [h.cols]
 simp only [okRows, List.all_eq_true, Bool.and_eq_true, decide_eq_true_eq]
 intro r hr
 have := h.rows r hr
 exact ⟨by omega, this.1⟩
theorem GV.of (h : gridF g = 0) : GV (colsG g) g.length g := by
 obtain ⟨h1, h2, h3⟩ := gridF_ok h
 exact ⟨rfl, h1, h2, fun r hr => by have := okRows_RowsOK h3 r hr; exact ⟨this.1, by omega⟩⟩
theorem GV.grid (c : Int) (L : List Dr) : GV (2 + c.toNat % 79) (manyG L) (gridD c L) :=
 ⟨grid_len c L, (many_le L).1, by have := (many_le L).2; omega, fun r hr => by
   simp only [gridD, List.mem_map] at hr
   obtain ⟨i, _, rfl⟩ := hr
   exact ⟨draft_ok _ _ _, draft_len _ _ _⟩⟩
theorem GV.w2 (h : GV w n g) : 2 ≤ w ∧ w ≤ 80 := by
 have h1 := h.ne
 match g, h1 with
 | [], h1 => exact absurd rfl h1
 | r :: g, _ =>
   obtain ⟨q1, q2⟩ := h.rows r (List.mem_cons_self ..)
   have := row_len q1
   omega
theorem GV.rok (h : GV w n g) : RowsOK g := fun r hr => row_okF (h.rows r hr).1
theorem GV.fin (h : GV w n g) : RowsFin g := rowsFin_of (by have := h.len; have := h.n40; omega) fun r hr => row_lt (h.rows r hr).1
end
section
variable (w : Nat) (fr fc tr tc : Int) (s : Sty) (l : List Rw)
end
structure De where
 q : Int
 t : Int
 l : Int
 n : Int
 c : Int
def De.ok (d : De) : Prop := (0 ≤ d.q ∧ d.q < 256) ∧ (0 ≤ d.t ∧ d.t < 256) ∧ (0 ≤ d.l ∧ d.l < 256) ∧ (0 ≤ d.n ∧ d.n < 256) ∧ 0 ≤ d.c ∧ d.c < 256
end Fen
