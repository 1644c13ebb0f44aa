/- A part of the proof; no statement is proved here: FReflP, FReflQ, FReflB. -/
import Derived.Test.YtjolofoocpeinaaDoorReflA

set_option linter.unusedVariables false
set_option linter.unusedSimpArgs false

namespace Fen
open Go Go.Proofs
def pastckSpec : Spec := { pre := fun args => ∃ (cols : Int) (p : List Rw), args = [.c (.int .i64 cols), rowsV p] ∧ RowsOK p, res := fun args => match args with
 | [.c (.int _ cols), .c (.sl _ cs)] => .one (.val (.c (.int .i64 (pastF cols (rowsOf cs)))))
 | _ => .many [] }
def pastckS (cols : Int) (p : List Rw) (k : Nat) : St := ⟨33, [(0, .val (.int .i64 cols)), (16, .val (.sl p.length (rowsC p))), (17, .val (.int .i64 p.length)), (18, .val (.int .i64 k))], []⟩
def G_pastck : Specs := [(55, rowckSpec)]
@[simp] theorem G_pastck_live : Specs.live G_pastck = false := rfl
@[simp] theorem G_pastck_nils : Specs.nils G_pastck = false := rfl
@[simp] theorem G_pastck_55 : G_pastck.find 55 = some rowckSpec := rfl
theorem G_pastck_ok : SpecsOK Tryd.prog glW G_pastck := .cons rowck_sound (.nil _ _)
set_option maxRecDepth 10000 in
theorem pastck_sound : Sound Tryd.prog glW 40 pastckSpec := by
 refine sound_fn (N := Tryd.f40.ntmps) (rs := Tryd.f40.results.toList) mixed tok G_pastck_ok Tryd.func40 rfl rfl rfl rfl rfl ?_ ?_ ?_
 · rintro args ⟨cols,p,rfl,hp⟩; simp [rowsV, Tryd.f40]
 · rintro args ⟨cols,p,rfl,hp⟩; simp [rowsV, pastckSpec, Tryd.f40]
 · rintro args ⟨cols,p,rfl,hp⟩ bs hgl hh hro
   have hE : Env.OK ⟨Tryd.prog, T, G_pastck, bs⟩ := ⟨tok, by rw [hgl]; exact G_pastck_ok⟩
   simp only [pastckSpec, rowsV]
   by_cases h2 : cols < 2
   · have e : pastF cols p = 2 := by unfold pastF; rw [if_pos (.inl h2)]
     simp [pastckSpec, rowckSpec, Tryd.f40, rowsV, h2, e]
   by_cases h80 : 80 < cols
   · have e : pastF cols p = 2 := by unfold pastF; rw [if_pos (.inr h80)]
     simp [pastckSpec, rowckSpec, Tryd.f40, rowsV, h2, h80, e]
   by_cases h100 : 100 < (p.length : Int)
   · have e : pastF cols p = 280 := by unfold pastF; rw [if_neg (by omega), if_neg (by omega)]
     simp [pastckSpec, rowckSpec, Tryd.f40, rowsV, h2, h80, h100, e]
   have q : p.length ≤ 100 := by omega
   have e : pastF cols p = if okRows cols p = true then 0 else 280 := by
     unfold pastF
     rw [if_neg (by omega)]
     simp only [q, true_and]
   simp [pastckSpec, rowckSpec, Tryd.f40, rowsV, h2, h80, h100, e]
   refine AWP.rounds (fun k => k ≤ p.length ∧ okRows cols p = okRows cols (p.drop k)) (pastckS cols p) (fun k => p.length - k) 0 ⟨by simp, by simp⟩ ?_ ?_
   · refine Weak.ren [] (baseOK.nil hh) (by simp) (by simp) ?_
     simp [pastckS]
   · rintro k ⟨hk, hc⟩
     refine wpc_ok hE mixed _ _ _ ?_
     rcases Nat.lt_or_ge k p.length with h | h
     · have w1 : IntKind.i64.wrap ((k : Int) + 1) = k + 1 := wrap64 _ (by omega) (by omega)
       have hd := rowsC_at h
       have hok : (p[k]).ok := hp _ (List.getElem_mem h)
       rw [List.drop_eq_getElem_cons h] at hc
       generalize p[k] = r at *
       simp [pastckS, rowckSpec, hd, w1, h, hok]
       refine ⟨fun q => ?_, fun q1 q2 => Next.mk (k + 1) ⟨h, by rw [hc]; simp [okRows, q1, q2]⟩ (by omega) (Weak.ren [] (baseOK.nil hh) (by simp) (by simp) (by simp [pastckS]))⟩
       rw [hc]
       simp only [okRows, List.all_cons, Bool.and_eq_false_imp, Bool.and_eq_true, decide_eq_true_eq]
       rintro ⟨k1, k2⟩
       rcases q with q | q
       · exact absurd k1 q
       · exact absurd k2 q
     · have : k = p.length := by omega
       subst this
       have hc : okRows cols p = true := by rw [hc]; simp [okRows]
       simp [pastckS, hc]
def rrightsSpec : Spec := { pre := fun args => ∃ (cols : Int) (p : List Rw), args = [.c (.int .i64 cols), rowsV p] ∧ RowsOK p, res := fun args => match args with
 | [.c (.int _ cols), .c (.sl n cs)] => .one (.val (.c (.bool (decide (n ≤ 100) && okRows cols (rowsOf cs)))))
 | _ => .many [] }
def rrightsS (cols : Int) (p : List Rw) (k : Nat) : St := ⟨31, [(0, .val (.int .i64 cols)), (1, .val (.sl p.length (rowsC p))), (5, .val (.int .i64 k))], []⟩
def G_rrights : Specs := [(53, rrightSpec)]
@[simp] theorem G_rrights_live : Specs.live G_rrights = false := rfl
@[simp] theorem G_rrights_nils : Specs.nils G_rrights = false := rfl
@[simp] theorem G_rrights_53 : G_rrights.find 53 = some rrightSpec := rfl
theorem G_rrights_ok (gl : Gl) : SpecsOK Tryd.prog gl G_rrights := .cons (rright_sound gl) (.nil _ _)
set_option maxRecDepth 10000 in
theorem rrights_sound (gl : Gl) : Sound Tryd.prog gl 39 rrightsSpec := by
 refine sound_fn (N := Tryd.f39.ntmps) (rs := Tryd.f39.results.toList) mixed tok (G_rrights_ok gl) Tryd.func39 rfl rfl rfl rfl rfl ?_ ?_ ?_
 · rintro args ⟨cols,p,rfl,hp⟩; simp [rowsV, Tryd.f39]
 · rintro args ⟨cols,p,rfl,hp⟩; simp [rowsV, rrightsSpec, Tryd.f39]
 · rintro args ⟨cols,p,rfl,hp⟩ bs hgl hh hro
   have hE : Env.OK ⟨Tryd.prog, T, G_rrights, bs⟩ := ⟨tok, by rw [hgl]; exact G_rrights_ok gl⟩
   simp only [rrightsSpec, rowsV]
   by_cases h100 : 100 < (p.length : Int)
   · have e : ¬ p.length ≤ 100 := by omega
     simp [rrightsSpec, rrightSpec, Tryd.f39, h100, e]
   have q : p.length ≤ 100 := by omega
   simp [rrightsSpec, rrightSpec, Tryd.f39, h100, q]
   refine AWP.rounds (fun k => k ≤ p.length ∧ okRows cols p = okRows cols (p.drop k)) (rrightsS cols p) (fun k => p.length - k) 0 ⟨by simp, by simp⟩ ?_ ?_
   · refine Weak.keep ?_
     simp [rrightsS]
   · rintro k ⟨hk, hc⟩
     refine wpc_ok hE mixed _ _ _ ?_
     rcases Nat.lt_or_ge k p.length with h | h
     · have w1 : IntKind.i64.wrap ((k : Int) + 1) = k + 1 := wrap64 _ (by omega) (by omega)
       have hd := rowsC_at h
       have hok : (p[k]).ok := hp _ (List.getElem_mem h)
       rw [List.drop_eq_getElem_cons h] at hc
       generalize p[k] = r at *
       simp [rrightsS, rrightSpec, hd, w1, h, hok]
       refine ⟨fun q => ⟨q, by omega⟩, fun q => ?_, fun q1 q2 => Next.mk (k + 1) ⟨h, by rw [hc]; simp [okRows, q1, q2]⟩ (by omega) (Weak.keep (by simp [rrightsS]))⟩
       rw [hc]
       simp only [okRows, List.all_cons, Bool.and_eq_false_imp, Bool.and_eq_true, decide_eq_true_eq]
       rintro ⟨k1, k2⟩
       rcases q with q | q
       · exact absurd k2 q
       · exact absurd k1 q
     · have : k = p.length := by omega
       subst this
       have hc : okRows cols p = true := by rw [hc]; simp [okRows]
       simp [rrightsS, hc]
def hdC (h : Hd) : List C := [.sl h.past.length (rowsC h.past), .sl h.rows.length (rowsC h.rows), .int .i64 h.ar, .int .i64 h.ac]
def hdV (h : Hd) : V := .agg (hdC h)
def hdOf : List C → Hd
 | [.sl _ a, .sl _ b, .int _ r, .int _ c] => ⟨rowsOf a, rowsOf b, r, c⟩
 | _ => hd0
theorem hdOf_C (h : Hd) : hdOf [.sl h.past.length (rowsC h.past), .sl h.rows.length (rowsC h.rows), .int .i64 h.ar, .int .i64 h.ac] = h := by simp [hdOf, rowsOf_C]
def HdOK (h : Hd) : Prop := RowsOK h.past ∧ RowsOK h.rows
def plainSpec : Spec := { pre := fun args => args = [], res := fun _ => .one (.val (celV (blankF sty0))) }
def G_plainc : Specs := [(61, blankSpec)]
@[simp] theorem G_plainc_live : Specs.live G_plainc = false := rfl
@[simp] theorem G_plainc_nils : Specs.nils G_plainc = false := rfl
@[simp] theorem G_plainc_61 : G_plainc.find 61 = some blankSpec := rfl
theorem G_plainc_ok (gl : Gl) : SpecsOK Tryd.prog gl G_plainc := .cons (rowblank_sound gl) (.nil _ _)
set_option maxRecDepth 10000 in
theorem plainc_sound (gl : Gl) : Sound Tryd.prog gl 52 plainSpec := by
 refine sound_fn (N := Tryd.f52.ntmps) (rs := Tryd.f52.results.toList) mixed tok (G_plainc_ok gl) Tryd.func52 rfl rfl rfl rfl rfl ?_ ?_ ?_
 · rintro args rfl; simp [Tryd.f52]
 · rintro args rfl; simp [plainSpec, Tryd.f52]
 · rintro args rfl bs hgl hh hro
   have hE : Env.OK ⟨Tryd.prog, T, G_plainc, bs⟩ := ⟨tok, by rw [hgl]; exact G_plainc_ok gl⟩
   simp [and_assoc, plainSpec, blankSpec, Tryd.f52]
def G_rplain : Specs := [(57, blankSpec)]
@[simp] theorem G_rplain_live : Specs.live G_rplain = false := rfl
@[simp] theorem G_rplain_nils : Specs.nils G_rplain = false := rfl
@[simp] theorem G_rplain_57 : G_rplain.find 57 = some blankSpec := rfl
theorem G_rplain_ok (gl : Gl) : SpecsOK Tryd.prog gl G_rplain := .cons (blank_sound gl) (.nil _ _)
set_option maxRecDepth 10000 in
theorem rplain_sound (gl : Gl) : Sound Tryd.prog gl 54 plainSpec := by
 refine sound_fn (N := Tryd.f54.ntmps) (rs := Tryd.f54.results.toList) mixed tok (G_rplain_ok gl) Tryd.func54 rfl rfl rfl rfl rfl ?_ ?_ ?_
 · rintro args rfl; simp [Tryd.f54]
 · rintro args rfl; simp [plainSpec, Tryd.f54]
 · rintro args rfl bs hgl hh hro
   have hE : Env.OK ⟨Tryd.prog, T, G_rplain, bs⟩ := ⟨tok, by rw [hgl]; exact G_rplain_ok gl⟩
   simp [and_assoc, plainSpec, blankSpec, Tryd.f54]
def hcolsSpec : Spec := { pre := fun args => ∃ h : Hd, args = [hdV h] ∧ h.rows ≠ [], res := fun args => match args with
 | [.agg cs] => .one (.val (.c (.int .i64 (colsG (hdOf cs).rows))))
 | _ => .many [] }
def G_hcols : Specs := []
@[simp] theorem G_hcols_live : Specs.live G_hcols = false := rfl
@[simp] theorem G_hcols_nils : Specs.nils G_hcols = false := rfl
theorem G_hcols_ok (gl : Gl) : SpecsOK Tryd.prog gl G_hcols := .nil _ _
set_option maxRecDepth 10000 in
theorem hcols_sound (gl : Gl) : Sound Tryd.prog gl 41 hcolsSpec := by
 refine sound_fn (N := Tryd.f41.ntmps) (rs := Tryd.f41.results.toList) mixed tok (G_hcols_ok gl) Tryd.func41 rfl rfl rfl rfl rfl ?_ ?_ ?_
 · rintro args ⟨h,rfl,hr⟩; simp [hdOf_C,hdV,hdC, Tryd.f41]
 · rintro args ⟨h,rfl,hr⟩; simp [hdOf_C,hdV,hdC, hcolsSpec, Tryd.f41]
 · rintro args ⟨h,rfl,hr⟩ bs hgl hh hro
   have hE : Env.OK ⟨Tryd.prog, T, G_hcols, bs⟩ := ⟨tok, by rw [hgl]; exact G_hcols_ok gl⟩
   simp only [hcolsSpec, hdOf_C,hdV,hdC]
   obtain ⟨p, g, a, c⟩ := h
   match g, hr with
   | r :: g, _ =>
     have e := hdOf_C ⟨p, r :: g, a, c⟩
     simp [and_assoc, hcolsSpec, Tryd.f41, rowsC, rowC, colsG, hdOf, rowsOf]
def sizeSpec2 : Spec := { pre := fun args => ∃ a b : Int, args = [.c (.int .i64 a), .c (.int .i64 b)], res := fun args => match args with
 | [.c (.int _ a), .c (.int _ b)] => .one (.val (.c (.bool (sizeOK a b))))
 | _ => .many [] }
def G_sizeok : Specs := []
@[simp] theorem G_sizeok_live : Specs.live G_sizeok = false := rfl
@[simp] theorem G_sizeok_nils : Specs.nils G_sizeok = false := rfl
theorem G_sizeok_ok (gl : Gl) : SpecsOK Tryd.prog gl G_sizeok := .nil _ _
set_option maxRecDepth 10000 in
theorem sizeok_sound (gl : Gl) : Sound Tryd.prog gl 44 sizeSpec2 := by
 refine sound_fn (N := Tryd.f44.ntmps) (rs := Tryd.f44.results.toList) mixed tok (G_sizeok_ok gl) Tryd.func44 rfl rfl rfl rfl rfl ?_ ?_ ?_
 · rintro args ⟨a,b,rfl⟩; simp [Tryd.f44]
 · rintro args ⟨a,b,rfl⟩; simp [sizeSpec2, Tryd.f44]
 · rintro args ⟨a,b,rfl⟩ bs hgl hh hro
   have hE : Env.OK ⟨Tryd.prog, T, G_sizeok, bs⟩ := ⟨tok, by rw [hgl]; exact G_sizeok_ok gl⟩
   simp [and_assoc, sizeSpec2, Tryd.f44, sizeOK, Bool.and_assoc]
def G_rsizeok : Specs := []
@[simp] theorem G_rsizeok_live : Specs.live G_rsizeok = false := rfl
@[simp] theorem G_rsizeok_nils : Specs.nils G_rsizeok = false := rfl
theorem G_rsizeok_ok (gl : Gl) : SpecsOK Tryd.prog gl G_rsizeok := .nil _ _
set_option maxRecDepth 10000 in
theorem rsizeok_sound (gl : Gl) : Sound Tryd.prog gl 20 sizeSpec2 := by
 refine sound_fn (N := Tryd.f20.ntmps) (rs := Tryd.f20.results.toList) mixed tok (G_rsizeok_ok gl) Tryd.func20 rfl rfl rfl rfl rfl ?_ ?_ ?_
 · rintro args ⟨a,b,rfl⟩; simp [Tryd.f20]
 · rintro args ⟨a,b,rfl⟩; simp [sizeSpec2, Tryd.f20]
 · rintro args ⟨a,b,rfl⟩ bs hgl hh hro
   have hE : Env.OK ⟨Tryd.prog, T, G_rsizeok, bs⟩ := ⟨tok, by rw [hgl]; exact G_rsizeok_ok gl⟩
   simp [and_assoc, sizeSpec2, Tryd.f20, sizeOK, Bool.and_assoc]
def blankRSpec : Spec := { pre := fun args => ∃ r : Rw, args = [rowV r] ∧ r.cells.length ≤ 1000000, res := fun args => match args with
 | [.agg cs] => .one (.val (.c (.bool (blankR (rowOf cs)))))
 | _ => .many [] }
def G_rblankr : Specs := [(43, longSpec)]
@[simp] theorem G_rblankr_live : Specs.live G_rblankr = false := rfl
@[simp] theorem G_rblankr_nils : Specs.nils G_rblankr = false := rfl
@[simp] theorem G_rblankr_43 : G_rblankr.find 43 = some longSpec := rfl
theorem G_rblankr_ok (gl : Gl) : SpecsOK Tryd.prog gl G_rblankr := .cons (rlong_sound gl) (.nil _ _)
set_option maxRecDepth 10000 in
theorem rblankr_sound (gl : Gl) : Sound Tryd.prog gl 49 blankRSpec := by
 refine sound_fn (N := Tryd.f49.ntmps) (rs := Tryd.f49.results.toList) mixed tok (G_rblankr_ok gl) Tryd.func49 rfl rfl rfl rfl rfl ?_ ?_ ?_
 · rintro args ⟨r,rfl,hl⟩; simp [rowV,rowOf_C, Tryd.f49]
 · rintro args ⟨r,rfl,hl⟩; simp [rowV,rowOf_C, blankRSpec, Tryd.f49]
 · rintro args ⟨r,rfl,hl⟩ bs hgl hh hro
   have hE : Env.OK ⟨Tryd.prog, T, G_rblankr, bs⟩ := ⟨tok, by rw [hgl]; exact G_rblankr_ok gl⟩
   simp only [blankRSpec, rowV,rowOf_C]
   have e : ((longF r.cells : Int) == 0) = decide (longF r.cells = 0) := by
     rw [Bool.eq_iff_iff]; simp
   simp [and_assoc, blankRSpec, longSpec, Tryd.f49, hl, blankR, e]
end Fen

namespace Fen
open Go Go.Proofs
theorem heldF_iff (h : Hd) : heldF h = 0 ↔ gridF h.rows = 0 ∧ pastF (colsG h.rows) h.past = 0 ∧ 0 ≤ h.ar ∧ h.ar < h.rows.length ∧ 0 ≤ h.ac ∧ h.ac < colsG h.rows := by
 unfold heldF
 split
 · rename_i q; exact ⟨fun _ => q, fun _ => rfl⟩
 · rename_i q; exact ⟨fun p => by simp at p, fun p => absurd p q⟩
theorem heldF_or (h : Hd) : heldF h = 0 ∨ heldF h = 290 := by unfold heldF; split <;> simp
def heldckSpec : Spec := { pre := fun args => ∃ h : Hd, args = [hdV h] ∧ HdOK h, res := fun args => match args with
 | [.agg cs] => .one (.val (.c (.int .i64 (heldF (hdOf cs)))))
 | _ => .many [] }
theorem grid_ne {g : List Rw} (h : gridF g = 0) : g ≠ [] := by
 have := (gridF_ok h).1
 rintro rfl
 simp at this
def G_heldck : Specs := [(33, gridckSpec), (41, hcolsSpec), (40, pastckSpec)]
@[simp] theorem G_heldck_live : Specs.live G_heldck = false := rfl
@[simp] theorem G_heldck_nils : Specs.nils G_heldck = false := rfl
@[simp] theorem G_heldck_33 : G_heldck.find 33 = some gridckSpec := rfl
@[simp] theorem G_heldck_41 : G_heldck.find 41 = some hcolsSpec := rfl
@[simp] theorem G_heldck_40 : G_heldck.find 40 = some pastckSpec := rfl
theorem G_heldck_ok : SpecsOK Tryd.prog glW G_heldck := .cons gridck_sound (.cons (hcols_sound glW) (.cons pastck_sound (.nil _ _)))
set_option maxRecDepth 10000 in
theorem heldck_sound : Sound Tryd.prog glW 15 heldckSpec := by
 refine sound_fn (N := Tryd.f15.ntmps) (rs := Tryd.f15.results.toList) mixed tok G_heldck_ok Tryd.func15 rfl rfl rfl rfl rfl ?_ ?_ ?_
 · rintro args ⟨h,rfl,h1,h2⟩; simp [rowsV,hdV,hdC, Tryd.f15]
 · rintro args ⟨h,rfl,h1,h2⟩; simp [rowsV,hdV,hdC, heldckSpec, Tryd.f15]
 · rintro args ⟨h,rfl,h1,h2⟩ bs hgl hh hro
   have hE : Env.OK ⟨Tryd.prog, T, G_heldck, bs⟩ := ⟨tok, by rw [hgl]; exact G_heldck_ok⟩
   simp only [heldckSpec, rowsV,hdV,hdC]
   obtain ⟨p, g, a, c⟩ := h
   simp only at h1 h2
   have eo : hdOf [C.sl p.length (rowsC p), C.sl g.length (rowsC g), .int .i64 a, .int .i64 c] = ⟨p, g, a, c⟩ := hdOf_C ⟨p, g, a, c⟩
   by_cases q1 : gridF g = 0
   · have gn := grid_ne q1
     have eh : ∃ h : Hd, V.agg [C.sl p.length (rowsC p), C.sl g.length (rowsC g), .int .i64 a, .int .i64 c] = hdV h ∧ ¬ h.rows = [] := ⟨⟨p, g, a, c⟩, rfl, gn⟩
     by_cases q2 : pastF (colsG g) p = 0
     · by_cases q3 : a < 0
       · have e : heldF ⟨p, g, a, c⟩ = 290 := by unfold heldF; rw [if_neg (fun q => by have := q.2.2.1; simp only at this; omega)]
         simp [and_assoc, heldckSpec, gridckSpec, hcolsSpec, pastckSpec, Tryd.f15, hdV, hdC, eo, h1, h2, q1, q2, q3, e, eh]
         repeat' (first | (refine And.intro ?_ ?_) | (intro _))
         all_goals first | rfl | exact ⟨⟨p, g, a, c⟩, rfl, rfl, rfl, rfl, rfl, rfl, gn⟩
       by_cases q4 : (g.length : Int) ≤ a
       · have e : heldF ⟨p, g, a, c⟩ = 290 := by unfold heldF; rw [if_neg (fun q => by have := q.2.2.2.1; simp only at this; omega)]
         simp [and_assoc, heldckSpec, gridckSpec, hcolsSpec, pastckSpec, Tryd.f15, hdV, hdC, eo, h1, h2, q1, q2, q3, q4, e, eh]
         repeat' (first | (refine And.intro ?_ ?_) | (intro _))
         all_goals first | rfl | exact ⟨⟨p, g, a, c⟩, rfl, rfl, rfl, rfl, rfl, rfl, gn⟩
       by_cases q5 : c < 0
       · have e : heldF ⟨p, g, a, c⟩ = 290 := by unfold heldF; rw [if_neg (fun q => by have := q.2.2.2.2.1; simp only at this; omega)]
         simp [and_assoc, heldckSpec, gridckSpec, hcolsSpec, pastckSpec, Tryd.f15, hdV, hdC, eo, h1, h2, q1, q2, q3, q4, q5, e, eh]
         repeat' (first | (refine And.intro ?_ ?_) | (intro _))
         all_goals first | rfl | exact ⟨⟨p, g, a, c⟩, rfl, rfl, rfl, rfl, rfl, rfl, gn⟩
       by_cases q6 : (colsG g : Int) ≤ c
       · have e : heldF ⟨p, g, a, c⟩ = 290 := by unfold heldF; rw [if_neg (fun q => by have := q.2.2.2.2.2; simp only at this; omega)]
         simp [and_assoc, heldckSpec, gridckSpec, hcolsSpec, pastckSpec, Tryd.f15, hdV, hdC, eo, h1, h2, q1, q2, q3, q4, q5, q6, e, eh]
         repeat' (first | (refine And.intro ?_ ?_) | (intro _))
         all_goals first | rfl | exact ⟨⟨p, g, a, c⟩, rfl, rfl, rfl, rfl, rfl, rfl, gn⟩
       · have e : heldF ⟨p, g, a, c⟩ = 0 := by unfold heldF; rw [if_pos ⟨q1, q2, by simp only; omega, by simp only; omega, by simp only; omega, by simp only; omega⟩]
         simp [and_assoc, heldckSpec, gridckSpec, hcolsSpec, pastckSpec, Tryd.f15, hdV, hdC, eo, h1, h2, q1, q2, q3, q4, q5, q6, e, eh]
         repeat' (first | (refine And.intro ?_ ?_) | (intro _))
         all_goals first | rfl | exact ⟨⟨p, g, a, c⟩, rfl, rfl, rfl, rfl, rfl, rfl, gn⟩
     · have e : heldF ⟨p, g, a, c⟩ = 290 := by unfold heldF; rw [if_neg (fun q => q2 q.2.1)]
       simp [and_assoc, heldckSpec, gridckSpec, hcolsSpec, pastckSpec, Tryd.f15, hdV, hdC, eo, h1, h2, q1, q2, e, eh]
       repeat' (first | (refine And.intro ?_ ?_) | (intro _))
       all_goals first | rfl | exact ⟨⟨p, g, a, c⟩, rfl, rfl, rfl, rfl, rfl, rfl, gn⟩
   · have e : heldF ⟨p, g, a, c⟩ = 290 := by unfold heldF; rw [if_neg (fun q => q1 q.1)]
     simp [and_assoc, heldckSpec, gridckSpec, hcolsSpec, pastckSpec, Tryd.f15, hdV, hdC, eo, h1, h2, q1, e]
     rfl
def rheldSpec : Spec := { pre := heldckSpec.pre, res := fun args => match args with
 | [.agg cs] => .one (.val (.c (.bool (decide (heldF (hdOf cs) = 0)))))
 | _ => .many [] }
def G_rheld : Specs := [(26, grightSpec), (39, rrightsSpec)]
@[simp] theorem G_rheld_live : Specs.live G_rheld = false := rfl
@[simp] theorem G_rheld_nils : Specs.nils G_rheld = false := rfl
@[simp] theorem G_rheld_26 : G_rheld.find 26 = some grightSpec := rfl
@[simp] theorem G_rheld_39 : G_rheld.find 39 = some rrightsSpec := rfl
theorem G_rheld_ok (gl : Gl) : SpecsOK Tryd.prog gl G_rheld := .cons (gright_sound gl) (.cons (rrights_sound gl) (.nil _ _))
set_option maxRecDepth 10000 in
theorem rheld_sound (gl : Gl) : Sound Tryd.prog gl 14 rheldSpec := by
 refine sound_fn (N := Tryd.f14.ntmps) (rs := Tryd.f14.results.toList) mixed tok (G_rheld_ok gl) Tryd.func14 rfl rfl rfl rfl rfl ?_ ?_ ?_
 · rintro args ⟨h,rfl,h1,h2⟩; simp [rowsV,heldckSpec,hdV,hdC, Tryd.f14]
 · rintro args ⟨h,rfl,h1,h2⟩; simp [rowsV,heldckSpec,hdV,hdC, rheldSpec, Tryd.f14]
 · rintro args ⟨h,rfl,h1,h2⟩ bs hgl hh hro
   have hE : Env.OK ⟨Tryd.prog, T, G_rheld, bs⟩ := ⟨tok, by rw [hgl]; exact G_rheld_ok gl⟩
   simp only [rheldSpec, rowsV,heldckSpec,hdV,hdC]
   obtain ⟨p, g, a, c⟩ := h
   simp only at h1 h2
   have eo : hdOf [C.sl p.length (rowsC p), C.sl g.length (rowsC g), .int .i64 a, .int .i64 c] = ⟨p, g, a, c⟩ := hdOf_C ⟨p, g, a, c⟩
   by_cases q1 : gridF g = 0
   · have gn := grid_ne q1
     have w2 := (GV.of q1).w2
     match g, gn with
     | r :: g, _ =>
       have hc : colsG (r :: g) = r.cells.length := rfl
       have ep : pastF (colsG (r :: g)) p = 0 ↔ (p.length ≤ 100 ∧ okRows (colsG (r :: g)) p = true) := by
         unfold pastF
         rw [if_neg (by omega)]
         split
         · rename_i q; simp [q]
         · rename_i q; simp [q]
       have e : decide (heldF ⟨p, r :: g, a, c⟩ = 0) = ((decide (p.length ≤ 100) && okRows r.cells.length p) && decide (0 ≤ a) && decide (a < ((r :: g).length : Int)) && decide (0 ≤ c) && decide (c < r.cells.length)) := by
         rw [Bool.eq_iff_iff]
         simp only [decide_eq_true_eq, Bool.and_eq_true]
         constructor
         · intro k
           obtain ⟨_, k2, k3, k4, k5, k6⟩ := (heldF_iff _).1 k
           obtain ⟨k1, k2⟩ := ep.1 k2
           exact ⟨⟨⟨⟨⟨k1, k2⟩, k3⟩, k4⟩, k5⟩, k6⟩
         · rintro ⟨⟨⟨⟨⟨k1, k2⟩, k3⟩, k4⟩, k5⟩, k6⟩
           exact (heldF_iff _).2 ⟨q1, ep.2 ⟨k1, k2⟩, k3, k4, k5, k6⟩
       have er : rowsC (r :: g) = C.sl r.cells.length (celsC r.cells) :: C.bool r.wrapped :: rowsC g := rfl
       have eG : ∃ q : List Rw, C.sl r.cells.length (celsC r.cells) :: C.bool r.wrapped :: rowsC g = rowsC q ∧ g.length + 1 = q.length ∧ RowsOK q := ⟨r :: g, rfl, rfl, h2⟩
       have eO : rowsOf (C.sl r.cells.length (celsC r.cells) :: C.bool r.wrapped :: rowsC g) = r :: g := by rw [← er, rowsOf_C]
       rw [er, List.length_cons] at eo
       simp [and_assoc, rheldSpec, grightSpec, rrightsSpec, Tryd.f14, hdV, hdC, er, eG, eO, eo, h1, h2, q1, e, Bool.and_assoc]
       skip
   · have e : heldF ⟨p, g, a, c⟩ = 290 := by unfold heldF; rw [if_neg (fun q => q1 q.1)]
     simp [and_assoc, rheldSpec, grightSpec, rrightsSpec, Tryd.f14, hdV, hdC, eo, h1, h2, q1, e]
end Fen

namespace Fen
open Go Go.Proofs
def whC (l : List Rw) (b a c : Int) : List C := [.sl l.length (rowsC l), .int .i64 b, .int .i64 a, .int .i64 c]
def whV (l : List Rw) (b a c : Int) : V := .agg (whC l b a c)
def goesSpec : Spec := { pre := fun args => ∃ (l : List Rw) (b a : Nat) (c : Int), args = [whV l b a c] ∧ 0 < l.length ∧ l.length ≤ 2000000 ∧ ∀ r ∈ l, r.cells.length ≤ 1000000, res := fun args => match args with
 | [.agg [.sl _ l, .int _ b, .int _ a, _]] => .one (.val (.c (.bool (goesF (rowsOf l) b.toNat a.toNat))))
 | _ => .many [] }
def G_goes : Specs := [(38, longSpec)]
@[simp] theorem G_goes_live : Specs.live G_goes = false := rfl
@[simp] theorem G_goes_nils : Specs.nils G_goes = false := rfl
@[simp] theorem G_goes_38 : G_goes.find 38 = some longSpec := rfl
theorem G_goes_ok (gl : Gl) : SpecsOK Tryd.prog gl G_goes := .cons (long_sound gl) (.nil _ _)
set_option maxRecDepth 10000 in
theorem goes_sound (gl : Gl) : Sound Tryd.prog gl 46 goesSpec := by
 refine sound_fn (N := Tryd.f46.ntmps) (rs := Tryd.f46.results.toList) mixed tok (G_goes_ok gl) Tryd.func46 rfl rfl rfl rfl rfl ?_ ?_ ?_
 · rintro args ⟨l,b,a,c,rfl,h0,h1,h2⟩; simp [whV,whC,rowsOf_C, Tryd.f46]
 · rintro args ⟨l,b,a,c,rfl,h0,h1,h2⟩; simp [whV,whC,rowsOf_C, goesSpec, Tryd.f46]
 · rintro args ⟨l,b,a,c,rfl,h0,h1,h2⟩ bs hgl hh hro
   have hE : Env.OK ⟨Tryd.prog, T, G_goes, bs⟩ := ⟨tok, by rw [hgl]; exact G_goes_ok gl⟩
   simp only [goesSpec, whV,whC,rowsOf_C]
   have w1 : IntKind.i64.wrap ((l.length : Int) - 1) = ((l.length - 1 : Nat) : Int) := by rw [wrap64 _ (by omega) (by omega)]; omega
   have hlt : l.length - 1 < l.length := by omega
   have hd := rowsC_at hlt
   have hm := h2 _ (List.getElem_mem hlt)
   have hg : l.getD (l.length - 1) ⟨[], false⟩ = l[l.length - 1] := by simp [List.getD_eq_getElem?_getD, hlt]
   have e : goesF l b a = ((decide (a + 1 < l.length) && (!l[l.length - 1].wrapped && decide (longF l[l.length - 1].cells = 0))) || decide (a ≤ b)) := by unfold goesF blankR; rw [hg]
   generalize l[l.length - 1] = r at *
   have el : ((longF r.cells : Int) == 0) = decide (longF r.cells = 0) := by rw [Bool.eq_iff_iff]; simp
   have ea : decide ((a : Int) < ((l.length - 1 : Nat) : Int)) = decide (a + 1 < l.length) := by rw [Bool.eq_iff_iff]; simp only [decide_eq_true_eq]; omega
   obtain ⟨m, hm'⟩ : ∃ m, l.length - 1 = m := ⟨_, rfl⟩
   rw [hm'] at w1 hd hlt ea
   have er : rowOf [C.sl r.cells.length (celsC r.cells), C.bool r.wrapped] = r := rowOf_C r
   have ea2 : decide (a < m) = decide (a + 1 < l.length) := by rw [Bool.eq_iff_iff]; simp only [decide_eq_true_eq]; omega
   simp [and_assoc, goesSpec, longSpec, Tryd.f46, w1, hd, hlt, hm, rowV, rowC, e, el, ea, er, ea2]
   refine ⟨fun q => ⟨q, r, rfl, rfl, rfl, hm⟩, fun q => ?_⟩
   rcases Nat.lt_or_ge a m with c1 | c1
   · right
     cases hw : r.wrapped
     · right; exact q (by omega) hw
     · left; rfl
   · left; omega
def hlinesSpec : Spec := { pre := fun args => ∃ h : Hd, args = [hdV h], res := fun args => match args with
 | [.agg cs] => .one (.val (.c (.fn 59 [.ptr cs])))
 | _ => .many [] }
def G_hlines : Specs := []
@[simp] theorem G_hlines_live : Specs.live G_hlines = false := rfl
@[simp] theorem G_hlines_nils : Specs.nils G_hlines = false := rfl
theorem G_hlines_ok (gl : Gl) : SpecsOK Tryd.prog gl G_hlines := .nil _ _
set_option maxRecDepth 10000 in
theorem hlines_sound (gl : Gl) : Sound Tryd.prog gl 37 hlinesSpec := by
 refine sound_fn (N := Tryd.f37.ntmps) (rs := Tryd.f37.results.toList) mixed tok (G_hlines_ok gl) Tryd.func37 rfl rfl rfl rfl rfl ?_ ?_ ?_
 · rintro args ⟨h,rfl⟩; simp [hdV, Tryd.f37]
 · rintro args ⟨h,rfl⟩; simp [hdV, hlinesSpec, Tryd.f37]
 · rintro args ⟨h,rfl⟩ bs hgl hh hro
   have hE : Env.OK ⟨Tryd.prog, T, G_hlines, bs⟩ := ⟨tok, by rw [hgl]; exact G_hlines_ok gl⟩
   simp only [hlinesSpec, hdV]
   simp [and_assoc, hlinesSpec, Tryd.f37]
end Fen
