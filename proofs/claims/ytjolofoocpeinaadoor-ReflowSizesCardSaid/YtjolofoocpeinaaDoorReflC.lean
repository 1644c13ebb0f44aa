/- A part of the proof; no statement is proved here: FReflC. -/
import Derived.Test.YtjolofoocpeinaaDoorReflB
import Derived.Test.YtjolofoocpeinaaDoorCoreF

set_option linter.unusedVariables false
set_option linter.unusedSimpArgs false

namespace Fen
open Go Go.Proofs
def GLr : Specs := [(60, nilsOf concatSpec), (38, longSpec), (52, plainSpec)]
@[simp] theorem GLr_live : Specs.live GLr = false := rfl
@[simp] theorem GLr_nils : Specs.nils GLr = true := rfl
@[simp] theorem GLr_a : GLr.find 60 = some (nilsOf concatSpec) := rfl
@[simp] theorem GLr_b : GLr.find 38 = some longSpec := rfl
@[simp] theorem GLr_c : GLr.find 52 = some plainSpec := rfl
theorem GLr_ok (gl : Gl) : SpecsOK Tryd.prog gl GLr := .cons (concat_sound gl).nils (.cons (long_sound gl) (.cons (plainc_sound gl) (.nil _ _)))
@[simp] theorem get_snoc {α : Type} (h : List α) (b : α) : (h ++ [b])[h.length]? = some b := by simp
@[simp] theorem set_snoc {α : Type} (h : List α) (b c : α) : (h ++ [b]).set h.length c = h ++ [c] := by rw [List.set_append_right _ _ (Nat.le_refl _)]; simp
def lnX (l : Ln) (c : X) : List X := [c, .val (.bool l.opn), .val (.int .i64 l.at'), .val (.int .i64 l.fst)]
def lnV (l : Ln) : V := .agg [.sl l.cells.length (celsC l.cells), .bool l.opn, .int .i64 l.at', .int .i64 l.fst]
structure LnI where
 (k n v : Nat)
 (cur : Ln)
 (hb : List Blk)
def linO (id : Nat) (hc : List C) (L : List Rw) (A : Nat) (x : LnI) : St :=
 ⟨133, [(0, .yld id), (1, .fptr hc), (3, .val (.sl L.length (rowsC L))), (4, .val (.int .i64 A)), (5, .ptr x.hb.length 0 0), (23, .val (.sl L.length (rowsC L))), (24, .val (.int .i64 L.length)), (25, .val (.int .i64 x.k))],
   x.hb ++ [.box 97 (lnX x.cur (.ref (x.hb.length + 1) x.v)), .sl 77 x.v true 12 x.cur.cells.length (celsC x.cur.cells)]⟩
theorem get_two {α : Type} (h l : List α) : (h ++ l)[h.length + 1]? = l[1]? := by rw [List.getElem?_append_right (by omega)]; congr 1; omega
theorem get_one {α : Type} (h l : List α) : (h ++ l)[h.length]? = l[0]? := by rw [List.getElem?_append_right (Nat.le_refl _), Nat.sub_self]
theorem set_one {α : Type} (h l : List α) (b : α) : (h ++ l).set h.length b = h ++ l.set 0 b := by rw [List.set_append_right _ _ (Nat.le_refl _), Nat.sub_self]
theorem set_two {α : Type} (h l : List α) (b : α) : (h ++ l).set (h.length + 1) b = h ++ l.set 1 b := by rw [List.set_append_right _ _ (by omega)]; congr 2; omega
def linR (id : Nat) (hc : List C) (L : List Rw) (A k m : Nat) (l : List C) : List (Nat × X) :=
 [(0, .yld id), (1, .fptr hc), (3, .val (.sl L.length (rowsC L))), (4, .val (.int .i64 A)), (5, .ptr m 0 0), (23, .val (.sl L.length (rowsC L))), (24, .val (.int .i64 L.length)), (25, .val (.int .i64 k)), (127, .yld id), (128, .agg l)]
theorem refsB_le {n m : Nat} (h : n ≤ m) {b : Blk} (k : refsB n b) : refsB m b := by
 cases b <;> simp only [refsB] at k ⊢ <;> exact refsXs_mono h _ k
theorem OpW.linY {P : Program} {bs : Base} {ops : Array Oper} {ty : TypeId} {pos : String} {af : Array Edge} {ts : Array TypeId} {K : St → Prop} {id : Nat} {seq : List (List V)} {I : Nat → List Blk → Prop} {Ix : List Blk → Prop} (hy : YOK P bs id seq I Ix)
   (hIx : ∀ n h, I n h → (∃ q, h[id]? = some (.obj q)) ∧ ClosedH h ∧ bs.h0.length ≤ h.length) {m ver zn A k : Nat} {p : Bool} {hb : List Blk} {Zc : List C} {o : Bool} {a f : Int} {r : List (Nat × X)} {rb : Blk} {t1 t2 : TypeId} {hc : List C} {L : List Rw} (hI : I m hb)
   (hseq : seq[m]? = some [.agg [.sl zn Zc, .bool o, .int .i64 a, .int .i64 f]]) (hk : keepS r (linR id hc L A k hb.length [.sl zn Zc, .bool o, .int .i64 a, .int .i64 f]))
   (h1 : ∀ h', I (m + 1) h' → hb.length ≤ h'.length → K ((⟨133, linR id hc L A k h'.length [.sl zn Zc, .bool o, .int .i64 a, .int .i64 f], h' ++ [.box t1 [.val (.sl zn Zc), .val (.bool o), .val (.int .i64 a), .val (.int .i64 f)]]⟩ : St).put (some 129) (.val (.bool true)) (h' ++ [.box t1 [.val (.sl zn Zc), .val (.bool o), .val (.int .i64 a), .val (.int .i64 f)]])))
   (h2 : ∀ h', Ix h' → K ((⟨133, [], h'⟩ : St).put (some 129) (.val (.bool false)) h')) :
   OpW P bs ops ⟨some 129, .call { callee := .value (.tmp 127), args := #[.tmp 128], argTypes := ts }, ty, pos, af, none⟩
     ⟨133, r, hb ++ [.box t1 [.ref (hb.length + 1) ver, .val (.bool o), .val (.int .i64 a), .val (.int .i64 f)], .sl t2 ver p 12 zn Zc, rb]⟩ K := by
 obtain ⟨hq, hcl, hln⟩ := hIx _ _ hI
 have hlt : id < hb.length := lt_of_get hq.choose_spec
 have W1 := Weak.solid (bs := bs) (n := 133) (r := r) (h := hb ++ [.box t1 [.ref (hb.length + 1) ver, .val (.bool o), .val (.int .i64 a), .val (.int .i64 f)], .sl t2 ver p 12 zn Zc, rb]) hb.length (hb.length + 1) 0 (get_one _ _) rfl (get_two _ _)
 have eh : ((hb ++ [.box t1 [.ref (hb.length + 1) ver, .val (.bool o), .val (.int .i64 a), .val (.int .i64 f)], .sl t2 ver p 12 zn Zc, rb]).set (hb.length + 1) (.sl t2 ver false 12 zn Zc)).set hb.length (.box t1 ([X.ref (hb.length + 1) ver, .val (.bool o), .val (.int .i64 a), .val (.int .i64 f)].set 0 (.val (.sl zn Zc)))) =
     (hb ++ [.box t1 [.val (.sl zn Zc), .val (.bool o), .val (.int .i64 a), .val (.int .i64 f)]]) ++ [.sl t2 ver false 12 zn Zc, rb] := by
   rw [set_two, set_one]; simp
 rw [eh] at W1
 have hcl2 : ClosedH (hb ++ [.box t1 [.val (.sl zn Zc), .val (.bool o), .val (.int .i64 a), .val (.int .i64 f)]]) := fun i b e => by
   rcases Nat.lt_or_ge i hb.length with c | c
   · rw [List.getElem?_append_left c] at e
     have := hcl i b e
     exact refsB_le (by simp) this
   · rw [List.getElem?_append_right c] at e
     cases hi : i - hb.length with
     | zero => rw [hi] at e; simp at e; subst e; simp [refsB, refsXs]
     | succ j => rw [hi] at e; simp at e
 refine OpW.weak (Weak.trans W1 (Weak.dropS (linR id hc L A k hb.length [.sl zn Zc, .bool o, .int .i64 a, .int .i64 f]) hcl2 (by simp; omega) hk (by simp [linR]; omega) (by simp [linR]))) ?_
 refine OpW.yieldK hy m [.agg [.sl zn Zc, .bool o, .int .i64 a, .int .i64 f]] rfl hI hq hcl hln (by simp) (by simp [linR]; omega) hseq rfl rfl (by simp [dstOK]) (fun h' k1 k2 => ?_) (fun h' k1 => ?_)
 · have := h1 h' k1 k2
   simpa [linR] using this
 · exact h2 h' k1
theorem closed_line {hb : List Blk} (hcl : ClosedH hb) {t1 t2 : TypeId} {ver zn : Nat} {p : Bool} {Zc : List C} {o : Bool} {a f : Int} :
   ClosedH (hb ++ [.box t1 [.ref (hb.length + 1) ver, .val (.bool o), .val (.int .i64 a), .val (.int .i64 f)], .sl t2 ver p 12 zn Zc]) := fun i b e => by
 rcases Nat.lt_or_ge i hb.length with c | c
 · rw [List.getElem?_append_left c] at e
   exact refsB_le (by simp) (hcl i b e)
 · rw [List.getElem?_append_right c] at e
   cases hi : i - hb.length with
   | zero => rw [hi] at e; simp at e; subst e; simp [refsB, refsXs, refsX]
   | succ j =>
     rw [hi] at e
     cases j with
     | zero => simp at e; subst e; simp
     | succ j => simp at e
theorem Weak.linN {bs : Base} {I : Nat → List Blk → Prop} {id : Nat} (hIx : ∀ n h, I n h → (∃ q, h[id]? = some (.obj q)) ∧ ClosedH h ∧ bs.h0.length ≤ h.length) {m k ver A m2 : Nat} {hb : List Blk} {o : Bool} {a f : Int} {cells : List Cel} {r : List (Nat × X)} {rb : Blk} {hc : List C} {L : List Rw}
   (hI : I m hb) (hk : keepS r (linO id hc L A ⟨k, m2, ver, ⟨cells, o, a, f⟩, hb⟩).r) :
   Weak bs ⟨133, r, hb ++ [.box 97 [.ref (hb.length + 1) ver, .val (.bool o), .val (.int .i64 a), .val (.int .i64 f)], .sl 77 ver true 12 cells.length (celsC cells), rb]⟩ (linO id hc L A ⟨k, m2, ver, ⟨cells, o, a, f⟩, hb⟩) := by
 obtain ⟨hq, hcl, hln⟩ := hIx _ _ hI
 have hlt : id < hb.length := lt_of_get hq.choose_spec
 have e : hb ++ [.box 97 [.ref (hb.length + 1) ver, .val (.bool o), .val (.int .i64 a), .val (.int .i64 f)], .sl 77 ver true 12 cells.length (celsC cells), rb] =
     (hb ++ [.box 97 [.ref (hb.length + 1) ver, .val (.bool o), .val (.int .i64 a), .val (.int .i64 f)], .sl 77 ver true 12 cells.length (celsC cells)]) ++ [rb] := by simp
 rw [e]
 refine Weak.dropS _ (closed_line hcl) (by simp; omega) hk (by simp [linO]; omega) (by simp [linO])
set_option maxHeartbeats 40000000 in
set_option maxRecDepth 10000 in
theorem lines1_iter (gl : Gl) {w n : Nat} {h : Hd} (v : HV w n h) :
   IterOK Tryd.prog gl 59 [.ptr (hdC h)] ((linesH h).map fun l => [lnV l]) := by
 refine ⟨enters_of Tryd.func59 rfl rfl, Tryd.f59, _, Tryd.func59, rfl, rfl, by simp [Tryd.f59], ?_⟩
 intro bs id I Ix hgl hro hy hI h0
 have hE : Env.OK ⟨Tryd.prog, T, GLr, bs⟩ := ⟨tok, by rw [hgl]; exact GLr_ok gl⟩
 have hw2 := v.grid.w2
 have hn1 := v.grid.n1
 have hn40 := v.grid.n40
 have hp := v.pl
 have hrl := v.grid.len
 have hall := v.len
 have hrows := v.all
 have r0 := v.r0
 have r1 := v.r1
 have c0 := v.c0
 have c1 := v.c1
 refine AWP.fades (wpc_ok hE mixed _ _ _ ?_)
 obtain ⟨p, g, ar, ac⟩ := h
 simp only [allH, hdC, linesH, List.length_map] at *
 obtain ⟨a, rfl⟩ : ∃ a : Nat, ar = a := ⟨ar.toNat, by omega⟩
 obtain ⟨c, rfl⟩ : ∃ c : Nat, ac = c := ⟨ac.toNat, by omega⟩
 simp only [Int.toNat_natCast] at *
 obtain ⟨L, hL⟩ : ∃ L, p ++ g = L := ⟨_, rfl⟩
 rw [hL] at hall hrows hy ⊢
 obtain ⟨A, hA⟩ : ∃ A, p.length + a = A := ⟨_, rfl⟩
 rw [hA] at hy ⊢
 have w1 : IntKind.i64.wrap ((p.length : Int) + a) = (A : Int) := by rw [wrap64 _ (by omega) (by omega)]; omega
 have e1 : ∃ x y : List Rw, ((p.length = x.length ∧ p = x) ∧ g.length = y.length ∧ g = y) ∧ 0 < x.length + y.length ∧ x.length + y.length ≤ 1000 := ⟨p, g, ⟨⟨rfl, rfl⟩, rfl, rfl⟩, by omega, by omega⟩
 simp [Tryd.f59, concatSpec, w1, hL, e1, rowsV, rowsOf_C]
 refine AWP.rounds (fun x => x.k ≤ L.length ∧ (∃ D, runF p.length A c L 0 ln0 = D ++ runF p.length A c (L.drop x.k) x.k x.cur ∧ D.length = x.n) ∧ I x.n x.hb ∧ x.cur.cells.length ≤ 80 * x.k) (linO id [.sl p.length (rowsC p), .sl g.length (rowsC g), .int .i64 a, .int .i64 c] L A) (fun x => L.length - x.k) ⟨0, 0, 0, ln0, bs.h0⟩ ⟨by simp, ⟨[], by simp, rfl⟩, h0, by simp [ln0]⟩ ?_ ?_
 · refine Weak.trans (Weak.mkEmpty bs.h0.length 0 77 12 (by decide) (get_snoc _ _) rfl) (Weak.heap ?_ ?_)
   · simp [linO, lnX, ln0]
   · simp [linO]
     exact ⟨by omega, by omega⟩
 · rintro ⟨k, m, vv, cur, hb⟩ ⟨hk, ⟨D, hD1, hD2⟩, hI1, hlen⟩
   simp only at hk hD1 hD2 hI1 hlen
   refine wpc_ok hE mixed _ _ _ ?_
   rcases Nat.lt_or_ge k L.length with h | h
   · have hd := rowsC_at h
     obtain ⟨hr1, hr2⟩ := hrows _ (List.getElem_mem h)
     have hrun := run_at (P := p.length) (a := A) (col := c) cur h
     have hlr := long_le L[k].cells
     have wk : IntKind.i64.wrap ((k : Int) + 1) = ((k + 1 : Nat) : Int) := by rw [wrap64 _ (by omega) (by omega)]; omega
     generalize L[k] = r at *
     have hl1 : r.cells.length ≤ 1000000 := by omega
     by_cases hwr : r.wrapped = true
     · have hwr' : r.wrapped = true := hwr
       have er : rowOf [C.sl r.cells.length (celsC r.cells), C.bool true] = r := by have := rowOf_C r; rw [rowC, hwr'] at this; exact this
       have eG : ∃ r_1 : Rw, ((r.cells.length = r_1.cells.length ∧ r.cells = r_1.cells) ∧ r_1.wrapped = true) ∧ r_1.cells.length ≤ 1000000 := ⟨r, ⟨⟨rfl, rfl⟩, hwr'⟩, hl1⟩
       rcases Nat.lt_or_ge (k + 1) L.length with h2 | h2
       · have h2' : ((k : Int) + 1 < L.length) = True := eq_true (by omega)
         have hnx : r.wrapped = true ∧ k + 1 < L.length := ⟨hwr, h2⟩
         have hd2 := rowsC_at h2
         have hy2 := (hrows _ (List.getElem_mem h2)).2
         have hq : L[k + 1]? = some L[k + 1] := List.getElem?_eq_getElem h2
         generalize L[k + 1] = y at *
         have hd3 := celsC_at (l := y.cells) (k := 0) (by omega)
         have hyc : cat y.cells 0 = y.cells[0] := cat_eq (by omega)
         generalize y.cells[0] = yc at *
         simp only [Nat.zero_mul, List.drop_zero] at hd3
         obtain ⟨q1, hq1⟩ : ∃ q1, r.cells.length - 1 = q1 := ⟨_, rfl⟩
         have hql : q1 < r.cells.length := by omega
         have wq : IntKind.i64.wrap ((r.cells.length : Int) - 1) = (q1 : Int) := by rw [wrap64 _ (by omega) (by omega)]; omega
         have hd4 := celsC_at hql
         have hlc : cat r.cells q1 = r.cells[q1] := cat_eq hql
         generalize r.cells[q1] = lc at *
         have y0 : ¬ y.cells = [] := fun e => by rw [e] at hy2; simp at hy2; omega
         by_cases e1 : lc = blankF sty0
         · by_cases e2 : yc.wide = 1
           · skip
             by_cases hkA : k = A
             · have hkA' : ((k : Int) = A) = True := eq_true (by omega)
               by_cases hkP : k = p.length
               · have hkP' : ((k : Int) = p.length) = True := eq_true (by omega)
                 obtain ⟨N, hN⟩ : ∃ N, q1 = N := ⟨_, rfl⟩
                 have hgv : giveF r L[k + 1]? (decide (k = A)) c = N := by unfold giveF; rw [if_pos hwr, hq, hq1, hlc, if_pos ⟨by simp [wideQ, hyc, e2], e1⟩, hN]
                 have hNl : N ≤ r.cells.length := by omega
                 rw [hN] at wq hql hd4
                 obtain ⟨Mc, hMc⟩ : ∃ Mc, min c N = Mc := ⟨_, rfl⟩
                 have hMl : Mc ≤ N := by rw [← hMc]; omega
                 have em2 : (if N < c then (N : Int) else (c : Int)) = (Mc : Int) := by rw [← hMc]; split <;> omega
                 have wa : IntKind.i64.wrap ((cur.cells.length : Int) + Mc) = (cur.cells.length : Int) + Mc := wrap64 _ (by omega) (by omega)
                 have tk : List.take (N * 12) (celsC r.cells) = celsC (r.cells.take N) := celsC_take _ _
                 have tm : min N r.cells.length = N := Nat.min_eq_left hNl
                 obtain ⟨Z, hZ⟩ : ∃ Z, cur.cells ++ r.cells.take N = Z := ⟨_, rfl⟩
                 have eL : cur.cells.length + N = Z.length := by rw [← hZ]; simp; omega
                 have eA : celsC cur.cells ++ celsC (r.cells.take N) = celsC Z := by rw [← hZ, celsC_app]
                 have hX : addF p.length A c k r L[k + 1]? cur = ⟨Z, true, ((cur.cells.length : Int) + Mc), (cur.cells.length : Int)⟩ := by
                   unfold addF
                   rw [hgv, hZ, hwr', hMc, if_pos hkA, if_pos hkP]
                   all_goals simp
                 rw [hX] at hrun
                 simp -implicitDefEqProofs [linO, lnX, h, hd, rowC, hwr', hkA', hkP', longSpec, plainSpec, rowV, hl1, wk, er, eG, tk, tm, em2, wa, eL, eA, hNl, h2', hd2, hd3, hd4, hql, wq, e1, e2, y0, celV, styV]
                 repeat' (refine And.intro ?_ ?_)
                 all_goals first | omega | rfl | skip
                 have hrunY : runF p.length A c (List.drop k L) k cur = runF p.length A c (List.drop (k + 1) L) (k + 1) ⟨Z, true, ((cur.cells.length : Int) + Mc), (cur.cells.length : Int)⟩ := by rw [hrun, if_pos hnx]
                 exact Next.mk ⟨k + 1, m, vv + 1, ⟨Z, true, ((cur.cells.length : Int) + Mc), (cur.cells.length : Int)⟩, hb⟩ ⟨h, ⟨D, by rw [hD1, hrunY], hD2⟩, hI1, by simp only; omega⟩ (by simp only; omega) (Weak.linN hI hI1 (by simp [linO]))
               · have hkP' : ((k : Int) = p.length) = False := eq_false (by omega)
                 obtain ⟨N, hN⟩ : ∃ N, q1 = N := ⟨_, rfl⟩
                 have hgv : giveF r L[k + 1]? (decide (k = A)) c = N := by unfold giveF; rw [if_pos hwr, hq, hq1, hlc, if_pos ⟨by simp [wideQ, hyc, e2], e1⟩, hN]
                 have hNl : N ≤ r.cells.length := by omega
                 rw [hN] at wq hql hd4
                 obtain ⟨Mc, hMc⟩ : ∃ Mc, min c N = Mc := ⟨_, rfl⟩
                 have hMl : Mc ≤ N := by rw [← hMc]; omega
                 have em2 : (if N < c then (N : Int) else (c : Int)) = (Mc : Int) := by rw [← hMc]; split <;> omega
                 have wa : IntKind.i64.wrap ((cur.cells.length : Int) + Mc) = (cur.cells.length : Int) + Mc := wrap64 _ (by omega) (by omega)
                 have tk : List.take (N * 12) (celsC r.cells) = celsC (r.cells.take N) := celsC_take _ _
                 have tm : min N r.cells.length = N := Nat.min_eq_left hNl
                 obtain ⟨Z, hZ⟩ : ∃ Z, cur.cells ++ r.cells.take N = Z := ⟨_, rfl⟩
                 have eL : cur.cells.length + N = Z.length := by rw [← hZ]; simp; omega
                 have eA : celsC cur.cells ++ celsC (r.cells.take N) = celsC Z := by rw [← hZ, celsC_app]
                 have hX : addF p.length A c k r L[k + 1]? cur = ⟨Z, true, ((cur.cells.length : Int) + Mc), cur.fst⟩ := by
                   unfold addF
                   rw [hgv, hZ, hwr', hMc, if_pos hkA, if_neg hkP]
                   all_goals simp
                 rw [hX] at hrun
                 simp -implicitDefEqProofs [linO, lnX, h, hd, rowC, hwr', hkA', hkP', longSpec, plainSpec, rowV, hl1, wk, er, eG, tk, tm, em2, wa, eL, eA, hNl, h2', hd2, hd3, hd4, hql, wq, e1, e2, y0, celV, styV]
                 repeat' (refine And.intro ?_ ?_)
                 all_goals first | omega | rfl | skip
                 have hrunY : runF p.length A c (List.drop k L) k cur = runF p.length A c (List.drop (k + 1) L) (k + 1) ⟨Z, true, ((cur.cells.length : Int) + Mc), cur.fst⟩ := by rw [hrun, if_pos hnx]
                 exact Next.mk ⟨k + 1, m, vv + 1, ⟨Z, true, ((cur.cells.length : Int) + Mc), cur.fst⟩, hb⟩ ⟨h, ⟨D, by rw [hD1, hrunY], hD2⟩, hI1, by simp only; omega⟩ (by simp only; omega) (Weak.linN hI hI1 (by simp [linO]))
             · have hkA' : ((k : Int) = A) = False := eq_false (by omega)
               by_cases hkP : k = p.length
               · have hkP' : ((k : Int) = p.length) = True := eq_true (by omega)
                 obtain ⟨N, hN⟩ : ∃ N, q1 = N := ⟨_, rfl⟩
                 have hgv : giveF r L[k + 1]? (decide (k = A)) c = N := by unfold giveF; rw [if_pos hwr, hq, hq1, hlc, if_pos ⟨by simp [wideQ, hyc, e2], e1⟩, hN]
                 have hNl : N ≤ r.cells.length := by omega
                 rw [hN] at wq hql hd4
                 obtain ⟨Mc, hMc⟩ : ∃ Mc, min c N = Mc := ⟨_, rfl⟩
                 have hMl : Mc ≤ N := by rw [← hMc]; omega
                 have em2 : (if N < c then (N : Int) else (c : Int)) = (Mc : Int) := by rw [← hMc]; split <;> omega
                 have wa : IntKind.i64.wrap ((cur.cells.length : Int) + Mc) = (cur.cells.length : Int) + Mc := wrap64 _ (by omega) (by omega)
                 have tk : List.take (N * 12) (celsC r.cells) = celsC (r.cells.take N) := celsC_take _ _
                 have tm : min N r.cells.length = N := Nat.min_eq_left hNl
                 obtain ⟨Z, hZ⟩ : ∃ Z, cur.cells ++ r.cells.take N = Z := ⟨_, rfl⟩
                 have eL : cur.cells.length + N = Z.length := by rw [← hZ]; simp; omega
                 have eA : celsC cur.cells ++ celsC (r.cells.take N) = celsC Z := by rw [← hZ, celsC_app]
                 have hX : addF p.length A c k r L[k + 1]? cur = ⟨Z, true, cur.at', (cur.cells.length : Int)⟩ := by
                   unfold addF
                   rw [hgv, hZ, hwr', hMc, if_neg hkA, if_pos hkP]
                 rw [hX] at hrun
                 simp -implicitDefEqProofs [linO, lnX, h, hd, rowC, hwr', hkA', hkP', longSpec, plainSpec, rowV, hl1, wk, er, eG, tk, tm, em2, wa, eL, eA, hNl, h2', hd2, hd3, hd4, hql, wq, e1, e2, y0, celV, styV]
                 repeat' (refine And.intro ?_ ?_)
                 all_goals first | omega | rfl | skip
                 have hrunY : runF p.length A c (List.drop k L) k cur = runF p.length A c (List.drop (k + 1) L) (k + 1) ⟨Z, true, cur.at', (cur.cells.length : Int)⟩ := by rw [hrun, if_pos hnx]
                 exact Next.mk ⟨k + 1, m, vv + 1, ⟨Z, true, cur.at', (cur.cells.length : Int)⟩, hb⟩ ⟨h, ⟨D, by rw [hD1, hrunY], hD2⟩, hI1, by simp only; omega⟩ (by simp only; omega) (Weak.linN hI hI1 (by simp [linO]))
               · have hkP' : ((k : Int) = p.length) = False := eq_false (by omega)
                 obtain ⟨N, hN⟩ : ∃ N, q1 = N := ⟨_, rfl⟩
                 have hgv : giveF r L[k + 1]? (decide (k = A)) c = N := by unfold giveF; rw [if_pos hwr, hq, hq1, hlc, if_pos ⟨by simp [wideQ, hyc, e2], e1⟩, hN]
                 have hNl : N ≤ r.cells.length := by omega
                 rw [hN] at wq hql hd4
                 obtain ⟨Mc, hMc⟩ : ∃ Mc, min c N = Mc := ⟨_, rfl⟩
                 have hMl : Mc ≤ N := by rw [← hMc]; omega
                 have em2 : (if N < c then (N : Int) else (c : Int)) = (Mc : Int) := by rw [← hMc]; split <;> omega
                 have wa : IntKind.i64.wrap ((cur.cells.length : Int) + Mc) = (cur.cells.length : Int) + Mc := wrap64 _ (by omega) (by omega)
                 have tk : List.take (N * 12) (celsC r.cells) = celsC (r.cells.take N) := celsC_take _ _
                 have tm : min N r.cells.length = N := Nat.min_eq_left hNl
                 obtain ⟨Z, hZ⟩ : ∃ Z, cur.cells ++ r.cells.take N = Z := ⟨_, rfl⟩
                 have eL : cur.cells.length + N = Z.length := by rw [← hZ]; simp; omega
                 have eA : celsC cur.cells ++ celsC (r.cells.take N) = celsC Z := by rw [← hZ, celsC_app]
                 have hX : addF p.length A c k r L[k + 1]? cur = ⟨Z, true, cur.at', cur.fst⟩ := by
                   unfold addF
                   rw [hgv, hZ, hwr', hMc, if_neg hkA, if_neg hkP]
                 rw [hX] at hrun
                 simp -implicitDefEqProofs [linO, lnX, h, hd, rowC, hwr', hkA', hkP', longSpec, plainSpec, rowV, hl1, wk, er, eG, tk, tm, em2, wa, eL, eA, hNl, h2', hd2, hd3, hd4, hql, wq, e1, e2, y0, celV, styV]
                 repeat' (refine And.intro ?_ ?_)
                 all_goals first | omega | rfl | skip
                 have hrunY : runF p.length A c (List.drop k L) k cur = runF p.length A c (List.drop (k + 1) L) (k + 1) ⟨Z, true, cur.at', cur.fst⟩ := by rw [hrun, if_pos hnx]
                 exact Next.mk ⟨k + 1, m, vv + 1, ⟨Z, true, cur.at', cur.fst⟩, hb⟩ ⟨h, ⟨D, by rw [hD1, hrunY], hD2⟩, hI1, by simp only; omega⟩ (by simp only; omega) (Weak.linN hI hI1 (by simp [linO]))
           · skip
             by_cases hkA : k = A
             · have hkA' : ((k : Int) = A) = True := eq_true (by omega)
               by_cases hkP : k = p.length
               · have hkP' : ((k : Int) = p.length) = True := eq_true (by omega)
                 obtain ⟨N, hN⟩ : ∃ N, r.cells.length = N := ⟨_, rfl⟩
                 have hgv : giveF r L[k + 1]? (decide (k = A)) c = N := by unfold giveF; rw [if_pos hwr, hq, hq1, hlc, if_neg (fun q => e2 (by have := q.1; simpa [wideQ, hyc] using this)), hN]
                 have hNl : N ≤ r.cells.length := by omega
                 rw [hN] at wq hql
                 obtain ⟨Mc, hMc⟩ : ∃ Mc, min c N = Mc := ⟨_, rfl⟩
                 have hMl : Mc ≤ N := by rw [← hMc]; omega
                 have em2 : (if N < c then (N : Int) else (c : Int)) = (Mc : Int) := by rw [← hMc]; split <;> omega
                 have wa : IntKind.i64.wrap ((cur.cells.length : Int) + Mc) = (cur.cells.length : Int) + Mc := wrap64 _ (by omega) (by omega)
                 have tk : List.take (N * 12) (celsC r.cells) = celsC (r.cells.take N) := celsC_take _ _
                 have tm : min N r.cells.length = N := Nat.min_eq_left hNl
                 obtain ⟨Z, hZ⟩ : ∃ Z, cur.cells ++ r.cells.take N = Z := ⟨_, rfl⟩
                 have eL : cur.cells.length + N = Z.length := by rw [← hZ]; simp; omega
                 have eA : celsC cur.cells ++ celsC (r.cells.take N) = celsC Z := by rw [← hZ, celsC_app]
                 have hX : addF p.length A c k r L[k + 1]? cur = ⟨Z, true, ((cur.cells.length : Int) + Mc), (cur.cells.length : Int)⟩ := by
                   unfold addF
                   rw [hgv, hZ, hwr', hMc, if_pos hkA, if_pos hkP]
                   all_goals simp
                 rw [hX] at hrun
                 simp -implicitDefEqProofs [linO, lnX, h, hd, rowC, hwr', hkA', hkP', longSpec, plainSpec, rowV, hl1, wk, er, eG, tk, tm, em2, wa, eL, eA, hNl, h2', hd2, hd3, hd4, hql, wq, e1, e2, y0, hN, celV, styV]
                 repeat' (refine And.intro ?_ ?_)
                 all_goals first | omega | rfl | skip
                 have hrunY : runF p.length A c (List.drop k L) k cur = runF p.length A c (List.drop (k + 1) L) (k + 1) ⟨Z, true, ((cur.cells.length : Int) + Mc), (cur.cells.length : Int)⟩ := by rw [hrun, if_pos hnx]
                 exact Next.mk ⟨k + 1, m, vv + 1, ⟨Z, true, ((cur.cells.length : Int) + Mc), (cur.cells.length : Int)⟩, hb⟩ ⟨h, ⟨D, by rw [hD1, hrunY], hD2⟩, hI1, by simp only; omega⟩ (by simp only; omega) (Weak.linN hI hI1 (by simp [linO]))
               · have hkP' : ((k : Int) = p.length) = False := eq_false (by omega)
                 obtain ⟨N, hN⟩ : ∃ N, r.cells.length = N := ⟨_, rfl⟩
                 have hgv : giveF r L[k + 1]? (decide (k = A)) c = N := by unfold giveF; rw [if_pos hwr, hq, hq1, hlc, if_neg (fun q => e2 (by have := q.1; simpa [wideQ, hyc] using this)), hN]
                 have hNl : N ≤ r.cells.length := by omega
                 rw [hN] at wq hql
                 obtain ⟨Mc, hMc⟩ : ∃ Mc, min c N = Mc := ⟨_, rfl⟩
                 have hMl : Mc ≤ N := by rw [← hMc]; omega
                 have em2 : (if N < c then (N : Int) else (c : Int)) = (Mc : Int) := by rw [← hMc]; split <;> omega
                 have wa : IntKind.i64.wrap ((cur.cells.length : Int) + Mc) = (cur.cells.length : Int) + Mc := wrap64 _ (by omega) (by omega)
                 have tk : List.take (N * 12) (celsC r.cells) = celsC (r.cells.take N) := celsC_take _ _
                 have tm : min N r.cells.length = N := Nat.min_eq_left hNl
                 obtain ⟨Z, hZ⟩ : ∃ Z, cur.cells ++ r.cells.take N = Z := ⟨_, rfl⟩
                 have eL : cur.cells.length + N = Z.length := by rw [← hZ]; simp; omega
                 have eA : celsC cur.cells ++ celsC (r.cells.take N) = celsC Z := by rw [← hZ, celsC_app]
                 have hX : addF p.length A c k r L[k + 1]? cur = ⟨Z, true, ((cur.cells.length : Int) + Mc), cur.fst⟩ := by
                   unfold addF
                   rw [hgv, hZ, hwr', hMc, if_pos hkA, if_neg hkP]
                   all_goals simp
                 rw [hX] at hrun
                 simp -implicitDefEqProofs [linO, lnX, h, hd, rowC, hwr', hkA', hkP', longSpec, plainSpec, rowV, hl1, wk, er, eG, tk, tm, em2, wa, eL, eA, hNl, h2', hd2, hd3, hd4, hql, wq, e1, e2, y0, hN, celV, styV]
                 repeat' (refine And.intro ?_ ?_)
                 all_goals first | omega | rfl | skip
                 have hrunY : runF p.length A c (List.drop k L) k cur = runF p.length A c (List.drop (k + 1) L) (k + 1) ⟨Z, true, ((cur.cells.length : Int) + Mc), cur.fst⟩ := by rw [hrun, if_pos hnx]
                 exact Next.mk ⟨k + 1, m, vv + 1, ⟨Z, true, ((cur.cells.length : Int) + Mc), cur.fst⟩, hb⟩ ⟨h, ⟨D, by rw [hD1, hrunY], hD2⟩, hI1, by simp only; omega⟩ (by simp only; omega) (Weak.linN hI hI1 (by simp [linO]))
             · have hkA' : ((k : Int) = A) = False := eq_false (by omega)
               by_cases hkP : k = p.length
               · have hkP' : ((k : Int) = p.length) = True := eq_true (by omega)
                 obtain ⟨N, hN⟩ : ∃ N, r.cells.length = N := ⟨_, rfl⟩
                 have hgv : giveF r L[k + 1]? (decide (k = A)) c = N := by unfold giveF; rw [if_pos hwr, hq, hq1, hlc, if_neg (fun q => e2 (by have := q.1; simpa [wideQ, hyc] using this)), hN]
                 have hNl : N ≤ r.cells.length := by omega
                 rw [hN] at wq hql
                 obtain ⟨Mc, hMc⟩ : ∃ Mc, min c N = Mc := ⟨_, rfl⟩
                 have hMl : Mc ≤ N := by rw [← hMc]; omega
                 have em2 : (if N < c then (N : Int) else (c : Int)) = (Mc : Int) := by rw [← hMc]; split <;> omega
                 have wa : IntKind.i64.wrap ((cur.cells.length : Int) + Mc) = (cur.cells.length : Int) + Mc := wrap64 _ (by omega) (by omega)
                 have tk : List.take (N * 12) (celsC r.cells) = celsC (r.cells.take N) := celsC_take _ _
                 have tm : min N r.cells.length = N := Nat.min_eq_left hNl
                 obtain ⟨Z, hZ⟩ : ∃ Z, cur.cells ++ r.cells.take N = Z := ⟨_, rfl⟩
                 have eL : cur.cells.length + N = Z.length := by rw [← hZ]; simp; omega
                 have eA : celsC cur.cells ++ celsC (r.cells.take N) = celsC Z := by rw [← hZ, celsC_app]
                 have hX : addF p.length A c k r L[k + 1]? cur = ⟨Z, true, cur.at', (cur.cells.length : Int)⟩ := by
                   unfold addF
                   rw [hgv, hZ, hwr', hMc, if_neg hkA, if_pos hkP]
                 rw [hX] at hrun
                 simp -implicitDefEqProofs [linO, lnX, h, hd, rowC, hwr', hkA', hkP', longSpec, plainSpec, rowV, hl1, wk, er, eG, tk, tm, em2, wa, eL, eA, hNl, h2', hd2, hd3, hd4, hql, wq, e1, e2, y0, hN, celV, styV]
                 repeat' (refine And.intro ?_ ?_)
                 all_goals first | omega | rfl | skip
                 have hrunY : runF p.length A c (List.drop k L) k cur = runF p.length A c (List.drop (k + 1) L) (k + 1) ⟨Z, true, cur.at', (cur.cells.length : Int)⟩ := by rw [hrun, if_pos hnx]
                 exact Next.mk ⟨k + 1, m, vv + 1, ⟨Z, true, cur.at', (cur.cells.length : Int)⟩, hb⟩ ⟨h, ⟨D, by rw [hD1, hrunY], hD2⟩, hI1, by simp only; omega⟩ (by simp only; omega) (Weak.linN hI hI1 (by simp [linO]))
               · have hkP' : ((k : Int) = p.length) = False := eq_false (by omega)
                 obtain ⟨N, hN⟩ : ∃ N, r.cells.length = N := ⟨_, rfl⟩
                 have hgv : giveF r L[k + 1]? (decide (k = A)) c = N := by unfold giveF; rw [if_pos hwr, hq, hq1, hlc, if_neg (fun q => e2 (by have := q.1; simpa [wideQ, hyc] using this)), hN]
                 have hNl : N ≤ r.cells.length := by omega
                 rw [hN] at wq hql
                 obtain ⟨Mc, hMc⟩ : ∃ Mc, min c N = Mc := ⟨_, rfl⟩
                 have hMl : Mc ≤ N := by rw [← hMc]; omega
                 have em2 : (if N < c then (N : Int) else (c : Int)) = (Mc : Int) := by rw [← hMc]; split <;> omega
                 have wa : IntKind.i64.wrap ((cur.cells.length : Int) + Mc) = (cur.cells.length : Int) + Mc := wrap64 _ (by omega) (by omega)
                 have tk : List.take (N * 12) (celsC r.cells) = celsC (r.cells.take N) := celsC_take _ _
                 have tm : min N r.cells.length = N := Nat.min_eq_left hNl
                 obtain ⟨Z, hZ⟩ : ∃ Z, cur.cells ++ r.cells.take N = Z := ⟨_, rfl⟩
                 have eL : cur.cells.length + N = Z.length := by rw [← hZ]; simp; omega
                 have eA : celsC cur.cells ++ celsC (r.cells.take N) = celsC Z := by rw [← hZ, celsC_app]
                 have hX : addF p.length A c k r L[k + 1]? cur = ⟨Z, true, cur.at', cur.fst⟩ := by
                   unfold addF
                   rw [hgv, hZ, hwr', hMc, if_neg hkA, if_neg hkP]
                 rw [hX] at hrun
                 simp -implicitDefEqProofs [linO, lnX, h, hd, rowC, hwr', hkA', hkP', longSpec, plainSpec, rowV, hl1, wk, er, eG, tk, tm, em2, wa, eL, eA, hNl, h2', hd2, hd3, hd4, hql, wq, e1, e2, y0, hN, celV, styV]
                 repeat' (refine And.intro ?_ ?_)
                 all_goals first | omega | rfl | skip
                 have hrunY : runF p.length A c (List.drop k L) k cur = runF p.length A c (List.drop (k + 1) L) (k + 1) ⟨Z, true, cur.at', cur.fst⟩ := by rw [hrun, if_pos hnx]
                 exact Next.mk ⟨k + 1, m, vv + 1, ⟨Z, true, cur.at', cur.fst⟩, hb⟩ ⟨h, ⟨D, by rw [hD1, hrunY], hD2⟩, hI1, by simp only; omega⟩ (by simp only; omega) (Weak.linN hI hI1 (by simp [linO]))
         · skip
           by_cases hkA : k = A
           · have hkA' : ((k : Int) = A) = True := eq_true (by omega)
             by_cases hkP : k = p.length
             · have hkP' : ((k : Int) = p.length) = True := eq_true (by omega)
               obtain ⟨N, hN⟩ : ∃ N, r.cells.length = N := ⟨_, rfl⟩
               have hgv : giveF r L[k + 1]? (decide (k = A)) c = N := by unfold giveF; rw [if_pos hwr, hq1, hlc, if_neg (fun q => e1 q.2), hN]
               have hNl : N ≤ r.cells.length := by omega
               rw [hN] at wq hql
               obtain ⟨Mc, hMc⟩ : ∃ Mc, min c N = Mc := ⟨_, rfl⟩
               have hMl : Mc ≤ N := by rw [← hMc]; omega
               have em2 : (if N < c then (N : Int) else (c : Int)) = (Mc : Int) := by rw [← hMc]; split <;> omega
               have wa : IntKind.i64.wrap ((cur.cells.length : Int) + Mc) = (cur.cells.length : Int) + Mc := wrap64 _ (by omega) (by omega)
               have tk : List.take (N * 12) (celsC r.cells) = celsC (r.cells.take N) := celsC_take _ _
               have tm : min N r.cells.length = N := Nat.min_eq_left hNl
               obtain ⟨Z, hZ⟩ : ∃ Z, cur.cells ++ r.cells.take N = Z := ⟨_, rfl⟩
               have eL : cur.cells.length + N = Z.length := by rw [← hZ]; simp; omega
               have eA : celsC cur.cells ++ celsC (r.cells.take N) = celsC Z := by rw [← hZ, celsC_app]
               have hX : addF p.length A c k r L[k + 1]? cur = ⟨Z, true, ((cur.cells.length : Int) + Mc), (cur.cells.length : Int)⟩ := by
                 unfold addF
                 rw [hgv, hZ, hwr', hMc, if_pos hkA, if_pos hkP]
                 all_goals simp
               rw [hX] at hrun
               simp -implicitDefEqProofs [linO, lnX, h, hd, rowC, hwr', hkA', hkP', longSpec, plainSpec, rowV, hl1, wk, er, eG, tk, tm, em2, wa, eL, eA, hNl, h2', hd2, hd3, hd4, hql, wq, e1, y0, hN, celV, styV]
               repeat' (refine And.intro ?_ ?_)
               all_goals first | omega | rfl | skip
               have hrunY : runF p.length A c (List.drop k L) k cur = runF p.length A c (List.drop (k + 1) L) (k + 1) ⟨Z, true, ((cur.cells.length : Int) + Mc), (cur.cells.length : Int)⟩ := by rw [hrun, if_pos hnx]
               exact Next.mk ⟨k + 1, m, vv + 1, ⟨Z, true, ((cur.cells.length : Int) + Mc), (cur.cells.length : Int)⟩, hb⟩ ⟨h, ⟨D, by rw [hD1, hrunY], hD2⟩, hI1, by simp only; omega⟩ (by simp only; omega) (Weak.linN hI hI1 (by simp [linO]))
             · have hkP' : ((k : Int) = p.length) = False := eq_false (by omega)
               obtain ⟨N, hN⟩ : ∃ N, r.cells.length = N := ⟨_, rfl⟩
               have hgv : giveF r L[k + 1]? (decide (k = A)) c = N := by unfold giveF; rw [if_pos hwr, hq1, hlc, if_neg (fun q => e1 q.2), hN]
               have hNl : N ≤ r.cells.length := by omega
               rw [hN] at wq hql
               obtain ⟨Mc, hMc⟩ : ∃ Mc, min c N = Mc := ⟨_, rfl⟩
               have hMl : Mc ≤ N := by rw [← hMc]; omega
               have em2 : (if N < c then (N : Int) else (c : Int)) = (Mc : Int) := by rw [← hMc]; split <;> omega
               have wa : IntKind.i64.wrap ((cur.cells.length : Int) + Mc) = (cur.cells.length : Int) + Mc := wrap64 _ (by omega) (by omega)
               have tk : List.take (N * 12) (celsC r.cells) = celsC (r.cells.take N) := celsC_take _ _
               have tm : min N r.cells.length = N := Nat.min_eq_left hNl
               obtain ⟨Z, hZ⟩ : ∃ Z, cur.cells ++ r.cells.take N = Z := ⟨_, rfl⟩
               have eL : cur.cells.length + N = Z.length := by rw [← hZ]; simp; omega
               have eA : celsC cur.cells ++ celsC (r.cells.take N) = celsC Z := by rw [← hZ, celsC_app]
               have hX : addF p.length A c k r L[k + 1]? cur = ⟨Z, true, ((cur.cells.length : Int) + Mc), cur.fst⟩ := by
                 unfold addF
                 rw [hgv, hZ, hwr', hMc, if_pos hkA, if_neg hkP]
                 all_goals simp
               rw [hX] at hrun
               simp -implicitDefEqProofs [linO, lnX, h, hd, rowC, hwr', hkA', hkP', longSpec, plainSpec, rowV, hl1, wk, er, eG, tk, tm, em2, wa, eL, eA, hNl, h2', hd2, hd3, hd4, hql, wq, e1, y0, hN, celV, styV]
               repeat' (refine And.intro ?_ ?_)
               all_goals first | omega | rfl | skip
               have hrunY : runF p.length A c (List.drop k L) k cur = runF p.length A c (List.drop (k + 1) L) (k + 1) ⟨Z, true, ((cur.cells.length : Int) + Mc), cur.fst⟩ := by rw [hrun, if_pos hnx]
               exact Next.mk ⟨k + 1, m, vv + 1, ⟨Z, true, ((cur.cells.length : Int) + Mc), cur.fst⟩, hb⟩ ⟨h, ⟨D, by rw [hD1, hrunY], hD2⟩, hI1, by simp only; omega⟩ (by simp only; omega) (Weak.linN hI hI1 (by simp [linO]))
           · have hkA' : ((k : Int) = A) = False := eq_false (by omega)
             by_cases hkP : k = p.length
             · have hkP' : ((k : Int) = p.length) = True := eq_true (by omega)
               obtain ⟨N, hN⟩ : ∃ N, r.cells.length = N := ⟨_, rfl⟩
               have hgv : giveF r L[k + 1]? (decide (k = A)) c = N := by unfold giveF; rw [if_pos hwr, hq1, hlc, if_neg (fun q => e1 q.2), hN]
               have hNl : N ≤ r.cells.length := by omega
               rw [hN] at wq hql
               obtain ⟨Mc, hMc⟩ : ∃ Mc, min c N = Mc := ⟨_, rfl⟩
               have hMl : Mc ≤ N := by rw [← hMc]; omega
               have em2 : (if N < c then (N : Int) else (c : Int)) = (Mc : Int) := by rw [← hMc]; split <;> omega
               have wa : IntKind.i64.wrap ((cur.cells.length : Int) + Mc) = (cur.cells.length : Int) + Mc := wrap64 _ (by omega) (by omega)
               have tk : List.take (N * 12) (celsC r.cells) = celsC (r.cells.take N) := celsC_take _ _
               have tm : min N r.cells.length = N := Nat.min_eq_left hNl
               obtain ⟨Z, hZ⟩ : ∃ Z, cur.cells ++ r.cells.take N = Z := ⟨_, rfl⟩
               have eL : cur.cells.length + N = Z.length := by rw [← hZ]; simp; omega
               have eA : celsC cur.cells ++ celsC (r.cells.take N) = celsC Z := by rw [← hZ, celsC_app]
               have hX : addF p.length A c k r L[k + 1]? cur = ⟨Z, true, cur.at', (cur.cells.length : Int)⟩ := by
                 unfold addF
                 rw [hgv, hZ, hwr', hMc, if_neg hkA, if_pos hkP]
               rw [hX] at hrun
               simp -implicitDefEqProofs [linO, lnX, h, hd, rowC, hwr', hkA', hkP', longSpec, plainSpec, rowV, hl1, wk, er, eG, tk, tm, em2, wa, eL, eA, hNl, h2', hd2, hd3, hd4, hql, wq, e1, y0, hN, celV, styV]
               repeat' (refine And.intro ?_ ?_)
               all_goals first | omega | rfl | skip
               have hrunY : runF p.length A c (List.drop k L) k cur = runF p.length A c (List.drop (k + 1) L) (k + 1) ⟨Z, true, cur.at', (cur.cells.length : Int)⟩ := by rw [hrun, if_pos hnx]
               exact Next.mk ⟨k + 1, m, vv + 1, ⟨Z, true, cur.at', (cur.cells.length : Int)⟩, hb⟩ ⟨h, ⟨D, by rw [hD1, hrunY], hD2⟩, hI1, by simp only; omega⟩ (by simp only; omega) (Weak.linN hI hI1 (by simp [linO]))
             · have hkP' : ((k : Int) = p.length) = False := eq_false (by omega)
               obtain ⟨N, hN⟩ : ∃ N, r.cells.length = N := ⟨_, rfl⟩
               have hgv : giveF r L[k + 1]? (decide (k = A)) c = N := by unfold giveF; rw [if_pos hwr, hq1, hlc, if_neg (fun q => e1 q.2), hN]
               have hNl : N ≤ r.cells.length := by omega
               rw [hN] at wq hql
               obtain ⟨Mc, hMc⟩ : ∃ Mc, min c N = Mc := ⟨_, rfl⟩
               have hMl : Mc ≤ N := by rw [← hMc]; omega
               have em2 : (if N < c then (N : Int) else (c : Int)) = (Mc : Int) := by rw [← hMc]; split <;> omega
               have wa : IntKind.i64.wrap ((cur.cells.length : Int) + Mc) = (cur.cells.length : Int) + Mc := wrap64 _ (by omega) (by omega)
               have tk : List.take (N * 12) (celsC r.cells) = celsC (r.cells.take N) := celsC_take _ _
               have tm : min N r.cells.length = N := Nat.min_eq_left hNl
               obtain ⟨Z, hZ⟩ : ∃ Z, cur.cells ++ r.cells.take N = Z := ⟨_, rfl⟩
               have eL : cur.cells.length + N = Z.length := by rw [← hZ]; simp; omega
               have eA : celsC cur.cells ++ celsC (r.cells.take N) = celsC Z := by rw [← hZ, celsC_app]
               have hX : addF p.length A c k r L[k + 1]? cur = ⟨Z, true, cur.at', cur.fst⟩ := by
                 unfold addF
                 rw [hgv, hZ, hwr', hMc, if_neg hkA, if_neg hkP]
               rw [hX] at hrun
               simp -implicitDefEqProofs [linO, lnX, h, hd, rowC, hwr', hkA', hkP', longSpec, plainSpec, rowV, hl1, wk, er, eG, tk, tm, em2, wa, eL, eA, hNl, h2', hd2, hd3, hd4, hql, wq, e1, y0, hN, celV, styV]
               repeat' (refine And.intro ?_ ?_)
               all_goals first | omega | rfl | skip
               have hrunY : runF p.length A c (List.drop k L) k cur = runF p.length A c (List.drop (k + 1) L) (k + 1) ⟨Z, true, cur.at', cur.fst⟩ := by rw [hrun, if_pos hnx]
               exact Next.mk ⟨k + 1, m, vv + 1, ⟨Z, true, cur.at', cur.fst⟩, hb⟩ ⟨h, ⟨D, by rw [hD1, hrunY], hD2⟩, hI1, by simp only; omega⟩ (by simp only; omega) (Weak.linN hI hI1 (by simp [linO]))
       · have h2' : ((k : Int) + 1 < L.length) = False := eq_false (by omega)
         have hnx : ¬ (r.wrapped = true ∧ k + 1 < L.length) := fun q => by omega
         have hq : L[k + 1]? = none := by simp; omega
         have hdn : List.drop ((k + 1) * 2) (rowsC L) = [] := List.drop_of_length_le (by simp; omega)
         by_cases hkA : k = A
         · have hkA' : ((k : Int) = A) = True := eq_true (by omega)
           by_cases hkP : k = p.length
           · have hkP' : ((k : Int) = p.length) = True := eq_true (by omega)
             obtain ⟨N, hN⟩ : ∃ N, r.cells.length = N := ⟨_, rfl⟩
             have hgv : giveF r L[k + 1]? (decide (k = A)) c = N := by unfold giveF; rw [if_pos hwr, hq, if_neg (fun q => by simp [wideQ] at q), hN]
             have hNl : N ≤ r.cells.length := by omega
             obtain ⟨Mc, hMc⟩ : ∃ Mc, min c N = Mc := ⟨_, rfl⟩
             have hMl : Mc ≤ N := by rw [← hMc]; omega
             have em2 : (if N < c then (N : Int) else (c : Int)) = (Mc : Int) := by rw [← hMc]; split <;> omega
             have wa : IntKind.i64.wrap ((cur.cells.length : Int) + Mc) = (cur.cells.length : Int) + Mc := wrap64 _ (by omega) (by omega)
             have tk : List.take (N * 12) (celsC r.cells) = celsC (r.cells.take N) := celsC_take _ _
             have tm : min N r.cells.length = N := Nat.min_eq_left hNl
             obtain ⟨Z, hZ⟩ : ∃ Z, cur.cells ++ r.cells.take N = Z := ⟨_, rfl⟩
             have eL : cur.cells.length + N = Z.length := by rw [← hZ]; simp; omega
             have eA : celsC cur.cells ++ celsC (r.cells.take N) = celsC Z := by rw [← hZ, celsC_app]
             have hX : addF p.length A c k r L[k + 1]? cur = ⟨Z, true, ((cur.cells.length : Int) + Mc), (cur.cells.length : Int)⟩ := by
               unfold addF
               rw [hgv, hZ, hwr', hMc, if_pos hkA, if_pos hkP]
               all_goals simp
             rw [hX] at hrun
             simp -implicitDefEqProofs [linO, lnX, h, hd, rowC, hwr', hkA', hkP', longSpec, plainSpec, rowV, hl1, wk, er, eG, tk, tm, em2, wa, eL, eA, hNl, h2', hN, hdn]
             repeat' (refine And.intro ?_ ?_)
             all_goals first | omega | rfl | skip
             have hrunY : runF p.length A c (List.drop k L) k cur = ⟨Z, true, ((cur.cells.length : Int) + Mc), (cur.cells.length : Int)⟩ :: runF p.length A c (List.drop (k + 1) L) (k + 1) ln0 := by rw [hrun, if_neg hnx]
             refine OpW.linY (hc := [.sl p.length (rowsC p), .sl g.length (rowsC g), .int .i64 a, .int .i64 c]) (L := L) (A := A) (k := k) hy hI hI1 (by rw [hD1, hrunY, ← hD2]; simp [lnV]) (by simp [linR]) (fun h' k1 k2 => ?_) (fun h' k1 => ?_)
             · simp -implicitDefEqProofs [linR, wk]
               refine Next.mk ⟨k + 1, m + 1, 0, ln0, h'⟩ ⟨h, ⟨D ++ [⟨Z, true, ((cur.cells.length : Int) + Mc), (cur.cells.length : Int)⟩], by rw [hD1, hrunY]; simp, by simp; omega⟩, k1, by simp [ln0]⟩ (by simp only; omega) (Weak.trans (Weak.mkEmpty h'.length 0 77 12 (by decide) (get_snoc _ _) rfl) (Weak.heap ?_ ?_))
               · simp [linO, lnX, ln0]
               · simp [linO]
             · simp
               exact Fades.mk ⟨133, [], h'⟩ (.inr k1) (Weak.keep (by simp))
           · have hkP' : ((k : Int) = p.length) = False := eq_false (by omega)
             obtain ⟨N, hN⟩ : ∃ N, r.cells.length = N := ⟨_, rfl⟩
             have hgv : giveF r L[k + 1]? (decide (k = A)) c = N := by unfold giveF; rw [if_pos hwr, hq, if_neg (fun q => by simp [wideQ] at q), hN]
             have hNl : N ≤ r.cells.length := by omega
             obtain ⟨Mc, hMc⟩ : ∃ Mc, min c N = Mc := ⟨_, rfl⟩
             have hMl : Mc ≤ N := by rw [← hMc]; omega
             have em2 : (if N < c then (N : Int) else (c : Int)) = (Mc : Int) := by rw [← hMc]; split <;> omega
             have wa : IntKind.i64.wrap ((cur.cells.length : Int) + Mc) = (cur.cells.length : Int) + Mc := wrap64 _ (by omega) (by omega)
             have tk : List.take (N * 12) (celsC r.cells) = celsC (r.cells.take N) := celsC_take _ _
             have tm : min N r.cells.length = N := Nat.min_eq_left hNl
             obtain ⟨Z, hZ⟩ : ∃ Z, cur.cells ++ r.cells.take N = Z := ⟨_, rfl⟩
             have eL : cur.cells.length + N = Z.length := by rw [← hZ]; simp; omega
             have eA : celsC cur.cells ++ celsC (r.cells.take N) = celsC Z := by rw [← hZ, celsC_app]
             have hX : addF p.length A c k r L[k + 1]? cur = ⟨Z, true, ((cur.cells.length : Int) + Mc), cur.fst⟩ := by
               unfold addF
               rw [hgv, hZ, hwr', hMc, if_pos hkA, if_neg hkP]
               all_goals simp
             rw [hX] at hrun
             simp -implicitDefEqProofs [linO, lnX, h, hd, rowC, hwr', hkA', hkP', longSpec, plainSpec, rowV, hl1, wk, er, eG, tk, tm, em2, wa, eL, eA, hNl, h2', hN, hdn]
             repeat' (refine And.intro ?_ ?_)
             all_goals first | omega | rfl | skip
             have hrunY : runF p.length A c (List.drop k L) k cur = ⟨Z, true, ((cur.cells.length : Int) + Mc), cur.fst⟩ :: runF p.length A c (List.drop (k + 1) L) (k + 1) ln0 := by rw [hrun, if_neg hnx]
             refine OpW.linY (hc := [.sl p.length (rowsC p), .sl g.length (rowsC g), .int .i64 a, .int .i64 c]) (L := L) (A := A) (k := k) hy hI hI1 (by rw [hD1, hrunY, ← hD2]; simp [lnV]) (by simp [linR]) (fun h' k1 k2 => ?_) (fun h' k1 => ?_)
             · simp -implicitDefEqProofs [linR, wk]
               refine Next.mk ⟨k + 1, m + 1, 0, ln0, h'⟩ ⟨h, ⟨D ++ [⟨Z, true, ((cur.cells.length : Int) + Mc), cur.fst⟩], by rw [hD1, hrunY]; simp, by simp; omega⟩, k1, by simp [ln0]⟩ (by simp only; omega) (Weak.trans (Weak.mkEmpty h'.length 0 77 12 (by decide) (get_snoc _ _) rfl) (Weak.heap ?_ ?_))
               · simp [linO, lnX, ln0]
               · simp [linO]
             · simp
               exact Fades.mk ⟨133, [], h'⟩ (.inr k1) (Weak.keep (by simp))
         · have hkA' : ((k : Int) = A) = False := eq_false (by omega)
           by_cases hkP : k = p.length
           · have hkP' : ((k : Int) = p.length) = True := eq_true (by omega)
             exfalso
             omega
           · have hkP' : ((k : Int) = p.length) = False := eq_false (by omega)
             obtain ⟨N, hN⟩ : ∃ N, r.cells.length = N := ⟨_, rfl⟩
             have hgv : giveF r L[k + 1]? (decide (k = A)) c = N := by unfold giveF; rw [if_pos hwr, hq, if_neg (fun q => by simp [wideQ] at q), hN]
             have hNl : N ≤ r.cells.length := by omega
             obtain ⟨Mc, hMc⟩ : ∃ Mc, min c N = Mc := ⟨_, rfl⟩
             have hMl : Mc ≤ N := by rw [← hMc]; omega
             have em2 : (if N < c then (N : Int) else (c : Int)) = (Mc : Int) := by rw [← hMc]; split <;> omega
             have wa : IntKind.i64.wrap ((cur.cells.length : Int) + Mc) = (cur.cells.length : Int) + Mc := wrap64 _ (by omega) (by omega)
             have tk : List.take (N * 12) (celsC r.cells) = celsC (r.cells.take N) := celsC_take _ _
             have tm : min N r.cells.length = N := Nat.min_eq_left hNl
             obtain ⟨Z, hZ⟩ : ∃ Z, cur.cells ++ r.cells.take N = Z := ⟨_, rfl⟩
             have eL : cur.cells.length + N = Z.length := by rw [← hZ]; simp; omega
             have eA : celsC cur.cells ++ celsC (r.cells.take N) = celsC Z := by rw [← hZ, celsC_app]
             have hX : addF p.length A c k r L[k + 1]? cur = ⟨Z, true, cur.at', cur.fst⟩ := by
               unfold addF
               rw [hgv, hZ, hwr', hMc, if_neg hkA, if_neg hkP]
             rw [hX] at hrun
             simp -implicitDefEqProofs [linO, lnX, h, hd, rowC, hwr', hkA', hkP', longSpec, plainSpec, rowV, hl1, wk, er, eG, tk, tm, em2, wa, eL, eA, hNl, h2', hN, hdn]
             repeat' (refine And.intro ?_ ?_)
             all_goals first | omega | rfl | skip
             have hrunY : runF p.length A c (List.drop k L) k cur = ⟨Z, true, cur.at', cur.fst⟩ :: runF p.length A c (List.drop (k + 1) L) (k + 1) ln0 := by rw [hrun, if_neg hnx]
             refine OpW.linY (hc := [.sl p.length (rowsC p), .sl g.length (rowsC g), .int .i64 a, .int .i64 c]) (L := L) (A := A) (k := k) hy hI hI1 (by rw [hD1, hrunY, ← hD2]; simp [lnV]) (by simp [linR]) (fun h' k1 k2 => ?_) (fun h' k1 => ?_)
             · simp -implicitDefEqProofs [linR, wk]
               refine Next.mk ⟨k + 1, m + 1, 0, ln0, h'⟩ ⟨h, ⟨D ++ [⟨Z, true, cur.at', cur.fst⟩], by rw [hD1, hrunY]; simp, by simp; omega⟩, k1, by simp [ln0]⟩ (by simp only; omega) (Weak.trans (Weak.mkEmpty h'.length 0 77 12 (by decide) (get_snoc _ _) rfl) (Weak.heap ?_ ?_))
               · simp [linO, lnX, ln0]
               · simp [linO]
             · simp
               exact Fades.mk ⟨133, [], h'⟩ (.inr k1) (Weak.keep (by simp))
     · have hwr' : r.wrapped = false := by simpa using hwr
       have er : rowOf [C.sl r.cells.length (celsC r.cells), C.bool false] = r := by have := rowOf_C r; rw [rowC, hwr'] at this; exact this
       have eG : ∃ r_1 : Rw, ((r.cells.length = r_1.cells.length ∧ r.cells = r_1.cells) ∧ r_1.wrapped = false) ∧ r_1.cells.length ≤ 1000000 := ⟨r, ⟨⟨rfl, rfl⟩, hwr'⟩, hl1⟩
       have hnx : ¬ (r.wrapped = true ∧ k + 1 < L.length) := fun q => hwr q.1
       by_cases hkA : k = A
       · have hkA' : ((k : Int) = A) = True := eq_true (by omega)
         by_cases hkP : k = p.length
         · have hkP' : ((k : Int) = p.length) = True := eq_true (by omega)
           have wc : IntKind.i64.wrap ((c : Int) + 1) = (c : Int) + 1 := wrap64 _ (by omega) (by omega)
           obtain ⟨N, hN⟩ : ∃ N, max (longF r.cells) (c + 1) = N := ⟨_, rfl⟩
           have em : (if (longF r.cells : Int) < (c : Int) + 1 then (c : Int) + 1 else (longF r.cells : Int)) = (N : Int) := by rw [← hN]; split <;> omega
           have hgv : giveF r L[k + 1]? (decide (k = A)) c = N := by unfold giveF; rw [if_neg hwr, if_pos (by simp [hkA]), hN]
           have hNl : N ≤ r.cells.length := by omega
           obtain ⟨Mc, hMc⟩ : ∃ Mc, min c N = Mc := ⟨_, rfl⟩
           have hMl : Mc ≤ N := by rw [← hMc]; omega
           have em2 : (if N < c then (N : Int) else (c : Int)) = (Mc : Int) := by rw [← hMc]; split <;> omega
           have wa : IntKind.i64.wrap ((cur.cells.length : Int) + Mc) = (cur.cells.length : Int) + Mc := wrap64 _ (by omega) (by omega)
           have tk : List.take (N * 12) (celsC r.cells) = celsC (r.cells.take N) := celsC_take _ _
           have tm : min N r.cells.length = N := Nat.min_eq_left hNl
           obtain ⟨Z, hZ⟩ : ∃ Z, cur.cells ++ r.cells.take N = Z := ⟨_, rfl⟩
           have eL : cur.cells.length + N = Z.length := by rw [← hZ]; simp; omega
           have eA : celsC cur.cells ++ celsC (r.cells.take N) = celsC Z := by rw [← hZ, celsC_app]
           have hX : addF p.length A c k r L[k + 1]? cur = ⟨Z, false, ((cur.cells.length : Int) + Mc), (cur.cells.length : Int)⟩ := by
             unfold addF
             rw [hgv, hZ, hwr', hMc, if_pos hkA, if_pos hkP]
             all_goals simp
           rw [hX] at hrun
           simp -implicitDefEqProofs [linO, lnX, h, hd, rowC, hwr', hkA', hkP', longSpec, plainSpec, rowV, hl1, wk, er, eG, tk, tm, em2, wa, eL, eA, hNl, wc, em]
           repeat' (refine And.intro ?_ ?_)
           all_goals first | omega | rfl | skip
           have hrunY : runF p.length A c (List.drop k L) k cur = ⟨Z, false, ((cur.cells.length : Int) + Mc), (cur.cells.length : Int)⟩ :: runF p.length A c (List.drop (k + 1) L) (k + 1) ln0 := by rw [hrun, if_neg hnx]
           refine OpW.linY (hc := [.sl p.length (rowsC p), .sl g.length (rowsC g), .int .i64 a, .int .i64 c]) (L := L) (A := A) (k := k) hy hI hI1 (by rw [hD1, hrunY, ← hD2]; simp [lnV]) (by simp [linR]) (fun h' k1 k2 => ?_) (fun h' k1 => ?_)
           · simp -implicitDefEqProofs [linR, wk]
             refine Next.mk ⟨k + 1, m + 1, 0, ln0, h'⟩ ⟨h, ⟨D ++ [⟨Z, false, ((cur.cells.length : Int) + Mc), (cur.cells.length : Int)⟩], by rw [hD1, hrunY]; simp, by simp; omega⟩, k1, by simp [ln0]⟩ (by simp only; omega) (Weak.trans (Weak.mkEmpty h'.length 0 77 12 (by decide) (get_snoc _ _) rfl) (Weak.heap ?_ ?_))
             · simp [linO, lnX, ln0]
             · simp [linO]
           · simp
             exact Fades.mk ⟨133, [], h'⟩ (.inr k1) (Weak.keep (by simp))
         · have hkP' : ((k : Int) = p.length) = False := eq_false (by omega)
           have wc : IntKind.i64.wrap ((c : Int) + 1) = (c : Int) + 1 := wrap64 _ (by omega) (by omega)
           obtain ⟨N, hN⟩ : ∃ N, max (longF r.cells) (c + 1) = N := ⟨_, rfl⟩
           have em : (if (longF r.cells : Int) < (c : Int) + 1 then (c : Int) + 1 else (longF r.cells : Int)) = (N : Int) := by rw [← hN]; split <;> omega
           have hgv : giveF r L[k + 1]? (decide (k = A)) c = N := by unfold giveF; rw [if_neg hwr, if_pos (by simp [hkA]), hN]
           have hNl : N ≤ r.cells.length := by omega
           obtain ⟨Mc, hMc⟩ : ∃ Mc, min c N = Mc := ⟨_, rfl⟩
           have hMl : Mc ≤ N := by rw [← hMc]; omega
           have em2 : (if N < c then (N : Int) else (c : Int)) = (Mc : Int) := by rw [← hMc]; split <;> omega
           have wa : IntKind.i64.wrap ((cur.cells.length : Int) + Mc) = (cur.cells.length : Int) + Mc := wrap64 _ (by omega) (by omega)
           have tk : List.take (N * 12) (celsC r.cells) = celsC (r.cells.take N) := celsC_take _ _
           have tm : min N r.cells.length = N := Nat.min_eq_left hNl
           obtain ⟨Z, hZ⟩ : ∃ Z, cur.cells ++ r.cells.take N = Z := ⟨_, rfl⟩
           have eL : cur.cells.length + N = Z.length := by rw [← hZ]; simp; omega
           have eA : celsC cur.cells ++ celsC (r.cells.take N) = celsC Z := by rw [← hZ, celsC_app]
           have hX : addF p.length A c k r L[k + 1]? cur = ⟨Z, false, ((cur.cells.length : Int) + Mc), cur.fst⟩ := by
             unfold addF
             rw [hgv, hZ, hwr', hMc, if_pos hkA, if_neg hkP]
             all_goals simp
           rw [hX] at hrun
           simp -implicitDefEqProofs [linO, lnX, h, hd, rowC, hwr', hkA', hkP', longSpec, plainSpec, rowV, hl1, wk, er, eG, tk, tm, em2, wa, eL, eA, hNl, wc, em]
           repeat' (refine And.intro ?_ ?_)
           all_goals first | omega | rfl | skip
           have hrunY : runF p.length A c (List.drop k L) k cur = ⟨Z, false, ((cur.cells.length : Int) + Mc), cur.fst⟩ :: runF p.length A c (List.drop (k + 1) L) (k + 1) ln0 := by rw [hrun, if_neg hnx]
           refine OpW.linY (hc := [.sl p.length (rowsC p), .sl g.length (rowsC g), .int .i64 a, .int .i64 c]) (L := L) (A := A) (k := k) hy hI hI1 (by rw [hD1, hrunY, ← hD2]; simp [lnV]) (by simp [linR]) (fun h' k1 k2 => ?_) (fun h' k1 => ?_)
           · simp -implicitDefEqProofs [linR, wk]
             refine Next.mk ⟨k + 1, m + 1, 0, ln0, h'⟩ ⟨h, ⟨D ++ [⟨Z, false, ((cur.cells.length : Int) + Mc), cur.fst⟩], by rw [hD1, hrunY]; simp, by simp; omega⟩, k1, by simp [ln0]⟩ (by simp only; omega) (Weak.trans (Weak.mkEmpty h'.length 0 77 12 (by decide) (get_snoc _ _) rfl) (Weak.heap ?_ ?_))
             · simp [linO, lnX, ln0]
             · simp [linO]
           · simp
             exact Fades.mk ⟨133, [], h'⟩ (.inr k1) (Weak.keep (by simp))
       · have hkA' : ((k : Int) = A) = False := eq_false (by omega)
         by_cases hkP : k = p.length
         · have hkP' : ((k : Int) = p.length) = True := eq_true (by omega)
           obtain ⟨N, hN⟩ : ∃ N, longF r.cells = N := ⟨_, rfl⟩
           have hgv : giveF r L[k + 1]? (decide (k = A)) c = N := by unfold giveF; rw [if_neg hwr, if_neg (by simp [hkA]), hN]
           have hNl : N ≤ r.cells.length := by omega
           obtain ⟨Mc, hMc⟩ : ∃ Mc, min c N = Mc := ⟨_, rfl⟩
           have hMl : Mc ≤ N := by rw [← hMc]; omega
           have em2 : (if N < c then (N : Int) else (c : Int)) = (Mc : Int) := by rw [← hMc]; split <;> omega
           have wa : IntKind.i64.wrap ((cur.cells.length : Int) + Mc) = (cur.cells.length : Int) + Mc := wrap64 _ (by omega) (by omega)
           have tk : List.take (N * 12) (celsC r.cells) = celsC (r.cells.take N) := celsC_take _ _
           have tm : min N r.cells.length = N := Nat.min_eq_left hNl
           obtain ⟨Z, hZ⟩ : ∃ Z, cur.cells ++ r.cells.take N = Z := ⟨_, rfl⟩
           have eL : cur.cells.length + N = Z.length := by rw [← hZ]; simp; omega
           have eA : celsC cur.cells ++ celsC (r.cells.take N) = celsC Z := by rw [← hZ, celsC_app]
           have hX : addF p.length A c k r L[k + 1]? cur = ⟨Z, false, cur.at', (cur.cells.length : Int)⟩ := by
             unfold addF
             rw [hgv, hZ, hwr', hMc, if_neg hkA, if_pos hkP]
           rw [hX] at hrun
           simp -implicitDefEqProofs [linO, lnX, h, hd, rowC, hwr', hkA', hkP', longSpec, plainSpec, rowV, hl1, wk, er, eG, tk, tm, em2, wa, eL, eA, hNl, hN]
           repeat' (refine And.intro ?_ ?_)
           all_goals first | omega | rfl | skip
           have hrunY : runF p.length A c (List.drop k L) k cur = ⟨Z, false, cur.at', (cur.cells.length : Int)⟩ :: runF p.length A c (List.drop (k + 1) L) (k + 1) ln0 := by rw [hrun, if_neg hnx]
           refine OpW.linY (hc := [.sl p.length (rowsC p), .sl g.length (rowsC g), .int .i64 a, .int .i64 c]) (L := L) (A := A) (k := k) hy hI hI1 (by rw [hD1, hrunY, ← hD2]; simp [lnV]) (by simp [linR]) (fun h' k1 k2 => ?_) (fun h' k1 => ?_)
           · simp -implicitDefEqProofs [linR, wk]
             refine Next.mk ⟨k + 1, m + 1, 0, ln0, h'⟩ ⟨h, ⟨D ++ [⟨Z, false, cur.at', (cur.cells.length : Int)⟩], by rw [hD1, hrunY]; simp, by simp; omega⟩, k1, by simp [ln0]⟩ (by simp only; omega) (Weak.trans (Weak.mkEmpty h'.length 0 77 12 (by decide) (get_snoc _ _) rfl) (Weak.heap ?_ ?_))
             · simp [linO, lnX, ln0]
             · simp [linO]
           · simp
             exact Fades.mk ⟨133, [], h'⟩ (.inr k1) (Weak.keep (by simp))
         · have hkP' : ((k : Int) = p.length) = False := eq_false (by omega)
           obtain ⟨N, hN⟩ : ∃ N, longF r.cells = N := ⟨_, rfl⟩
           have hgv : giveF r L[k + 1]? (decide (k = A)) c = N := by unfold giveF; rw [if_neg hwr, if_neg (by simp [hkA]), hN]
           have hNl : N ≤ r.cells.length := by omega
           obtain ⟨Mc, hMc⟩ : ∃ Mc, min c N = Mc := ⟨_, rfl⟩
           have hMl : Mc ≤ N := by rw [← hMc]; omega
           have em2 : (if N < c then (N : Int) else (c : Int)) = (Mc : Int) := by rw [← hMc]; split <;> omega
           have wa : IntKind.i64.wrap ((cur.cells.length : Int) + Mc) = (cur.cells.length : Int) + Mc := wrap64 _ (by omega) (by omega)
           have tk : List.take (N * 12) (celsC r.cells) = celsC (r.cells.take N) := celsC_take _ _
           have tm : min N r.cells.length = N := Nat.min_eq_left hNl
           obtain ⟨Z, hZ⟩ : ∃ Z, cur.cells ++ r.cells.take N = Z := ⟨_, rfl⟩
           have eL : cur.cells.length + N = Z.length := by rw [← hZ]; simp; omega
           have eA : celsC cur.cells ++ celsC (r.cells.take N) = celsC Z := by rw [← hZ, celsC_app]
           have hX : addF p.length A c k r L[k + 1]? cur = ⟨Z, false, cur.at', cur.fst⟩ := by
             unfold addF
             rw [hgv, hZ, hwr', hMc, if_neg hkA, if_neg hkP]
           rw [hX] at hrun
           simp -implicitDefEqProofs [linO, lnX, h, hd, rowC, hwr', hkA', hkP', longSpec, plainSpec, rowV, hl1, wk, er, eG, tk, tm, em2, wa, eL, eA, hNl, hN]
           repeat' (refine And.intro ?_ ?_)
           all_goals first | omega | rfl | skip
           have hrunY : runF p.length A c (List.drop k L) k cur = ⟨Z, false, cur.at', cur.fst⟩ :: runF p.length A c (List.drop (k + 1) L) (k + 1) ln0 := by rw [hrun, if_neg hnx]
           refine OpW.linY (hc := [.sl p.length (rowsC p), .sl g.length (rowsC g), .int .i64 a, .int .i64 c]) (L := L) (A := A) (k := k) hy hI hI1 (by rw [hD1, hrunY, ← hD2]; simp [lnV]) (by simp [linR]) (fun h' k1 k2 => ?_) (fun h' k1 => ?_)
           · simp -implicitDefEqProofs [linR, wk]
             refine Next.mk ⟨k + 1, m + 1, 0, ln0, h'⟩ ⟨h, ⟨D ++ [⟨Z, false, cur.at', cur.fst⟩], by rw [hD1, hrunY]; simp, by simp; omega⟩, k1, by simp [ln0]⟩ (by simp only; omega) (Weak.trans (Weak.mkEmpty h'.length 0 77 12 (by decide) (get_snoc _ _) rfl) (Weak.heap ?_ ?_))
             · simp [linO, lnX, ln0]
             · simp [linO]
           · simp
             exact Fades.mk ⟨133, [], h'⟩ (.inr k1) (Weak.keep (by simp))
   · obtain rfl : k = L.length := by omega
     have hz : runF p.length A c (List.drop L.length L) L.length cur = [] := by simp [runF]
     rw [hz, List.append_nil] at hD1
     simp [linO, lnX]
     obtain ⟨hq, hcl, hln⟩ := hI _ _ hI1
     refine Fades.mk ⟨133, [], hb⟩ (.inl (by rw [hD1, hD2]; exact hI1)) (Weak.drop hcl hln (by simp) (by simp))
end Fen
