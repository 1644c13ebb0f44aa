/- A part of the proof; no statement is proved here: SRefP, SRefQ. -/
import Derived.Test.YthmebgohfigfpaaRefN

set_option linter.unusedVariables false
set_option linter.unusedSimpArgs false

namespace Fen
open Go Go.Proofs
def rfdS (p : Ps) (l : List Int) (k : Nat) : St := ⟨40, [(1, .val (.sl l.length (ints .u8 l))), (2, .ptr 0 0 0), (4, .ptr 1 0 0), (7, .ref 2 0), (8, .val (.int .i64 k))], [rBox (feed6 p (l.take k)).1, rBox (sbegin 0), .sl tE 0 true 7 (feed6 p (l.take k)).2.length (evsC (feed6 p (l.take k)).2)]⟩
def rfeedSpec : Spec := { pre := sfeedSpec.pre, res := sfeedSpec.res }
def G_rfeed : Specs := [(34, rmayoSpec), (35, roneSpec)]
@[simp] theorem G_rfeed_live : Specs.live G_rfeed = false := rfl
@[simp] theorem G_rfeed_34 : G_rfeed.find 34 = some rmayoSpec := rfl
@[simp] theorem G_rfeed_35 : G_rfeed.find 35 = some roneSpec := rfl
theorem G_rfeed_ok (gl : Gl) : SpecsOK Try.prog gl G_rfeed := .cons (rmayo_sound gl) (.cons (rone_sound gl) (.nil _ _))
set_option maxHeartbeats 8000000 in
set_option maxRecDepth 10000 in
theorem rfeed_sound (gl : Gl) : Sound Try.prog gl 14 rfeedSpec := by
 refine sound_awp (N := Try.f14.ntmps) (rs := Try.f14.results.toList) tok Try.func14 rfl rfl rfl rfl rfl ?_ ?_ ?_
 · rintro args ⟨p,l,rfl,hp,hl,hll⟩; simp [psOf_C,sfeedSpec,rBox,bytesV,nums_u8, Try.f14]
 · rintro args ⟨p,l,rfl,hp,hl,hll⟩; simp [psOf_C,sfeedSpec,rBox,bytesV,nums_u8, rfeedSpec, Try.f14]
 · rintro args ⟨p,l,rfl,hp,hl,hll⟩ bs hgl hh hro
   have hE : Env.OK ⟨Try.prog, T, G_rfeed, bs⟩ := ⟨tok, by rw [hgl]; exact G_rfeed_ok gl⟩
   simp only [rfeedSpec, psOf_C,sfeedSpec,rBox,bytesV,nums_u8]
   have iM : MayIn [.agg (psC p)] := ⟨p, rfl, hp⟩
   have t8 : ∀ q : Ps, (psC q).take 8 = psC q := fun _ => rfl
   have d8 : ∀ q : Ps, ((psC q).map X.val).drop 8 = [] := fun _ => rfl
   have tE' : (42 = tE) = True := eq_true rfl
   cases hm : may6 p with
   | false =>
     have hF : feedF p l = (sbegin 0, [], 160) := by unfold feedF; rw [hm]; rfl
     refine wpc_ok hE mixed _ _ _ ?_
     simp [rfeedSpec, rmayoSpec, roneSpec, Try.f14, rmaySpec, iM, hm, hF, t8, d8, evsC]
     rfl
   | true =>
     by_cases h2 : 4096 < l.length
     · have h2' : (4096 < (l.length : Int)) = True := eq_true (by omega)
       have hF : feedF p l = (sbegin 0, [], 3) := by unfold feedF; rw [hm, if_pos h2]; rfl
       refine wpc_ok hE mixed _ _ _ ?_
       simp [rfeedSpec, rmayoSpec, roneSpec, Try.f14, rmaySpec, iM, hm, hF, h2', t8, d8, evsC]
       rfl
     have h2' : (4096 < (l.length : Int)) = False := eq_false (by omega)
     have hF : feedF p l = ((feed6 p l).1, (feed6 p l).2, 0) := by unfold feedF; rw [hm, if_neg h2]; rfl
     refine wpc_ok hE mixed _ _ _ ?_
     simp [rfeedSpec, rmayoSpec, roneSpec, Try.f14, rmaySpec, iM, hm, hF, h2', t8, d8]
     refine AWP.rounds (fun k => k ≤ l.length) (rfdS p l) (fun k => l.length - k) 0 (by simp) ?_ ?_
     · unfold rfdS
       refine Weak.ren [some 0, some 1, none] (baseOK.nil hh) (by simp) ?_ ?_
       all_goals simp [rnv, rBox, feed6, evsC, psC, sbegin, parC, ints]
     · intro k hk
       refine wpc_ok hE mixed _ _ _ ?_
       rcases Nat.lt_or_ge k l.length with h | h
       · have hd := ints_at8 h
         have hs := feed_snoc p h
         have hmay := feed_may (l := l.take k) hm (bytes_take hl k)
         have hby := feed_bytes (l := l.take k) hp.1.1 (bytes_take hl k)
         have hln := feed_len (l.take k) p
         rw [List.length_take] at hln
         have hc := hl _ (List.getElem_mem h)
         have w1 : IntKind.i64.wrap ((k : Int) + 1) = ((k + 1 : Nat) : Int) := by rw [wrap64 _ (by omega) (by omega)]; omega
         have klt : (k < l.length) = True := eq_true h
         generalize l[k] = c at *
         obtain ⟨y, hy⟩ : ∃ y, feed6 p (l.take k) = y := ⟨_, rfl⟩
         rw [hy] at hs hmay hby hln
         have hs6 := (may_iff.1 hmay).1
         have iO : OneIn [.agg (psC y.1), .c (.int .u8 c)] := ⟨y.1, c, rfl, may_on hmay hby, hs6.1, hs6.2, hc.1, hc.2⟩
         simp [rfdS, rBox, hy, klt, hd, and_assoc, rmayoSpec, roneSpec, roneSpec, twoV, iO, t8, d8, w1, tE', h]
         have hl1 := feed_len [c] y.1
         simp [feed6] at hl1
         refine ⟨rfl, by omega, by omega, Next.mk (k + 1) h (by omega) ?_⟩
         unfold rfdS
         rw [hs]
         exact Weak.ren [some 0, some 1, some 2] (baseOK.nil hh) (by simp) (by simp [rnv, rBox, evsC_app]) (by simp [rBox])
       · obtain rfl : k = l.length := by omega
         simp [rfdS, rBox, t8, d8, tE']
         trace_state
         done
end Fen

namespace Fen
open Go Go.Proofs
def RFeedIn (a : List V) : Prop := rfeedSpec.pre a
def rfeedoSpec : Spec := { pre := RFeedIn, res := rfeedSpec.res }
theorem rfeedo_sound (gl : Gl) : Sound Try.prog gl 14 rfeedoSpec := rfeed_sound gl
def lsomeSpec : Spec := { pre := fun args => ∃ l : List Int, args = [bytesV l] ∧ Bytes l ∧ l.length ≤ 1000000, res := fun args => match args with
 | [.c (.sl _ l)] => .one (.val (.agg (psC (feedF (sbegin 0) (nums l)).1)))
 | _ => .many [] }
def G_lsome : Specs := [(14, rfeedoSpec)]
@[simp] theorem G_lsome_live : Specs.live G_lsome = false := rfl
@[simp] theorem G_lsome_14 : G_lsome.find 14 = some rfeedoSpec := rfl
theorem G_lsome_ok (gl : Gl) : SpecsOK Try.prog gl G_lsome := .cons (rfeedo_sound gl) (.nil _ _)
set_option maxRecDepth 10000 in
theorem lsome_sound (gl : Gl) : Sound Try.prog gl 12 lsomeSpec := by
 refine sound_fn (N := Try.f12.ntmps) (rs := Try.f12.results.toList) mixed tok (G_lsome_ok gl) Try.func12 rfl rfl rfl rfl rfl ?_ ?_ ?_
 · rintro args ⟨l,rfl,hl,hll⟩; simp [bytesV,nums_u8, Try.f12]
 · rintro args ⟨l,rfl,hl,hll⟩; simp [bytesV,nums_u8, lsomeSpec, Try.f12]
 · rintro args ⟨l,rfl,hl,hll⟩ bs hgl hh hro
   have hE : Env.OK ⟨Try.prog, T, G_lsome, bs⟩ := ⟨tok, by rw [hgl]; exact G_lsome_ok gl⟩
   simp only [lsomeSpec, bytesV,nums_u8]
   have iF : RFeedIn [.agg [.int .i64 0, .sl 0 [], .int .u8 0, .int .u8 0, .sl 0 [], .str [], .str [], .bool false], .c (.sl l.length (ints .u8 l))] := ⟨sbegin 0, l, rfl, may_on may_begin.1 (fun x hx => by simp [sbegin] at hx), hl, hll⟩
   have e3 : psOf [.int .i64 0, .sl 0 [], .int .u8 0, .int .u8 0, .sl 0 [], .str [], .str [], .bool false] = sbegin 0 := rfl
   have t8 : ∀ q : Ps, (psC q).take 8 = psC q := fun _ => rfl
   have d8 : ∀ q : Ps, ((psC q).map X.val).drop 8 = [] := fun _ => rfl
   simp [lsomeSpec, rfeedoSpec, Try.f12, rfeedSpec, sfeedSpec, iF, e3, t8, d8, nums_u8]
def shortF (p : Ps) : Ps := { p with u := p.u.take 6, it := p.it.take 6, tx := p.tx.take 600, ps := (p.ps.take 20).map (·.take 9) }
def shoS (p : Ps) (k : Nat) : St := ⟨62, [(1, .ptr 0 0 0), (2, .ptr 1 0 0), (3, .ref 2 0), (4, .val (.int .i64 k))], [.box 25 ((psC { shortF p with ps := p.ps }).map .val), .box 25 ((psC (sbegin 0)).map .val), .sl 51 0 true 1 k (parC ((p.ps.take k).map (·.take 9)))]⟩
def lshortSpec : Spec := { pre := fun args => ∃ p : Ps, args = [.agg (psC p)] ∧ p.u.length ≤ 9223372036854775807 ∧ p.it.length ≤ 9223372036854775807 ∧ p.tx.length ≤ 9223372036854775807 ∧ p.ps.length ≤ 9223372036854775807 ∧ ∀ r ∈ p.ps, r.length ≤ 9223372036854775807, res := fun args => match args with
 | [.agg p] => .one (.val (.agg (psC (shortF (psOf p)))))
 | _ => .many [] }
def G_lshort : Specs := []
@[simp] theorem G_lshort_live : Specs.live G_lshort = false := rfl
theorem G_lshort_ok (gl : Gl) : SpecsOK Try.prog gl G_lshort := .nil _ _
set_option maxHeartbeats 8000000 in
set_option maxRecDepth 10000 in
theorem lshort_sound (gl : Gl) : Sound Try.prog gl 11 lshortSpec := by
 refine sound_awp (N := Try.f11.ntmps) (rs := Try.f11.results.toList) tok Try.func11 rfl rfl rfl rfl rfl ?_ ?_ ?_
 · rintro args ⟨p,rfl,hu,hi,ht,hps,hrs⟩; simp [psOf_C, Try.f11]
 · rintro args ⟨p,rfl,hu,hi,ht,hps,hrs⟩; simp [psOf_C, lshortSpec, Try.f11]
 · rintro args ⟨p,rfl,hu,hi,ht,hps,hrs⟩ bs hgl hh hro
   have hE : Env.OK ⟨Try.prog, T, G_lshort, bs⟩ := ⟨tok, by rw [hgl]; exact G_lshort_ok gl⟩
   simp only [lshortSpec, psOf_C]
   have cut : ∀ {α : Type} (l : List α) (n : Nat), (if (n : Int) < l.length then (n : Int) else l.length) = ((l.take n).length : Nat) := fun l n => by
     rw [List.length_take]; split <;> omega
   have tk : ∀ {α : Type} (l : List α) (n : Nat), l.take (l.take n).length = l.take n := fun l n => by
     rw [List.length_take]; rcases Nat.le_total n l.length with h | h
     · rw [Nat.min_eq_left h]
     · rw [Nat.min_eq_right h, List.take_length, List.take_of_length_le h]
   have c1 := cut p.u 6
   have c2 := cut p.it 6
   have c3 := cut p.tx 600
   have g1 := tk p.u 6
   have g2 := tk p.it 6
   have g3 := tk p.tx 600
   have n1 : (p.u.take 6).length ≤ p.u.length := by simp; omega
   have n2 : (p.it.take 6).length ≤ p.it.length := by simp; omega
   have n3 : (p.tx.take 600).length ≤ p.tx.length := by simp; omega
   have e2 := psOf_C p
   obtain ⟨R, hR⟩ : ∃ R, shortF p = R := ⟨_, rfl⟩
   have r1 : p.u.take 6 = R.u := by rw [← hR]; rfl
   have r2 : p.it.take 6 = R.it := by rw [← hR]; rfl
   have r3 : p.tx.take 600 = R.tx := by rw [← hR]; rfl
   rw [r1] at c1 g1 n1
   rw [r2] at c2 g2 n2
   rw [r3] at c3 g3 n3
   have hS : ∀ k, shoS p k = ⟨62, [(1, .ptr 0 0 0), (2, .ptr 1 0 0), (3, .ref 2 0), (4, .val (.int .i64 k))], [.box 25 [.val (.int .i64 p.s), .val (.sl R.u.length (ints .u8 R.u)), .val (.int .u8 p.pv), .val (.int .u8 p.fn), .val (.sl p.ps.length (parC p.ps)), .val (.str R.it), .val (.str R.tx), .val (.bool p.bad)], .box 25 ((psC (sbegin 0)).map .val), .sl 51 0 true 1 k (parC ((p.ps.take k).map (·.take 9)))]⟩ := fun k => by
     unfold shoS; rw [hR, ← r1, ← r2, ← r3]; rw [← hR]; rfl
   refine wpc_ok hE mixed _ _ _ ?_
   simp only [psC] at e2
   simp at c1 c2 c3
   simp [lshortSpec, Try.f11, psC, e2, c1, c2, c3, g1, g2, g3, hR]
   refine ⟨n1, n2, n3, rfl, ?_⟩
   have d8 : ((psC (sbegin 0)).map X.val).drop 8 = [] := rfl
   have f1 : R.s = p.s := by rw [← hR]; rfl
   have f2 : R.pv = p.pv := by rw [← hR]; rfl
   have f3 : R.fn = p.fn := by rw [← hR]; rfl
   have f4 : R.bad = p.bad := by rw [← hR]; rfl
   refine AWP.rounds (fun k => k ≤ p.ps.length ∧ k ≤ 20) (shoS p) (fun k => p.ps.length - k) 0 (by simp) ?_ ?_
   · rw [hS]
     exact Weak.ren [some 0, some 1, none] (baseOK.nil hh) (by simp) (by simp [psC, sbegin, parC, ints]) (by simp)
   · rintro k ⟨hk, hk2⟩
     refine wpc_ok hE mixed _ _ _ ?_
     rw [hS]
     rcases Nat.lt_or_ge k p.ps.length with h | h
     case' inr =>
       obtain rfl : k = p.ps.length := by omega
       have q1 : (p.ps.length < p.ps.length) = False := by simp
       have hR5 : (p.ps.map (·.take 9)) = R.ps := by rw [← hR]; unfold shortF; simp only; rw [List.take_of_length_le hk2]
       have hRl : R.ps.length = p.ps.length := by rw [← hR5]; simp
       simp [hR5, hRl, d8, f1, f2, f3, f4]
     have klt : (k < p.ps.length) = True := eq_true h
     rcases Nat.lt_or_ge k 20 with h20 | h20
     · have k20 : ((k : Int) < 20) = True := eq_true (by omega)
       have w1 : IntKind.i64.wrap ((k : Int) + 1) = ((k + 1 : Nat) : Int) := by rw [wrap64 _ (by omega) (by omega)]; omega
       have hda := parC_at h
       have hxl := hrs _ (List.getElem_mem h)
       have htk : (p.ps.take (k + 1)).map (·.take 9) = (p.ps.take k).map (·.take 9) ++ [p.ps[k].take 9] := by
         rw [List.take_add_one, List.getElem?_eq_getElem h, List.map_append]; rfl
       generalize p.ps[k] = x at *
       simp only [subC] at hda
       have cx := cut x 9
       have gx := tk x 9
       have nx : (x.take 9).length ≤ x.length := by simp; omega
       have nx9 : (x.take 9).length ≤ 9 := by simp; omega
       generalize x.take 9 = y at *
       simp at cx
       simp [klt, k20, hda, cx, gx, w1]
       repeat' (refine And.intro ?_ ?_)
       all_goals first | exact nx | omega | rfl | skip
       refine Next.mk (k + 1) ⟨h, by omega⟩ (by omega) ?_
       rw [hS]
       exact Weak.ren [some 0, some 1, some 2] (baseOK.nil hh) (by simp) (by simp [rnv, htk, parC_app, parC, subC]) (by simp)
     · obtain rfl : k = 20 := by omega
       have hR5 : (p.ps.take 20).map (·.take 9) = R.ps := by rw [← hR]; rfl
       have hRl : R.ps.length = 20 := by rw [← hR5]; simp; omega
       simp [klt, hR5, hRl, d8, f1, f2, f3, f4]
end Fen
