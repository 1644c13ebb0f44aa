/- A part of the proof; no statement is proved here: SLawFa, STypV, SRefW, SLawH, STypW. -/
import Derived.Test.YthmebgohfigfpaaLawA
import Derived.Test.YthmebgohfigfpaaRefP
import Derived.Test.YthmebgohfigfpaaRefA

set_option linter.unusedVariables false
set_option linter.unusedSimpArgs false

namespace Fen
open Go Go.Proofs
theorem fit_short {p : Ps} (hu : Bytes p.u) (h : SubsOK (shortF p).ps) : psFit (shortF p) := by
 refine ⟨⟨fun x hx => hu x (List.mem_of_mem_take hx), h⟩, ?_, ?_, ?_⟩ <;> simp [shortF] <;> omega
theorem feedF_on {x : Ps} {l : List Int} (hx : psFit x) (hl : Bytes l) (hn : l.length ≤ 4096) : psOn (feedF x l).1 ∧ EvsOK (feedF x l).2.1 ∧ psFit (feedF x l).1 := by
 have h0 : psFit (sbegin 0) := may_on may_begin.1 (fun y hy => by simp [sbegin] at hy)
 unfold feedF
 cases hm : may6 x with
 | false => exact ⟨h0.1, ⟨by simp, fun e he => by simp at he⟩, h0⟩
 | true =>
   simp only [if_true]
   rw [if_neg (by omega)]
   have q := may_on (feed_may hm hl) (feed_bytes hx.1.1 hl)
   exact ⟨q.1, feed_evsOK hm hl (by omega), q⟩
theorem short_subs (p : Ps) : SubsOK (shortF p).ps := by
 refine ⟨by simp [shortF]; omega, fun l hl => ?_⟩
 simp only [shortF, List.mem_map] at hl
 obtain ⟨a, _, rfl⟩ := hl
 simp; omega
def ShortIn (a : List V) : Prop := lshortSpec.pre a
def lshortoSpec : Spec := { pre := ShortIn, res := lshortSpec.res }
theorem lshorto_sound (gl : Gl) : Sound Try.prog gl 11 lshortoSpec := lshort_sound gl
def SomeIn (a : List V) : Prop := lsomeSpec.pre a
def lsomeoSpec : Spec := { pre := SomeIn, res := lsomeSpec.res }
theorem lsomeo_sound (gl : Gl) : Sound Try.prog gl 12 lsomeoSpec := lsome_sound gl
end Fen

namespace Fen
open Go Go.Proofs
theorem flatI (k : IntKind) (l : List Int) : l.flatMap (fun n => [C.int k n]) = ints k l := by
 induction l with
 | nil => rfl
 | cons a l ih => rw [List.flatMap_cons, ih]; rfl
theorem typed_par {d : Nat} {ks : List C} (h : Typed T d 51 ks) : ∃ l : List Int, ks = [subC l] ∧ l.length ≤ maxLen := by
 obtain ⟨d', parts, rfl, hk⟩ := typed_struct T_51 h
 match parts, hk with
 | [p0], ⟨h0, _⟩ =>
   obtain ⟨l, rfl, hl, _⟩ := typed_slice_of (en := fun n : Int => [C.int .i64 n]) (Q := fun _ => True) T_49 (fun d p h => by
     obtain ⟨n, rfl, q⟩ := typed_int T_3 h
     exact ⟨n, rfl, trivial⟩) h0
   exact ⟨l, by rw [flatI]; rfl, hl⟩
theorem flat_par (l : List (List Int)) : l.flatMap (fun x => [subC x]) = parC l := by
 induction l with
 | nil => rfl
 | cons a l ih => rw [List.flatMap_cons, ih]; rfl
theorem arg_parse {A : V} (h : TypedV T 25 A) : ∃ p : Ps, A = .agg (psC p) ∧ Bytes p.u ∧ p.u.length ≤ 9223372036854775807 ∧ p.it.length ≤ 9223372036854775807 ∧ p.tx.length ≤ 9223372036854775807 ∧ p.ps.length ≤ 9223372036854775807 ∧ ∀ r ∈ p.ps, r.length ≤ 9223372036854775807 := by
 obtain ⟨d, ks, rfl, hk0⟩ := arg_agg T_25 rfl h
 obtain ⟨d', parts, rfl, hk⟩ := typed_struct T_25 hk0
 match parts, hk with
 | [p0, p1, p2, p3, p4, p5, p6, p7], ⟨h0, h1, h2, h3, h4, h5, h6, h7, _⟩ =>
   obtain ⟨s, rfl, _⟩ := typed_int T_3 h0
   obtain ⟨U, rfl, hU, qU⟩ := typed_slice_of (en := fun n : Int => [C.int .u8 n]) (Q := fun n => 0 ≤ n ∧ n < 256) T_22 (fun d p h => by
     obtain ⟨n, rfl, q⟩ := typed_int T_5 h
     exact ⟨n, rfl, u8_rng q⟩) h1
   obtain ⟨a, rfl, _⟩ := typed_int T_5 h2
   obtain ⟨b, rfl, _⟩ := typed_int T_5 h3
   obtain ⟨P, rfl, hP, qP⟩ := typed_slice_of (en := fun x : List Int => [subC x]) (Q := fun x => x.length ≤ maxLen) T_23 (fun d p h => typed_par h) h4
   obtain ⟨t, rfl, ht⟩ := typed_str T_9 h5
   obtain ⟨x, rfl, hx⟩ := typed_str T_9 h6
   obtain ⟨w, rfl⟩ := typed_bool T_4 h7
   refine ⟨⟨s, U, a, b, P, t, x, w⟩, ?_, qU, ?_, ?_, ?_, ?_, fun r hr => ?_⟩
   · rw [flatI, flat_par]; rfl
   · exact hU
   · exact ht
   · exact hx
   · exact hP
   · exact qP r hr
end Fen

namespace Fen
open Go Go.Proofs
def SubsW (l : List (List Int)) : Prop := l.length ≤ 9223372036854775807 ∧ ∀ a ∈ l, a.length ≤ 9223372036854775807
def pequalwSpec : Spec := { pre := fun args => ∃ a b : List Int, args = [intsV a, intsV b] ∧ a.length ≤ 9223372036854775807, res := fun args => match args with
 | [.c (.sl _ a), .c (.sl _ b)] => .one (.val (.c (.bool (decide (nums a = nums b)))))
 | _ => .many [] }
def pequalSw (a b : List Int) (k : Nat) : St := ⟨26, [(0, .val (.sl a.length (ints .i64 a))), (1, .val (.sl b.length (ints .i64 b))), (12, .val (.int .i64 a.length)), (13, .val (.int .i64 k))], []⟩
def G_pequalw : Specs := []
@[simp] theorem G_pequalw_live : Specs.live G_pequalw = false := rfl
theorem G_pequalw_ok (gl : Gl) : SpecsOK Try.prog gl G_pequalw := .nil _ _
set_option maxRecDepth 10000 in
theorem pequalw_sound (gl : Gl) : Sound Try.prog gl 76 pequalwSpec := by
 refine sound_fn (N := Try.f76.ntmps) (rs := Try.f76.results.toList) mixed tok (G_pequalw_ok gl) Try.func76 rfl rfl rfl rfl rfl ?_ ?_ ?_
 · rintro args ⟨a,b,rfl,ha⟩; simp [intsV,nums_I, Try.f76]
 · rintro args ⟨a,b,rfl,ha⟩; simp [intsV,nums_I, pequalwSpec, Try.f76]
 · rintro args ⟨a,b,rfl,ha⟩ bs hgl hh hro
   have hE : Env.OK ⟨Try.prog, T, G_pequalw, bs⟩ := ⟨tok, by rw [hgl]; exact G_pequalw_ok gl⟩
   simp only [pequalwSpec, intsV,nums_I]
   rcases Decidable.em (a.length = b.length) with h1 | h1
   rotate_left
   · have e : decide (a = b) = false := by simp; rintro rfl; exact h1 rfl
     have h1' : ¬ (a.length : Int) = b.length := by omega
     simp [pequalwSpec, Try.f76, h1', e]
   simp [pequalwSpec, Try.f76, h1]
   refine AWP.rounds (fun k => k ≤ a.length ∧ a.take k = b.take k) (pequalSw a b) (fun k => a.length - k) 0 ⟨by simp, by simp⟩ ?_ ?_
   · refine Weak.keep ?_
     simp [pequalSw, h1]
   · rintro k ⟨hk, hc⟩
     refine wpc_ok hE mixed _ _ _ ?_
     rcases Nat.lt_or_ge k a.length with h | h
     · have w1 : IntKind.i64.wrap ((k : Int) + 1) = k + 1 := wrap64 _ (by omega) (by omega)
       have hb : k < b.length := by omega
       have hd := ints_at h
       have hdb := ints_at hb
       have ht := List.take_add_one (l := a) (i := k)
       have htb := List.take_add_one (l := b) (i := k)
       rw [List.getElem?_eq_getElem h] at ht
       rw [List.getElem?_eq_getElem hb] at htb
       have hne : ¬ a[k] = b[k] → ¬ a = b := fun q e => by subst e; exact q rfl
       generalize a[k] = x at *
       generalize b[k] = y at *
       by_cases hxy : x = y
       · have hxy' : (x = y) = True := eq_true hxy
         simp [pequalSw, hd, hdb, w1, h, hb, hxy']
         exact ⟨rfl, Next.mk (k + 1) ⟨h, by rw [ht, htb, hc, hxy]⟩ (by omega) (Weak.keep (by simp [pequalSw]))⟩
       · have hxy' : (x = y) = False := eq_false hxy
         have hab : (a = b) = False := eq_false (hne hxy)
         simp [pequalSw, hd, hdb, w1, h, hb, hxy', hab]
         exact rfl
     · have : k = a.length := by omega
       subst this
       have e : a = b := by
         rw [List.take_length, h1, List.take_length] at hc
         exact hc
       subst e
       simp [pequalSw]
def psame1wSpec : Spec := { pre := fun args => ∃ a b : List Int, args = [.agg [subC a], .agg [subC b]] ∧ a.length ≤ 9223372036854775807, res := fun args => match args with
 | [.agg [a], .agg [b]] => .one (.val (.c (.bool (decide (unI a = unI b)))))
 | _ => .many [] }
def G_psame1w : Specs := [(76, pequalwSpec)]
@[simp] theorem G_psame1w_live : Specs.live G_psame1w = false := rfl
@[simp] theorem G_psame1w_76 : G_psame1w.find 76 = some pequalwSpec := rfl
theorem G_psame1w_ok (gl : Gl) : SpecsOK Try.prog gl G_psame1w := .cons (pequalw_sound gl) (.nil _ _)
set_option maxRecDepth 10000 in
theorem psame1w_sound (gl : Gl) : Sound Try.prog gl 75 psame1wSpec := by
 refine sound_fn (N := Try.f75.ntmps) (rs := Try.f75.results.toList) mixed tok (G_psame1w_ok gl) Try.func75 rfl rfl rfl rfl rfl ?_ ?_ ?_
 · rintro args ⟨a,b,rfl,ha⟩; simp [unI_sub, Try.f75]
 · rintro args ⟨a,b,rfl,ha⟩; simp [unI_sub, psame1wSpec, Try.f75]
 · rintro args ⟨a,b,rfl,ha⟩ bs hgl hh hro
   have hE : Env.OK ⟨Try.prog, T, G_psame1w, bs⟩ := ⟨tok, by rw [hgl]; exact G_psame1w_ok gl⟩
   simp only [psame1wSpec, unI_sub]
   have hs : ∀ l : List Int, subC l = C.sl l.length (ints .i64 l) := fun _ => rfl
   have el : ∃ a' : List Int, a.length = a'.length ∧ a = a' ∧ a'.length ≤ 9223372036854775807 := ⟨a, rfl, rfl, ha⟩
   simp [and_assoc, psame1wSpec, pequalwSpec, Try.f75, hs, el, intsV]
def psamewSpec : Spec := { pre := fun args => ∃ a b : List (List Int), args = [parV a, parV b] ∧ SubsW a, res := fun args => match args with
 | [.c (.sl _ a), .c (.sl _ b)] => .one (.val (.c (.bool (decide (unP a = unP b)))))
 | _ => .many [] }
def peqfwSpec : Spec := { pre := fun args => ∃ a b : List (List Int), args = [parV a, parV b, .c (.fn 75 [])] ∧ SubsW a, res := fun args => match args with
 | [.c (.sl _ a), .c (.sl _ b), _] => .one (.val (.c (.bool (decide (unP a = unP b)))))
 | _ => .many [] }
def peqfSw (a b : List (List Int)) (k : Nat) : St := ⟨32, [(1, .val (.sl b.length (parC b))), (2, .val (.fn 75 [])), (15, .val (.sl a.length (parC a))), (16, .val (.int .i64 a.length)), (17, .val (.int .i64 k))], []⟩
def G_peqfw : Specs := [(75, psame1wSpec)]
@[simp] theorem G_peqfw_live : Specs.live G_peqfw = false := rfl
@[simp] theorem G_peqfw_75 : G_peqfw.find 75 = some psame1wSpec := rfl
theorem G_peqfw_ok (gl : Gl) : SpecsOK Try.prog gl G_peqfw := .cons (psame1w_sound gl) (.nil _ _)
set_option maxRecDepth 10000 in
theorem peqfw_sound (gl : Gl) : Sound Try.prog gl 74 peqfwSpec := by
 refine sound_fn (N := Try.f74.ntmps) (rs := Try.f74.results.toList) mixed tok (G_peqfw_ok gl) Try.func74 rfl rfl rfl rfl rfl ?_ ?_ ?_
 · rintro args ⟨a,b,rfl,ha1,ha2⟩; simp [unP_C,parV, Try.f74]
 · rintro args ⟨a,b,rfl,ha1,ha2⟩; simp [unP_C,parV, peqfwSpec, Try.f74]
 · rintro args ⟨a,b,rfl,ha1,ha2⟩ bs hgl hh hro
   have hE : Env.OK ⟨Try.prog, T, G_peqfw, bs⟩ := ⟨tok, by rw [hgl]; exact G_peqfw_ok gl⟩
   simp only [peqfwSpec, unP_C,parV]
   rcases Decidable.em (a.length = b.length) with h1 | h1
   rotate_left
   · have e : decide (a = b) = false := by simp; rintro rfl; exact h1 rfl
     have h1' : ¬ (a.length : Int) = b.length := by omega
     simp [peqfwSpec, psame1wSpec, Try.f74, h1', e]
   simp [peqfwSpec, psame1wSpec, Try.f74, h1]
   refine AWP.rounds (fun k => k ≤ a.length ∧ a.take k = b.take k) (peqfSw a b) (fun k => a.length - k) 0 ⟨by simp, by simp⟩ ?_ ?_
   · refine Weak.ren [] (baseOK.nil hh) (by simp) (by simp) ?_
     simp [peqfSw, h1]
   · rintro k ⟨hk, hc⟩
     refine wpc_ok hE mixed _ _ _ ?_
     rcases Nat.lt_or_ge k a.length with h | h
     · have w1 : IntKind.i64.wrap ((k : Int) + 1) = k + 1 := wrap64 _ (by omega) (by omega)
       have hb : k < b.length := by omega
       have hd := parC_at h
       have hdb := parC_at hb
       have ht := List.take_add_one (l := a) (i := k)
       have htb := List.take_add_one (l := b) (i := k)
       rw [List.getElem?_eq_getElem h] at ht
       rw [List.getElem?_eq_getElem hb] at htb
       have hne : ¬ a[k] = b[k] → ¬ a = b := fun q e => by subst e; exact q rfl
       have hx : (a[k]).length ≤ 9223372036854775807 := ha2 _ (List.getElem_mem h)
       generalize a[k] = x at *
       generalize b[k] = y at *
       have ex : ∃ a' : List Int, (subC x = subC a' ∧ ∃ b' : List Int, subC y = subC b') ∧ a'.length ≤ 9223372036854775807 := ⟨x, ⟨rfl, ⟨y, rfl⟩⟩, hx⟩
       by_cases hxy : x = y
       · have hxy' : (x = y) = True := eq_true hxy
         simp [peqfSw, psame1wSpec, hd, hdb, w1, h, hb, hxy', ex, unI_sub]
         exact Next.mk (k + 1) ⟨h, by rw [ht, htb, hc, hxy]⟩ (by omega) (Weak.ren [] (baseOK.nil hh) (by simp) (by simp) (by simp [peqfSw]))
       · have hxy' : (x = y) = False := eq_false hxy
         have hab : (a = b) = False := eq_false (hne hxy)
         simp [peqfSw, psame1wSpec, hd, hdb, w1, h, hb, hxy', hab, ex, unI_sub]
         done
     · have : k = a.length := by omega
       subst this
       have e : a = b := by
         rw [List.take_length, h1, List.take_length] at hc
         exact hc
       subst e
       simp [peqfSw]
def G_psamew : Specs := [(74, peqfwSpec)]
@[simp] theorem G_psamew_live : Specs.live G_psamew = false := rfl
@[simp] theorem G_psamew_74 : G_psamew.find 74 = some peqfwSpec := rfl
theorem G_psamew_ok (gl : Gl) : SpecsOK Try.prog gl G_psamew := .cons (peqfw_sound gl) (.nil _ _)
set_option maxRecDepth 10000 in
theorem psamew_sound (gl : Gl) : Sound Try.prog gl 44 psamewSpec := by
 refine sound_fn (N := Try.f44.ntmps) (rs := Try.f44.results.toList) mixed tok (G_psamew_ok gl) Try.func44 rfl rfl rfl rfl rfl ?_ ?_ ?_
 · rintro args ⟨a,b,rfl,ha1,ha2⟩; simp [unP_C,parV, Try.f44]
 · rintro args ⟨a,b,rfl,ha1,ha2⟩; simp [unP_C,parV, psamewSpec, Try.f44]
 · rintro args ⟨a,b,rfl,ha1,ha2⟩ bs hgl hh hro
   have hE : Env.OK ⟨Try.prog, T, G_psamew, bs⟩ := ⟨tok, by rw [hgl]; exact G_psamew_ok gl⟩
   simp only [psamewSpec, unP_C,parV]
   have el : ∃ a' : List (List Int), a.length = a'.length ∧ parC a = parC a' ∧ (∃ b' : List (List Int), b.length = b'.length ∧ parC b = parC b') ∧ SubsW a' := ⟨a, rfl, rfl, ⟨b, rfl, rfl⟩, ha1, ha2⟩
   simp [and_assoc, psamewSpec, peqfwSpec, Try.f44, el, parV]
   done
def alikewSpec : Spec := { pre := fun args => ∃ a b : Ev, args = [.agg (evC a), .agg (evC b)] ∧ SubsW a.ps, res := fun args => match args with
 | [.agg a, .agg b] => .one (.val (.c (.bool (decide (evOf a = evOf b)))))
 | _ => .many [] }
def G_alikew : Specs := [(44, psamewSpec)]
@[simp] theorem G_alikew_live : Specs.live G_alikew = false := rfl
@[simp] theorem G_alikew_44 : G_alikew.find 44 = some psamewSpec := rfl
theorem G_alikew_ok (gl : Gl) : SpecsOK Try.prog gl G_alikew := .cons (psamew_sound gl) (.nil _ _)
set_option maxHeartbeats 2000000 in
set_option maxRecDepth 10000 in
theorem alikew_sound (gl : Gl) : Sound Try.prog gl 30 alikewSpec := by
 refine sound_fn (N := Try.f30.ntmps) (rs := Try.f30.results.toList) mixed tok (G_alikew_ok gl) Try.func30 rfl rfl rfl rfl rfl ?_ ?_ ?_
 · rintro args ⟨a,b,rfl,ha⟩; simp [evOf_C, Try.f30]
 · rintro args ⟨a,b,rfl,ha⟩; simp [evOf_C, alikewSpec, Try.f30]
 · rintro args ⟨a,b,rfl,ha⟩ bs hgl hh hro
   have hE : Env.OK ⟨Try.prog, T, G_alikew, bs⟩ := ⟨tok, by rw [hgl]; exact G_alikew_ok gl⟩
   simp only [alikewSpec, evOf_C]
   simp [alikewSpec, psamewSpec, Try.f30, evC]
   refine ⟨fun h1 h2 h3 h4 h5 h6 => ⟨⟨⟨⟨⟨⟨h1, h2⟩, h3⟩, h4⟩, h5⟩, h6⟩, a.ps, ⟨rfl, b.ps, rfl⟩, ha⟩, ?_⟩
   rw [Bool.eq_iff_iff]
   cases a
   cases b
   simp
   constructor
   · rintro ⟨⟨⟨⟨⟨⟨rfl, rfl⟩, rfl⟩, rfl⟩, rfl⟩, rfl⟩, rfl⟩; simp
   · rintro ⟨rfl, rfl, rfl, rfl, rfl, rfl, rfl⟩; simp
def r05samewSpec : Spec := { pre := psamewSpec.pre, res := psamewSpec.res }
def r5Sw (a b : List (List Int)) (i : Nat) : St := ⟨58, [(0, .val (.sl a.length (parC a))), (1, .val (.sl b.length (parC b))), (5, .val (.int .i64 i))], []⟩
def r5Tw (a b : List (List Int)) (i k : Nat) : St := ⟨58, [(0, .val (.sl a.length (parC a))), (1, .val (.sl b.length (parC b))), (5, .val (.int .i64 i)), (6, .val (.int .i64 k))], []⟩
def G_r05samew : Specs := []
@[simp] theorem G_r05samew_live : Specs.live G_r05samew = false := rfl
theorem G_r05samew_ok (gl : Gl) : SpecsOK Try.prog gl G_r05samew := .nil _ _
set_option maxHeartbeats 4000000 in
set_option maxRecDepth 10000 in
theorem r05samew_sound (gl : Gl) : Sound Try.prog gl 36 r05samewSpec := by
 refine sound_awp (N := Try.f36.ntmps) (rs := Try.f36.results.toList) tok Try.func36 rfl rfl rfl rfl rfl ?_ ?_ ?_
 · rintro args ⟨a,b,rfl,ha1,ha2⟩; simp [unP_C,parV,psamewSpec, Try.f36]
 · rintro args ⟨a,b,rfl,ha1,ha2⟩; simp [unP_C,parV,psamewSpec, r05samewSpec, Try.f36]
 · rintro args ⟨a,b,rfl,ha1,ha2⟩ bs hgl hh hro
   have hE : Env.OK ⟨Try.prog, T, G_r05samew, bs⟩ := ⟨tok, by rw [hgl]; exact G_r05samew_ok gl⟩
   simp only [r05samewSpec, unP_C,parV,psamewSpec]
   rcases Decidable.em (a.length = b.length) with h1 | h1
   rotate_left
   · have e : decide (a = b) = false := by simp; rintro rfl; exact h1 rfl
     have h1' : ((a.length : Int) = b.length) = False := eq_false (by omega)
     refine wpc_ok hE mixed _ _ _ ?_
     simp [r05samewSpec, Try.f36, h1', e]
   have h1' : ((a.length : Int) = b.length) = True := eq_true (by omega)
   refine wpc_ok hE mixed _ _ _ ?_
   simp [r05samewSpec, Try.f36, h1']
   refine AWP.rounds (fun i => i ≤ a.length ∧ a.take i = b.take i) (r5Sw a b) (fun i => a.length - i) 0 ⟨by simp, by simp⟩ ?_ ?_
   · exact Weak.keep (by simp [r5Sw])
   · rintro i ⟨hi, ht⟩
     refine wpc_ok hE mixed _ _ _ ?_
     rcases Nat.lt_or_ge i a.length with h | h
     · have hb : i < b.length := by omega
       have w1 : IntKind.i64.wrap ((i : Int) + 1) = ((i + 1 : Nat) : Int) := by rw [wrap64 _ (by omega) (by omega)]; omega
       have hda := parC_at h
       have hdb := parC_at hb
       have ta := List.take_add_one (l := a) (i := i)
       have tb := List.take_add_one (l := b) (i := i)
       rw [List.getElem?_eq_getElem h] at ta
       rw [List.getElem?_eq_getElem hb] at tb
       have hne : ¬ a[i] = b[i] → ¬ a = b := fun q e => by subst e; exact q rfl
       have hxl := ha2 _ (List.getElem_mem h)
       have ilt : ((i : Int) < a.length) = True := eq_true (by omega)
       have ilb : ((i : Int) < b.length) = True := eq_true (by omega)
       have il0 : (0 ≤ (i : Int)) = True := eq_true (by omega)
       have la : ((parC a).length) = a.length := parC_len a
       have lb : ((parC b).length) = b.length := parC_len b
       have la2 : (0 < a.length - i) = True := eq_true (by omega)
       have lb2 : (0 < b.length - i) = True := eq_true (by omega)
       generalize a[i] = x at *
       generalize b[i] = y at *
       simp only [subC] at hda hdb
       by_cases hl : x.length = y.length
       · have hl' : ((x.length : Int) = y.length) = True := eq_true (by omega)
         simp [r5Sw, hda, hdb, ilt, ilb, la, lb, la2, lb2, hl']
         refine ⟨rfl, ?_⟩
         refine AWP.rounds (fun k => k ≤ x.length ∧ x.take k = y.take k) (r5Tw a b i) (fun k => x.length - k) 0 ⟨by simp, by simp⟩ ?_ ?_
         · exact Weak.keep (by simp [r5Tw])
         · rintro k ⟨hk, hc⟩
           refine wpc_ok hE mixed _ _ _ ?_
           rcases Nat.lt_or_ge k x.length with g | g
           · have gb : k < y.length := by omega
             have w2 : IntKind.i64.wrap ((k : Int) + 1) = ((k + 1 : Nat) : Int) := by rw [wrap64 _ (by omega) (by omega)]; omega
             have hd := ints_at g
             have hdy := ints_at gb
             have tx := List.take_add_one (l := x) (i := k)
             have ty := List.take_add_one (l := y) (i := k)
             rw [List.getElem?_eq_getElem g] at tx
             rw [List.getElem?_eq_getElem gb] at ty
             have hnx : ¬ x[k] = y[k] → ¬ x = y := fun q e => by subst e; exact q rfl
             have klt : ((k : Int) < x.length) = True := eq_true (by omega)
             have klb : ((k : Int) < y.length) = True := eq_true (by omega)
             generalize x[k] = u at *
             generalize y[k] = v at *
             by_cases huv : u = v
             · have huv' : (u = v) = True := eq_true huv
               simp [r5Tw, hda, hdb, ilt, ilb, la, lb, la2, lb2, klt, klb, hd, hdy, w2, huv', g, gb]
               exact ⟨rfl, Next.mk (k + 1) ⟨g, by rw [tx, ty, hc, huv]⟩ (by omega) (Weak.keep (by simp [r5Tw]))⟩
             · have huv' : (u = v) = False := eq_false huv
               have hab : (a = b) = False := eq_false (hne (hnx huv))
               simp [r5Tw, hda, hdb, ilt, ilb, la, lb, la2, lb2, klt, klb, hd, hdy, w2, huv', g, gb, hab]
               exact rfl
           · have : k = x.length := by omega
             subst this
             have e : x = y := by rw [List.take_length, hl, List.take_length] at hc; exact hc
             simp [r5Tw, hda, hdb, ilt, ilb, la, lb, la2, lb2, w1]
             exact Next.mk (i + 1) ⟨h, by rw [ta, tb, ht, e]⟩ (by omega) (Weak.keep (by simp [r5Sw]))
       · have hl' : ((x.length : Int) = y.length) = False := eq_false (by omega)
         have hab : (a = b) = False := eq_false (hne (fun e => hl (by rw [e])))
         simp [r5Sw, hda, hdb, ilt, ilb, la, lb, la2, lb2, hl', hab]
         exact rfl
     · have : i = a.length := by omega
       subst this
       have e : a = b := by
         rw [List.take_length, h1, List.take_length] at ht
         exact ht
       subst e
       simp [r5Sw]
def r6alikewSpec : Spec := { pre := alikewSpec.pre, res := alikewSpec.res }
def G_r6alikew : Specs := [(36, r05samewSpec)]
@[simp] theorem G_r6alikew_live : Specs.live G_r6alikew = false := rfl
@[simp] theorem G_r6alikew_36 : G_r6alikew.find 36 = some r05samewSpec := rfl
theorem G_r6alikew_ok (gl : Gl) : SpecsOK Try.prog gl G_r6alikew := .cons (r05samew_sound gl) (.nil _ _)
set_option maxHeartbeats 2000000 in
set_option maxRecDepth 10000 in
theorem r6alikew_sound (gl : Gl) : Sound Try.prog gl 19 r6alikewSpec := by
 refine sound_fn (N := Try.f19.ntmps) (rs := Try.f19.results.toList) mixed tok (G_r6alikew_ok gl) Try.func19 rfl rfl rfl rfl rfl ?_ ?_ ?_
 · rintro args ⟨a,b,rfl,ha⟩; simp [evOf_C,alikewSpec, Try.f19]
 · rintro args ⟨a,b,rfl,ha⟩; simp [evOf_C,alikewSpec, r6alikewSpec, Try.f19]
 · rintro args ⟨a,b,rfl,ha⟩ bs hgl hh hro
   have hE : Env.OK ⟨Try.prog, T, G_r6alikew, bs⟩ := ⟨tok, by rw [hgl]; exact G_r6alikew_ok gl⟩
   simp only [r6alikewSpec, evOf_C,alikewSpec]
   simp [r6alikewSpec, r05samewSpec, Try.f19, evC, psamewSpec]
   refine ⟨fun h1 h2 h3 h4 => ⟨⟨⟨⟨h1, h2⟩, h3⟩, h4⟩, a.ps, ⟨rfl, b.ps, rfl⟩, ha⟩, ?_⟩
   rw [Bool.eq_iff_iff]
   cases a
   cases b
   simp
   constructor
   · rintro ⟨⟨⟨⟨⟨⟨rfl, rfl⟩, rfl⟩, rfl⟩, rfl⟩, rfl⟩, rfl⟩; simp
   · rintro ⟨rfl, rfl, rfl, rfl, rfl, rfl, rfl⟩; simp
end Fen

namespace Fen
open Go Go.Proofs
def RCheckIn (a : List V) : Prop := rcheckSpec.pre a
def rcheckoSpec : Spec := { pre := RCheckIn, res := rcheckSpec.res }
theorem rchecko_sound (gl : Gl) : Sound Try.prog gl 28 rcheckoSpec := rcheck_sound gl
def ssameoSpec : Spec := { pre := SameIn, res := sameSpec.res }
theorem ssameo_sound (gl : Gl) : Sound Try.prog gl 29 ssameoSpec := same_sound gl
def AlikeIn (a : List V) : Prop := alikewSpec.pre a
def alikewoSpec : Spec := { pre := AlikeIn, res := alikewSpec.res }
theorem alikewo_sound (gl : Gl) : Sound Try.prog gl 30 alikewoSpec := alikew_sound gl
def r6alikewoSpec : Spec := { pre := AlikeIn, res := alikewSpec.res }
theorem r6alikewo_sound (gl : Gl) : Sound Try.prog gl 19 r6alikewoSpec := r6alikew_sound gl
def pssC (L : List Ps) : List C := L.flatMap psC
theorem psC_l8 (p : Ps) : (psC p).length = 8 := rfl
theorem pssC_drop : ∀ (L : List Ps) (i : Nat), (pssC L).drop (i * 8) = pssC (L.drop i)
 | [], i => by simp [pssC]
 | p :: L, 0 => by simp
 | p :: L, i + 1 => by
   have h : pssC (p :: L) = psC p ++ pssC L := by simp [pssC]
   rw [h, show (i + 1) * 8 = (psC p).length + i * 8 by rw [psC_l8]; omega, List.drop_append]
   simp only [Nat.add_sub_cancel_left, List.drop_succ_cons]
   rw [List.drop_eq_nil_of_le (by omega), List.nil_append]
   exact pssC_drop L i
theorem pssC_at {L : List Ps} {i : Nat} (h : i < L.length) : ((pssC L).drop (i * 8)).take 8 = psC L[i] := by
 rw [pssC_drop, List.drop_eq_getElem_cons h]
 have e : pssC (L[i] :: L.drop (i + 1)) = psC L[i] ++ pssC (L.drop (i + 1)) := by unfold pssC; rw [List.flatMap_cons]
 rw [e]
 exact List.take_left' (psC_l8 _)
theorem pssC_len (L : List Ps) : (pssC L).length = L.length * 8 := by
 induction L with
 | nil => rfl
 | cons p L ih =>
   have h : pssC (p :: L) = psC p ++ pssC L := by simp [pssC]
   rw [h, List.length_append, psC_l8, ih, List.length_cons]; omega
theorem it_le {p : Ps} (h : may6 p = true) : p.it.length ≤ 2 := by
 unfold may6 at h
 split at h
 · cases h
 · split at h
   · simp only [noneIn, Bool.and_eq_true, decide_eq_true_eq] at h
     rw [h.2.2.2.2.2.1]; simp
   · exact (whole_iff.1 h).it
def chkL (A B : Ps) (S m : Int) : List Ps := [A, B, { B with s := S }, { B with pv := m }, { B with fn := m }, { B with it := B.it ++ [u8B m] }, { B with bad := !B.bad }, { B with ps := A.ps }, { B with tx := A.tx }]
def pBx (p : Ps) : Blk := .box 25 ((psC p).map .val)
def chS (A B : Ps) (L : List Ps) (e0 e1 : Ev) (i : Nat) : St := ⟨144, [(4, .ptr 0 0 0), (7, .ptr 1 0 0), (9, .ptr 2 0 0), (10, .ptr 3 0 0), (11, .val (.int .i64 i))], [pBx A, .box 62 ((evC e0 ++ evC e1).map .val), pBx B, .box 63 ((pssC L).map .val)]⟩
def chX (A B : Ps) (L : List Ps) (e0 e1 : Ev) : St := ⟨144, [(4, .ptr 0 0 0), (7, .ptr 1 0 0), (12, .ptr 4 0 0), (13, .ptr 5 0 0)], [pBx A, .box 62 ((evC e0 ++ evC e1).map .val), pBx B, .box 63 ((pssC L).map .val), .box 42 ((evC e0).map .val), .box 42 ((evC e1).map .val)]⟩
def lawChecksSpec : Spec := { pre := fun args => ∃ (p : Ps) (b : List Int) (n : Int) (e0 e1 : Ev), args = [.agg (psC p), bytesV b, .c (.int .i64 n), .agg (evC e0 ++ evC e1)] ∧ Bytes p.u ∧ Bytes b ∧ (b.length : Int) ≤ 9223372036854775807 ∧ p.u.length ≤ 9223372036854775807 ∧ p.it.length ≤ 9223372036854775807 ∧ p.tx.length ≤ 9223372036854775807 ∧ p.ps.length ≤ 9223372036854775807 ∧ (∀ r ∈ p.ps, r.length ≤ 9223372036854775807) ∧ SubsW e0.ps ∧ SubsW e1.ps, res := fun _ => .one (.val (.c (.bool true))) }
def G_lawChecks : Specs := [(11, lshortoSpec), (12, lsomeoSpec), (18, checkoSpec), (28, rcheckoSpec), (29, ssameoSpec), (15, sameoSpec), (30, alikewoSpec), (19, r6alikewoSpec), (17, lworksSpec)]
@[simp] theorem G_lawChecks_live : Specs.live G_lawChecks = false := rfl
@[simp] theorem G_lawChecks_11 : G_lawChecks.find 11 = some lshortoSpec := rfl
@[simp] theorem G_lawChecks_12 : G_lawChecks.find 12 = some lsomeoSpec := rfl
@[simp] theorem G_lawChecks_18 : G_lawChecks.find 18 = some checkoSpec := rfl
@[simp] theorem G_lawChecks_28 : G_lawChecks.find 28 = some rcheckoSpec := rfl
@[simp] theorem G_lawChecks_29 : G_lawChecks.find 29 = some ssameoSpec := rfl
@[simp] theorem G_lawChecks_15 : G_lawChecks.find 15 = some sameoSpec := rfl
@[simp] theorem G_lawChecks_30 : G_lawChecks.find 30 = some alikewoSpec := rfl
@[simp] theorem G_lawChecks_19 : G_lawChecks.find 19 = some r6alikewoSpec := rfl
@[simp] theorem G_lawChecks_17 : G_lawChecks.find 17 = some lworksSpec := rfl
theorem G_lawChecks_ok (gl : Gl) : SpecsOK Try.prog gl G_lawChecks := .cons (lshorto_sound gl) (.cons (lsomeo_sound gl) (.cons (checko_sound gl) (.cons (rchecko_sound gl) (.cons (ssameo_sound gl) (.cons (sameo_sound gl) (.cons (alikewo_sound gl) (.cons (r6alikewo_sound gl) (.cons (lworks_sound gl) (.nil _ _)))))))))
set_option maxHeartbeats 16000000 in
set_option maxRecDepth 10000 in
theorem lawChecks_sound (gl : Gl) : Sound Try.prog gl 9 lawChecksSpec := by
 refine sound_awp (N := Try.f9.ntmps) (rs := Try.f9.results.toList) tok Try.func9 rfl rfl rfl rfl rfl ?_ ?_ ?_
 · rintro args ⟨p,b0,n,e0,e1,rfl,hpu,hb0,hbl,h1,h2,h3,h4,h5,he0,he1⟩; simp [bytesV, Try.f9]
 · rintro args ⟨p,b0,n,e0,e1,rfl,hpu,hb0,hbl,h1,h2,h3,h4,h5,he0,he1⟩; simp [bytesV, lawChecksSpec, Try.f9]
 · rintro args ⟨p,b0,n,e0,e1,rfl,hpu,hb0,hbl,h1,h2,h3,h4,h5,he0,he1⟩ bs hgl hh hro
   have hE : Env.OK ⟨Try.prog, T, G_lawChecks, bs⟩ := ⟨tok, by rw [hgl]; exact G_lawChecks_ok gl⟩
   simp only [lawChecksSpec, bytesV]
   obtain ⟨b, hb⟩ : ∃ b, b0.take 300 = b := ⟨_, rfl⟩
   have hby : Bytes b := by rw [← hb]; exact bytes_take hb0 300
   have hbn : b.length ≤ 300 := by rw [← hb]; simp; omega
   have mb : (if 300 < (b0.length : Int) then (300 : Int) else b0.length) = b.length := by rw [← hb]; simp; split <;> omega
   have lb : ((b.length : Int) ≤ b0.length) = True := eq_true (by rw [← hb]; simp; omega)
   have tb : b0.take b.length = b := by rw [← hb]; simp
   obtain ⟨A, hA⟩ : ∃ A, shortF p = A := ⟨_, rfl⟩
   obtain ⟨B, hB⟩ : ∃ B, (feedF (sbegin 0) b).1 = B := ⟨_, rfl⟩
   have h0 : psFit (sbegin 0) := may_on may_begin.1 (fun y hy => by simp [sbegin] at hy)
   have fA : psFit A := by rw [← hA]; exact fit_short hpu (short_subs p)
   have fB : psFit B := by rw [← hB]; exact (feedF_on h0 hby (by omega)).2.2
   have hit : B.it.length ≤ 2 := by
     rw [← hB]; unfold feedF
     rw [if_pos may_begin.1, if_neg (by omega)]
     exact it_le (feed_may may_begin.1 hby)
   have iSh : ShortIn [.agg (psC p)] := ⟨p, rfl, h1, h2, h3, h4, h5⟩
   have iSo : SomeIn [.c (.sl b.length (ints .u8 b))] := ⟨b, rfl, hby, by omega⟩
   have ep := psOf_C p
   simp only [psC] at iSh ep
   refine wpcU_ok hE mixed 16 _ _ _ ?_
   simp -implicitDefEqProofs [lawChecksSpec, alikewoSpec, checkoSpec, lshortoSpec, lsomeoSpec, lworksSpec, r6alikewoSpec, rcheckoSpec, sameoSpec, ssameoSpec, Try.f9, lshortSpec, lsomeSpec, psC, mb, lb, tb, iSh, iSo, hA, hB, ep, nums_u8]
   refine ⟨by omega, ?_⟩
   obtain ⟨S, hS⟩ : ∃ S, IntKind.i64.wrap (IntKind.i64.wrap ((IntKind.u64.wrap n).tmod 17) - 1) = S := ⟨_, rfl⟩
   obtain ⟨m, hm⟩ : ∃ m, IntKind.u8.wrap n = m := ⟨_, rfl⟩
   obtain ⟨L, hL⟩ : ∃ L, chkL A B S m = L := ⟨_, rfl⟩
   have Ll : L.length = 9 := by rw [← hL]; rfl
   have fL : ∀ X ∈ L, psFit X := by
     rw [← hL]
     simp only [chkL, List.forall_mem_cons, List.not_mem_nil, false_imp_iff, implies_true, and_true]
     obtain ⟨⟨b1, b2⟩, b3, b4, b5⟩ := fB
     obtain ⟨⟨a1, a2⟩, a3, a4, a5⟩ := fA
     refine ⟨⟨⟨a1, a2⟩, a3, a4, a5⟩, ⟨⟨b1, b2⟩, b3, b4, b5⟩, ⟨⟨b1, b2⟩, b3, b4, b5⟩, ⟨⟨b1, b2⟩, b3, b4, b5⟩, ⟨⟨b1, b2⟩, b3, b4, b5⟩, ⟨⟨b1, b2⟩, b3, ?_, b5⟩, ⟨⟨b1, b2⟩, b3, b4, b5⟩, ⟨⟨b1, a2⟩, b3, b4, b5⟩, ⟨⟨b1, b2⟩, b3, b4, a5⟩⟩
     simp; omega
   rw [hS, hm]
   refine AWP.rounds (fun i => i ≤ 9) (chS A B L e0 e1) (fun i => 9 - i) 0 (by omega) ?_ ?_
   · refine Weak.heap ?_ ?_
     · simp [chS, pBx, ← hL, chkL, pssC, psC, u8B, byteOf]
     · simp [chS]
   · intro i hi
     have pl := pssC_len L
     rw [Ll] at pl
     have t8 : ∀ q : Ps, (psC q).take 8 = psC q := fun _ => rfl
     have l8 : ∀ q : Ps, (psC q).length = 8 := fun _ => rfl
     rcases Nat.lt_or_ge i 9 with c | c
     · refine wpc_ok hE mixed _ _ _ ?_
       have hat := pssC_at (L := L) (i := i) (by omega)
       have hfX := fL _ (List.getElem_mem (show i < L.length by omega))
       have il : ((i : Int) < 9) = True := eq_true (by omega)
       have il' : (i < 9) = True := eq_true c
       have w1 : IntKind.i64.wrap ((i : Int) + 1) = ((i + 1 : Nat) : Int) := by rw [wrap64 _ (by omega) (by omega)]; omega
       generalize L[i] = X at *
       have k1 : CheckIn [.agg (psC X)] := ⟨X, rfl, hfX.1, hfX.2.1, hfX.2.2.1, hfX.2.2.2⟩
       have k2 : RCheckIn [.agg (psC X)] := ⟨X, rfl, hfX⟩
       have k3 : SameIn [.agg (psC X), .agg (psC B)] := ⟨X, B, rfl, hfX.1, fB.1.1⟩
       have k4 : SameIn [.agg (psC X), .agg (psC A)] := ⟨X, A, rfl, hfX.1, fA.1.1⟩
       have l72 : 8 ≤ 72 - i * 8 := by omega
       simp -implicitDefEqProofs [chS, pBx, and_assoc, alikewoSpec, checkoSpec, lshortoSpec, lsomeoSpec, lworksSpec, r6alikewoSpec, rcheckoSpec, sameoSpec, ssameoSpec, checkSpec, rcheckSpec, sameSpec, psOf_C, hat, il, il', w1, k1, k2, k3, k4, t8, l8, pl]
       exact ⟨l72, rfl, Next.mk (i + 1) (by omega) (by omega) (Weak.heap (by simp [chS, pBx]) (by simp [chS]))⟩
     · obtain rfl : i = 9 := by omega
       have a1 : AlikeIn [.agg (evC e0), .agg (evC e1)] := ⟨e0, e1, rfl, he0⟩
       have a2 : AlikeIn [.agg (evC e0), .agg (evC { e1 with k := e0.k, ps := e0.ps })] := ⟨e0, _, rfl, he0⟩
       have a3 : AlikeIn [.agg (evC e0), .agg (evC e0)] := ⟨e0, e0, rfl, he0⟩
       have ee := evOf_C e0
       have e1e := evOf_C e1
       have e2e := evOf_C { e1 with k := e0.k, ps := e0.ps }
       simp only [evC] at a1 a2 a3 ee e1e e2e
       refine wpc_ok hE mixed _ _ _ ?_
       simp -implicitDefEqProofs [chS, pBx]
       refine AWP.comes (chX A B L e0 e1) (AWP.draw2 hE mixed [0, 1, 2, 3] 4 5 [6, 7] ?_ ?_) ?_
       · simp -implicitDefEqProofs [evC]
         repeat (refine And.intro (by decide +kernel) ?_)
         refine Comes.mk ?_
         exact Weak.ren [some 0, some 1, some 2, some 3, some 4, some 5] (baseOK.nil hh) (by simp) (by simp [chX, pBx, evC]) (by simp [chX, pBx])
       · simp -implicitDefEqProofs [evC]
         repeat (refine And.intro (by decide +kernel) ?_)
         refine Comes.mk ?_
         exact Weak.ren [some 0, some 1, some 2, some 3, some 5, some 4] (baseOK.nil hh) (by simp) (by simp [chX, pBx, evC]) (by simp [chX, pBx])
       simp -implicitDefEqProofs [chX, pBx, and_assoc, alikewoSpec, checkoSpec, lshortoSpec, lsomeoSpec, lworksSpec, r6alikewoSpec, rcheckoSpec, sameoSpec, ssameoSpec, evC, alikewSpec, a1, a2, a3, ee, e1e, e2e, worksIn]
       exact ⟨rfl, rfl⟩
end Fen

namespace Fen
open Go Go.Proofs
theorem arg_i64 {A : V} (h : TypedV T 3 A) : ∃ n : Int, A = .c (.int .i64 n) ∧ True := by
 obtain ⟨n, rfl, _⟩ := arg_int T_3 h
 exact ⟨n, rfl, trivial⟩
theorem typed_event {d : Nat} {ks : List C} (h : Typed T d 42 ks) : ∃ e : Ev, ks = evC e ∧ SubsW e.ps := by
 obtain ⟨d', parts, rfl, hk⟩ := typed_struct T_42 h
 match parts, hk with
 | [p0, p1, p2, p3, p4, p5, p6], ⟨h0, h1, h2, h3, h4, h5, h6, _⟩ =>
   obtain ⟨k, rfl, _⟩ := typed_int T_3 h0
   obtain ⟨c, rfl, _⟩ := typed_int T_3 h1
   obtain ⟨a, rfl, _⟩ := typed_int T_5 h2
   obtain ⟨b, rfl, _⟩ := typed_int T_5 h3
   obtain ⟨P, rfl, hP, qP⟩ := typed_slice_of (en := fun x : List Int => [subC x]) (Q := fun x => x.length ≤ maxLen) T_23 (fun d p h => typed_par h) h4
   obtain ⟨t, rfl, ht⟩ := typed_str T_9 h5
   obtain ⟨x, rfl, hx⟩ := typed_str T_9 h6
   refine ⟨⟨k, c, a, b, P, t, x⟩, ?_, hP, fun r hr => qP r hr⟩
   rw [flat_par]; rfl
theorem arg_evs {A : V} (h : TypedV T 62 A) : ∃ e0 e1 : Ev, A = .agg (evC e0 ++ evC e1) ∧ SubsW e0.ps ∧ SubsW e1.ps := by
 obtain ⟨d, ks, rfl, hk0⟩ := arg_agg T_62 rfl h
 obtain ⟨d', parts, rfl, hl, hk⟩ := typed_array T_62 hk0
 match parts, hl with
 | [p0, p1], _ =>
   obtain ⟨e0, rfl, h0⟩ := typed_event (hk p0 (by simp))
   obtain ⟨e1, rfl, h1⟩ := typed_event (hk p1 (by simp))
   exact ⟨e0, e1, by simp, h0, h1⟩
end Fen
