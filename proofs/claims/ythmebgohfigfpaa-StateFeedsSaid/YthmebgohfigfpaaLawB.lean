/- A part of the proof; no statement is proved here: SLawF, STypV. -/
import Derived.Test.YthmebgohfigfpaaLawA
import Derived.Test.YthmebgohfigfpaaRefP
import Derived.Test.YthmebgohfigfpaaRefA

set_option linter.unusedVariables false
set_option linter.unusedSimpArgs false

namespace Fen
open Go Go.Proofs

theorem fit_short {p : Ps} (hu : Bytes p.u) (h : SubsOK (shortF p).ps) : psFit (shortF p) := by
  refine ⟨⟨fun x hx => hu x (List.mem_of_mem_take hx), h⟩, ?_, ?_, ?_⟩ <;> simp [shortF] <;> omega
theorem feedF_on {x : Ps} {l : List Int} (hx : psFit x) (hl : Bytes l) (hn : l.length ≤ 4096) : psOn (feedF x l).1 ∧ EvsOK (feedF x l).2.1 ∧ psFit (feedF x l).1 := by
  have h0 : psFit (sbegin 0) := may_on may_begin.1 (fun y hy => by simp [sbegin] at hy)
  unfold feedF
  cases hm : may6 x with
  | false => exact ⟨h0.1, ⟨by simp, fun e he => by simp at he⟩, h0⟩
  | true =>
    simp only [if_true]
    rw [if_neg (by omega)]
    have q := may_on (feed_may hm hl) (feed_bytes hx.1.1 hl)
    exact ⟨q.1, feed_evsOK hm hl (by omega), q⟩
theorem short_subs (p : Ps) : SubsOK (shortF p).ps := by
  refine ⟨by simp [shortF]; omega, fun l hl => ?_⟩
  simp only [shortF, List.mem_map] at hl
  obtain ⟨a, _, rfl⟩ := hl
  simp; omega
def ShortIn (a : List V) : Prop := lshortSpec.pre a
def lshortoSpec : Spec := { pre := ShortIn, res := lshortSpec.res }
theorem lshorto_sound (gl : Gl) : Sound Try.prog gl 11 lshortoSpec := lshort_sound gl
def SomeIn (a : List V) : Prop := lsomeSpec.pre a
def lsomeoSpec : Spec := { pre := SomeIn, res := lsomeSpec.res }
theorem lsomeo_sound (gl : Gl) : Sound Try.prog gl 12 lsomeoSpec := lsome_sound gl
def psAll (A B : Ps) : List C := psC A ++ (psC B ++ psC (sbegin 0))
def fdsS (A B : Ps) (l : List Int) (i : Nat) : St := ⟨65, [(2, .val (.sl l.length (ints .u8 l))), (30, .agg (psAll A B)), (31, .val (.int .i64 i))], []⟩
def lawFeedsSpec : Spec := { pre := fun args => ∃ (p : Ps) (a b : List Int), args = [.agg (psC p), bytesV a, bytesV b] ∧ Bytes p.u ∧ Bytes a ∧ Bytes b ∧ (a.length : Int) ≤ 9223372036854775807 ∧ (b.length : Int) ≤ 9223372036854775807 ∧ p.u.length ≤ 9223372036854775807 ∧ p.it.length ≤ 9223372036854775807 ∧ p.tx.length ≤ 9223372036854775807 ∧ p.ps.length ≤ 9223372036854775807 ∧ ∀ r ∈ p.ps, r.length ≤ 9223372036854775807, res := fun _ => .one (.val (.c (.bool true))) }
def G_lawFeeds : Specs := [(11, lshortoSpec), (12, lsomeoSpec), (13, feedoSpec), (14, rfeedoSpec), (15, sameoSpec), (16, eventsoSpec), (17, lworksSpec)]
@[simp] theorem G_lawFeeds_live : Specs.live G_lawFeeds = false := rfl
@[simp] theorem G_lawFeeds_11 : G_lawFeeds.find 11 = some lshortoSpec := rfl
@[simp] theorem G_lawFeeds_12 : G_lawFeeds.find 12 = some lsomeoSpec := rfl
@[simp] theorem G_lawFeeds_13 : G_lawFeeds.find 13 = some feedoSpec := rfl
@[simp] theorem G_lawFeeds_14 : G_lawFeeds.find 14 = some rfeedoSpec := rfl
@[simp] theorem G_lawFeeds_15 : G_lawFeeds.find 15 = some sameoSpec := rfl
@[simp] theorem G_lawFeeds_16 : G_lawFeeds.find 16 = some eventsoSpec := rfl
@[simp] theorem G_lawFeeds_17 : G_lawFeeds.find 17 = some lworksSpec := rfl
theorem G_lawFeeds_ok (gl : Gl) : SpecsOK Try.prog gl G_lawFeeds := .cons (lshorto_sound gl) (.cons (lsomeo_sound gl) (.cons (feedo_sound gl) (.cons (rfeedo_sound gl) (.cons (sameo_sound gl) (.cons (eventso_sound gl) (.cons (lworks_sound gl) (.nil _ _)))))))
set_option maxHeartbeats 8000000 in
set_option maxRecDepth 10000 in
theorem lawFeeds_sound (gl : Gl) : Sound Try.prog gl 3 lawFeedsSpec := by
  refine sound_awp (N := Try.f3.ntmps) (rs := Try.f3.results.toList) tok Try.func3 rfl rfl rfl rfl rfl ?_ ?_ ?_
  · rintro args ⟨p,a0,b0,rfl,hpu,ha0,hb0,hal,hbl,h1,h2,h3,h4,h5⟩; simp [bytesV, Try.f3]
  · rintro args ⟨p,a0,b0,rfl,hpu,ha0,hb0,hal,hbl,h1,h2,h3,h4,h5⟩; simp [bytesV, lawFeedsSpec, Try.f3]
  · rintro args ⟨p,a0,b0,rfl,hpu,ha0,hb0,hal,hbl,h1,h2,h3,h4,h5⟩ bs hgl hh hro
    have hE : Env.OK ⟨Try.prog, T, G_lawFeeds, bs⟩ := ⟨tok, by rw [hgl]; exact G_lawFeeds_ok gl⟩
    simp only [lawFeedsSpec, bytesV]
    obtain ⟨a, ha⟩ : ∃ a, a0.take 400 = a := ⟨_, rfl⟩
    obtain ⟨b, hb⟩ : ∃ b, b0.take 400 = b := ⟨_, rfl⟩
    have hay : Bytes a := by rw [← ha]; exact bytes_take ha0 400
    have hby : Bytes b := by rw [← hb]; exact bytes_take hb0 400
    have han : a.length ≤ 400 := by rw [← ha]; simp; omega
    have hbn : b.length ≤ 400 := by rw [← hb]; simp; omega
    have ma : (if 400 < (a0.length : Int) then (400 : Int) else a0.length) = a.length := by rw [← ha]; simp; split <;> omega
    have mb : (if 400 < (b0.length : Int) then (400 : Int) else b0.length) = b.length := by rw [← hb]; simp; split <;> omega
    have la : ((a.length : Int) ≤ a0.length) = True := eq_true (by rw [← ha]; simp; omega)
    have lb : ((b.length : Int) ≤ b0.length) = True := eq_true (by rw [← hb]; simp; omega)
    have ta : a0.take a.length = a := by rw [← ha]; simp
    have tb : b0.take b.length = b := by rw [← hb]; simp
    obtain ⟨A, hA⟩ : ∃ A, shortF p = A := ⟨_, rfl⟩
    obtain ⟨B, hB⟩ : ∃ B, (feedF (sbegin 0) a).1 = B := ⟨_, rfl⟩
    have h0 : psFit (sbegin 0) := may_on may_begin.1 (fun y hy => by simp [sbegin] at hy)
    have fA : psFit A := by rw [← hA]; exact fit_short hpu (short_subs p)
    have fB : psFit B := by rw [← hB]; exact (feedF_on h0 hay (by omega)).2.2
    have iSh : ShortIn [.agg (psC p)] := ⟨p, rfl, h1, h2, h3, h4, h5⟩
    have iSo : SomeIn [.c (.sl a.length (ints .u8 a))] := ⟨a, rfl, hay, by omega⟩
    have t8 : ∀ q : Ps, (psC q).take 8 = psC q := fun _ => rfl
    have d8 : ∀ q : Ps, ((psC q).map X.val).drop 8 = [] := fun _ => rfl
    refine wpc_ok hE mixed _ _ _ ?_
    simp [lawFeedsSpec, eventsoSpec, feedoSpec, lshortoSpec, lsomeoSpec, lworksSpec, rfeedoSpec, sameoSpec, Try.f3, lshortSpec, lsomeSpec, ma, mb, la, lb, ta, tb, iSh, iSo, hA, hB, t8, d8, nums_u8]
    refine ⟨rfl, ?_⟩
    have key : ∀ x : Ps, psFit x → FeedIn [.agg (psC x), .c (.sl b.length (ints .u8 b))] ∧ RFeedIn [.agg (psC x), .c (.sl b.length (ints .u8 b))] ∧ SameIn [.agg (psC (feedF x b).1), .agg (psC (feedF x b).1)] ∧ EventsIn [.c (.sl (feedF x b).2.1.length (evsC (feedF x b).2.1)), .c (.sl (feedF x b).2.1.length (evsC (feedF x b).2.1))] := fun x hx => by
      have q := feedF_on hx hby (by omega)
      exact ⟨⟨x, b, rfl, hx, hby, by omega⟩, ⟨x, b, rfl, hx, hby, by omega⟩, ⟨(feedF x b).1, (feedF x b).1, rfl, q.1, q.1.1⟩, ⟨(feedF x b).2.1, (feedF x b).2.1, rfl, q.2.1⟩⟩
    have xl : (psAll A B).length = 24 := rfl
    have x0 : (psAll A B).take 8 = psC A := rfl
    have x1 : ((psAll A B).drop 8).take 8 = psC B := rfl
    have x2 : ((psAll A B).drop 16).take 8 = psC (sbegin 0) := rfl
    refine AWP.rounds (fun i => i ≤ 3) (fdsS A B b) (fun i => 3 - i) 0 (by simp) ?_ ?_
    · exact Weak.ren [] (baseOK.nil hh) (by simp) (by simp [fdsS]) (by simp [fdsS]; rfl)
    · intro i hi
      refine wpc_ok hE mixed _ _ _ ?_
      have hc : i = 0 ∨ i = 1 ∨ i = 2 ∨ i = 3 := by omega
      rcases hc with rfl | rfl | rfl | rfl
      case' inl => obtain ⟨k1, k2, k3, k4⟩ := key A fA
      case' inr.inl => obtain ⟨k1, k2, k3, k4⟩ := key B fB
      case' inr.inr.inl => obtain ⟨k1, k2, k3, k4⟩ := key (sbegin 0) h0
      case' inr.inr.inr => have k1 := h0; have k2 := h0; have k3 := h0; have k4 := h0
      all_goals simp [fdsS, and_assoc, eventsoSpec, feedoSpec, lshortoSpec, lsomeoSpec, lworksSpec, rfeedoSpec, sameoSpec, worksIn, sfeedSpec, rfeedSpec, sameSpec, eventsSpec, nums_u8, psOf_C, unE_C, k1, k2, k3, k4, x0, x1, x2, xl, t8, d8]
      all_goals first | exact Next.mk 1 (by omega) (by omega) (Weak.ren [] (baseOK.nil hh) (by simp) (by simp [fdsS]) (by simp [fdsS])) | exact Next.mk 2 (by omega) (by omega) (Weak.ren [] (baseOK.nil hh) (by simp) (by simp [fdsS]) (by simp [fdsS])) | exact Next.mk 3 (by omega) (by omega) (Weak.ren [] (baseOK.nil hh) (by simp) (by simp [fdsS]) (by simp [fdsS]))
end Fen

namespace Fen
open Go Go.Proofs

theorem flatI (k : IntKind) (l : List Int) : l.flatMap (fun n => [C.int k n]) = ints k l := by
  induction l with
  | nil => rfl
  | cons a l ih => rw [List.flatMap_cons, ih]; rfl
theorem typed_par {d : Nat} {ks : List C} (h : Typed T d 51 ks) : ∃ l : List Int, ks = [subC l] ∧ l.length ≤ maxLen := by
  obtain ⟨d', parts, rfl, hk⟩ := typed_struct T_51 h
  match parts, hk with
  | [p0], ⟨h0, _⟩ =>
    obtain ⟨l, rfl, hl, _⟩ := typed_slice_of (en := fun n : Int => [C.int .i64 n]) (Q := fun _ => True) T_49 (fun d p h => by
      obtain ⟨n, rfl, q⟩ := typed_int T_3 h
      exact ⟨n, rfl, trivial⟩) h0
    exact ⟨l, by rw [flatI]; rfl, hl⟩
theorem flat_par (l : List (List Int)) : l.flatMap (fun x => [subC x]) = parC l := by
  induction l with
  | nil => rfl
  | cons a l ih => rw [List.flatMap_cons, ih]; rfl
theorem arg_parse {A : V} (h : TypedV T 25 A) : ∃ p : Ps, A = .agg (psC p) ∧ Bytes p.u ∧ p.u.length ≤ 9223372036854775807 ∧ p.it.length ≤ 9223372036854775807 ∧ p.tx.length ≤ 9223372036854775807 ∧ p.ps.length ≤ 9223372036854775807 ∧ ∀ r ∈ p.ps, r.length ≤ 9223372036854775807 := by
  obtain ⟨d, ks, rfl, hk0⟩ := arg_agg T_25 rfl h
  obtain ⟨d', parts, rfl, hk⟩ := typed_struct T_25 hk0
  match parts, hk with
  | [p0, p1, p2, p3, p4, p5, p6, p7], ⟨h0, h1, h2, h3, h4, h5, h6, h7, _⟩ =>
    obtain ⟨s, rfl, _⟩ := typed_int T_3 h0
    obtain ⟨U, rfl, hU, qU⟩ := typed_slice_of (en := fun n : Int => [C.int .u8 n]) (Q := fun n => 0 ≤ n ∧ n < 256) T_22 (fun d p h => by
      obtain ⟨n, rfl, q⟩ := typed_int T_5 h
      exact ⟨n, rfl, u8_rng q⟩) h1
    obtain ⟨a, rfl, _⟩ := typed_int T_5 h2
    obtain ⟨b, rfl, _⟩ := typed_int T_5 h3
    obtain ⟨P, rfl, hP, qP⟩ := typed_slice_of (en := fun x : List Int => [subC x]) (Q := fun x => x.length ≤ maxLen) T_23 (fun d p h => typed_par h) h4
    obtain ⟨t, rfl, ht⟩ := typed_str T_9 h5
    obtain ⟨x, rfl, hx⟩ := typed_str T_9 h6
    obtain ⟨w, rfl⟩ := typed_bool T_4 h7
    refine ⟨⟨s, U, a, b, P, t, x, w⟩, ?_, qU, ?_, ?_, ?_, ?_, fun r hr => ?_⟩
    · rw [flatI, flat_par]; rfl
    · exact hU
    · exact ht
    · exact hx
    · exact hP
    · exact qP r hr
end Fen
