/- A part of the proof; no statement is proved here: SLawA. -/
import Derived.Test.YthmebgohfigfpaaRefA

set_option linter.unusedVariables false
set_option linter.unusedSimpArgs false

namespace Fen
open Go Go.Proofs

/-! ### the contracts with their conditions under one name -/
def FeedIn (a : List V) : Prop := sfeedSpec.pre a
def feedoSpec : Spec := { pre := FeedIn, res := sfeedSpec.res }
theorem feedo_sound (gl : Gl) : Sound Try.prog gl 13 feedoSpec := sfeed_sound gl
def CheckIn (a : List V) : Prop := checkSpec.pre a
def checkoSpec : Spec := { pre := CheckIn, res := checkSpec.res }
theorem checko_sound (gl : Gl) : Sound Try.prog gl 18 checkoSpec := scheck_sound gl
def SameIn (a : List V) : Prop := sameSpec.pre a
def sameoSpec : Spec := { pre := SameIn, res := sameSpec.res }
theorem sameo_sound (gl : Gl) : Sound Try.prog gl 15 sameoSpec := r6same_sound gl
def EventsIn (a : List V) : Prop := eventsSpec.pre a
def eventsoSpec : Spec := { pre := EventsIn, res := eventsSpec.res }
theorem eventso_sound (gl : Gl) : Sound Try.prog gl 16 eventsoSpec := events_sound gl
theorem worksIn : lworksSpec.pre [] := rfl

@[simp] theorem renXs_val (h h' : List Blk) (ids : List (Option Nat)) : ∀ cs : List C, renXs h h' ids (cs.map X.val) (cs.map X.val) = True
  | [] => by simp [renXs]
  | c :: cs => by simp [renXs, renX, renXs_val h h' ids cs]
def gotH (evs : List Ev) : List Blk := [.sl tE 0 true 7 evs.length (evsC evs)]
theorem feed_off (p : Ps) (l : List Int) (k n : Nat) : feed6 p (l.take (k + n)) = ((feed6 (feed6 p (l.take k)).1 ((l.drop k).take n)).1, (feed6 p (l.take k)).2 ++ (feed6 (feed6 p (l.take k)).1 ((l.drop k).take n)).2) := by
  rw [← feed6_app, List.take_add]
def pBox (p : Ps) : Blk := .box 25 ((psC p).map .val)
def chuS (b c : List Int) (E : Ps × List Ev) (k i : Nat) : St := ⟨100, [(0, .val (.sl b.length (ints .u8 b))), (1, .val (.sl c.length (ints .u8 c))), (5, .ptr 0 0 0), (6, .val (.sl E.2.length (evsC E.2))), (7, .val (.int .i64 0)), (8, .ptr 1 0 0), (9, .ref 2 0), (10, .val (.int .i64 k)), (11, .val (.int .i64 i))], pBox E.1 :: pBox (feed6 (sbegin 0) (b.take k)).1 :: gotH (feed6 (sbegin 0) (b.take k)).2⟩
def chuT (b c : List Int) (E y : Ps × List Ev) (k i n : Nat) : St := ⟨100, [(0, .val (.sl b.length (ints .u8 b))), (1, .val (.sl c.length (ints .u8 c))), (5, .ptr 0 0 0), (6, .val (.sl E.2.length (evsC E.2))), (7, .val (.int .i64 0)), (8, .ptr 1 0 0), (9, .ref 2 0), (10, .val (.int .i64 k)), (11, .val (.int .i64 i)), (12, .val (.int .i64 n))], pBox E.1 :: pBox y.1 :: gotH y.2⟩
def lawChunksSpec : Spec := { pre := fun args => ∃ b c : List Int, args = [bytesV b, bytesV c] ∧ Bytes b ∧ Bytes c ∧ (b.length : Int) ≤ 9223372036854775807 ∧ (c.length : Int) ≤ 9223372036854775807, res := fun _ => .one (.val (.c (.bool true))) }
def G_lawChunks : Specs := [(17, lworksSpec), (13, feedoSpec), (18, checkoSpec), (15, sameoSpec), (16, eventsoSpec)]
@[simp] theorem G_lawChunks_live : Specs.live G_lawChunks = false := rfl
@[simp] theorem G_lawChunks_17 : G_lawChunks.find 17 = some lworksSpec := rfl
@[simp] theorem G_lawChunks_13 : G_lawChunks.find 13 = some feedoSpec := rfl
@[simp] theorem G_lawChunks_18 : G_lawChunks.find 18 = some checkoSpec := rfl
@[simp] theorem G_lawChunks_15 : G_lawChunks.find 15 = some sameoSpec := rfl
@[simp] theorem G_lawChunks_16 : G_lawChunks.find 16 = some eventsoSpec := rfl
theorem G_lawChunks_ok (gl : Gl) : SpecsOK Try.prog gl G_lawChunks := .cons (lworks_sound gl) (.cons (feedo_sound gl) (.cons (checko_sound gl) (.cons (sameo_sound gl) (.cons (eventso_sound gl) (.nil _ _)))))
set_option maxHeartbeats 8000000 in
set_option maxRecDepth 10000 in
theorem lawChunks_sound (gl : Gl) : Sound Try.prog gl 4 lawChunksSpec := by
  refine sound_awp (N := Try.f4.ntmps) (rs := Try.f4.results.toList) tok Try.func4 rfl rfl rfl rfl rfl ?_ ?_ ?_
  · rintro args ⟨b0,c,rfl,hb0,hc,hbl,hcl⟩; simp [bytesV, Try.f4]
  · rintro args ⟨b0,c,rfl,hb0,hc,hbl,hcl⟩; simp [bytesV, lawChunksSpec, Try.f4]
  · rintro args ⟨b0,c,rfl,hb0,hc,hbl,hcl⟩ bs hgl hh hro
    have hE : Env.OK ⟨Try.prog, T, G_lawChunks, bs⟩ := ⟨tok, by rw [hgl]; exact G_lawChunks_ok gl⟩
    simp only [lawChunksSpec, bytesV]
    obtain ⟨b, hb⟩ : ∃ b, b0.take 400 = b := ⟨_, rfl⟩
    have hby : Bytes b := by rw [← hb]; exact bytes_take hb0 400
    have hbn : b.length ≤ 400 := by rw [← hb]; simp; omega
    have hmin : (if 400 < (b0.length : Int) then (400 : Int) else b0.length) = b.length := by rw [← hb]; simp; split <;> omega
    have hble : ((b.length : Int) ≤ b0.length) = True := eq_true (by rw [← hb]; simp; omega)
    have htk : b0.take b.length = b := by rw [← hb]; simp
    have e3 : psOf [.int .i64 0, .sl 0 [], .int .u8 0, .int .u8 0, .sl 0 [], .str [], .str [], .bool false] = sbegin 0 := rfl
    have hm0 : may6 (sbegin 0) = true := may_begin.1
    have hu0 : Bytes (sbegin 0).u := fun x hx => by simp [sbegin] at hx
    have hFe : ∀ {p : Ps} {l : List Int}, may6 p = true → l.length ≤ 400 → feedF p l = ((feed6 p l).1, (feed6 p l).2, 0) := fun {p l} h h2 => by
      unfold feedF; rw [if_pos h, if_neg (by omega)]
    have hF0 := hFe hm0 hbn
    obtain ⟨E, hE0⟩ : ∃ E, feed6 (sbegin 0) b = E := ⟨_, rfl⟩
    rw [hE0] at hF0
    have hEm : may6 E.1 = true := by rw [← hE0]; exact feed_may hm0 hby
    have hEu : Bytes E.1.u := by rw [← hE0]; exact feed_bytes hu0 hby
    refine wpc_ok hE mixed _ _ _ ?_
    simp [lawChunksSpec, checkoSpec, eventsoSpec, feedoSpec, lworksSpec, sameoSpec, Try.f4, sfeedSpec, worksIn, hmin, hble, htk, e3, nums_u8, hF0]
    refine ⟨⟨sbegin 0, b, rfl, may_on hm0 hu0, hby, by omega⟩, ?_⟩
    refine AWP.rounds (fun x => x.1 ≤ b.length ∧ (x.1 < b.length → x.2 ≤ 100) ∧ x.2 ≤ 101) (fun x => chuS b c E x.1 x.2) (fun x => if x.1 < b.length then 101 - x.2 else 0) (0, 0) (by simp) ?_ ?_
    · exact Weak.ren [some 0, some 1, none] (baseOK.nil hh) (by simp) (by simp [chuS, gotH, pBox, feed6, sbegin, psC, ints, parC, evsC]) (by simp [chuS, gotH, pBox, feed6, sbegin, psC, ints, parC])
    · rintro ⟨k, i⟩ ⟨h1, h2, h3⟩
      simp only at h1 h2 h3
      have hkm := feed_may (l := b.take k) hm0 (bytes_take hby k)
      have hku := feed_bytes (l := b.take k) hu0 (bytes_take hby k)
      rcases Nat.lt_or_ge k b.length with h | h
      · have klt : ((k : Int) < b.length) = True := eq_true (by omega)
        have w1 : IntKind.i64.wrap ((i : Int) + 1) = ((i + 1 : Nat) : Int) := by rw [wrap64 _ (by omega) (by omega)]; omega
        have w2 : IntKind.i64.wrap ((b.length : Int) - k) = ((b.length - k : Nat) : Int) := by rw [wrap64 _ (by omega) (by omega)]; omega
        obtain ⟨y, hy⟩ : ∃ y, feed6 (sbegin 0) (b.take k) = y := ⟨_, rfl⟩
        rw [hy] at hkm hku
        rcases Decidable.em (i < c.length ∧ i < 100) with hcut | hcut
        case' inl =>
          have i1 : (i < c.length) = True := eq_true hcut.1
          have i2 : ((i : Int) < 100) = True := eq_true (by omega)
          have i3 : (0 < c.length - i) = True := eq_true (by omega)
          have hdc := ints_at8 hcut.1
          have hci := hc _ (List.getElem_mem hcut.1)
          generalize c[i]'hcut.1 = q at *
          obtain ⟨n, hn⟩ : ∃ n : Nat, (if q % 20 < ((b.length - k : Nat) : Int) then q % 20 else ((b.length - k : Nat) : Int)) = n := ⟨(if q % 20 < ((b.length - k : Nat) : Int) then q % 20 else ((b.length - k : Nat) : Int)).toNat, by split <;> omega⟩
          have hnl : n ≤ b.length - k := by split at hn <;> omega
          have hnm : i < 100 ∨ n = b.length - k := .inl hcut.2
          have w3 : IntKind.u8.wrap (q % 20) = q % 20 := by simp [IntKind.wrap, IntKind.signed, IntKind.bits]; omega
          have w4 : IntKind.i64.wrap (q % 20) = q % 20 := wrap64 _ (by omega) (by omega)
          have w5 : Int.tmod q 20 = q % 20 := by rw [Int.tmod_eq_emod_of_nonneg hci.1]
          refine wpcU_ok hE mixed 14 _ _ _ ?_
          simp [chuS, klt, w2, i1, i2, i3, hdc, hy, w3, w4, w5, hn]
          refine AWP.weaken (st' := chuT b c E y k i n) (Weak.keep (by simp [chuT])) ?_
        case' inr =>
          obtain ⟨n, hn⟩ : ∃ n : Nat, b.length - k = n := ⟨_, rfl⟩
          have hnl : n ≤ b.length - k := by omega
          have hnm : i < 100 ∨ n = b.length - k := .inr hn.symm
          have i3 : (i < c.length ∧ i < 100) = False := eq_false hcut
          refine wpcU_ok hE mixed 14 _ _ _ ?_
          rcases Nat.lt_or_ge i c.length with i0 | i0
          case' inl =>
            have i1 : (i < c.length) = True := eq_true i0
            have i2 : ((i : Int) < 100) = False := eq_false (by omega)
            simp [chuS, klt, w2, i1, i2, hy, hn]
            refine AWP.weaken (st' := chuT b c E y k i n) (Weak.keep (by simp [chuT])) ?_
          case' inr =>
            have i1 : (i < c.length) = False := eq_false (by omega)
            simp [chuS, klt, w2, i1, hy, hn]
            refine AWP.weaken (st' := chuT b c E y k i n) (Weak.keep (by simp [chuT])) ?_
        all_goals
          refine wpc_ok hE mixed _ _ _ ?_
          obtain ⟨d, hd⟩ : ∃ d, (b.drop k).take n = d := ⟨_, rfl⟩
          have hdb : Bytes d := by rw [← hd]; exact fun x hx => hby x (List.mem_of_mem_drop (List.mem_of_mem_take hx))
          have hdl : d.length = n := by rw [← hd]; simp; omega
          have hoff := feed_off (sbegin 0) b k n
          rw [hy, hd] at hoff
          obtain ⟨z, hz⟩ : ∃ z, feed6 y.1 d = z := ⟨_, rfl⟩
          rw [hz] at hoff
          have hF := hFe (l := d) hkm (by omega)
          rw [hz] at hF
          have hzm : may6 z.1 = true := by rw [← hz]; exact feed_may hkm hdb
          have hzu : Bytes z.1.u := by rw [← hz]; exact feed_bytes hku hdb
          have w6 : IntKind.i64.wrap ((k : Int) + n) = ((k + n : Nat) : Int) := by rw [wrap64 _ (by omega) (by omega)]; omega
          have kn0 : ((k : Int) + n ≤ b.length) = True := eq_true (by omega)
          have t8 : ∀ p : Ps, (psC p).take 8 = psC p := fun _ => rfl
          have kn1 : ((k : Int) + n).toNat - k = n := by omega
          have kn2 : ((k : Int) ≤ k + n) = True := eq_true (by omega)
          have d8 : ∀ (p : Ps), ((psC p).map X.val).drop 8 = [] := fun _ => rfl
          have l1 := feed_len (b.take k) (sbegin 0)
          have l2 := feed_len d y.1
          rw [hy, List.length_take] at l1
          rw [hz] at l2
          have tE' : (42 = tE) = True := eq_true rfl
          simp [chuT, gotH, pBox, and_assoc, checkoSpec, eventsoSpec, feedoSpec, lworksSpec, sameoSpec, sfeedSpec, checkSpec, nums_u8, hF, hzm, w6, w1, kn0, kn1, kn2, t8, d8, hd, tE']
          refine ⟨⟨y.1, d, by rw [← hdl]; rfl, may_on hkm hku, hdb, by omega⟩, rfl, ⟨z.1, rfl, (may_on hzm hzu).1, (may_on hzm hzu).2.1, (may_on hzm hzu).2.2.1, (may_on hzm hzu).2.2.2⟩, by omega, by omega, ?_⟩
          refine Next.mk (k + n, i + 1) ⟨by simp only; omega, fun q => by simp only at q ⊢; omega, by simp only; omega⟩ ?_ ?_
          · simp only; rw [if_pos h]; split <;> omega
          · refine Weak.ren [some 0, some 1, some 2] (baseOK.nil hh) (by simp) (by simp [hoff, evsC_app, tE]) (by simp)
      · obtain rfl : k = b.length := by omega
        have htl : feed6 (sbegin 0) (b.take b.length) = E := by rw [List.take_length]; exact hE0
        have hEv : EvsOK E.2 := by rw [← hE0]; exact feed_evsOK hm0 hby (by omega)
        have tE' : (42 = tE) = True := eq_true rfl
        have t8 : ∀ p : Ps, (psC p).take 8 = psC p := fun _ => rfl
        refine wpc_ok hE mixed _ _ _ ?_
        simp only [chuS, htl]
        simp [gotH, pBox, and_assoc, checkoSpec, eventsoSpec, feedoSpec, lworksSpec, sameoSpec, checkSpec, sameSpec, eventsSpec, unE_C, psOf_C, hEm, t8, tE']
        exact ⟨⟨E.1, rfl, (may_on hEm hEu).1, (may_on hEm hEu).2.1, (may_on hEm hEu).2.2.1, (may_on hEm hEu).2.2.2⟩, ⟨E.1, E.1, rfl, (may_on hEm hEu).1, hEu⟩, ⟨E.2, E.2, rfl, hEv⟩⟩
end Fen
