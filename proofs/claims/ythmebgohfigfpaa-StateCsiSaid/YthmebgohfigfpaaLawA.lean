/- A part of the proof; no statement is proved here: SLawA, SLawC, SLawD, STypU. -/
import Derived.Test.YthmebgohfigfpaaRefA
import Derived.Test.YthmebgohfigfpaaStA
import Derived.Test.YthmebgohfigfpaaCoreE

set_option linter.unusedVariables false
set_option linter.unusedSimpArgs false

namespace Fen
open Go Go.Proofs

/-! ### the contracts with their conditions under one name -/
def FeedIn (a : List V) : Prop := sfeedSpec.pre a
def feedoSpec : Spec := { pre := FeedIn, res := sfeedSpec.res }
theorem feedo_sound (gl : Gl) : Sound Try.prog gl 13 feedoSpec := sfeed_sound gl
def CheckIn (a : List V) : Prop := checkSpec.pre a
def checkoSpec : Spec := { pre := CheckIn, res := checkSpec.res }
theorem checko_sound (gl : Gl) : Sound Try.prog gl 18 checkoSpec := scheck_sound gl
def SameIn (a : List V) : Prop := sameSpec.pre a
def sameoSpec : Spec := { pre := SameIn, res := sameSpec.res }
theorem sameo_sound (gl : Gl) : Sound Try.prog gl 15 sameoSpec := r6same_sound gl
def EventsIn (a : List V) : Prop := eventsSpec.pre a
def eventsoSpec : Spec := { pre := EventsIn, res := eventsSpec.res }
theorem eventso_sound (gl : Gl) : Sound Try.prog gl 16 eventsoSpec := events_sound gl
theorem worksIn : lworksSpec.pre [] := rfl

@[simp] theorem renXs_val (h h' : List Blk) (ids : List (Option Nat)) : ∀ cs : List C, renXs h h' ids (cs.map X.val) (cs.map X.val) = True
  | [] => by simp [renXs]
  | c :: cs => by simp [renXs, renX, renXs_val h h' ids cs]
def gotH (evs : List Ev) : List Blk := [.sl tE 0 true 7 evs.length (evsC evs)]
theorem feed_off (p : Ps) (l : List Int) (k n : Nat) : feed6 p (l.take (k + n)) = ((feed6 (feed6 p (l.take k)).1 ((l.drop k).take n)).1, (feed6 p (l.take k)).2 ++ (feed6 (feed6 p (l.take k)).1 ((l.drop k).take n)).2) := by
  rw [← feed6_app, List.take_add]
def pBox (p : Ps) : Blk := .box 25 ((psC p).map .val)
def chuS (b c : List Int) (E : Ps × List Ev) (k i : Nat) : St := ⟨100, [(0, .val (.sl b.length (ints .u8 b))), (1, .val (.sl c.length (ints .u8 c))), (5, .ptr 0 0 0), (6, .val (.sl E.2.length (evsC E.2))), (7, .val (.int .i64 0)), (8, .ptr 1 0 0), (9, .ref 2 0), (10, .val (.int .i64 k)), (11, .val (.int .i64 i))], pBox E.1 :: pBox (feed6 (sbegin 0) (b.take k)).1 :: gotH (feed6 (sbegin 0) (b.take k)).2⟩
def chuT (b c : List Int) (E y : Ps × List Ev) (k i n : Nat) : St := ⟨100, [(0, .val (.sl b.length (ints .u8 b))), (1, .val (.sl c.length (ints .u8 c))), (5, .ptr 0 0 0), (6, .val (.sl E.2.length (evsC E.2))), (7, .val (.int .i64 0)), (8, .ptr 1 0 0), (9, .ref 2 0), (10, .val (.int .i64 k)), (11, .val (.int .i64 i)), (12, .val (.int .i64 n))], pBox E.1 :: pBox y.1 :: gotH y.2⟩
def lawChunksSpec : Spec := { pre := fun args => ∃ b c : List Int, args = [bytesV b, bytesV c] ∧ Bytes b ∧ Bytes c ∧ (b.length : Int) ≤ 9223372036854775807 ∧ (c.length : Int) ≤ 9223372036854775807, res := fun _ => .one (.val (.c (.bool true))) }
def G_lawChunks : Specs := [(17, lworksSpec), (13, feedoSpec), (18, checkoSpec), (15, sameoSpec), (16, eventsoSpec)]
@[simp] theorem G_lawChunks_live : Specs.live G_lawChunks = false := rfl
@[simp] theorem G_lawChunks_17 : G_lawChunks.find 17 = some lworksSpec := rfl
@[simp] theorem G_lawChunks_13 : G_lawChunks.find 13 = some feedoSpec := rfl
@[simp] theorem G_lawChunks_18 : G_lawChunks.find 18 = some checkoSpec := rfl
@[simp] theorem G_lawChunks_15 : G_lawChunks.find 15 = some sameoSpec := rfl
@[simp] theorem G_lawChunks_16 : G_lawChunks.find 16 = some eventsoSpec := rfl
theorem G_lawChunks_ok (gl : Gl) : SpecsOK Try.prog gl G_lawChunks := .cons (lworks_sound gl) (.cons (feedo_sound gl) (.cons (checko_sound gl) (.cons (sameo_sound gl) (.cons (eventso_sound gl) (.nil _ _)))))
set_option maxHeartbeats 8000000 in
set_option maxRecDepth 10000 in
theorem lawChunks_sound (gl : Gl) : Sound Try.prog gl 4 lawChunksSpec := by
  refine sound_awp (N := Try.f4.ntmps) (rs := Try.f4.results.toList) tok Try.func4 rfl rfl rfl rfl rfl ?_ ?_ ?_
  · rintro args ⟨b0,c,rfl,hb0,hc,hbl,hcl⟩; simp [bytesV, Try.f4]
  · rintro args ⟨b0,c,rfl,hb0,hc,hbl,hcl⟩; simp [bytesV, lawChunksSpec, Try.f4]
  · rintro args ⟨b0,c,rfl,hb0,hc,hbl,hcl⟩ bs hgl hh hro
    have hE : Env.OK ⟨Try.prog, T, G_lawChunks, bs⟩ := ⟨tok, by rw [hgl]; exact G_lawChunks_ok gl⟩
    simp only [lawChunksSpec, bytesV]
    obtain ⟨b, hb⟩ : ∃ b, b0.take 400 = b := ⟨_, rfl⟩
    have hby : Bytes b := by rw [← hb]; exact bytes_take hb0 400
    have hbn : b.length ≤ 400 := by rw [← hb]; simp; omega
    have hmin : (if 400 < (b0.length : Int) then (400 : Int) else b0.length) = b.length := by rw [← hb]; simp; split <;> omega
    have hble : ((b.length : Int) ≤ b0.length) = True := eq_true (by rw [← hb]; simp; omega)
    have htk : b0.take b.length = b := by rw [← hb]; simp
    have e3 : psOf [.int .i64 0, .sl 0 [], .int .u8 0, .int .u8 0, .sl 0 [], .str [], .str [], .bool false] = sbegin 0 := rfl
    have hm0 : may6 (sbegin 0) = true := may_begin.1
    have hu0 : Bytes (sbegin 0).u := fun x hx => by simp [sbegin] at hx
    have hFe : ∀ {p : Ps} {l : List Int}, may6 p = true → l.length ≤ 400 → feedF p l = ((feed6 p l).1, (feed6 p l).2, 0) := fun {p l} h h2 => by
      unfold feedF; rw [if_pos h, if_neg (by omega)]
    have hF0 := hFe hm0 hbn
    obtain ⟨E, hE0⟩ : ∃ E, feed6 (sbegin 0) b = E := ⟨_, rfl⟩
    rw [hE0] at hF0
    have hEm : may6 E.1 = true := by rw [← hE0]; exact feed_may hm0 hby
    have hEu : Bytes E.1.u := by rw [← hE0]; exact feed_bytes hu0 hby
    refine wpc_ok hE mixed _ _ _ ?_
    simp [lawChunksSpec, checkoSpec, eventsoSpec, feedoSpec, lworksSpec, sameoSpec, Try.f4, sfeedSpec, worksIn, hmin, hble, htk, e3, nums_u8, hF0]
    refine ⟨⟨sbegin 0, b, rfl, may_on hm0 hu0, hby, by omega⟩, ?_⟩
    refine AWP.rounds (fun x => x.1 ≤ b.length ∧ (x.1 < b.length → x.2 ≤ 100) ∧ x.2 ≤ 101) (fun x => chuS b c E x.1 x.2) (fun x => if x.1 < b.length then 101 - x.2 else 0) (0, 0) (by simp) ?_ ?_
    · exact Weak.ren [some 0, some 1, none] (baseOK.nil hh) (by simp) (by simp [chuS, gotH, pBox, feed6, sbegin, psC, ints, parC, evsC]) (by simp [chuS, gotH, pBox, feed6, sbegin, psC, ints, parC])
    · rintro ⟨k, i⟩ ⟨h1, h2, h3⟩
      simp only at h1 h2 h3
      have hkm := feed_may (l := b.take k) hm0 (bytes_take hby k)
      have hku := feed_bytes (l := b.take k) hu0 (bytes_take hby k)
      rcases Nat.lt_or_ge k b.length with h | h
      · have klt : ((k : Int) < b.length) = True := eq_true (by omega)
        have w1 : IntKind.i64.wrap ((i : Int) + 1) = ((i + 1 : Nat) : Int) := by rw [wrap64 _ (by omega) (by omega)]; omega
        have w2 : IntKind.i64.wrap ((b.length : Int) - k) = ((b.length - k : Nat) : Int) := by rw [wrap64 _ (by omega) (by omega)]; omega
        obtain ⟨y, hy⟩ : ∃ y, feed6 (sbegin 0) (b.take k) = y := ⟨_, rfl⟩
        rw [hy] at hkm hku
        rcases Decidable.em (i < c.length ∧ i < 100) with hcut | hcut
        case' inl =>
          have i1 : (i < c.length) = True := eq_true hcut.1
          have i2 : ((i : Int) < 100) = True := eq_true (by omega)
          have i3 : (0 < c.length - i) = True := eq_true (by omega)
          have hdc := ints_at8 hcut.1
          have hci := hc _ (List.getElem_mem hcut.1)
          generalize c[i]'hcut.1 = q at *
          obtain ⟨n, hn⟩ : ∃ n : Nat, (if q % 20 < ((b.length - k : Nat) : Int) then q % 20 else ((b.length - k : Nat) : Int)) = n := ⟨(if q % 20 < ((b.length - k : Nat) : Int) then q % 20 else ((b.length - k : Nat) : Int)).toNat, by split <;> omega⟩
          have hnl : n ≤ b.length - k := by split at hn <;> omega
          have hnm : i < 100 ∨ n = b.length - k := .inl hcut.2
          have w3 : IntKind.u8.wrap (q % 20) = q % 20 := by simp [IntKind.wrap, IntKind.signed, IntKind.bits]; omega
          have w4 : IntKind.i64.wrap (q % 20) = q % 20 := wrap64 _ (by omega) (by omega)
          have w5 : Int.tmod q 20 = q % 20 := by rw [Int.tmod_eq_emod_of_nonneg hci.1]
          refine wpcU_ok hE mixed 14 _ _ _ ?_
          simp [chuS, klt, w2, i1, i2, i3, hdc, hy, w3, w4, w5, hn]
          refine AWP.weaken (st' := chuT b c E y k i n) (Weak.keep (by simp [chuT])) ?_
        case' inr =>
          obtain ⟨n, hn⟩ : ∃ n : Nat, b.length - k = n := ⟨_, rfl⟩
          have hnl : n ≤ b.length - k := by omega
          have hnm : i < 100 ∨ n = b.length - k := .inr hn.symm
          have i3 : (i < c.length ∧ i < 100) = False := eq_false hcut
          refine wpcU_ok hE mixed 14 _ _ _ ?_
          rcases Nat.lt_or_ge i c.length with i0 | i0
          case' inl =>
            have i1 : (i < c.length) = True := eq_true i0
            have i2 : ((i : Int) < 100) = False := eq_false (by omega)
            simp [chuS, klt, w2, i1, i2, hy, hn]
            refine AWP.weaken (st' := chuT b c E y k i n) (Weak.keep (by simp [chuT])) ?_
          case' inr =>
            have i1 : (i < c.length) = False := eq_false (by omega)
            simp [chuS, klt, w2, i1, hy, hn]
            refine AWP.weaken (st' := chuT b c E y k i n) (Weak.keep (by simp [chuT])) ?_
        all_goals
          refine wpc_ok hE mixed _ _ _ ?_
          obtain ⟨d, hd⟩ : ∃ d, (b.drop k).take n = d := ⟨_, rfl⟩
          have hdb : Bytes d := by rw [← hd]; exact fun x hx => hby x (List.mem_of_mem_drop (List.mem_of_mem_take hx))
          have hdl : d.length = n := by rw [← hd]; simp; omega
          have hoff := feed_off (sbegin 0) b k n
          rw [hy, hd] at hoff
          obtain ⟨z, hz⟩ : ∃ z, feed6 y.1 d = z := ⟨_, rfl⟩
          rw [hz] at hoff
          have hF := hFe (l := d) hkm (by omega)
          rw [hz] at hF
          have hzm : may6 z.1 = true := by rw [← hz]; exact feed_may hkm hdb
          have hzu : Bytes z.1.u := by rw [← hz]; exact feed_bytes hku hdb
          have w6 : IntKind.i64.wrap ((k : Int) + n) = ((k + n : Nat) : Int) := by rw [wrap64 _ (by omega) (by omega)]; omega
          have kn0 : ((k : Int) + n ≤ b.length) = True := eq_true (by omega)
          have t8 : ∀ p : Ps, (psC p).take 8 = psC p := fun _ => rfl
          have kn1 : ((k : Int) + n).toNat - k = n := by omega
          have kn2 : ((k : Int) ≤ k + n) = True := eq_true (by omega)
          have d8 : ∀ (p : Ps), ((psC p).map X.val).drop 8 = [] := fun _ => rfl
          have l1 := feed_len (b.take k) (sbegin 0)
          have l2 := feed_len d y.1
          rw [hy, List.length_take] at l1
          rw [hz] at l2
          have tE' : (42 = tE) = True := eq_true rfl
          simp [chuT, gotH, pBox, and_assoc, checkoSpec, eventsoSpec, feedoSpec, lworksSpec, sameoSpec, sfeedSpec, checkSpec, nums_u8, hF, hzm, w6, w1, kn0, kn1, kn2, t8, d8, hd, tE']
          refine ⟨⟨y.1, d, by rw [← hdl]; rfl, may_on hkm hku, hdb, by omega⟩, rfl, ⟨z.1, rfl, (may_on hzm hzu).1, (may_on hzm hzu).2.1, (may_on hzm hzu).2.2.1, (may_on hzm hzu).2.2.2⟩, by omega, by omega, ?_⟩
          refine Next.mk (k + n, i + 1) ⟨by simp only; omega, fun q => by simp only at q ⊢; omega, by simp only; omega⟩ ?_ ?_
          · simp only; rw [if_pos h]; split <;> omega
          · refine Weak.ren [some 0, some 1, some 2] (baseOK.nil hh) (by simp) (by simp [hoff, evsC_app, tE]) (by simp)
      · obtain rfl : k = b.length := by omega
        have htl : feed6 (sbegin 0) (b.take b.length) = E := by rw [List.take_length]; exact hE0
        have hEv : EvsOK E.2 := by rw [← hE0]; exact feed_evsOK hm0 hby (by omega)
        have tE' : (42 = tE) = True := eq_true rfl
        have t8 : ∀ p : Ps, (psC p).take 8 = psC p := fun _ => rfl
        refine wpc_ok hE mixed _ _ _ ?_
        simp only [chuS, htl]
        simp [gotH, pBox, and_assoc, checkoSpec, eventsoSpec, feedoSpec, lworksSpec, sameoSpec, checkSpec, sameSpec, eventsSpec, unE_C, psOf_C, hEm, t8, tE']
        exact ⟨⟨E.1, rfl, (may_on hEm hEu).1, (may_on hEm hEu).2.1, (may_on hEm hEu).2.2.1, (may_on hEm hEu).2.2.2⟩, ⟨E.1, E.1, rfl, (may_on hEm hEu).1, hEu⟩, ⟨E.2, E.2, rfl, hEv⟩⟩
end Fen

namespace Fen
open Go Go.Proofs

/-! ### StateTexts -/
theorem tells_of {s : List UInt8} {evs : List Ev} (h : feed6 (sbegin 0) (nums8 s) = (sbegin 0, evs)) (hl : s.length ≤ 4096) : tellsB s evs = true := by
  unfold tellsB feedF
  rw [if_pos may_begin.1, if_neg (by simp [nums8]; omega), h]
  simp
theorem t_away {l : List UInt8} {c : UInt8} (hc : (c.toNat : Int) = 88 ∨ (c.toNat : Int) = 94 ∨ (c.toNat : Int) = 95) (h : okText l) (hl : l.length ≤ 600) : tellsB (27 :: c :: (l ++ [7, 27, 92, 97])) [evCode 1 97] = true :=
  tells_of (by simpa using away_text hc h) (by simp; omega)
theorem t_csi {l : List UInt8} (h : okText l) (hl : l.length ≤ 600) : tellsB (27 :: 93 :: (l ++ [27, 91, 109])) [⟨4, 0, 0, 109, [], [], []⟩] = true := by
  refine tells_of ?_ (by simp; omega)
  have := feed6_app (sbegin 0) (27 :: 93 :: nums8 l) [27, 91, 109]
  rw [osc_text h, osc_csi] at this
  simpa using this
def oscs (l : List UInt8) : List Ev := if l.length ≤ 512 then [evOsc l, evCode 1 97] else [evCode 1 97]
theorem t_bel {l : List UInt8} (h : okText l) (hl : l.length ≤ 600) : tellsB (27 :: 93 :: (l ++ [7, 97])) (oscs l) = true := by
  refine tells_of ?_ (by simp; omega)
  have h1 := feed6_app (sbegin 0) (27 :: 93 :: nums8 l) [7, 97]
  have h2 := feed6_app (oscAt l) [7] [97]
  rw [osc_bel 0, print_a] at h2
  rw [osc_text h] at h1
  simp only [List.cons_append, List.nil_append] at h2
  rw [h2] at h1
  have e : nums8 (27 :: 93 :: (l ++ [7, 97])) = (27 :: 93 :: nums8 l) ++ [7, 97] := by simp
  rw [e, h1]
  unfold oscs
  split <;> rfl
theorem t_st {n l : List UInt8} (h : feed6 (sbegin 0) (27 :: 93 :: nums8 n) = (oscAt l, [])) (hl : n.length ≤ 700) : tellsB (27 :: 93 :: (n ++ [27, 92, 97])) (oscs l) = true := by
  refine tells_of ?_ (by simp; omega)
  have h1 := feed6_app (sbegin 0) (27 :: 93 :: nums8 n) [27, 92, 97]
  have h2 := feed6_app (oscAt l) [27, 92] [97]
  rw [osc_st, print_a] at h2
  rw [h] at h1
  simp only [List.cons_append, List.nil_append] at h2
  rw [h2] at h1
  have e : nums8 (27 :: 93 :: (n ++ [27, 92, 97])) = (27 :: 93 :: nums8 n) ++ [27, 92, 97] := by simp
  rw [e, h1]
  unfold oscs
  split <;> rfl
theorem t_noisy {l : List UInt8} (k : Nat) (h : okText l) (hl : l.length ≤ 600) : tellsB (27 :: 93 :: ((l.take k ++ [1, 127, 10] ++ l.drop k) ++ [27, 92, 97])) (oscs l) = true := by
  have ha : okText (l.take k) := fun x hx => h x (List.mem_of_mem_take hx)
  have hb : okText (l.drop k) := fun x hx => h x (List.mem_of_mem_drop hx)
  refine t_st ?_ (by simp; omega)
  have := osc_noisy ha hb
  rw [List.take_append_drop] at this
  simpa using this
def okC (c : UInt8) : Bool := decide (32 ≤ (c.toNat : Int)) && decide ((c.toNat : Int) ≠ 127)
def okPart (t : List UInt8) (i : Nat) : List UInt8 := (t.take i).filter okC
theorem okPart_ok (t : List UInt8) (i : Nat) : okText (okPart t i) := fun b hb => by
  have := (List.mem_filter.1 hb).2
  simp [okC] at this
  omega
theorem okPart_len (t : List UInt8) (i : Nat) : (okPart t i).length ≤ i := by
  have := List.length_filter_le okC (t.take i)
  unfold okPart
  simp at this ⊢
  omega
theorem okPart_succ {t : List UInt8} {i : Nat} (h : i < t.length) : okPart t (i + 1) = if okC t[i] = true then okPart t i ++ [t[i]] else okPart t i := by
  unfold okPart
  rw [List.take_add_one, List.getElem?_eq_getElem h, List.filter_append]
  by_cases c : okC t[i] = true
  · simp [c]
  · simp [c]
def textS (t : List UInt8) (q : Int) (i : Nat) : St := ⟨115, [(0, .val (.str t)), (1, .val (.int .u8 q)), (5, .ref 0 0), (6, .val (.int .i64 i))], [.sl 5 0 true 1 (okPart t i).length ((okPart t i).map byteC)]⟩
def textE (s : List UInt8) (q : Int) : St := ⟨115, [(1, .val (.int .u8 q)), (5, .val (.sl s.length (s.map byteC)))], []⟩
def lawTextsSpec : Spec := { pre := fun args => ∃ (t : List UInt8) (q : Int), args = [.c (.str t), .c (.int .u8 q)] ∧ (t.length : Int) ≤ 9223372036854775807 ∧ 0 ≤ q ∧ q < 256, res := fun _ => .one (.val (.c (.bool true))) }
def G_lawTexts : Specs := [(17, lworksSpec), (23, lprintSpec), (24, lcsiSpec), (25, loscSpec), (22, tellsSpec)]
@[simp] theorem G_lawTexts_live : Specs.live G_lawTexts = false := rfl
@[simp] theorem G_lawTexts_17 : G_lawTexts.find 17 = some lworksSpec := rfl
@[simp] theorem G_lawTexts_23 : G_lawTexts.find 23 = some lprintSpec := rfl
@[simp] theorem G_lawTexts_24 : G_lawTexts.find 24 = some lcsiSpec := rfl
@[simp] theorem G_lawTexts_25 : G_lawTexts.find 25 = some loscSpec := rfl
@[simp] theorem G_lawTexts_22 : G_lawTexts.find 22 = some tellsSpec := rfl
theorem G_lawTexts_ok (gl : Gl) : SpecsOK Try.prog gl G_lawTexts := .cons (lworks_sound gl) (.cons (lprint_sound gl) (.cons (lcsi_sound gl) (.cons (losc_sound gl) (.cons (tells_sound gl) (.nil _ _)))))
set_option maxHeartbeats 8000000 in
set_option maxRecDepth 10000 in
theorem lawTexts_sound (gl : Gl) : Sound Try.prog gl 7 lawTextsSpec := by
  refine sound_awp (N := Try.f7.ntmps) (rs := Try.f7.results.toList) tok Try.func7 rfl rfl rfl rfl rfl ?_ ?_ ?_
  · rintro args ⟨t,q,rfl,htl,hq0,hq1⟩; simp [Try.f7]
  · rintro args ⟨t,q,rfl,htl,hq0,hq1⟩; simp [lawTextsSpec, Try.f7]
  · rintro args ⟨t,q,rfl,htl,hq0,hq1⟩ bs hgl hh hro
    have hE : Env.OK ⟨Try.prog, T, G_lawTexts, bs⟩ := ⟨tok, by rw [hgl]; exact G_lawTexts_ok gl⟩
    refine wpc_ok hE mixed _ _ _ ?_
    simp [lawTextsSpec, lcsiSpec, loscSpec, lprintSpec, lworksSpec, tellsSpec, Try.f7]
    refine AWP.leaves 0 (textS t q (min t.length 600)) (AWP.rounds (fun i => i ≤ t.length ∧ i ≤ 600) (textS t q) (fun i => t.length - i) 0 (by simp) ?_ ?_) ?_
    · exact Weak.ren [none] (baseOK.nil hh) (by simp) (by simp [textS, okPart]) (by simp [textS, okPart])
    · rintro i ⟨hi, hi6⟩
      refine wpc_ok hE mixed _ _ _ ?_
      rcases Nat.lt_or_ge i t.length with h | h
      · have ilt : (i < t.length) = True := eq_true h
        rcases Nat.lt_or_ge i 600 with h6 | h6
        · have i6 : ((i : Int) < 600) = True := eq_true (by omega)
          have w1 : IntKind.i64.wrap ((i : Int) + 1) = ((i + 1 : Nat) : Int) := by rw [wrap64 _ (by omega) (by omega)]; omega
          have hs := okPart_succ h
          obtain ⟨c, hg⟩ : ∃ c, t[i] = c := ⟨_, rfl⟩
          rw [hg] at hs
          by_cases c1 : 32 ≤ (c.toNat : Int)
          · have c1' : (32 ≤ (c.toNat : Int)) = True := eq_true c1
            by_cases c2 : (c.toNat : Int) = 127
            · have c2' : ((c.toNat : Int) = 127) = True := eq_true c2
              have hs2 : okPart t (i + 1) = okPart t i := by rw [hs, if_neg (by simp [okC]; omega)]
              simp [textS, ilt, i6, w1, hg, c1', c2', h]
              exact Next.mk (i + 1) ⟨h, by omega⟩ (by omega) (Weak.ren [some 0] (baseOK.nil hh) (by simp) (by simp [textS, hs2]) (by simp [textS, hs2]))
            · have c2' : ((c.toNat : Int) = 127) = False := eq_false c2
              have hs2 : okPart t (i + 1) = okPart t i ++ [c] := by rw [hs, if_pos (by simp [okC]; omega)]
              have hpl := okPart_len t i
              simp [textS, ilt, i6, w1, hg, c1', c2', h]
              exact ⟨⟨by omega, by omega⟩, Next.mk (i + 1) ⟨h, by omega⟩ (by omega) (Weak.ren [some 0] (baseOK.nil hh) (by simp) (by simp [textS, hs2]) (by simp [textS, hs2]))⟩
          · have c1' : (32 ≤ (c.toNat : Int)) = False := eq_false c1
            have hs2 : okPart t (i + 1) = okPart t i := by rw [hs, if_neg (by simp [okC]; omega)]
            simp [textS, ilt, i6, w1, hg, c1', h]
            exact Next.mk (i + 1) ⟨h, by omega⟩ (by omega) (Weak.ren [some 0] (baseOK.nil hh) (by simp) (by simp [textS, hs2]) (by simp [textS, hs2]))
        · have i6 : ((i : Int) < 600) = False := eq_false (by omega)
          have him : min t.length 600 = i := by omega
          simp [textS, ilt, i6]
          exact Leaves.mk (Weak.ren [some 0] (baseOK.nil hh) (by simp) (by simp [him]) (by simp [him]))
      · have ilt : (i < t.length) = False := eq_false (by omega)
        have him : min t.length 600 = i := by omega
        simp [textS, ilt]
        exact Leaves.mk (Weak.ren [some 0] (baseOK.nil hh) (by simp) (by simp [him]) (by simp [him]))
    have hok := okPart_ok t (min t.length 600)
    have hol : (okPart t (min t.length 600)).length ≤ 600 := Nat.le_trans (okPart_len t _) (by omega)
    unfold textS
    generalize okPart t (min t.length 600) = s at *
    have hc := @t_csi s hok hol
    have hb := @t_bel s hok hol
    have w1 : Int.tmod q 3 = q % 3 := Int.tmod_eq_emod_of_nonneg hq0
    have w2 : IntKind.u8.wrap (q % 3) = q % 3 := by simp [IntKind.wrap, IntKind.signed, IntKind.bits]; omega
    have w3 : IntKind.i64.wrap q = q := wrap64 _ (by omega) (by omega)
    have u1 : unE [.int .i64 1, .int .i64 97, .int .u8 0, .int .u8 0, .sl 0 [], .str [], .str []] = [evCode 1 97] := rfl
    have u2 : unE [.int .i64 4, .int .i64 0, .int .u8 0, .int .u8 109, .sl 0 [], .str [], .str []] = [⟨4, 0, 0, 109, [], [], []⟩] := rfl
    have u3 : unE [.int .i64 5, .int .i64 0, .int .u8 0, .int .u8 0, .sl 0 [], .str [], .str s, .int .i64 1, .int .i64 97, .int .u8 0, .int .u8 0, .sl 0 [], .str [], .str []] = [evOsc s, evCode 1 97] := rfl
    have hbc : ∀ x : List UInt8, x.map (byteOf ∘ byteC) = x := fun x => by
      have : byteOf ∘ byteC = id := by funext c; simp [byteOf, byteC]
      rw [this]; simp
    have hq3 : q % 3 = 0 ∨ q % 3 = 1 ∨ q % 3 = 2 := by omega
    by_cases s0 : s = []
    · subst s0
      have h1 := t_away (c := 88) (.inl rfl) hok hol
      have h2 := t_away (c := 94) (.inr (.inl rfl)) hok hol
      have h3 := t_away (c := 95) (.inr (.inr rfl)) hok hol
      have hs := t_st (osc_text hok) (by omega)
      simp only [oscs, List.length_nil, List.nil_append, Nat.zero_le, if_true, evCode, evOsc] at h1 h2 h3 hc hb hs
      rcases hq3 with q3 | q3 | q3
      all_goals
        simp [lawTextsSpec, lcsiSpec, loscSpec, lprintSpec, lworksSpec, tellsSpec, Try.f7, evC, evCode, evOsc, ones, nums, toI, parC, subC, ints, parV, w1, w2, w3, q3, u1, u2, u3, hbc, h1, h2, h3, hc, hb, hs]
        repeat' (refine And.intro ?_ ?_)
        all_goals first | omega | rfl | exact ⟨_, _, _, ⟨rfl, rfl, rfl⟩, .of rfl rfl, by simp <;> omega⟩ | exact ⟨109, [], ⟨rfl, rfl, rfl⟩, by simp⟩
    · have hlp : 0 < s.length := List.length_pos_iff.2 s0
      have hlp' := eq_true hlp
      obtain ⟨k, hk⟩ : ∃ k : Nat, q % s.length = k := ⟨(q % s.length).toNat, by have := Int.emod_nonneg q (b := s.length) (by omega); omega⟩
      have hkl : k < s.length := by have := Int.emod_lt_of_pos q (b := s.length) (by omega); omega
      have h1 := t_away (c := 88) (.inl rfl) hok hol
      have h2 := t_away (c := 94) (.inr (.inl rfl)) hok hol
      have h3 := t_away (c := 95) (.inr (.inr rfl)) hok hol
      have hs := t_noisy k hok hol
      have w4 : Int.tmod q s.length = k := by rw [Int.tmod_eq_emod_of_nonneg hq0]; exact hk
      have w5 : IntKind.i64.wrap (k : Int) = k := wrap64 _ (by omega) (by omega)
      by_cases s5 : 512 < s.length
      · have s5' : (512 < (s.length : Int)) = True := eq_true (by omega)
        have s6 : ¬ s.length ≤ 512 := by omega
        simp only [oscs, if_neg s6, evCode, evOsc, List.append_assoc, List.cons_append, List.nil_append] at h1 h2 h3 hc hb hs
        rcases hq3 with q3 | q3 | q3
        all_goals
          simp [lawTextsSpec, lcsiSpec, loscSpec, lprintSpec, lworksSpec, tellsSpec, Try.f7, evC, evCode, evOsc, ones, nums, toI, parC, subC, ints, parV, w1, w2, w3, w4, w5, q3, u1, u2, u3, hbc, h1, h2, h3, hc, hb, hs, s0, hlp', s5']
          repeat' (refine And.intro ?_ ?_)
          all_goals first | omega | rfl | exact ⟨_, _, _, ⟨rfl, rfl, rfl⟩, .of rfl rfl, by simp <;> omega⟩ | exact ⟨109, [], ⟨rfl, rfl, rfl⟩, by simp⟩
      · have s5' : (512 < (s.length : Int)) = False := eq_false (by omega)
        have s6 : s.length ≤ 512 := by omega
        simp only [oscs, if_pos s6, evCode, evOsc, List.append_assoc, List.cons_append, List.nil_append] at h1 h2 h3 hc hb hs
        rcases hq3 with q3 | q3 | q3
        all_goals
          simp [lawTextsSpec, lcsiSpec, loscSpec, lprintSpec, lworksSpec, tellsSpec, Try.f7, evC, evCode, evOsc, ones, nums, toI, parC, subC, ints, parV, w1, w2, w3, w4, w5, q3, u1, u2, u3, hbc, h1, h2, h3, hc, hb, hs, s0, hlp', s5']
          repeat' (refine And.intro ?_ ?_)
          all_goals first | omega | rfl | exact ⟨_, _, _, ⟨rfl, rfl, rfl⟩, .of rfl rfl, by simp <;> omega⟩ | exact ⟨109, [], ⟨rfl, rfl, rfl⟩, by simp⟩
end Fen

namespace Fen
open Go Go.Proofs

/-! ### StateCsi -/
theorem digF_len (n : Nat) : (digF n).length ≤ 4 := by unfold digF; (repeat' split) <;> simp
theorem digF_step {n : Nat} (h : 10 ≤ n) (h2 : n ≤ 9999) : digF n = digF (n / 10) ++ digF (n % 10) := by
  have e0 : digF (n % 10) = [UInt8.ofNat (48 + n % 10)] := by unfold digF; rw [if_pos (by omega)]
  rw [e0]
  by_cases c1 : n < 100
  · have e1 : digF (n / 10) = [UInt8.ofNat (48 + n / 10)] := by unfold digF; rw [if_pos (by omega)]
    rw [e1]; unfold digF; rw [if_neg (by omega), if_pos c1]; rfl
  by_cases c2 : n < 1000
  · have e1 : digF (n / 10) = [UInt8.ofNat (48 + n / 10 / 10), UInt8.ofNat (48 + n / 10 % 10)] := by unfold digF; rw [if_neg (by omega), if_pos (by omega)]
    have e2 : n / 10 / 10 = n / 100 := by omega
    rw [e1, e2]; unfold digF; rw [if_neg (by omega), if_neg c1, if_pos c2]; rfl
  · have e1 : digF (n / 10) = [UInt8.ofNat (48 + n / 10 / 100), UInt8.ofNat (48 + n / 10 / 10 % 10), UInt8.ofNat (48 + n / 10 % 10)] := by unfold digF; rw [if_neg (by omega), if_neg (by omega), if_pos (by omega)]
    have e2 : n / 10 / 100 = n / 1000 := by omega
    have e3 : n / 10 / 10 % 10 = n / 100 % 10 := by omega
    rw [e1, e2, e3]; unfold digF; rw [if_neg (by omega), if_neg c1, if_neg c2]; rfl
def dig1Spec : Spec := { pre := fun args => ∃ n : Nat, args = [.c (.int .i64 n)] ∧ n < 10, res := fun args => match args with
  | [.c (.int _ n)] => .one (.val (.c (.str (digF n.toNat))))
  | _ => .many [] }
def G_dig1 : Specs := []
@[simp] theorem G_dig1_live : Specs.live G_dig1 = false := rfl
theorem G_dig1_ok (gl : Gl) : SpecsOK Try.prog gl G_dig1 := .nil _ _
set_option maxRecDepth 10000 in
theorem dig1_sound (gl : Gl) : Sound Try.prog gl 21 dig1Spec := by
  refine sound_fn (N := Try.f21.ntmps) (rs := Try.f21.results.toList) mixed tok (G_dig1_ok gl) Try.func21 rfl rfl rfl rfl rfl ?_ ?_ ?_
  · rintro args ⟨n,rfl,hn⟩; simp [Try.f21]
  · rintro args ⟨n,rfl,hn⟩; simp [dig1Spec, Try.f21]
  · rintro args ⟨n,rfl,hn⟩ bs hgl hh hro
    have hE : Env.OK ⟨Try.prog, T, G_dig1, bs⟩ := ⟨tok, by rw [hgl]; exact G_dig1_ok gl⟩
    by_cases c : n < 10
    · have c' : ((n : Int) < 10) = True := eq_true (by omega)
      have w1 : IntKind.i64.wrap (48 + (n : Int)) = 48 + n := wrap64 _ (by omega) (by omega)
      have w2 : IntKind.u8.wrap (48 + (n : Int)) = 48 + n := by simp [IntKind.wrap, IntKind.signed, IntKind.bits]; omega
      have w3 : (48 + (n : Int)).toNat = 48 + n := by omega
      have he : digF n = [UInt8.ofNat (48 + n)] := by unfold digF; rw [if_pos c]
      simp [dig1Spec, Try.f21, c', w1, w2, w3, he]
    · omega
def dig2Spec : Spec := { pre := fun args => ∃ n : Nat, args = [.c (.int .i64 n)] ∧ n < 100, res := fun args => match args with
  | [.c (.int _ n)] => .one (.val (.c (.str (digF n.toNat))))
  | _ => .many [] }
def G_dig2 : Specs := [(21, dig1Spec)]
@[simp] theorem G_dig2_live : Specs.live G_dig2 = false := rfl
@[simp] theorem G_dig2_21 : G_dig2.find 21 = some dig1Spec := rfl
theorem G_dig2_ok (gl : Gl) : SpecsOK Try.prog gl G_dig2 := .cons (dig1_sound gl) (.nil _ _)
set_option maxRecDepth 10000 in
theorem dig2_sound (gl : Gl) : Sound Try.prog gl 21 dig2Spec := by
  refine sound_fn (N := Try.f21.ntmps) (rs := Try.f21.results.toList) mixed tok (G_dig2_ok gl) Try.func21 rfl rfl rfl rfl rfl ?_ ?_ ?_
  · rintro args ⟨n,rfl,hn⟩; simp [Try.f21]
  · rintro args ⟨n,rfl,hn⟩; simp [dig2Spec, Try.f21]
  · rintro args ⟨n,rfl,hn⟩ bs hgl hh hro
    have hE : Env.OK ⟨Try.prog, T, G_dig2, bs⟩ := ⟨tok, by rw [hgl]; exact G_dig2_ok gl⟩
    by_cases c : n < 10
    · have c' : ((n : Int) < 10) = True := eq_true (by omega)
      have w1 : IntKind.i64.wrap (48 + (n : Int)) = 48 + n := wrap64 _ (by omega) (by omega)
      have w2 : IntKind.u8.wrap (48 + (n : Int)) = 48 + n := by simp [IntKind.wrap, IntKind.signed, IntKind.bits]; omega
      have w3 : (48 + (n : Int)).toNat = 48 + n := by omega
      have he : digF n = [UInt8.ofNat (48 + n)] := by unfold digF; rw [if_pos c]
      simp [dig2Spec, dig1Spec, Try.f21, c', w1, w2, w3, he]
    · have c' : ((n : Int) < 10) = False := eq_false (by omega)
      have w1 : Int.tdiv (n : Int) 10 = ((n / 10 : Nat) : Int) := by rw [Int.tdiv_eq_ediv_of_nonneg (by omega)]; omega
      have w2 : Int.tmod (n : Int) 10 = ((n % 10 : Nat) : Int) := by rw [Int.tmod_eq_emod_of_nonneg (by omega)]; omega
      have w3 : IntKind.i64.wrap ((n / 10 : Nat) : Int) = ((n / 10 : Nat) : Int) := wrap64 _ (by omega) (by omega)
      have w4 : IntKind.i64.wrap ((n % 10 : Nat) : Int) = ((n % 10 : Nat) : Int) := wrap64 _ (by omega) (by omega)
      have he := digF_step (n := n) (by omega) (by omega)
      simp [dig2Spec, dig1Spec, Try.f21, c', w1, w2, w3, w4, he]
      have e1 : IntKind.i64.wrap ((n : Int) / 10) = ((n / 10 : Nat) : Int) := by rw [wrap64 _ (by omega) (by omega)]; omega
      have e2 : (n : Int) % 10 = ((n % 10 : Nat) : Int) := by omega
      rw [e1, e2]
      have l1 := digF_len (n / 10)
      have l2 := digF_len (n % 10)
      exact ⟨⟨n / 10, rfl, by omega⟩, ⟨n % 10, rfl, by omega⟩, by simp only [Int.toNat_natCast]; omega, by simp only [Int.toNat_natCast]⟩
def dig3Spec : Spec := { pre := fun args => ∃ n : Nat, args = [.c (.int .i64 n)] ∧ n < 1000, res := fun args => match args with
  | [.c (.int _ n)] => .one (.val (.c (.str (digF n.toNat))))
  | _ => .many [] }
def G_dig3 : Specs := [(21, dig2Spec)]
@[simp] theorem G_dig3_live : Specs.live G_dig3 = false := rfl
@[simp] theorem G_dig3_21 : G_dig3.find 21 = some dig2Spec := rfl
theorem G_dig3_ok (gl : Gl) : SpecsOK Try.prog gl G_dig3 := .cons (dig2_sound gl) (.nil _ _)
set_option maxRecDepth 10000 in
theorem dig3_sound (gl : Gl) : Sound Try.prog gl 21 dig3Spec := by
  refine sound_fn (N := Try.f21.ntmps) (rs := Try.f21.results.toList) mixed tok (G_dig3_ok gl) Try.func21 rfl rfl rfl rfl rfl ?_ ?_ ?_
  · rintro args ⟨n,rfl,hn⟩; simp [Try.f21]
  · rintro args ⟨n,rfl,hn⟩; simp [dig3Spec, Try.f21]
  · rintro args ⟨n,rfl,hn⟩ bs hgl hh hro
    have hE : Env.OK ⟨Try.prog, T, G_dig3, bs⟩ := ⟨tok, by rw [hgl]; exact G_dig3_ok gl⟩
    by_cases c : n < 10
    · have c' : ((n : Int) < 10) = True := eq_true (by omega)
      have w1 : IntKind.i64.wrap (48 + (n : Int)) = 48 + n := wrap64 _ (by omega) (by omega)
      have w2 : IntKind.u8.wrap (48 + (n : Int)) = 48 + n := by simp [IntKind.wrap, IntKind.signed, IntKind.bits]; omega
      have w3 : (48 + (n : Int)).toNat = 48 + n := by omega
      have he : digF n = [UInt8.ofNat (48 + n)] := by unfold digF; rw [if_pos c]
      simp [dig3Spec, dig2Spec, Try.f21, c', w1, w2, w3, he]
    · have c' : ((n : Int) < 10) = False := eq_false (by omega)
      have w1 : Int.tdiv (n : Int) 10 = ((n / 10 : Nat) : Int) := by rw [Int.tdiv_eq_ediv_of_nonneg (by omega)]; omega
      have w2 : Int.tmod (n : Int) 10 = ((n % 10 : Nat) : Int) := by rw [Int.tmod_eq_emod_of_nonneg (by omega)]; omega
      have w3 : IntKind.i64.wrap ((n / 10 : Nat) : Int) = ((n / 10 : Nat) : Int) := wrap64 _ (by omega) (by omega)
      have w4 : IntKind.i64.wrap ((n % 10 : Nat) : Int) = ((n % 10 : Nat) : Int) := wrap64 _ (by omega) (by omega)
      have he := digF_step (n := n) (by omega) (by omega)
      simp [dig3Spec, dig2Spec, Try.f21, c', w1, w2, w3, w4, he]
      have e1 : IntKind.i64.wrap ((n : Int) / 10) = ((n / 10 : Nat) : Int) := by rw [wrap64 _ (by omega) (by omega)]; omega
      have e2 : (n : Int) % 10 = ((n % 10 : Nat) : Int) := by omega
      rw [e1, e2]
      have l1 := digF_len (n / 10)
      have l2 := digF_len (n % 10)
      exact ⟨⟨n / 10, rfl, by omega⟩, ⟨n % 10, rfl, by omega⟩, by simp only [Int.toNat_natCast]; omega, by simp only [Int.toNat_natCast]⟩
def dig4Spec : Spec := { pre := fun args => ∃ n : Nat, args = [.c (.int .i64 n)] ∧ n < 10000, res := fun args => match args with
  | [.c (.int _ n)] => .one (.val (.c (.str (digF n.toNat))))
  | _ => .many [] }
def G_dig4 : Specs := [(21, dig3Spec)]
@[simp] theorem G_dig4_live : Specs.live G_dig4 = false := rfl
@[simp] theorem G_dig4_21 : G_dig4.find 21 = some dig3Spec := rfl
theorem G_dig4_ok (gl : Gl) : SpecsOK Try.prog gl G_dig4 := .cons (dig3_sound gl) (.nil _ _)
set_option maxRecDepth 10000 in
theorem dig4_sound (gl : Gl) : Sound Try.prog gl 21 dig4Spec := by
  refine sound_fn (N := Try.f21.ntmps) (rs := Try.f21.results.toList) mixed tok (G_dig4_ok gl) Try.func21 rfl rfl rfl rfl rfl ?_ ?_ ?_
  · rintro args ⟨n,rfl,hn⟩; simp [Try.f21]
  · rintro args ⟨n,rfl,hn⟩; simp [dig4Spec, Try.f21]
  · rintro args ⟨n,rfl,hn⟩ bs hgl hh hro
    have hE : Env.OK ⟨Try.prog, T, G_dig4, bs⟩ := ⟨tok, by rw [hgl]; exact G_dig4_ok gl⟩
    by_cases c : n < 10
    · have c' : ((n : Int) < 10) = True := eq_true (by omega)
      have w1 : IntKind.i64.wrap (48 + (n : Int)) = 48 + n := wrap64 _ (by omega) (by omega)
      have w2 : IntKind.u8.wrap (48 + (n : Int)) = 48 + n := by simp [IntKind.wrap, IntKind.signed, IntKind.bits]; omega
      have w3 : (48 + (n : Int)).toNat = 48 + n := by omega
      have he : digF n = [UInt8.ofNat (48 + n)] := by unfold digF; rw [if_pos c]
      simp [dig4Spec, dig3Spec, Try.f21, c', w1, w2, w3, he]
    · have c' : ((n : Int) < 10) = False := eq_false (by omega)
      have w1 : Int.tdiv (n : Int) 10 = ((n / 10 : Nat) : Int) := by rw [Int.tdiv_eq_ediv_of_nonneg (by omega)]; omega
      have w2 : Int.tmod (n : Int) 10 = ((n % 10 : Nat) : Int) := by rw [Int.tmod_eq_emod_of_nonneg (by omega)]; omega
      have w3 : IntKind.i64.wrap ((n / 10 : Nat) : Int) = ((n / 10 : Nat) : Int) := wrap64 _ (by omega) (by omega)
      have w4 : IntKind.i64.wrap ((n % 10 : Nat) : Int) = ((n % 10 : Nat) : Int) := wrap64 _ (by omega) (by omega)
      have he := digF_step (n := n) (by omega) (by omega)
      simp [dig4Spec, dig3Spec, Try.f21, c', w1, w2, w3, w4, he]
      have e1 : IntKind.i64.wrap ((n : Int) / 10) = ((n / 10 : Nat) : Int) := by rw [wrap64 _ (by omega) (by omega)]; omega
      have e2 : (n : Int) % 10 = ((n % 10 : Nat) : Int) := by omega
      rw [e1, e2]
      have l1 := digF_len (n / 10)
      have l2 := digF_len (n % 10)
      exact ⟨⟨n / 10, rfl, by omega⟩, ⟨n % 10, rfl, by omega⟩, by simp only [Int.toNat_natCast]; omega, by simp only [Int.toNat_natCast]⟩

theorem textV_len (V : List Int) : ∀ i, (textV V i).length ≤ 5 * i
  | 0 => by simp [textV]
  | i + 1 => by
    rw [textV_succ, List.length_append]
    have h1 := textV_len V i
    have h2 : (pieceV V i).length ≤ 5 := by
      unfold pieceV
      rw [List.length_append]
      have a : (if 0 < i then ([59] : List UInt8) else []).length ≤ 1 := by split <;> simp
      have b : (digT (V.getD i 0)).length ≤ 4 := by
        unfold digT
        split
        · simp
        · exact digF_len _
      omega
    omega
def csV (P : List Int) : List Int := (P.take 20).map fun p => p % 10001 - 1
def csJ (S : List Int) (j : Nat) : List UInt8 := (S.take j).map fun s => u8B (32 + s % 16)
def csB (pr : Int) : List UInt8 := if pr % 5 = 0 then [27, 91] else [27, 91, u8B (59 + pr % 5)]
def csP (pr : Int) : Int := if pr % 5 = 0 then 0 else 59 + pr % 5
def seqC (P : List Int) (pr : Int) (S : List Int) (fi : Int) (tx : List UInt8) : List C := [.sl P.length (ints .u16 P), .int .u8 pr, .sl S.length (ints .u8 S), .int .u8 fi, .str tx]
def wantX (pv f : Int) (ps : X) (it : List UInt8) : List X := [.val (.int .i64 4), .val (.int .i64 0), .val (.int .u8 pv), .val (.int .u8 f), ps, .val (.str it), .val (.str [])]
def csS1 (Q : List C) (V : List Int) (sb : List UInt8) (pv f : Int) (i : Nat) : St := ⟨130, [(1, .ptr 0 0 0), (3, .val (.str (sb ++ textV V i))), (4, .ptr 1 0 0), (5, .val (.int .i64 V.length)), (6, .val (.int .i64 i))], [.box 46 (Q.map .val), .box 42 (wantX pv f (.ref 2 0) []), .sl 51 0 true 1 i (parC (valsV V i))]⟩
def csS2 (Q : List C) (V : List Int) (s : List UInt8) (pv f : Int) (S : List Int) (j : Nat) : St := ⟨130, [(1, .ptr 0 0 0), (3, .val (.str s)), (4, .ptr 1 0 0), (5, .val (.int .i64 V.length)), (8, .val (.int .i64 j))], [.box 46 (Q.map .val), .box 42 (wantX pv f (.val (.sl (parsV V V.length).length (parC (parsV V V.length)))) (csJ S j))]⟩
def lawCsiSpec : Spec := { pre := fun args => ∃ (P : List Int) (pr : Int) (S : List Int) (fi : Int) (tx : List UInt8), args = [.agg (seqC P pr S fi tx)] ∧ (∀ p ∈ P, 0 ≤ p ∧ p < 65536) ∧ (P.length : Int) ≤ 9223372036854775807 ∧ 0 ≤ pr ∧ pr < 256 ∧ Bytes S ∧ (S.length : Int) ≤ 9223372036854775807 ∧ 0 ≤ fi ∧ fi < 256, res := fun _ => .one (.val (.c (.bool true))) }
def G_lawCsi : Specs := [(17, lworksSpec), (23, lprintSpec), (21, dig4Spec), (22, tellsSpec)]
@[simp] theorem G_lawCsi_live : Specs.live G_lawCsi = false := rfl
@[simp] theorem G_lawCsi_17 : G_lawCsi.find 17 = some lworksSpec := rfl
@[simp] theorem G_lawCsi_23 : G_lawCsi.find 23 = some lprintSpec := rfl
@[simp] theorem G_lawCsi_21 : G_lawCsi.find 21 = some dig4Spec := rfl
@[simp] theorem G_lawCsi_22 : G_lawCsi.find 22 = some tellsSpec := rfl
theorem G_lawCsi_ok (gl : Gl) : SpecsOK Try.prog gl G_lawCsi := .cons (lworks_sound gl) (.cons (lprint_sound gl) (.cons (dig4_sound gl) (.cons (tells_sound gl) (.nil _ _))))
set_option maxHeartbeats 8000000 in
set_option maxRecDepth 10000 in
theorem lawCsi_sound (gl : Gl) : Sound Try.prog gl 6 lawCsiSpec := by
  refine sound_awp (N := Try.f6.ntmps) (rs := Try.f6.results.toList) tok Try.func6 rfl rfl rfl rfl rfl ?_ ?_ ?_
  · rintro args ⟨P,pr,S,fi,tx,rfl,hP,hPl,hr0,hr1,hS,hSl,hf0,hf1⟩; simp [Try.f6]
  · rintro args ⟨P,pr,S,fi,tx,rfl,hP,hPl,hr0,hr1,hS,hSl,hf0,hf1⟩; simp [lawCsiSpec, Try.f6]
  · rintro args ⟨P,pr,S,fi,tx,rfl,hP,hPl,hr0,hr1,hS,hSl,hf0,hf1⟩ bs hgl hh hro
    have hE : Env.OK ⟨Try.prog, T, G_lawCsi, bs⟩ := ⟨tok, by rw [hgl]; exact G_lawCsi_ok gl⟩
    have w1 : Int.tmod fi 63 = fi % 63 := Int.tmod_eq_emod_of_nonneg hf0
    have w2 : IntKind.u8.wrap (fi % 63) = fi % 63 := by simp [IntKind.wrap, IntKind.signed, IntKind.bits]; omega
    have w3 : IntKind.u8.wrap (64 + fi % 63) = 64 + fi % 63 := by simp [IntKind.wrap, IntKind.signed, IntKind.bits]; omega
    have w4 : Int.tmod pr 5 = pr % 5 := Int.tmod_eq_emod_of_nonneg hr0
    have w5 : IntKind.u8.wrap (pr % 5) = pr % 5 := by simp [IntKind.wrap, IntKind.signed, IntKind.bits]; omega
    have w6 : IntKind.u8.wrap (59 + pr % 5) = 59 + pr % 5 := by simp [IntKind.wrap, IntKind.signed, IntKind.bits]; omega
    obtain ⟨V, hVe⟩ : ∃ V, csV P = V := ⟨_, rfl⟩
    have hVl : (if 20 < (P.length : Int) then (20 : Int) else P.length) = (V.length : Int) := by
      rw [← hVe]; unfold csV; simp; split <;> omega
    have hV20 : V.length ≤ 20 := by rw [← hVe]; unfold csV; simp; omega
    have hVP : V.length ≤ P.length := by rw [← hVe]; unfold csV; simp; omega
    have hVi : ∀ i, (h : i < V.length) → V[i] = P[i] % 10001 - 1 := fun i h => by subst hVe; simp [csV]
    have hV : ∀ v ∈ V, inV v := fun v hv => by
      rw [← hVe] at hv
      obtain ⟨p, hp, rfl⟩ := List.mem_map.1 hv
      unfold inV; omega
    have hpv : csP pr = 0 ∨ (60 ≤ csP pr ∧ csP pr ≤ 63) := by unfold csP; split <;> omega
    obtain ⟨sb, hsb⟩ : ∃ sb, csB pr = sb := ⟨_, rfl⟩
    have hsbl : sb.length ≤ 3 := by rw [← hsb]; unfold csB; split <;> simp
    refine wpcU_ok hE mixed 4 _ _ _ ?_
    simp [lawCsiSpec, dig4Spec, lprintSpec, lworksSpec, tellsSpec, Try.f6, seqC]
    refine AWP.regionH hE 4 ?_
    simp [w1, w2, w3]
    refine OpW.buildL tok (by simp) ?_
    rcases Decidable.em (pr % 5 = 0) with r0 | r0
    case' inl =>
      have r1 : (0 < pr % 5) = False := eq_false (by omega)
      have hs0 : sb = [27, 91] := by rw [← hsb]; unfold csB; rw [if_pos r0]
      have hp0 : csP pr = 0 := by unfold csP; rw [if_pos r0]
      simp [w1, w2, w3, w4, w5, r1, hVl]
      refine AWP.weaken (st' := csS1 (seqC P pr S fi tx) V sb (csP pr) (64 + fi % 63) 0) (Weak.ren [some 0, some 1, none] (baseOK.nil hh) (by simp) (by simp [csS1, seqC, wantX, hp0, hs0, textV, valsV, parC]) (by simp [csS1, seqC, wantX, hp0, hs0, textV, valsV, parC])) ?_
    case' inr =>
      have r1 : (0 < pr % 5) = True := eq_true (by omega)
      have hs0 : sb = [27, 91, u8B (59 + pr % 5)] := by rw [← hsb]; unfold csB; rw [if_neg r0]
      have hp0 : csP pr = 59 + pr % 5 := by unfold csP; rw [if_neg r0]
      have hu8 : UInt8.ofNat (59 + pr % 5).toNat = u8B (59 + pr % 5) := rfl
      simp [w1, w2, w3, w4, w5, w6, r1, hVl, hu8]
      refine AWP.weaken (st' := csS1 (seqC P pr S fi tx) V sb (csP pr) (64 + fi % 63) 0) (Weak.ren [some 0, some 1, none] (baseOK.nil hh) (by simp) (by simp [csS1, seqC, wantX, hp0, hs0, textV, valsV, parC]) (by simp [csS1, seqC, wantX, hp0, hs0, textV, valsV, parC])) ?_
    all_goals
      have hQ : ∃ Q, seqC P pr S fi tx = Q := ⟨_, rfl⟩
      refine AWP.leaves 0 (csS1 (seqC P pr S fi tx) V sb (csP pr) (64 + fi % 63) V.length) (AWP.rounds (fun i => i ≤ V.length) (csS1 (seqC P pr S fi tx) V sb (csP pr) (64 + fi % 63)) (fun i => V.length - i) 0 (by simp) (Weak.refl _ _) ?_) ?_
      · intro i hi
        refine wpc_ok hE mixed _ _ _ ?_
        rcases Nat.lt_or_ge i V.length with h | h
        · have hiP : i < P.length := by omega
          have ilt : ((i : Int) < V.length) = True := eq_true (by omega)
          have ilp : (i < P.length) = True := eq_true hiP
          have hd : (ints .u16 P).drop i = .int .u16 P[i] :: (ints .u16 P).drop (i + 1) := by
            rw [List.drop_eq_getElem_cons (by simpa [ints] using hiP)]; simp [ints]
          have hv := hVi i h
          have hpi := hP _ (List.getElem_mem hiP)
          have hvin := hV _ (List.getElem_mem h)
          have hts := textV_succ V i
          have hvs := valsV_succ h
          have hg : V.getD i 0 = V[i] := by rw [List.getD_eq_getElem?_getD, List.getElem?_eq_getElem h]; rfl
          unfold pieceV at hts
          rw [hg] at hts hvs
          obtain ⟨v, hv2⟩ : ∃ v, V[i] = v := ⟨_, rfl⟩
          rw [hv2] at hts hvs hv hvin
          generalize P[i] = p at *
          have k1 : Int.tmod p 10001 = p % 10001 := Int.tmod_eq_emod_of_nonneg hpi.1
          have k2 : IntKind.i64.wrap (p % 10001) = p % 10001 := wrap64 _ (by omega) (by omega)
          have k3 : IntKind.i64.wrap (p % 10001 - 1) = v := by rw [wrap64 _ (by omega) (by omega)]; omega
          have k4 : IntKind.u16.wrap (p % 10001) = p % 10001 := by simp [IntKind.wrap, IntKind.signed, IntKind.bits]; omega
          have k5 : IntKind.i64.wrap ((i : Int) + 1) = ((i + 1 : Nat) : Int) := by rw [wrap64 _ (by omega) (by omega)]; omega
          have k6 : sb.length + (textV V i).length ≤ 1000 := by have := textV_len V i; omega
          have hpc : parC (valsV V (i + 1)) = parC (valsV V i) ++ [.sl 1 [.int .i64 v]] := by rw [hvs, parC_app]; rfl
          have l4 := digF_len v.toNat
          by_cases i0 : i = 0
          · have i1 : (0 < i) = False := eq_false (by omega)
            by_cases n0 : v < 0
            · have n1 : (0 ≤ v) = False := eq_false (by omega)
              have hts1 : textV V (i + 1) = textV V i := by rw [hts]; unfold digT; simp [i1, n0]
              simp [csS1, wantX, seqC, lawCsiSpec, dig4Spec, lprintSpec, lworksSpec, tellsSpec, Try.f6, ilt, ilp, i1, hd, k1, k2, k3, k4, k5, n1]
              exact ⟨⟨by omega, by omega⟩, Next.mk (i + 1) h (by omega) (Weak.ren [some 0, some 1, some 2] (baseOK.nil hh) (by simp) (by simp [csS1, wantX, seqC, hpc]) (by simp [csS1, hts1]))⟩
            · have n1 : (0 ≤ v) = True := eq_true (by omega)
              have hts1 : textV V (i + 1) = textV V i ++ digF v.toNat := by rw [hts]; unfold digT; simp [i1, n0]
              simp [csS1, wantX, seqC, lawCsiSpec, dig4Spec, lprintSpec, lworksSpec, tellsSpec, Try.f6, ilt, ilp, i1, hd, k1, k2, k3, k4, k5, n1]
              exact ⟨⟨v.toNat, by omega, by unfold inV at hvin; omega⟩, by omega, ⟨by omega, by omega⟩, Next.mk (i + 1) h (by omega) (Weak.ren [some 0, some 1, some 2] (baseOK.nil hh) (by simp) (by simp [csS1, wantX, seqC, hpc]) (by simp [csS1, hts1]))⟩
          · have i1 : (0 < i) = True := eq_true (by omega)
            by_cases n0 : v < 0
            · have n1 : (0 ≤ v) = False := eq_false (by omega)
              have hts1 : textV V (i + 1) = textV V i ++ [59] := by rw [hts]; unfold digT; simp [i1, n0]
              simp [csS1, wantX, seqC, lawCsiSpec, dig4Spec, lprintSpec, lworksSpec, tellsSpec, Try.f6, ilt, ilp, i1, hd, k1, k2, k3, k4, k5, n1]
              exact ⟨by omega, ⟨by omega, by omega⟩, Next.mk (i + 1) h (by omega) (Weak.ren [some 0, some 1, some 2] (baseOK.nil hh) (by simp) (by simp [csS1, wantX, seqC, hpc]) (by simp [csS1, hts1]))⟩
            · have n1 : (0 ≤ v) = True := eq_true (by omega)
              have hts1 : textV V (i + 1) = textV V i ++ 59 :: digF v.toNat := by rw [hts]; unfold digT; simp [i1, n0]
              simp [csS1, wantX, seqC, lawCsiSpec, dig4Spec, lprintSpec, lworksSpec, tellsSpec, Try.f6, ilt, ilp, i1, hd, k1, k2, k3, k4, k5, n1]
              exact ⟨by omega, ⟨v.toNat, by omega, by unfold inV at hvin; omega⟩, by omega, ⟨by omega, by omega⟩, Next.mk (i + 1) h (by omega) (Weak.ren [some 0, some 1, some 2] (baseOK.nil hh) (by simp) (by simp [csS1, wantX, seqC, hpc]) (by simp [csS1, hts1]))⟩
        · obtain rfl : i = V.length := by omega
          simp [csS1]
          exact Leaves.mk (Weak.keep (by simp))
      · obtain ⟨j3, hj3⟩ : ∃ j3, min S.length 3 = j3 := ⟨_, rfl⟩
        have htl := textV_len V V.length
        obtain ⟨sN, hsN⟩ : ∃ sN, sb ++ textV V V.length = sN := ⟨_, rfl⟩
        have hsNl : sN.length ≤ 200 := by rw [← hsN, List.length_append]; omega
        rcases Nat.lt_or_ge V.length 2 with hlt2 | hge2
        case' inr =>
          have v1' : ((V.length : Int) = 1) = False := eq_false (by omega)
          obtain ⟨v, rest, hvz⟩ : ∃ v rest, parC (valsV V V.length) = .sl 1 [.int .i64 v] :: rest := by
            match V, hge2 with
            | a :: b :: l, _ => exact ⟨a, parC ((b :: l).map fun v => [v]), by simp [valsV, parC, subC, ints]⟩
          have hpz : parsV V V.length = valsV V V.length := by unfold parsV; rw [if_neg (by omega)]
          have hvl : (valsV V V.length).length = V.length := valsV_len (Nat.le_refl _)
          have hpl : (parsV V V.length).length = V.length := by rw [hpz]; exact valsV_len (Nat.le_refl _)
          simp [csS1, wantX, seqC, v1', hsN, hvz]
          refine AWP.weaken (st' := csS2 (seqC P pr S fi tx) V sN (csP pr) (64 + fi % 63) S 0) (Weak.trans (Weak.solid 1 2 4 rfl rfl rfl) (Weak.ren [some 0, some 1] (baseOK.nil hh) (by simp) (by simp [csS2, wantX, seqC, hvl, hpz, hvz, csJ]) (by simp [csS2]))) ?_
        case' inl =>
          rcases Nat.eq_zero_or_pos V.length with v0 | v1
          case' inl =>
            have hV0 : V = [] := List.eq_nil_of_length_eq_zero v0
            have hpz : parsV V V.length = [] := by rw [hV0]; rfl
            have hvz : parC (valsV V 0) = [] := rfl
            have hsN0 : sb ++ textV V 0 = sN := by rw [← v0]; exact hsN
            simp [csS1, wantX, seqC, v0, hsN0, hvz]
            simp [iaS, exE, slOf]
            refine OpW.skip (.fptr [.int .i64 0]) rfl (by simp) (by simp) ?_
            simp
            refine AWP.weaken (st' := csS2 (seqC P pr S fi tx) V sN (csP pr) (64 + fi % 63) S 0) (Weak.trans (Weak.solid 1 2 4 rfl rfl rfl) (Weak.ren [some 0, some 1] (baseOK.nil hh) (by simp) (by simp [csS2, wantX, seqC, hpz, parC, csJ]) (by simp [csS2, v0, hsN0]))) ?_
          case' inr =>
            have v1' : V.length = 1 := by omega
            obtain ⟨v, hv⟩ := List.length_eq_one_iff.mp v1'
            have hsN0 : sb ++ textV V 1 = sN := by rw [← v1']; exact hsN
            have hvl : (valsV V 1).length = 1 := by rw [hv]; rfl
            have hvz : parC (valsV V 1) = [.sl 1 [.int .i64 v]] := by rw [hv]; rfl
            rcases Decidable.em (v = -1) with vn | vn
            case' inl =>
              have vn' : (v = -1) = True := eq_true vn
              have hpz : parsV V V.length = [] := by unfold parsV; rw [if_pos (.inr ⟨v1', by rw [hv, vn]; rfl⟩)]
              simp [csS1, wantX, seqC, v1', hsN0, hvz, vn']
              refine AWP.weaken (st' := csS2 (seqC P pr S fi tx) V sN (csP pr) (64 + fi % 63) S 0) (Weak.ren [some 0, some 1] (baseOK.nil hh) (by simp) (by simp [csS2, wantX, seqC, hpz, parC, csJ]) (by simp [csS2, v1', hsN0])) ?_
            case' inr =>
              have vn' : (v = -1) = False := eq_false vn
              have hpz : parsV V V.length = valsV V 1 := by unfold parsV; rw [v1', if_neg (by rw [hv]; simp; exact vn)]
              have hpl : (parsV V V.length).length = 1 := by rw [hpz, hv]; rfl
              simp [csS1, wantX, seqC, v1', hsN0, hvz, vn']
              refine AWP.weaken (st' := csS2 (seqC P pr S fi tx) V sN (csP pr) (64 + fi % 63) S 0) (Weak.trans (Weak.solid 1 2 4 rfl rfl rfl) (Weak.ren [some 0, some 1] (baseOK.nil hh) (by simp) (by simp [csS2, wantX, seqC, hvl, hpz, hvz, csJ]) (by simp [csS2, v1', hsN0]))) ?_
        all_goals
          refine AWP.leaves 2 (csS2 (seqC P pr S fi tx) V sN (csP pr) (64 + fi % 63) S j3) (AWP.rounds (fun j => j ≤ S.length ∧ j ≤ 3) (csS2 (seqC P pr S fi tx) V sN (csP pr) (64 + fi % 63) S) (fun j => S.length - j) 0 (by simp) (Weak.refl _ _) ?_) ?_
          · rintro j ⟨hj, hj3'⟩
            refine wpc_ok hE mixed _ _ _ ?_
            rcases Nat.lt_or_ge j S.length with g | g
            · have jlt : (j < S.length) = True := eq_true g
              rcases Nat.lt_or_ge j 3 with g3 | g3
              · have jl3 : ((j : Int) < 3) = True := eq_true (by omega)
                have hd := ints_at8 g
                have hc := hS _ (List.getElem_mem g)
                have hJ : csJ S (j + 1) = csJ S j ++ [u8B (32 + S[j] % 16)] := by
                  unfold csJ; rw [List.take_add_one, List.getElem?_eq_getElem g, List.map_append]; rfl
                have hJl : (csJ S j).length ≤ 3 := by unfold csJ; simp; omega
                generalize S[j] = c at *
                have k1 : Int.tmod c 16 = c % 16 := Int.tmod_eq_emod_of_nonneg hc.1
                have k3 : IntKind.u8.wrap (32 + c % 16) = 32 + c % 16 := by simp [IntKind.wrap, IntKind.signed, IntKind.bits]; omega
                have k4 : UInt8.ofNat (32 + c % 16).toNat = u8B (32 + c % 16) := rfl
                have k5 : IntKind.i64.wrap ((j : Int) + 1) = ((j + 1 : Nat) : Int) := by rw [wrap64 _ (by omega) (by omega)]; omega
                simp [csS2, wantX, seqC, lawCsiSpec, dig4Spec, lprintSpec, lworksSpec, tellsSpec, Try.f6, jlt, jl3, hd, k1, k3, k4, k5, g]
                exact ⟨by omega, rfl, Next.mk (j + 1) ⟨g, by omega⟩ (by omega) (Weak.ren [some 0, some 1] (baseOK.nil hh) (by simp) (by simp [csS2, wantX, seqC, hJ]) (by simp [csS2]))⟩
              · have jl3 : ((j : Int) < 3) = False := eq_false (by omega)
                have hjj : j3 = j := by omega
                simp [csS2, wantX, seqC, jlt, jl3]
                exact Leaves.mk (Weak.ren [some 0, some 1] (baseOK.nil hh) (by simp) (by simp [hjj]) (by simp [hjj]))
            · have jlt : (j < S.length) = False := eq_false (by omega)
              have hjj : j3 = j := by omega
              simp [csS2, wantX, seqC, jlt]
              exact Leaves.mk (Weak.ren [some 0, some 1] (baseOK.nil hh) (by simp) (by simp [hjj]) (by simp [hjj]))
          · have hJl : (csJ S j3).length = j3 := by unfold csJ; simp; omega
            have hJb : ∀ b ∈ csJ S j3, 32 ≤ b.toNat ∧ b.toNat < 48 := fun b hb => by
              unfold csJ at hb
              obtain ⟨x, hx, rfl⟩ := List.mem_map.1 hb
              have hx2 := hS x (List.mem_of_mem_take hx)
              have := u8B_nat (b := 32 + x % 16) (by omega)
              omega
            unfold csS2
            generalize csJ S j3 = J at *
            have hf0 : (64 : Int) ≤ 64 + fi % 63 ∧ 64 + fi % 63 < 127 := by omega
            have hfeed := csi_feed (f := 64 + fi % 63) hpv hV hJb hf0.1 hf0.2 (Nat.le_refl V.length)
            have hfn := u8B_nat (b := 64 + fi % 63) (by omega)
            have hbytes : nums8 (sN ++ (J ++ [u8B (64 + fi % 63), 122])) = 27 :: 91 :: (privL (csP pr) ++ (nums8 (textV V V.length) ++ (nums8 J ++ [64 + fi % 63, 122]))) := by
              rw [← hsN, hs0]
              have e1 : ((u8B (64 + fi % 63)).toNat : Int) = 64 + fi % 63 := by omega
              have e2 : ((122 : UInt8).toNat : Int) = 122 := rfl
              have e3 : ((27 : UInt8).toNat : Int) = 27 := rfl
              have e4 : ((91 : UInt8).toNat : Int) = 91 := rfl
              unfold privL
              rw [hp0]
              first
                | simp [e1, e2, e3, e4]; done
                | (have e5 : ((u8B (59 + pr % 5)).toNat : Int) = 59 + pr % 5 := by have := u8B_nat (b := 59 + pr % 5) (by omega); omega
                   have e6 : ¬ (59 + pr % 5 = 0) := by omega
                   simp [e1, e2, e3, e4, e5, e6])
            rw [← hbytes] at hfeed
            have ht := tells_of hfeed (by simp; omega)
            have huf : UInt8.ofNat (64 + fi % 63).toNat = u8B (64 + fi % 63) := rfl
            have u1 : unE [.int .i64 1, .int .i64 122, .int .u8 0, .int .u8 0, .sl 0 [], .str [], .str []] = [evCode 1 122] := rfl
            obtain ⟨N, hN⟩ : ∃ N, parsV V V.length = N := ⟨_, rfl⟩
            rw [hN] at ht
            have hu : unE (evC ⟨4, 0, csP pr, 64 + fi % 63, N, J, []⟩ ++ evC (evCode 1 122)) = [⟨4, 0, csP pr, 64 + fi % 63, N, J, []⟩, evCode 1 122] := by
              have := unE_C [⟨4, 0, csP pr, 64 + fi % 63, N, J, []⟩, evCode 1 122]
              simpa [evsC] using this
            have u2 : unE [.int .i64 4, .int .i64 0, .int .u8 (csP pr), .int .u8 (64 + fi % 63), .sl N.length (parC N), .str J, .str [], .int .i64 1, .int .i64 122, .int .u8 0, .int .u8 0, .sl 0 [], .str [], .str []] = [⟨4, 0, csP pr, 64 + fi % 63, N, J, []⟩, evCode 1 122] := hu
            have o2 : TellsOK 2 [.int .i64 4, .int .i64 0, .int .u8 (csP pr), .int .u8 (64 + fi % 63), .sl N.length (parC N), .str J, .str [], .int .i64 1, .int .i64 122, .int .u8 0, .int .u8 0, .sl 0 [], .str [], .str []] := ⟨[⟨4, 0, csP pr, 64 + fi % 63, N, J, []⟩, evCode 1 122], rfl, rfl⟩
            have e00 : parC [] = [] := rfl
            by_cases n16 : 16 < V.length
            · have n1 : (16 < (V.length : Int)) = True := eq_true (by omega)
              rw [if_neg (by omega)] at ht
              simp only [List.nil_append, evCode] at ht u1
              simp [wantX, seqC, lawCsiSpec, dig4Spec, lprintSpec, lworksSpec, tellsSpec, Try.f6, evC, evCode, parC, n1, huf, u1, ht]
              exact ⟨by omega, by omega, by omega, _, _, _, ⟨rfl, rfl, rfl⟩, .of rfl rfl, by simp; omega⟩
            have n1 : (16 < (V.length : Int)) = False := eq_false (by omega)
            by_cases j2 : 2 < J.length
            · have n2 : (2 < (J.length : Int)) = True := eq_true (by omega)
              rw [if_neg (by omega)] at ht
              simp only [List.nil_append, evCode] at ht u1
              simp [wantX, seqC, lawCsiSpec, dig4Spec, lprintSpec, lworksSpec, tellsSpec, Try.f6, evC, evCode, e00, n1, n2, huf, u1, ht]
              exact ⟨by omega, by omega, by omega, _, _, _, ⟨rfl, rfl, rfl⟩, .of rfl rfl, by simp; omega⟩
            · have n2 : (2 < (J.length : Int)) = False := eq_false (by omega)
              rw [if_pos (by omega)] at ht
              simp only [List.cons_append, List.nil_append, evCode] at ht u2
              simp [wantX, seqC, lawCsiSpec, dig4Spec, lprintSpec, lworksSpec, tellsSpec, Try.f6, evC, evCode, e00, n1, n2, huf, u2, ht, hN]
              exact ⟨by omega, by omega, by omega, ⟨_, _, _, ⟨rfl, rfl, rfl⟩, o2, by simp; omega⟩, rfl⟩
end Fen

namespace Fen
open Go Go.Proofs

theorem u16_rng {n : Int} (h : IntKind.u16.min ≤ n ∧ n ≤ IntKind.u16.max) : 0 ≤ n ∧ n < 65536 := by
  simp [IntKind.min, IntKind.max, IntKind.signed, IntKind.bits] at h
  omega
theorem flat_ints (k : IntKind) (l : List Int) : l.flatMap (fun n => [C.int k n]) = ints k l := by
  induction l with
  | nil => rfl
  | cons a l ih => rw [List.flatMap_cons, ih]; rfl
theorem arg_seq {A : V} (h : TypedV T 46 A) : ∃ (P : List Int) (pr : Int) (S : List Int) (fi : Int) (tx : List UInt8), A = .agg (seqC P pr S fi tx) ∧ (∀ p ∈ P, 0 ≤ p ∧ p < 65536) ∧ (P.length : Int) ≤ 9223372036854775807 ∧ 0 ≤ pr ∧ pr < 256 ∧ Bytes S ∧ (S.length : Int) ≤ 9223372036854775807 ∧ 0 ≤ fi ∧ fi < 256 := by
  obtain ⟨d, ks, rfl, hk0⟩ := arg_agg T_46 rfl h
  obtain ⟨d', parts, rfl, hk⟩ := typed_struct T_46 hk0
  match parts, hk with
  | [p0, p1, p2, p3, p4], ⟨h0, h1, h2, h3, h4, _⟩ =>
    obtain ⟨P, rfl, hP, qP⟩ := typed_slice_of (en := fun n : Int => [C.int .u16 n]) (Q := fun n => 0 ≤ n ∧ n < 65536) T_44 (fun d p h => by
      obtain ⟨n, rfl, q⟩ := typed_int T_47 h
      exact ⟨n, rfl, u16_rng q⟩) h0
    obtain ⟨a, rfl, qa⟩ := typed_int T_5 h1
    obtain ⟨S, rfl, hS, qS⟩ := typed_slice_of (en := fun n : Int => [C.int .u8 n]) (Q := fun n => 0 ≤ n ∧ n < 256) T_22 (fun d p h => by
      obtain ⟨n, rfl, q⟩ := typed_int T_5 h
      exact ⟨n, rfl, u8_rng q⟩) h2
    obtain ⟨b, rfl, qb⟩ := typed_int T_5 h3
    obtain ⟨t, rfl, _⟩ := typed_str T_9 h4
    refine ⟨P, a, S, b, t, ?_, qP, maxLen_le hP, (u8_rng qa).1, (u8_rng qa).2, qS, maxLen_le hS, (u8_rng qb).1, (u8_rng qb).2⟩
    rw [flat_ints, flat_ints]
    rfl
end Fen
