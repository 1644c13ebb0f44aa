/- A part of the proof; no statement is proved here: SLawA, SLawC. -/
import Derived.Test.YthmebgohfigfpaaRefA
import Derived.Test.YthmebgohfigfpaaStA

set_option linter.unusedVariables false
set_option linter.unusedSimpArgs false

namespace Fen
open Go Go.Proofs

/-! ### the contracts with their conditions under one name -/
def FeedIn (a : List V) : Prop := sfeedSpec.pre a
def feedoSpec : Spec := { pre := FeedIn, res := sfeedSpec.res }
theorem feedo_sound (gl : Gl) : Sound Try.prog gl 13 feedoSpec := sfeed_sound gl
def CheckIn (a : List V) : Prop := checkSpec.pre a
def checkoSpec : Spec := { pre := CheckIn, res := checkSpec.res }
theorem checko_sound (gl : Gl) : Sound Try.prog gl 18 checkoSpec := scheck_sound gl
def SameIn (a : List V) : Prop := sameSpec.pre a
def sameoSpec : Spec := { pre := SameIn, res := sameSpec.res }
theorem sameo_sound (gl : Gl) : Sound Try.prog gl 15 sameoSpec := r6same_sound gl
def EventsIn (a : List V) : Prop := eventsSpec.pre a
def eventsoSpec : Spec := { pre := EventsIn, res := eventsSpec.res }
theorem eventso_sound (gl : Gl) : Sound Try.prog gl 16 eventsoSpec := events_sound gl
theorem worksIn : lworksSpec.pre [] := rfl

@[simp] theorem renXs_val (h h' : List Blk) (ids : List (Option Nat)) : ∀ cs : List C, renXs h h' ids (cs.map X.val) (cs.map X.val) = True
  | [] => by simp [renXs]
  | c :: cs => by simp [renXs, renX, renXs_val h h' ids cs]
def gotH (evs : List Ev) : List Blk := [.sl tE 0 true 7 evs.length (evsC evs)]
theorem feed_off (p : Ps) (l : List Int) (k n : Nat) : feed6 p (l.take (k + n)) = ((feed6 (feed6 p (l.take k)).1 ((l.drop k).take n)).1, (feed6 p (l.take k)).2 ++ (feed6 (feed6 p (l.take k)).1 ((l.drop k).take n)).2) := by
  rw [← feed6_app, List.take_add]
def pBox (p : Ps) : Blk := .box 25 ((psC p).map .val)
def chuS (b c : List Int) (E : Ps × List Ev) (k i : Nat) : St := ⟨100, [(0, .val (.sl b.length (ints .u8 b))), (1, .val (.sl c.length (ints .u8 c))), (5, .ptr 0 0 0), (6, .val (.sl E.2.length (evsC E.2))), (7, .val (.int .i64 0)), (8, .ptr 1 0 0), (9, .ref 2 0), (10, .val (.int .i64 k)), (11, .val (.int .i64 i))], pBox E.1 :: pBox (feed6 (sbegin 0) (b.take k)).1 :: gotH (feed6 (sbegin 0) (b.take k)).2⟩
def chuT (b c : List Int) (E y : Ps × List Ev) (k i n : Nat) : St := ⟨100, [(0, .val (.sl b.length (ints .u8 b))), (1, .val (.sl c.length (ints .u8 c))), (5, .ptr 0 0 0), (6, .val (.sl E.2.length (evsC E.2))), (7, .val (.int .i64 0)), (8, .ptr 1 0 0), (9, .ref 2 0), (10, .val (.int .i64 k)), (11, .val (.int .i64 i)), (12, .val (.int .i64 n))], pBox E.1 :: pBox y.1 :: gotH y.2⟩
def lawChunksSpec : Spec := { pre := fun args => ∃ b c : List Int, args = [bytesV b, bytesV c] ∧ Bytes b ∧ Bytes c ∧ (b.length : Int) ≤ 9223372036854775807 ∧ (c.length : Int) ≤ 9223372036854775807, res := fun _ => .one (.val (.c (.bool true))) }
def G_lawChunks : Specs := [(17, lworksSpec), (13, feedoSpec), (18, checkoSpec), (15, sameoSpec), (16, eventsoSpec)]
@[simp] theorem G_lawChunks_live : Specs.live G_lawChunks = false := rfl
@[simp] theorem G_lawChunks_17 : G_lawChunks.find 17 = some lworksSpec := rfl
@[simp] theorem G_lawChunks_13 : G_lawChunks.find 13 = some feedoSpec := rfl
@[simp] theorem G_lawChunks_18 : G_lawChunks.find 18 = some checkoSpec := rfl
@[simp] theorem G_lawChunks_15 : G_lawChunks.find 15 = some sameoSpec := rfl
@[simp] theorem G_lawChunks_16 : G_lawChunks.find 16 = some eventsoSpec := rfl
theorem G_lawChunks_ok (gl : Gl) : SpecsOK Try.prog gl G_lawChunks := .cons (lworks_sound gl) (.cons (feedo_sound gl) (.cons (checko_sound gl) (.cons (sameo_sound gl) (.cons (eventso_sound gl) (.nil _ _)))))
set_option maxHeartbeats 8000000 in
set_option maxRecDepth 10000 in
theorem lawChunks_sound (gl : Gl) : Sound Try.prog gl 4 lawChunksSpec := by
  refine sound_awp (N := Try.f4.ntmps) (rs := Try.f4.results.toList) tok Try.func4 rfl rfl rfl rfl rfl ?_ ?_ ?_
  · rintro args ⟨b0,c,rfl,hb0,hc,hbl,hcl⟩; simp [bytesV, Try.f4]
  · rintro args ⟨b0,c,rfl,hb0,hc,hbl,hcl⟩; simp [bytesV, lawChunksSpec, Try.f4]
  · rintro args ⟨b0,c,rfl,hb0,hc,hbl,hcl⟩ bs hgl hh hro
    have hE : Env.OK ⟨Try.prog, T, G_lawChunks, bs⟩ := ⟨tok, by rw [hgl]; exact G_lawChunks_ok gl⟩
    simp only [lawChunksSpec, bytesV]
    obtain ⟨b, hb⟩ : ∃ b, b0.take 400 = b := ⟨_, rfl⟩
    have hby : Bytes b := by rw [← hb]; exact bytes_take hb0 400
    have hbn : b.length ≤ 400 := by rw [← hb]; simp; omega
    have hmin : (if 400 < (b0.length : Int) then (400 : Int) else b0.length) = b.length := by rw [← hb]; simp; split <;> omega
    have hble : ((b.length : Int) ≤ b0.length) = True := eq_true (by rw [← hb]; simp; omega)
    have htk : b0.take b.length = b := by rw [← hb]; simp
    have e3 : psOf [.int .i64 0, .sl 0 [], .int .u8 0, .int .u8 0, .sl 0 [], .str [], .str [], .bool false] = sbegin 0 := rfl
    have hm0 : may6 (sbegin 0) = true := may_begin.1
    have hu0 : Bytes (sbegin 0).u := fun x hx => by simp [sbegin] at hx
    have hFe : ∀ {p : Ps} {l : List Int}, may6 p = true → l.length ≤ 400 → feedF p l = ((feed6 p l).1, (feed6 p l).2, 0) := fun {p l} h h2 => by
      unfold feedF; rw [if_pos h, if_neg (by omega)]
    have hF0 := hFe hm0 hbn
    obtain ⟨E, hE0⟩ : ∃ E, feed6 (sbegin 0) b = E := ⟨_, rfl⟩
    rw [hE0] at hF0
    have hEm : may6 E.1 = true := by rw [← hE0]; exact feed_may hm0 hby
    have hEu : Bytes E.1.u := by rw [← hE0]; exact feed_bytes hu0 hby
    refine wpc_ok hE mixed _ _ _ ?_
    simp [lawChunksSpec, checkoSpec, eventsoSpec, feedoSpec, lworksSpec, sameoSpec, Try.f4, sfeedSpec, worksIn, hmin, hble, htk, e3, nums_u8, hF0]
    refine ⟨⟨sbegin 0, b, rfl, may_on hm0 hu0, hby, by omega⟩, ?_⟩
    refine AWP.rounds (fun x => x.1 ≤ b.length ∧ (x.1 < b.length → x.2 ≤ 100) ∧ x.2 ≤ 101) (fun x => chuS b c E x.1 x.2) (fun x => if x.1 < b.length then 101 - x.2 else 0) (0, 0) (by simp) ?_ ?_
    · exact Weak.ren [some 0, some 1, none] (baseOK.nil hh) (by simp) (by simp [chuS, gotH, pBox, feed6, sbegin, psC, ints, parC, evsC]) (by simp [chuS, gotH, pBox, feed6, sbegin, psC, ints, parC])
    · rintro ⟨k, i⟩ ⟨h1, h2, h3⟩
      simp only at h1 h2 h3
      have hkm := feed_may (l := b.take k) hm0 (bytes_take hby k)
      have hku := feed_bytes (l := b.take k) hu0 (bytes_take hby k)
      rcases Nat.lt_or_ge k b.length with h | h
      · have klt : ((k : Int) < b.length) = True := eq_true (by omega)
        have w1 : IntKind.i64.wrap ((i : Int) + 1) = ((i + 1 : Nat) : Int) := by rw [wrap64 _ (by omega) (by omega)]; omega
        have w2 : IntKind.i64.wrap ((b.length : Int) - k) = ((b.length - k : Nat) : Int) := by rw [wrap64 _ (by omega) (by omega)]; omega
        obtain ⟨y, hy⟩ : ∃ y, feed6 (sbegin 0) (b.take k) = y := ⟨_, rfl⟩
        rw [hy] at hkm hku
        rcases Decidable.em (i < c.length ∧ i < 100) with hcut | hcut
        case' inl =>
          have i1 : (i < c.length) = True := eq_true hcut.1
          have i2 : ((i : Int) < 100) = True := eq_true (by omega)
          have i3 : (0 < c.length - i) = True := eq_true (by omega)
          have hdc := ints_at8 hcut.1
          have hci := hc _ (List.getElem_mem hcut.1)
          generalize c[i]'hcut.1 = q at *
          obtain ⟨n, hn⟩ : ∃ n : Nat, (if q % 20 < ((b.length - k : Nat) : Int) then q % 20 else ((b.length - k : Nat) : Int)) = n := ⟨(if q % 20 < ((b.length - k : Nat) : Int) then q % 20 else ((b.length - k : Nat) : Int)).toNat, by split <;> omega⟩
          have hnl : n ≤ b.length - k := by split at hn <;> omega
          have hnm : i < 100 ∨ n = b.length - k := .inl hcut.2
          have w3 : IntKind.u8.wrap (q % 20) = q % 20 := by simp [IntKind.wrap, IntKind.signed, IntKind.bits]; omega
          have w4 : IntKind.i64.wrap (q % 20) = q % 20 := wrap64 _ (by omega) (by omega)
          have w5 : Int.tmod q 20 = q % 20 := by rw [Int.tmod_eq_emod_of_nonneg hci.1]
          refine wpcU_ok hE mixed 14 _ _ _ ?_
          simp [chuS, klt, w2, i1, i2, i3, hdc, hy, w3, w4, w5, hn]
          refine AWP.weaken (st' := chuT b c E y k i n) (Weak.keep (by simp [chuT])) ?_
        case' inr =>
          obtain ⟨n, hn⟩ : ∃ n : Nat, b.length - k = n := ⟨_, rfl⟩
          have hnl : n ≤ b.length - k := by omega
          have hnm : i < 100 ∨ n = b.length - k := .inr hn.symm
          have i3 : (i < c.length ∧ i < 100) = False := eq_false hcut
          refine wpcU_ok hE mixed 14 _ _ _ ?_
          rcases Nat.lt_or_ge i c.length with i0 | i0
          case' inl =>
            have i1 : (i < c.length) = True := eq_true i0
            have i2 : ((i : Int) < 100) = False := eq_false (by omega)
            simp [chuS, klt, w2, i1, i2, hy, hn]
            refine AWP.weaken (st' := chuT b c E y k i n) (Weak.keep (by simp [chuT])) ?_
          case' inr =>
            have i1 : (i < c.length) = False := eq_false (by omega)
            simp [chuS, klt, w2, i1, hy, hn]
            refine AWP.weaken (st' := chuT b c E y k i n) (Weak.keep (by simp [chuT])) ?_
        all_goals
          refine wpc_ok hE mixed _ _ _ ?_
          obtain ⟨d, hd⟩ : ∃ d, (b.drop k).take n = d := ⟨_, rfl⟩
          have hdb : Bytes d := by rw [← hd]; exact fun x hx => hby x (List.mem_of_mem_drop (List.mem_of_mem_take hx))
          have hdl : d.length = n := by rw [← hd]; simp; omega
          have hoff := feed_off (sbegin 0) b k n
          rw [hy, hd] at hoff
          obtain ⟨z, hz⟩ : ∃ z, feed6 y.1 d = z := ⟨_, rfl⟩
          rw [hz] at hoff
          have hF := hFe (l := d) hkm (by omega)
          rw [hz] at hF
          have hzm : may6 z.1 = true := by rw [← hz]; exact feed_may hkm hdb
          have hzu : Bytes z.1.u := by rw [← hz]; exact feed_bytes hku hdb
          have w6 : IntKind.i64.wrap ((k : Int) + n) = ((k + n : Nat) : Int) := by rw [wrap64 _ (by omega) (by omega)]; omega
          have kn0 : ((k : Int) + n ≤ b.length) = True := eq_true (by omega)
          have t8 : ∀ p : Ps, (psC p).take 8 = psC p := fun _ => rfl
          have kn1 : ((k : Int) + n).toNat - k = n := by omega
          have kn2 : ((k : Int) ≤ k + n) = True := eq_true (by omega)
          have d8 : ∀ (p : Ps), ((psC p).map X.val).drop 8 = [] := fun _ => rfl
          have l1 := feed_len (b.take k) (sbegin 0)
          have l2 := feed_len d y.1
          rw [hy, List.length_take] at l1
          rw [hz] at l2
          have tE' : (42 = tE) = True := eq_true rfl
          simp [chuT, gotH, pBox, and_assoc, checkoSpec, eventsoSpec, feedoSpec, lworksSpec, sameoSpec, sfeedSpec, checkSpec, nums_u8, hF, hzm, w6, w1, kn0, kn1, kn2, t8, d8, hd, tE']
          refine ⟨⟨y.1, d, by rw [← hdl]; rfl, may_on hkm hku, hdb, by omega⟩, rfl, ⟨z.1, rfl, (may_on hzm hzu).1, (may_on hzm hzu).2.1, (may_on hzm hzu).2.2.1, (may_on hzm hzu).2.2.2⟩, by omega, by omega, ?_⟩
          refine Next.mk (k + n, i + 1) ⟨by simp only; omega, fun q => by simp only at q ⊢; omega, by simp only; omega⟩ ?_ ?_
          · simp only; rw [if_pos h]; split <;> omega
          · refine Weak.ren [some 0, some 1, some 2] (baseOK.nil hh) (by simp) (by simp [hoff, evsC_app, tE]) (by simp)
      · obtain rfl : k = b.length := by omega
        have htl : feed6 (sbegin 0) (b.take b.length) = E := by rw [List.take_length]; exact hE0
        have hEv : EvsOK E.2 := by rw [← hE0]; exact feed_evsOK hm0 hby (by omega)
        have tE' : (42 = tE) = True := eq_true rfl
        have t8 : ∀ p : Ps, (psC p).take 8 = psC p := fun _ => rfl
        refine wpc_ok hE mixed _ _ _ ?_
        simp only [chuS, htl]
        simp [gotH, pBox, and_assoc, checkoSpec, eventsoSpec, feedoSpec, lworksSpec, sameoSpec, checkSpec, sameSpec, eventsSpec, unE_C, psOf_C, hEm, t8, tE']
        exact ⟨⟨E.1, rfl, (may_on hEm hEu).1, (may_on hEm hEu).2.1, (may_on hEm hEu).2.2.1, (may_on hEm hEu).2.2.2⟩, ⟨E.1, E.1, rfl, (may_on hEm hEu).1, hEu⟩, ⟨E.2, E.2, rfl, hEv⟩⟩
end Fen

namespace Fen
open Go Go.Proofs

/-! ### StateTexts -/
theorem tells_of {s : List UInt8} {evs : List Ev} (h : feed6 (sbegin 0) (nums8 s) = (sbegin 0, evs)) (hl : s.length ≤ 4096) : tellsB s evs = true := by
  unfold tellsB feedF
  rw [if_pos may_begin.1, if_neg (by simp [nums8]; omega), h]
  simp
theorem t_away {l : List UInt8} {c : UInt8} (hc : (c.toNat : Int) = 88 ∨ (c.toNat : Int) = 94 ∨ (c.toNat : Int) = 95) (h : okText l) (hl : l.length ≤ 600) : tellsB (27 :: c :: (l ++ [7, 27, 92, 97])) [evCode 1 97] = true :=
  tells_of (by simpa using away_text hc h) (by simp; omega)
theorem t_csi {l : List UInt8} (h : okText l) (hl : l.length ≤ 600) : tellsB (27 :: 93 :: (l ++ [27, 91, 109])) [⟨4, 0, 0, 109, [], [], []⟩] = true := by
  refine tells_of ?_ (by simp; omega)
  have := feed6_app (sbegin 0) (27 :: 93 :: nums8 l) [27, 91, 109]
  rw [osc_text h, osc_csi] at this
  simpa using this
def oscs (l : List UInt8) : List Ev := if l.length ≤ 512 then [evOsc l, evCode 1 97] else [evCode 1 97]
theorem t_bel {l : List UInt8} (h : okText l) (hl : l.length ≤ 600) : tellsB (27 :: 93 :: (l ++ [7, 97])) (oscs l) = true := by
  refine tells_of ?_ (by simp; omega)
  have h1 := feed6_app (sbegin 0) (27 :: 93 :: nums8 l) [7, 97]
  have h2 := feed6_app (oscAt l) [7] [97]
  rw [osc_bel 0, print_a] at h2
  rw [osc_text h] at h1
  simp only [List.cons_append, List.nil_append] at h2
  rw [h2] at h1
  have e : nums8 (27 :: 93 :: (l ++ [7, 97])) = (27 :: 93 :: nums8 l) ++ [7, 97] := by simp
  rw [e, h1]
  unfold oscs
  split <;> rfl
theorem t_st {n l : List UInt8} (h : feed6 (sbegin 0) (27 :: 93 :: nums8 n) = (oscAt l, [])) (hl : n.length ≤ 700) : tellsB (27 :: 93 :: (n ++ [27, 92, 97])) (oscs l) = true := by
  refine tells_of ?_ (by simp; omega)
  have h1 := feed6_app (sbegin 0) (27 :: 93 :: nums8 n) [27, 92, 97]
  have h2 := feed6_app (oscAt l) [27, 92] [97]
  rw [osc_st, print_a] at h2
  rw [h] at h1
  simp only [List.cons_append, List.nil_append] at h2
  rw [h2] at h1
  have e : nums8 (27 :: 93 :: (n ++ [27, 92, 97])) = (27 :: 93 :: nums8 n) ++ [27, 92, 97] := by simp
  rw [e, h1]
  unfold oscs
  split <;> rfl
theorem t_noisy {l : List UInt8} (k : Nat) (h : okText l) (hl : l.length ≤ 600) : tellsB (27 :: 93 :: ((l.take k ++ [1, 127, 10] ++ l.drop k) ++ [27, 92, 97])) (oscs l) = true := by
  have ha : okText (l.take k) := fun x hx => h x (List.mem_of_mem_take hx)
  have hb : okText (l.drop k) := fun x hx => h x (List.mem_of_mem_drop hx)
  refine t_st ?_ (by simp; omega)
  have := osc_noisy ha hb
  rw [List.take_append_drop] at this
  simpa using this
def okC (c : UInt8) : Bool := decide (32 ≤ (c.toNat : Int)) && decide ((c.toNat : Int) ≠ 127)
def okPart (t : List UInt8) (i : Nat) : List UInt8 := (t.take i).filter okC
theorem okPart_ok (t : List UInt8) (i : Nat) : okText (okPart t i) := fun b hb => by
  have := (List.mem_filter.1 hb).2
  simp [okC] at this
  omega
theorem okPart_len (t : List UInt8) (i : Nat) : (okPart t i).length ≤ i := by
  have := List.length_filter_le okC (t.take i)
  unfold okPart
  simp at this ⊢
  omega
theorem okPart_succ {t : List UInt8} {i : Nat} (h : i < t.length) : okPart t (i + 1) = if okC t[i] = true then okPart t i ++ [t[i]] else okPart t i := by
  unfold okPart
  rw [List.take_add_one, List.getElem?_eq_getElem h, List.filter_append]
  by_cases c : okC t[i] = true
  · simp [c]
  · simp [c]
def textS (t : List UInt8) (q : Int) (i : Nat) : St := ⟨115, [(0, .val (.str t)), (1, .val (.int .u8 q)), (5, .ref 0 0), (6, .val (.int .i64 i))], [.sl 5 0 true 1 (okPart t i).length ((okPart t i).map byteC)]⟩
def textE (s : List UInt8) (q : Int) : St := ⟨115, [(1, .val (.int .u8 q)), (5, .val (.sl s.length (s.map byteC)))], []⟩
def lawTextsSpec : Spec := { pre := fun args => ∃ (t : List UInt8) (q : Int), args = [.c (.str t), .c (.int .u8 q)] ∧ (t.length : Int) ≤ 9223372036854775807 ∧ 0 ≤ q ∧ q < 256, res := fun _ => .one (.val (.c (.bool true))) }
def G_lawTexts : Specs := [(17, lworksSpec), (23, lprintSpec), (24, lcsiSpec), (25, loscSpec), (22, tellsSpec)]
@[simp] theorem G_lawTexts_live : Specs.live G_lawTexts = false := rfl
@[simp] theorem G_lawTexts_17 : G_lawTexts.find 17 = some lworksSpec := rfl
@[simp] theorem G_lawTexts_23 : G_lawTexts.find 23 = some lprintSpec := rfl
@[simp] theorem G_lawTexts_24 : G_lawTexts.find 24 = some lcsiSpec := rfl
@[simp] theorem G_lawTexts_25 : G_lawTexts.find 25 = some loscSpec := rfl
@[simp] theorem G_lawTexts_22 : G_lawTexts.find 22 = some tellsSpec := rfl
theorem G_lawTexts_ok (gl : Gl) : SpecsOK Try.prog gl G_lawTexts := .cons (lworks_sound gl) (.cons (lprint_sound gl) (.cons (lcsi_sound gl) (.cons (losc_sound gl) (.cons (tells_sound gl) (.nil _ _)))))
set_option maxHeartbeats 8000000 in
set_option maxRecDepth 10000 in
theorem lawTexts_sound (gl : Gl) : Sound Try.prog gl 7 lawTextsSpec := by
  refine sound_awp (N := Try.f7.ntmps) (rs := Try.f7.results.toList) tok Try.func7 rfl rfl rfl rfl rfl ?_ ?_ ?_
  · rintro args ⟨t,q,rfl,htl,hq0,hq1⟩; simp [Try.f7]
  · rintro args ⟨t,q,rfl,htl,hq0,hq1⟩; simp [lawTextsSpec, Try.f7]
  · rintro args ⟨t,q,rfl,htl,hq0,hq1⟩ bs hgl hh hro
    have hE : Env.OK ⟨Try.prog, T, G_lawTexts, bs⟩ := ⟨tok, by rw [hgl]; exact G_lawTexts_ok gl⟩
    refine wpc_ok hE mixed _ _ _ ?_
    simp [lawTextsSpec, lcsiSpec, loscSpec, lprintSpec, lworksSpec, tellsSpec, Try.f7]
    refine AWP.leaves 0 (textS t q (min t.length 600)) (AWP.rounds (fun i => i ≤ t.length ∧ i ≤ 600) (textS t q) (fun i => t.length - i) 0 (by simp) ?_ ?_) ?_
    · exact Weak.ren [none] (baseOK.nil hh) (by simp) (by simp [textS, okPart]) (by simp [textS, okPart])
    · rintro i ⟨hi, hi6⟩
      refine wpc_ok hE mixed _ _ _ ?_
      rcases Nat.lt_or_ge i t.length with h | h
      · have ilt : (i < t.length) = True := eq_true h
        rcases Nat.lt_or_ge i 600 with h6 | h6
        · have i6 : ((i : Int) < 600) = True := eq_true (by omega)
          have w1 : IntKind.i64.wrap ((i : Int) + 1) = ((i + 1 : Nat) : Int) := by rw [wrap64 _ (by omega) (by omega)]; omega
          have hs := okPart_succ h
          obtain ⟨c, hg⟩ : ∃ c, t[i] = c := ⟨_, rfl⟩
          rw [hg] at hs
          by_cases c1 : 32 ≤ (c.toNat : Int)
          · have c1' : (32 ≤ (c.toNat : Int)) = True := eq_true c1
            by_cases c2 : (c.toNat : Int) = 127
            · have c2' : ((c.toNat : Int) = 127) = True := eq_true c2
              have hs2 : okPart t (i + 1) = okPart t i := by rw [hs, if_neg (by simp [okC]; omega)]
              simp [textS, ilt, i6, w1, hg, c1', c2', h]
              exact Next.mk (i + 1) ⟨h, by omega⟩ (by omega) (Weak.ren [some 0] (baseOK.nil hh) (by simp) (by simp [textS, hs2]) (by simp [textS, hs2]))
            · have c2' : ((c.toNat : Int) = 127) = False := eq_false c2
              have hs2 : okPart t (i + 1) = okPart t i ++ [c] := by rw [hs, if_pos (by simp [okC]; omega)]
              have hpl := okPart_len t i
              simp [textS, ilt, i6, w1, hg, c1', c2', h]
              exact ⟨⟨by omega, by omega⟩, Next.mk (i + 1) ⟨h, by omega⟩ (by omega) (Weak.ren [some 0] (baseOK.nil hh) (by simp) (by simp [textS, hs2]) (by simp [textS, hs2]))⟩
          · have c1' : (32 ≤ (c.toNat : Int)) = False := eq_false c1
            have hs2 : okPart t (i + 1) = okPart t i := by rw [hs, if_neg (by simp [okC]; omega)]
            simp [textS, ilt, i6, w1, hg, c1', h]
            exact Next.mk (i + 1) ⟨h, by omega⟩ (by omega) (Weak.ren [some 0] (baseOK.nil hh) (by simp) (by simp [textS, hs2]) (by simp [textS, hs2]))
        · have i6 : ((i : Int) < 600) = False := eq_false (by omega)
          have him : min t.length 600 = i := by omega
          simp [textS, ilt, i6]
          exact Leaves.mk (Weak.ren [some 0] (baseOK.nil hh) (by simp) (by simp [him]) (by simp [him]))
      · have ilt : (i < t.length) = False := eq_false (by omega)
        have him : min t.length 600 = i := by omega
        simp [textS, ilt]
        exact Leaves.mk (Weak.ren [some 0] (baseOK.nil hh) (by simp) (by simp [him]) (by simp [him]))
    have hok := okPart_ok t (min t.length 600)
    have hol : (okPart t (min t.length 600)).length ≤ 600 := Nat.le_trans (okPart_len t _) (by omega)
    unfold textS
    generalize okPart t (min t.length 600) = s at *
    have hc := @t_csi s hok hol
    have hb := @t_bel s hok hol
    have w1 : Int.tmod q 3 = q % 3 := Int.tmod_eq_emod_of_nonneg hq0
    have w2 : IntKind.u8.wrap (q % 3) = q % 3 := by simp [IntKind.wrap, IntKind.signed, IntKind.bits]; omega
    have w3 : IntKind.i64.wrap q = q := wrap64 _ (by omega) (by omega)
    have u1 : unE [.int .i64 1, .int .i64 97, .int .u8 0, .int .u8 0, .sl 0 [], .str [], .str []] = [evCode 1 97] := rfl
    have u2 : unE [.int .i64 4, .int .i64 0, .int .u8 0, .int .u8 109, .sl 0 [], .str [], .str []] = [⟨4, 0, 0, 109, [], [], []⟩] := rfl
    have u3 : unE [.int .i64 5, .int .i64 0, .int .u8 0, .int .u8 0, .sl 0 [], .str [], .str s, .int .i64 1, .int .i64 97, .int .u8 0, .int .u8 0, .sl 0 [], .str [], .str []] = [evOsc s, evCode 1 97] := rfl
    have hbc : ∀ x : List UInt8, x.map (byteOf ∘ byteC) = x := fun x => by
      have : byteOf ∘ byteC = id := by funext c; simp [byteOf, byteC]
      rw [this]; simp
    have hq3 : q % 3 = 0 ∨ q % 3 = 1 ∨ q % 3 = 2 := by omega
    by_cases s0 : s = []
    · subst s0
      have h1 := t_away (c := 88) (.inl rfl) hok hol
      have h2 := t_away (c := 94) (.inr (.inl rfl)) hok hol
      have h3 := t_away (c := 95) (.inr (.inr rfl)) hok hol
      have hs := t_st (osc_text hok) (by omega)
      simp only [oscs, List.length_nil, List.nil_append, Nat.zero_le, if_true, evCode, evOsc] at h1 h2 h3 hc hb hs
      rcases hq3 with q3 | q3 | q3
      all_goals
        simp [lawTextsSpec, lcsiSpec, loscSpec, lprintSpec, lworksSpec, tellsSpec, Try.f7, evC, evCode, evOsc, ones, nums, toI, parC, subC, ints, parV, w1, w2, w3, q3, u1, u2, u3, hbc, h1, h2, h3, hc, hb, hs]
        repeat' (refine And.intro ?_ ?_)
        all_goals first | omega | rfl | exact ⟨_, _, _, ⟨rfl, rfl, rfl⟩, .of rfl rfl, by simp <;> omega⟩ | exact ⟨109, [], ⟨rfl, rfl, rfl⟩, by simp⟩
    · have hlp : 0 < s.length := List.length_pos_iff.2 s0
      have hlp' := eq_true hlp
      obtain ⟨k, hk⟩ : ∃ k : Nat, q % s.length = k := ⟨(q % s.length).toNat, by have := Int.emod_nonneg q (b := s.length) (by omega); omega⟩
      have hkl : k < s.length := by have := Int.emod_lt_of_pos q (b := s.length) (by omega); omega
      have h1 := t_away (c := 88) (.inl rfl) hok hol
      have h2 := t_away (c := 94) (.inr (.inl rfl)) hok hol
      have h3 := t_away (c := 95) (.inr (.inr rfl)) hok hol
      have hs := t_noisy k hok hol
      have w4 : Int.tmod q s.length = k := by rw [Int.tmod_eq_emod_of_nonneg hq0]; exact hk
      have w5 : IntKind.i64.wrap (k : Int) = k := wrap64 _ (by omega) (by omega)
      by_cases s5 : 512 < s.length
      · have s5' : (512 < (s.length : Int)) = True := eq_true (by omega)
        have s6 : ¬ s.length ≤ 512 := by omega
        simp only [oscs, if_neg s6, evCode, evOsc, List.append_assoc, List.cons_append, List.nil_append] at h1 h2 h3 hc hb hs
        rcases hq3 with q3 | q3 | q3
        all_goals
          simp [lawTextsSpec, lcsiSpec, loscSpec, lprintSpec, lworksSpec, tellsSpec, Try.f7, evC, evCode, evOsc, ones, nums, toI, parC, subC, ints, parV, w1, w2, w3, w4, w5, q3, u1, u2, u3, hbc, h1, h2, h3, hc, hb, hs, s0, hlp', s5']
          repeat' (refine And.intro ?_ ?_)
          all_goals first | omega | rfl | exact ⟨_, _, _, ⟨rfl, rfl, rfl⟩, .of rfl rfl, by simp <;> omega⟩ | exact ⟨109, [], ⟨rfl, rfl, rfl⟩, by simp⟩
      · have s5' : (512 < (s.length : Int)) = False := eq_false (by omega)
        have s6 : s.length ≤ 512 := by omega
        simp only [oscs, if_pos s6, evCode, evOsc, List.append_assoc, List.cons_append, List.nil_append] at h1 h2 h3 hc hb hs
        rcases hq3 with q3 | q3 | q3
        all_goals
          simp [lawTextsSpec, lcsiSpec, loscSpec, lprintSpec, lworksSpec, tellsSpec, Try.f7, evC, evCode, evOsc, ones, nums, toI, parC, subC, ints, parV, w1, w2, w3, w4, w5, q3, u1, u2, u3, hbc, h1, h2, h3, hc, hb, hs, s0, hlp', s5']
          repeat' (refine And.intro ?_ ?_)
          all_goals first | omega | rfl | exact ⟨_, _, _, ⟨rfl, rfl, rfl⟩, .of rfl rfl, by simp <;> omega⟩ | exact ⟨109, [], ⟨rfl, rfl, rfl⟩, by simp⟩
end Fen
