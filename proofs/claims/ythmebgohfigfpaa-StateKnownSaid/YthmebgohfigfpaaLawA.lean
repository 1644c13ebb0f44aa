/- A part of the proof; no statement is proved here: Kore53, SLawA, SRptA, SLawE. -/
import Derived.Test.YthmebgohfigfpaaCoreE
import Derived.Test.YthmebgohfigfpaaRefA
import Derived.Shelf.Strings.Repeat
import Derived.Test.YthmebgohfigfpaaUtfA

set_option linter.unusedVariables false
set_option linter.unusedSimpArgs false

/- Part 53: a slice built as one's own; []byte(x) of a slice of bytes of one's own. -/
namespace Fen
open Go Go.RowKit

section
variable {P : Program} {T : TT} {bs : Base} {ops : Array Oper} {dst : Option Tmp} {ty : TypeId} {pos : String} {af : Array Edge} {st : St} {K : St → Prop}
/-- a slice literal as a block of one's own -/
theorem OpW.buildSliceL (hT : TOK P T) {t len : Nat} {parts : Array (Nat × Operand)} (hd : dstOK st.n dst) (hk : effK st dst K (opBuildSliceL T false (evO bs.gl st.r) st.h t len parts.toList)) : OpW P bs ops ⟨dst, .buildSlice t len parts, ty, pos, af, none⟩ st K := by
  unfold effK at hk
  split at hk
  · rename_i e he
    refine OpW.does rfl hd e.x e.h (fun g a w R => ?_) hk.2
    obtain ⟨v, w', h1, h2⟩ := buildSliceL_ok (ρ := a.eval) hT R.heap (fun p _ => R.ev p.2) he hk.1
    refine ⟨v, w', h2.choose, ?_, h2.choose_spec.1, h2.choose_spec.2.1, h2.choose_spec.2.2⟩
    simp [execOp, h1]
  · exact hk.elim
theorem relXs_vals {g : Gh} {h : List Blk} : ∀ (cs : List C) (vs : List Value), RelXs g h (cs.map .val) vs → RepL g.S cs vs
  | [], vs, h => by simpa [RelXs, RepL] using h
  | c :: cs, vs, h => by
    simp only [List.map_cons, RelXs] at h
    obtain ⟨u, us, rfl, h1, h2⟩ := h
    simp only [RelX] at h1
    simp only [RepL]
    exact ⟨u, us, rfl, h1, relXs_vals cs us h2⟩
/-- []byte(x): the memory is marked; it is a value from here on -/
theorem OpW.convOwn (hT : TOK P T) {t e : Nat} {s b s' b' : Nat} {z z' : List X} (ht : T t = some ⟨.slice e, s, b, z⟩) (hte : T e = some ⟨.int .u8, s', b', z'⟩) {x : Operand} {id ver sz n e' : Nat} {cs : List C} (hx : evO bs.gl st.r x = .ref id ver)
    (hb : st.h[id]? = some (.slx e' ver sz n (cs.map .val))) (hn : 0 < n) (hd : dstOK st.n dst) (hK : K (st.put dst (.val (.sl n cs)) (st.h.set id (.sl e' (ver + 1) false sz n cs)))) :
    OpW P bs ops ⟨dst, .convert t t x, ty, pos, af, none⟩ st K := by
  refine OpW.does rfl hd _ _ (fun g a w R => ?_) hK
  have H := R.heap
  have hv := R.ev x
  rw [hx] at hv
  have hv' := relx_ref H hb hv
  have hblk := H.blk id _ hb
  have hlt := lt_of_get hb
  simp only [BlkOK] at hblk
  obtain ⟨h0, hl, hk⟩ := hblk
  rcases hk with ⟨_, hn0, _⟩ | ⟨he, ha, cap, cur, h1, h2, h3, h4, h5, h6, h7⟩
  · omega
  have h6' := relXs_vals _ _ h6
  let S' : Stab := fun b o => if b = (g.ad id).1 then (if o < n * sz then cur[o]? else none) else g.S b o
  have hS : ∀ b o v, g.S b o = some v → S' b o = some v := fun b o u hu => by
    by_cases c1 : b = (g.ad id).1
    · rw [c1, h7] at hu; cases hu
    · simp only [S']; rw [if_neg c1]; exact hu
  have hne : ∀ b o, b ≠ (g.ad id).1 → S' b o = g.S b o := fun b o c => by simp only [S']; rw [if_neg c]
  have hat : ∀ j u, (cur.toList.take (n * sz))[j]? = some u → S' (g.ad id).1 j = some u := fun j u hj => by
    rw [List.getElem?_take] at hj
    split at hj
    · rename_i c
      simp only [S', if_true]; rw [if_pos c]; simpa using hj
    · cases hj
  let g' : Gh := { S := S', ad := g.ad, hd := fun i => if i = id then .slice (some ⟨(g.ad id).1, 0, none⟩) n n else g.hd i, ex := fun i => if i = id then false else g.ex i, marks := g.marks }
  have E : Ext g st.h g' (st.h.set id (.sl e' (ver + 1) false sz n cs)) := ⟨hS, fun i b hi => by
      by_cases ci : i = id
      · subst ci
        rw [hb] at hi
        cases hi
        exact ⟨_, get_set_eq hlt, rfl, by simp [Blk.ver], fun q => by simp [Blk.ver] at q⟩
      · exact ⟨b, by rw [get_set_ne ci]; exact hi, rfl, Nat.le_refl _, fun _ => ⟨rfl, by simp only [g']; rw [if_neg ci]⟩⟩, fun _ h => h⟩
  let w' := w.freeze ⟨(g.ad id).1, cur.size, none⟩ 1
  have hfr : w' = { w with heap := w.heap.modify (g.ad id).1 fun
      | .cells c elem (lo, hi) => .cells c elem (if lo == hi then (cur.size, cur.size + 1) else (min lo cur.size, max hi (cur.size + 1)))
      | o => o } := (if_neg (by decide)).trans rfl
  have hhe : ∀ k, k ≠ (g.ad id).1 → w'.heap[k]? = w.heap[k]? := fun k hk => by
    rw [hfr]
    exact (Array.getElem?_modify ..).trans (if_neg (Ne.symm hk))
  have hce : ∀ b o, w'.cell? ⟨b, o, none⟩ = w.cell? ⟨b, o, none⟩ := fun b o => by
    by_cases c1 : b = (g.ad id).1
    · subst c1
      rw [cell_of h4]
      have : w'.heap[(g.ad id).1]? = some (.cells cur e' (cur.size, cur.size + 1)) := by
        rw [hfr]
        refine (Array.getElem?_modify ..).trans ?_
        rw [if_pos rfl, h4]; rfl
      rw [cell_of this]
    · exact cell_block (hhe b c1)
  have hval : a.eval x = .slice (some ⟨(g.ad id).1, 0, none⟩) n cap := hv'.trans h1
  have hloc := H.loc id hlt he
  refine ⟨.slice (some ⟨(g.ad id).1, 0, none⟩) n cap, w', g', ?_, E, ⟨fun b o u hu => ?_, fun i b hi => ?_, fun i j hi hj ei ej => ?_, fun i hi ei => ?_, H.os, H.tape, H.output, ?_, fun k hk ho => ?_, fun b o hb' ho => ?_, fun k cs hk => ?_, fun m hm => ?_⟩, ?_⟩
  · have hsh : w.shape? (g.ad id).1 = some (e', cur.size) := by simp [World.shape?, h4]
    simp [execOp, hval, convert, run_underlying (hT.slice ht), run_underlying (hT.int hte), markStringish, hsh]
    rfl
  · rw [hce]
    by_cases c1 : b = (g.ad id).1
    · simp only [g', S'] at hu
      rw [if_pos c1] at hu
      split at hu
      · rw [c1, cell_of h4]; exact hu
      · cases hu
    · exact H.stable b o u (by rw [← hne b o c1]; exact hu)
  · rcases set_get hi with ⟨rfl, _, rfl⟩ | ⟨hni, hi'⟩
    · simp only [BlkOK, g', if_true]
      exact ⟨h0, by simpa using hl, .inr (.inr ⟨by trivial, rfl, by rw [ha], by omega, cur.toList.take (n * sz), fun j u hj => by rw [ha, Nat.zero_add]; exact hat j u hj, RepL.mono hS _ _ h6'⟩)⟩
    · refine (H.blk i b hi').mono E rfl (by simp only [g']; rw [if_neg hni]) (by simp only [g']; rw [if_neg hni]) fun hei _ => ?_
      have hd' : (g.ad i).1 ≠ (g.ad id).1 := fun q => hni (H.inj i id (lt_of_get hi') hlt hei he q)
      exact ⟨hhe _ hd', fun o => hne _ _ hd'⟩
  · simp only [g'] at ei ej
    split at ei
    · cases ei
    split at ej
    · cases ej
    exact H.inj i j (by simpa using hi) (by simpa using hj) ei ej
  · simp only [g'] at ei
    split at ei
    · cases ei
    exact H.loc i (by simpa using hi) ei
  · have : w'.heap.size = w.heap.size := by rw [hfr]; simp
    rw [this]; exact H.size
  · have : k ≠ (g.ad id).1 := fun q => by rcases hloc with c | c; omega; exact ho (q ▸ c)
    exact (hhe k this).trans (H.frame k hk ho)
  · have : b ≠ (g.ad id).1 := fun q => by rcases hloc with c | c; omega; exact ho (q ▸ c)
    exact (hne b o this).trans (H.stab b o hb' ho)
  · obtain ⟨vs, q1, q2⟩ := H.gl k cs hk
    exact ⟨vs, fun j u hj => hS _ _ _ (q1 j u hj), RepL.mono hS cs vs q2⟩
  · have : m ≠ (g.ad id).1 := fun q => by have := H.marks m hm; rw [q, h4] at this; cases this
    exact (hhe m this).trans (H.marks m hm)
  · simp only [RelX, RepV]
    exact .inr ⟨_, 0, cap, cur.toList.take (n * sz), rfl, h2, h3, fun j u hj => by rw [Nat.zero_add]; exact hat j u hj, RepL.mono hS _ _ h6'⟩
end
end Fen

namespace Fen
open Go Go.Proofs

/-! ### the contracts with their conditions under one name -/
def FeedIn (a : List V) : Prop := sfeedSpec.pre a
def feedoSpec : Spec := { pre := FeedIn, res := sfeedSpec.res }
theorem feedo_sound (gl : Gl) : Sound Try.prog gl 13 feedoSpec := sfeed_sound gl
def CheckIn (a : List V) : Prop := checkSpec.pre a
def checkoSpec : Spec := { pre := CheckIn, res := checkSpec.res }
theorem checko_sound (gl : Gl) : Sound Try.prog gl 18 checkoSpec := scheck_sound gl
def SameIn (a : List V) : Prop := sameSpec.pre a
def sameoSpec : Spec := { pre := SameIn, res := sameSpec.res }
theorem sameo_sound (gl : Gl) : Sound Try.prog gl 15 sameoSpec := r6same_sound gl
def EventsIn (a : List V) : Prop := eventsSpec.pre a
def eventsoSpec : Spec := { pre := EventsIn, res := eventsSpec.res }
theorem eventso_sound (gl : Gl) : Sound Try.prog gl 16 eventsoSpec := events_sound gl
theorem worksIn : lworksSpec.pre [] := rfl

@[simp] theorem renXs_val (h h' : List Blk) (ids : List (Option Nat)) : ∀ cs : List C, renXs h h' ids (cs.map X.val) (cs.map X.val) = True
  | [] => by simp [renXs]
  | c :: cs => by simp [renXs, renX, renXs_val h h' ids cs]
def gotH (evs : List Ev) : List Blk := [.sl tE 0 true 7 evs.length (evsC evs)]
theorem feed_off (p : Ps) (l : List Int) (k n : Nat) : feed6 p (l.take (k + n)) = ((feed6 (feed6 p (l.take k)).1 ((l.drop k).take n)).1, (feed6 p (l.take k)).2 ++ (feed6 (feed6 p (l.take k)).1 ((l.drop k).take n)).2) := by
  rw [← feed6_app, List.take_add]
def pBox (p : Ps) : Blk := .box 25 ((psC p).map .val)
def chuS (b c : List Int) (E : Ps × List Ev) (k i : Nat) : St := ⟨100, [(0, .val (.sl b.length (ints .u8 b))), (1, .val (.sl c.length (ints .u8 c))), (5, .ptr 0 0 0), (6, .val (.sl E.2.length (evsC E.2))), (7, .val (.int .i64 0)), (8, .ptr 1 0 0), (9, .ref 2 0), (10, .val (.int .i64 k)), (11, .val (.int .i64 i))], pBox E.1 :: pBox (feed6 (sbegin 0) (b.take k)).1 :: gotH (feed6 (sbegin 0) (b.take k)).2⟩
def chuT (b c : List Int) (E y : Ps × List Ev) (k i n : Nat) : St := ⟨100, [(0, .val (.sl b.length (ints .u8 b))), (1, .val (.sl c.length (ints .u8 c))), (5, .ptr 0 0 0), (6, .val (.sl E.2.length (evsC E.2))), (7, .val (.int .i64 0)), (8, .ptr 1 0 0), (9, .ref 2 0), (10, .val (.int .i64 k)), (11, .val (.int .i64 i)), (12, .val (.int .i64 n))], pBox E.1 :: pBox y.1 :: gotH y.2⟩
def lawChunksSpec : Spec := { pre := fun args => ∃ b c : List Int, args = [bytesV b, bytesV c] ∧ Bytes b ∧ Bytes c ∧ (b.length : Int) ≤ 9223372036854775807 ∧ (c.length : Int) ≤ 9223372036854775807, res := fun _ => .one (.val (.c (.bool true))) }
def G_lawChunks : Specs := [(17, lworksSpec), (13, feedoSpec), (18, checkoSpec), (15, sameoSpec), (16, eventsoSpec)]
@[simp] theorem G_lawChunks_live : Specs.live G_lawChunks = false := rfl
@[simp] theorem G_lawChunks_17 : G_lawChunks.find 17 = some lworksSpec := rfl
@[simp] theorem G_lawChunks_13 : G_lawChunks.find 13 = some feedoSpec := rfl
@[simp] theorem G_lawChunks_18 : G_lawChunks.find 18 = some checkoSpec := rfl
@[simp] theorem G_lawChunks_15 : G_lawChunks.find 15 = some sameoSpec := rfl
@[simp] theorem G_lawChunks_16 : G_lawChunks.find 16 = some eventsoSpec := rfl
theorem G_lawChunks_ok (gl : Gl) : SpecsOK Try.prog gl G_lawChunks := .cons (lworks_sound gl) (.cons (feedo_sound gl) (.cons (checko_sound gl) (.cons (sameo_sound gl) (.cons (eventso_sound gl) (.nil _ _)))))
set_option maxHeartbeats 8000000 in
set_option maxRecDepth 10000 in
theorem lawChunks_sound (gl : Gl) : Sound Try.prog gl 4 lawChunksSpec := by
  refine sound_awp (N := Try.f4.ntmps) (rs := Try.f4.results.toList) tok Try.func4 rfl rfl rfl rfl rfl ?_ ?_ ?_
  · rintro args ⟨b0,c,rfl,hb0,hc,hbl,hcl⟩; simp [bytesV, Try.f4]
  · rintro args ⟨b0,c,rfl,hb0,hc,hbl,hcl⟩; simp [bytesV, lawChunksSpec, Try.f4]
  · rintro args ⟨b0,c,rfl,hb0,hc,hbl,hcl⟩ bs hgl hh hro
    have hE : Env.OK ⟨Try.prog, T, G_lawChunks, bs⟩ := ⟨tok, by rw [hgl]; exact G_lawChunks_ok gl⟩
    simp only [lawChunksSpec, bytesV]
    obtain ⟨b, hb⟩ : ∃ b, b0.take 400 = b := ⟨_, rfl⟩
    have hby : Bytes b := by rw [← hb]; exact bytes_take hb0 400
    have hbn : b.length ≤ 400 := by rw [← hb]; simp; omega
    have hmin : (if 400 < (b0.length : Int) then (400 : Int) else b0.length) = b.length := by rw [← hb]; simp; split <;> omega
    have hble : ((b.length : Int) ≤ b0.length) = True := eq_true (by rw [← hb]; simp; omega)
    have htk : b0.take b.length = b := by rw [← hb]; simp
    have e3 : psOf [.int .i64 0, .sl 0 [], .int .u8 0, .int .u8 0, .sl 0 [], .str [], .str [], .bool false] = sbegin 0 := rfl
    have hm0 : may6 (sbegin 0) = true := may_begin.1
    have hu0 : Bytes (sbegin 0).u := fun x hx => by simp [sbegin] at hx
    have hFe : ∀ {p : Ps} {l : List Int}, may6 p = true → l.length ≤ 400 → feedF p l = ((feed6 p l).1, (feed6 p l).2, 0) := fun {p l} h h2 => by
      unfold feedF; rw [if_pos h, if_neg (by omega)]
    have hF0 := hFe hm0 hbn
    obtain ⟨E, hE0⟩ : ∃ E, feed6 (sbegin 0) b = E := ⟨_, rfl⟩
    rw [hE0] at hF0
    have hEm : may6 E.1 = true := by rw [← hE0]; exact feed_may hm0 hby
    have hEu : Bytes E.1.u := by rw [← hE0]; exact feed_bytes hu0 hby
    refine wpc_ok hE mixed _ _ _ ?_
    simp [lawChunksSpec, checkoSpec, eventsoSpec, feedoSpec, lworksSpec, sameoSpec, Try.f4, sfeedSpec, worksIn, hmin, hble, htk, e3, nums_u8, hF0]
    refine ⟨⟨sbegin 0, b, rfl, may_on hm0 hu0, hby, by omega⟩, ?_⟩
    refine AWP.rounds (fun x => x.1 ≤ b.length ∧ (x.1 < b.length → x.2 ≤ 100) ∧ x.2 ≤ 101) (fun x => chuS b c E x.1 x.2) (fun x => if x.1 < b.length then 101 - x.2 else 0) (0, 0) (by simp) ?_ ?_
    · exact Weak.ren [some 0, some 1, none] (baseOK.nil hh) (by simp) (by simp [chuS, gotH, pBox, feed6, sbegin, psC, ints, parC, evsC]) (by simp [chuS, gotH, pBox, feed6, sbegin, psC, ints, parC])
    · rintro ⟨k, i⟩ ⟨h1, h2, h3⟩
      simp only at h1 h2 h3
      have hkm := feed_may (l := b.take k) hm0 (bytes_take hby k)
      have hku := feed_bytes (l := b.take k) hu0 (bytes_take hby k)
      rcases Nat.lt_or_ge k b.length with h | h
      · have klt : ((k : Int) < b.length) = True := eq_true (by omega)
        have w1 : IntKind.i64.wrap ((i : Int) + 1) = ((i + 1 : Nat) : Int) := by rw [wrap64 _ (by omega) (by omega)]; omega
        have w2 : IntKind.i64.wrap ((b.length : Int) - k) = ((b.length - k : Nat) : Int) := by rw [wrap64 _ (by omega) (by omega)]; omega
        obtain ⟨y, hy⟩ : ∃ y, feed6 (sbegin 0) (b.take k) = y := ⟨_, rfl⟩
        rw [hy] at hkm hku
        rcases Decidable.em (i < c.length ∧ i < 100) with hcut | hcut
        case' inl =>
          have i1 : (i < c.length) = True := eq_true hcut.1
          have i2 : ((i : Int) < 100) = True := eq_true (by omega)
          have i3 : (0 < c.length - i) = True := eq_true (by omega)
          have hdc := ints_at8 hcut.1
          have hci := hc _ (List.getElem_mem hcut.1)
          generalize c[i]'hcut.1 = q at *
          obtain ⟨n, hn⟩ : ∃ n : Nat, (if q % 20 < ((b.length - k : Nat) : Int) then q % 20 else ((b.length - k : Nat) : Int)) = n := ⟨(if q % 20 < ((b.length - k : Nat) : Int) then q % 20 else ((b.length - k : Nat) : Int)).toNat, by split <;> omega⟩
          have hnl : n ≤ b.length - k := by split at hn <;> omega
          have hnm : i < 100 ∨ n = b.length - k := .inl hcut.2
          have w3 : IntKind.u8.wrap (q % 20) = q % 20 := by simp [IntKind.wrap, IntKind.signed, IntKind.bits]; omega
          have w4 : IntKind.i64.wrap (q % 20) = q % 20 := wrap64 _ (by omega) (by omega)
          have w5 : Int.tmod q 20 = q % 20 := by rw [Int.tmod_eq_emod_of_nonneg hci.1]
          refine wpcU_ok hE mixed 14 _ _ _ ?_
          simp [chuS, klt, w2, i1, i2, i3, hdc, hy, w3, w4, w5, hn]
          refine AWP.weaken (st' := chuT b c E y k i n) (Weak.keep (by simp [chuT])) ?_
        case' inr =>
          obtain ⟨n, hn⟩ : ∃ n : Nat, b.length - k = n := ⟨_, rfl⟩
          have hnl : n ≤ b.length - k := by omega
          have hnm : i < 100 ∨ n = b.length - k := .inr hn.symm
          have i3 : (i < c.length ∧ i < 100) = False := eq_false hcut
          refine wpcU_ok hE mixed 14 _ _ _ ?_
          rcases Nat.lt_or_ge i c.length with i0 | i0
          case' inl =>
            have i1 : (i < c.length) = True := eq_true i0
            have i2 : ((i : Int) < 100) = False := eq_false (by omega)
            simp [chuS, klt, w2, i1, i2, hy, hn]
            refine AWP.weaken (st' := chuT b c E y k i n) (Weak.keep (by simp [chuT])) ?_
          case' inr =>
            have i1 : (i < c.length) = False := eq_false (by omega)
            simp [chuS, klt, w2, i1, hy, hn]
            refine AWP.weaken (st' := chuT b c E y k i n) (Weak.keep (by simp [chuT])) ?_
        all_goals
          refine wpc_ok hE mixed _ _ _ ?_
          obtain ⟨d, hd⟩ : ∃ d, (b.drop k).take n = d := ⟨_, rfl⟩
          have hdb : Bytes d := by rw [← hd]; exact fun x hx => hby x (List.mem_of_mem_drop (List.mem_of_mem_take hx))
          have hdl : d.length = n := by rw [← hd]; simp; omega
          have hoff := feed_off (sbegin 0) b k n
          rw [hy, hd] at hoff
          obtain ⟨z, hz⟩ : ∃ z, feed6 y.1 d = z := ⟨_, rfl⟩
          rw [hz] at hoff
          have hF := hFe (l := d) hkm (by omega)
          rw [hz] at hF
          have hzm : may6 z.1 = true := by rw [← hz]; exact feed_may hkm hdb
          have hzu : Bytes z.1.u := by rw [← hz]; exact feed_bytes hku hdb
          have w6 : IntKind.i64.wrap ((k : Int) + n) = ((k + n : Nat) : Int) := by rw [wrap64 _ (by omega) (by omega)]; omega
          have kn0 : ((k : Int) + n ≤ b.length) = True := eq_true (by omega)
          have t8 : ∀ p : Ps, (psC p).take 8 = psC p := fun _ => rfl
          have kn1 : ((k : Int) + n).toNat - k = n := by omega
          have kn2 : ((k : Int) ≤ k + n) = True := eq_true (by omega)
          have d8 : ∀ (p : Ps), ((psC p).map X.val).drop 8 = [] := fun _ => rfl
          have l1 := feed_len (b.take k) (sbegin 0)
          have l2 := feed_len d y.1
          rw [hy, List.length_take] at l1
          rw [hz] at l2
          have tE' : (42 = tE) = True := eq_true rfl
          simp [chuT, gotH, pBox, and_assoc, checkoSpec, eventsoSpec, feedoSpec, lworksSpec, sameoSpec, sfeedSpec, checkSpec, nums_u8, hF, hzm, w6, w1, kn0, kn1, kn2, t8, d8, hd, tE']
          refine ⟨⟨y.1, d, by rw [← hdl]; rfl, may_on hkm hku, hdb, by omega⟩, rfl, ⟨z.1, rfl, (may_on hzm hzu).1, (may_on hzm hzu).2.1, (may_on hzm hzu).2.2.1, (may_on hzm hzu).2.2.2⟩, by omega, by omega, ?_⟩
          refine Next.mk (k + n, i + 1) ⟨by simp only; omega, fun q => by simp only at q ⊢; omega, by simp only; omega⟩ ?_ ?_
          · simp only; rw [if_pos h]; split <;> omega
          · refine Weak.ren [some 0, some 1, some 2] (baseOK.nil hh) (by simp) (by simp [hoff, evsC_app, tE]) (by simp)
      · obtain rfl : k = b.length := by omega
        have htl : feed6 (sbegin 0) (b.take b.length) = E := by rw [List.take_length]; exact hE0
        have hEv : EvsOK E.2 := by rw [← hE0]; exact feed_evsOK hm0 hby (by omega)
        have tE' : (42 = tE) = True := eq_true rfl
        have t8 : ∀ p : Ps, (psC p).take 8 = psC p := fun _ => rfl
        refine wpc_ok hE mixed _ _ _ ?_
        simp only [chuS, htl]
        simp [gotH, pBox, and_assoc, checkoSpec, eventsoSpec, feedoSpec, lworksSpec, sameoSpec, checkSpec, sameSpec, eventsSpec, unE_C, psOf_C, hEm, t8, tE']
        exact ⟨⟨E.1, rfl, (may_on hEm hEu).1, (may_on hEm hEu).2.1, (may_on hEm hEu).2.2.1, (may_on hEm hEu).2.2.2⟩, ⟨E.1, E.1, rfl, (may_on hEm hEu).1, hEu⟩, ⟨E.2, E.2, rfl, hEv⟩⟩
end Fen

namespace Fen
open Go Go.Proofs Go.Shelf

/-! ### strings.Repeat: the library's contract laid at this program (the numbers are read off by wip/laytext.py) -/
def lays105_ren : Go.Shelf.Ren := ⟨fun | 105 => 31 | 212 => 45 | 99 => 46 | 165 => 47 | 166 => 48 | 170 => 49 | 169 => 50 | 263 => 77 | 264 => 78 | 206 => 79 | 240 => 80 | 241 => 81 | 276 => 102 | 277 => 103 | n => n, fun | 9 => 9 | 3 => 3 | 4 => 4 | 20 => 20 | 0 => 0 | 46 => 64 | 109 => 84 | 5 => 5 | 72 => 89 | 76 => 93 | 51 => 113 | 146 => 114 | 53 => 116 | 148 => 117 | 70 => 87 | 37 => 22 | 75 => 92 | 127 => 119 | 164 => 134 | 80 => 96 | n => n, fun | n => n⟩
theorem lays105 : Lays.n105 Try.prog lays105_ren := {
  mixed := by kernel_rfl
  f99 := Try.func46.trans (congrArg some (by kernel_rfl))
  f105 := Try.func31.trans (congrArg some (by kernel_rfl))
  f165 := Try.func47.trans (congrArg some (by kernel_rfl))
  f166 := Try.func48.trans (congrArg some (by kernel_rfl))
  f169 := Try.func50.trans (congrArg some (by kernel_rfl))
  f170 := Try.func49.trans (congrArg some (by kernel_rfl))
  f206 := Try.func79.trans (congrArg some (by kernel_rfl))
  f212 := Try.func45.trans (congrArg some (by kernel_rfl))
  f240 := Try.func80.trans (congrArg some (by kernel_rfl))
  f241 := Try.func81.trans (congrArg some (by kernel_rfl))
  f263 := Try.func77.trans (congrArg some (by kernel_rfl))
  f264 := Try.func78.trans (congrArg some (by kernel_rfl))
  f276 := Try.func102.trans (congrArg some (by kernel_rfl))
  f277 := Try.func103.trans (congrArg some (by kernel_rfl))
  t0 := Try.underlying0
  a0 := Try.isAgg0
  z0 := Try.sizeOf0
  v0 := Try.zeroValue0
  t3 := Try.underlying3
  a3 := Try.isAgg3
  z3 := Try.sizeOf3
  v3 := Try.zeroValue3
  t4 := Try.underlying4
  a4 := Try.isAgg4
  z4 := Try.sizeOf4
  v4 := Try.zeroValue4
  t5 := Try.underlying5
  a5 := Try.isAgg5
  z5 := Try.sizeOf5
  v5 := Try.zeroValue5
  t9 := Try.underlying9
  a9 := Try.isAgg9
  z9 := Try.sizeOf9
  v9 := Try.zeroValue9
  t20 := Try.underlying20
  a20 := Try.isAgg20
  z20 := Try.sizeOf20
  v20 := Try.zeroValue20
  t37 := Try.underlying22
  a37 := Try.isAgg22
  z37 := Try.sizeOf22
  v37 := Try.zeroValue22
  t46 := Try.underlying64
  a46 := Try.isAgg64
  z46 := Try.sizeOf64
  v46 := Try.zeroValue64
  t51 := Try.underlying113
  a51 := Try.isAgg113
  z51 := Try.sizeOf113
  v51 := Try.zeroValue113
  t53 := Try.underlying116
  a53 := Try.isAgg116
  z53 := Try.sizeOf116
  v53 := Try.zeroValue116
  t70 := Try.underlying87
  a70 := Try.isAgg87
  z70 := Try.sizeOf87
  v70 := Try.zeroValue87
  t72 := Try.underlying89
  a72 := Try.isAgg89
  z72 := Try.sizeOf89
  v72 := Try.zeroValue89
  t75 := Try.underlying92
  a75 := Try.isAgg92
  z75 := Try.sizeOf92
  v75 := Try.zeroValue92
  t76 := Try.underlying93
  a76 := Try.isAgg93
  z76 := Try.sizeOf93
  v76 := Try.zeroValue93
  t109 := Try.underlying84
  a109 := Try.isAgg84
  z109 := Try.sizeOf84
  v109 := Try.zeroValue84
  t127 := Try.underlying119
  a127 := Try.isAgg119
  z127 := Try.sizeOf119
  v127 := Try.zeroValue119
  t146 := Try.underlying114
  a146 := Try.isAgg114
  z146 := Try.sizeOf114
  v146 := Try.zeroValue114
  t148 := Try.underlying117
  a148 := Try.isAgg117
  z148 := Try.sizeOf117
  v148 := Try.zeroValue117
  t164 := Try.underlying134
  a164 := Try.isAgg134
  z164 := Try.sizeOf134
  v164 := Try.zeroValue134 }
theorem rX72 : Builder.X72 Try.prog lays105_ren := { sizeBuilder := by kernel_rfl, liesBuilder := by kernel_rfl }
theorem rExtra : Builder.Extra Try.prog lays105_ren := { rX72 with
  t5 := lays105.t5
  a5 := lays105.a5
  z5 := lays105.z5
  v5 := lays105.v5
  infoByte := by kernel_rfl
  cellsByte := by kernel_rfl
  sizeByte := by kernel_rfl
  neB5 := by decide }
def repL (s : List UInt8) (n : Nat) : List UInt8 := Lib.repeatL s n
def repeatSpec : Spec := { pre := fun args => ∃ (s : List UInt8) (n : Nat), args = [.c (.str s), .c (.int .i64 n)] ∧ n ≤ 9223372036854775807 ∧ s.length * n ≤ 140737488355328, res := fun args => match args with
  | [.c (.str s), .c (.int _ n)] => .one (.val (.c (.str (repL s n.toNat))))
  | _ => .many [] }
theorem srepeat_sound (gl : Gl) : Sound Try.prog gl 31 repeatSpec := by
  refine ⟨enters_of Try.func31 rfl rfl, fun _ args h S w vs hst hgl hr => ?_, fun hs h => by simp [repeatSpec] at h⟩
  obtain ⟨s, n, rfl, hn, hl⟩ := h
  simp [RepAs, RepA, RepV] at hr
  subst hr
  have hc := Any.strings_Repeat lays105 rExtra ⟨s.toArray⟩ n w hn (by rw [show (⟨s.toArray⟩ : ByteArray).size = s.length from rfl]; exact hl)
  refine hc.mono ?_
  rintro e w' ⟨rfl, hb⟩
  refine ⟨_, fun b o => if b < w.heap.size then S b o else none, rfl, hb, fun b o h => if_pos h, ?_, ?_⟩
  · intro b o v hv
    simp only at hv
    split at hv
    · rename_i h; rw [hb.cell h]; exact hst b o v hv
    · cases hv
  · exact ⟨none, by simp [RelComp, RepA, RepV, repL, repeatSpec], rfl⟩
end Fen

namespace Fen
open Go Go.Proofs

def StepIn (a : List V) : Prop := sstepSpec.pre a
def stepoSpec : Spec := { pre := StepIn, res := sstepSpec.res }
theorem stepo_sound (gl : Gl) : Sound Try.prog gl 26 stepoSpec := sstep_sound gl
def TellsIn (a : List V) : Prop := tellsSpec.pre a
def tellsoSpec : Spec := { pre := TellsIn, res := tellsSpec.res }
theorem tellso_sound (gl : Gl) : Sound Try.prog gl 22 tellsoSpec := tells_sound gl
theorem tells_in {s : List UInt8} {n : Nat} {cs : List C} (h1 : n = (unE cs).length) (h2 : cs = evsC (unE cs)) (h3 : s.length ≤ 100000) : TellsIn [.c (.str s), .c (.sl n cs)] := ⟨s, n, cs, rfl, .of h1 h2, h3⟩
theorem check_in {p : Ps} (h : psFit p) {cs : List C} (e : cs = psC p) : CheckIn [.agg cs] := by subst e; exact ⟨p, rfl, h⟩
def badL : List Ps := [sbegin (-1), sbegin 15, sbegin 2, sbegin 4, { sbegin 0 with tx := [97] }, { sbegin 0 with u := [97] }, sbegin 11, { sbegin 3 with bad := true }]
def goodL : List Ps := [sbegin 0, { sbegin 0 with u := [226] }, { sbegin 4 with pv := 63 }, { sbegin 5 with it := [32] }, { sbegin 6 with bad := true }, { sbegin 12 with fn := 113, tx := [97] }]
theorem repL_len (s : List UInt8) (n : Nat) : (repL s n).length = n * s.length := Lib.repeatL_length s n
theorem rep_one (c : C) : ∀ n, rep n [c] = List.replicate n c
  | 0 => rfl
  | n + 1 => by rw [List.replicate_succ, ← rep_one c n]; rfl
def knR (x : List (Nat × X)) : List (Nat × X) := [(2, .val (.bool true)), (3, .val (.bool true)), (6, .val (.int .i64 3)), (7, .ptr 0 0 0), (8, .val (.sl 0 [])), (9, .val (.int .i64 160))] ++ x
def knA (i : Nat) : St := ⟨167, knR [(10, .ptr 1 0 0), (11, .val (.int .i64 i))], [pBox (sbegin 0), .box 68 ((badL.flatMap psC).map .val)]⟩
def knE : St := ⟨167, knR [], [pBox (sbegin 0)]⟩
def knB (i : Nat) : St := ⟨167, knR [(12, .ptr 1 0 0), (13, .val (.int .i64 i))], [pBox (sbegin 0), .box 69 ((goodL.flatMap psC).map .val)]⟩
def lawKnownSpec : Spec := { pre := fun args => args = [], res := fun _ => .one (.val (.c (.bool true))) }
def G_lawKnown : Specs := [(31, repeatSpec), (22, tellsoSpec), (24, lcsiSpec), (32, lparamsSpec), (23, lprintSpec), (20, lescSpec), (25, loscSpec), (13, feedoSpec), (26, stepoSpec), (18, checkoSpec), (15, sameoSpec), (17, lworksSpec)]
@[simp] theorem G_lawKnown_live : Specs.live G_lawKnown = false := rfl
@[simp] theorem G_lawKnown_31 : G_lawKnown.find 31 = some repeatSpec := rfl
@[simp] theorem G_lawKnown_22 : G_lawKnown.find 22 = some tellsoSpec := rfl
@[simp] theorem G_lawKnown_24 : G_lawKnown.find 24 = some lcsiSpec := rfl
@[simp] theorem G_lawKnown_32 : G_lawKnown.find 32 = some lparamsSpec := rfl
@[simp] theorem G_lawKnown_23 : G_lawKnown.find 23 = some lprintSpec := rfl
@[simp] theorem G_lawKnown_20 : G_lawKnown.find 20 = some lescSpec := rfl
@[simp] theorem G_lawKnown_25 : G_lawKnown.find 25 = some loscSpec := rfl
@[simp] theorem G_lawKnown_13 : G_lawKnown.find 13 = some feedoSpec := rfl
@[simp] theorem G_lawKnown_26 : G_lawKnown.find 26 = some stepoSpec := rfl
@[simp] theorem G_lawKnown_18 : G_lawKnown.find 18 = some checkoSpec := rfl
@[simp] theorem G_lawKnown_15 : G_lawKnown.find 15 = some sameoSpec := rfl
@[simp] theorem G_lawKnown_17 : G_lawKnown.find 17 = some lworksSpec := rfl
theorem G_lawKnown_ok (gl : Gl) : SpecsOK Try.prog gl G_lawKnown := .cons (srepeat_sound gl) (.cons (tellso_sound gl) (.cons (lcsi_sound gl) (.cons (lparams_sound gl) (.cons (lprint_sound gl) (.cons (lesc_sound gl) (.cons (losc_sound gl) (.cons (feedo_sound gl) (.cons (stepo_sound gl) (.cons (checko_sound gl) (.cons (sameo_sound gl) (.cons (lworks_sound gl) (.nil _ _))))))))))))
set_option maxHeartbeats 20000000 in
set_option maxRecDepth 10000 in
theorem lawKnown_sound (gl : Gl) : Sound Try.prog gl 10 lawKnownSpec := by
  refine sound_awp (N := Try.f10.ntmps) (rs := Try.f10.results.toList) tok Try.func10 rfl rfl rfl rfl rfl ?_ ?_ ?_
  · rintro args rfl; simp [Try.f10]
  · rintro args rfl; simp [lawKnownSpec, Try.f10]
  · rintro args rfl bs hgl hh hro
    have hE : Env.OK ⟨Try.prog, T, G_lawKnown, bs⟩ := ⟨tok, by rw [hgl]; exact G_lawKnown_ok gl⟩
    obtain ⟨L, hL⟩ : ∃ L, repL [120] 513 = L := ⟨_, rfl⟩
    have hTk : L.take 513 = L := by rw [List.take_of_length_le (by rw [← hL, repL_len]; decide)]
    have hLl : L.length = 513 := by rw [← hL, repL_len]; rfl
    have t0 : tellsB [27, 93, 97, 27, 27, 92, 98] (unE [.int .i64 3, .int .i64 0, .int .u8 0, .int .u8 92, .sl 0 [], .str [], .str [], .int .i64 1, .int .i64 98, .int .u8 0, .int .u8 0, .sl 0 [], .str [], .str []]) = true := by decide +kernel
    have t1 : tellsB [27, 80, 48, 10, 113, 7, 27, 92] (unE [.int .i64 6, .int .i64 0, .int .u8 0, .int .u8 113, .sl 1 [.sl 1 [.int .i64 0]], .str [], .str []]) = true := by decide +kernel
    have t2 : tellsB [127, 97, 27, 91, 49, 127, 109] (unE [.int .i64 1, .int .i64 97, .int .u8 0, .int .u8 0, .sl 0 [], .str [], .str [], .int .i64 4, .int .i64 0, .int .u8 0, .int .u8 109, .sl 1 [.sl 1 [.int .i64 1]], .str [], .str []]) = true := by decide +kernel
    have t3 : tellsB [27, 91, 195, 169] (unE [.int .i64 1, .int .i64 233, .int .u8 0, .int .u8 0, .sl 0 [], .str [], .str []]) = true := by decide +kernel
    have t4 : tellsB [27, 40, 195, 169] (unE [.int .i64 1, .int .i64 233, .int .u8 0, .int .u8 0, .sl 0 [], .str [], .str []]) = true := by decide +kernel
    have t5 : tellsB [27, 91, 49, 58, 50, 59, 109] (unE [.int .i64 4, .int .i64 0, .int .u8 0, .int .u8 109, .sl 2 [.sl 2 [.int .i64 1, .int .i64 2], .sl 1 [.int .i64 (-1)]], .str [], .str []]) = true := by decide +kernel
    have t6 : tellsB [27, 36, 40, 41, 98, 194, 133] (unE []) = true := by decide +kernel
    have t7 : tellsB [27, 91, 33, 112, 27, 91, 32, 33, 112] (unE [.int .i64 4, .int .i64 0, .int .u8 0, .int .u8 112, .sl 0 [], .str [33], .str [], .int .i64 4, .int .i64 0, .int .u8 0, .int .u8 112, .sl 0 [], .str [32, 33], .str []]) = true := by decide +kernel
    have t8 : tellsB [27, 91, 32, 49, 112] (unE []) = true := by decide +kernel
    have t9 : tellsB [27, 91, 49, 60, 112] (unE []) = true := by decide +kernel
    have L0 : tellsB (27 :: 93 :: (L ++ [7])) (unE []) = true := by rw [← hL]; decide +kernel
    have L1 : tellsB (27 :: 93 :: (L.tail ++ [7])) (unE [.int .i64 5, .int .i64 0, .int .u8 0, .int .u8 0, .sl 0 [], .str [], .str L.tail]) = true := by rw [← hL]; decide +kernel
    have L2 : tellsB (27 :: 80 :: 113 :: (L ++ [27, 92])) (unE []) = true := by rw [← hL]; decide +kernel
    obtain ⟨Z, hZ⟩ : ∃ Z : List Int, List.replicate 4097 0 = Z := ⟨_, rfl⟩
    have hZl : Z.length = 4097 := by rw [← hZ, List.length_replicate]
    have hZb : Bytes Z := fun x hx => by rw [← hZ] at hx; have := List.eq_of_mem_replicate hx; omega
    have hz : rep 4097 [C.int .u8 0] = ints .u8 Z := by rw [rep_one, ints, ← hZ, List.map_replicate]
    have hZt : (ints .u8 Z).take 4097 = ints .u8 Z := List.take_of_length_le (by simp [ints, hZl])
    have e3 : psOf [.int .i64 0, .sl 0 [], .int .u8 0, .int .u8 0, .sl 0 [], .str [], .str [], .bool false] = sbegin 0 := rfl
    have e4 : psOf [.int .i64 1, .sl 0 [], .int .u8 0, .int .u8 0, .sl 0 [], .str [], .str [], .bool true] = { sbegin 1 with bad := true } := rfl
    have hF : feedF (sbegin 0) Z = (sbegin 0, [], 3) := by
      unfold feedF; rw [if_pos may_begin.1, if_pos (by omega)]
    have hS : feedF { sbegin 1 with bad := true } [97] = (sbegin 0, [], 160) := by decide +kernel
    have r1 : ∀ c : List C, rep 1 c = c := fun c => by simp [rep]
    have r2 : ∀ c : List C, rep 2 c = c ++ c := fun c => by simp [rep]
    have ic : ∀ (k : IntKind) (x : Int) (l : List Int), ints k (x :: l) = .int k x :: ints k l := fun _ _ _ => rfl
    have in0 : ∀ k : IntKind, ints k [] = [] := fun _ => rfl
    have r1' : ∀ c : List X, rep 1 c = c := fun c => by simp [rep]
    refine wpcU_ok hE mixed 7 _ _ _ ?_
    simp [-rep, r1, r2, ic, in0, and_assoc, checkoSpec, feedoSpec, lcsiSpec, lescSpec, loscSpec, lparamsSpec, lprintSpec, lworksSpec, repeatSpec, sameoSpec, stepoSpec, tellsoSpec, tellsSpec, sfeedSpec, sstepSpec, hL, hLl, evC, evCode, evEsc, evOsc, ones, nums, toI, parC, subC, parV, t0, t1, t2, t3, t4, t5, t6, t7, t8, t9, L0, L1, L2, hTk, hz, hZl, hZt, hZb, nums_u8, e3, e4, hF, hS, evsC]
    repeat' (refine And.intro ?_ ?_)
    all_goals try (first | exact tells_in rfl rfl (by simp [hLl]) | exact ⟨_, rfl, by decide, by decide⟩ | exact ⟨[0], rfl, rfl, by decide⟩ | exact ⟨[1], rfl, rfl, by decide⟩ | exact ⟨sbegin 0, Z, by rw [← hZl]; rfl, may_on may_begin.1 (fun x hx => by simp [sbegin] at hx), hZb, by omega⟩ | exact ⟨{ sbegin 1 with bad := true }, 97, rfl, ⟨⟨fun x hx => by simp [sbegin] at hx, by simp [sbegin, SubsOK]⟩, by decide⟩, by decide, by decide⟩ | rfl)
    refine AWP.regionH hE 5 ?_
    simp [-rep, r1]
    refine OpW.buildSliceL tok (by simp) ?_
    simp [-rep, r1', opBuildSliceL, cvK, exE]
    refine OpW.convOwn (id := 3) (ver := 0) (sz := 1) (n := 1) (e' := 5) (cs := [.int .u8 97]) tok rfl rfl (by simp) (by simp) (by decide) (by simp) ?_
    simp [-rep, psC, sbegin]
    have fit : ∀ p : Ps, Bytes p.u → SubsOK p.ps → p.u.length ≤ 1000000 → p.it.length ≤ 1000000 → p.tx.length ≤ 1000000 → psFit p := fun p h1 h2 h3 h4 h5 => ⟨⟨h1, h2⟩, h3, h4, h5⟩
    refine AWP.leaves 0 knE (AWP.rounds (fun i => i ≤ 8) knA (fun i => 8 - i) 0 (by simp) ?_ ?_) ?_
    · exact Weak.ren [some 2, some 4] (baseOK.nil hh) (by simp) (by simp [knA, knR, pBox, badL, psC, sbegin, ints, parC]) (by simp [knA, knR, pBox, badL, psC, sbegin, ints, parC])
    · intro i hi
      refine wpc_ok hE mixed _ _ _ ?_
      have : i = 0 ∨ i = 1 ∨ i = 2 ∨ i = 3 ∨ i = 4 ∨ i = 5 ∨ i = 6 ∨ i = 7 ∨ i = 8 := by omega
      have m0 : may6 (psOf [.int .i64 (-1), .sl 0 [], .int .u8 0, .int .u8 0, .sl 0 [], .str [], .str [], .bool false]) = false := by decide
      have c0 : CheckIn [.agg [.int .i64 (-1), .sl 0 [], .int .u8 0, .int .u8 0, .sl 0 [], .str [], .str [], .bool false]] := check_in (fit ⟨-1, [], 0, 0, [], [], [], false⟩ (by intro x hx; simp at hx <;> omega) (by simp [SubsOK]) (by simp) (by simp) (by simp)) rfl
      have m1 : may6 (psOf [.int .i64 15, .sl 0 [], .int .u8 0, .int .u8 0, .sl 0 [], .str [], .str [], .bool false]) = false := by decide
      have c1 : CheckIn [.agg [.int .i64 15, .sl 0 [], .int .u8 0, .int .u8 0, .sl 0 [], .str [], .str [], .bool false]] := check_in (fit ⟨15, [], 0, 0, [], [], [], false⟩ (by intro x hx; simp at hx <;> omega) (by simp [SubsOK]) (by simp) (by simp) (by simp)) rfl
      have m2 : may6 (psOf [.int .i64 2, .sl 0 [], .int .u8 0, .int .u8 0, .sl 0 [], .str [], .str [], .bool false]) = false := by decide
      have c2 : CheckIn [.agg [.int .i64 2, .sl 0 [], .int .u8 0, .int .u8 0, .sl 0 [], .str [], .str [], .bool false]] := check_in (fit ⟨2, [], 0, 0, [], [], [], false⟩ (by intro x hx; simp at hx <;> omega) (by simp [SubsOK]) (by simp) (by simp) (by simp)) rfl
      have m3 : may6 (psOf [.int .i64 4, .sl 0 [], .int .u8 0, .int .u8 0, .sl 0 [], .str [], .str [], .bool false]) = false := by decide
      have c3 : CheckIn [.agg [.int .i64 4, .sl 0 [], .int .u8 0, .int .u8 0, .sl 0 [], .str [], .str [], .bool false]] := check_in (fit ⟨4, [], 0, 0, [], [], [], false⟩ (by intro x hx; simp at hx <;> omega) (by simp [SubsOK]) (by simp) (by simp) (by simp)) rfl
      have m4 : may6 (psOf [.int .i64 0, .sl 0 [], .int .u8 0, .int .u8 0, .sl 0 [], .str [], .str [97], .bool false]) = false := by decide
      have c4 : CheckIn [.agg [.int .i64 0, .sl 0 [], .int .u8 0, .int .u8 0, .sl 0 [], .str [], .str [97], .bool false]] := check_in (fit ⟨0, [], 0, 0, [], [], [97], false⟩ (by intro x hx; simp at hx <;> omega) (by simp [SubsOK]) (by simp) (by simp) (by simp)) rfl
      have m5 : may6 (psOf [.int .i64 0, .sl 1 [.int .u8 97], .int .u8 0, .int .u8 0, .sl 0 [], .str [], .str [], .bool false]) = false := by decide
      have c5 : CheckIn [.agg [.int .i64 0, .sl 1 [.int .u8 97], .int .u8 0, .int .u8 0, .sl 0 [], .str [], .str [], .bool false]] := check_in (fit ⟨0, [97], 0, 0, [], [], [], false⟩ (by intro x hx; simp at hx <;> omega) (by simp [SubsOK]) (by simp) (by simp) (by simp)) rfl
      have m6 : may6 (psOf [.int .i64 11, .sl 0 [], .int .u8 0, .int .u8 0, .sl 0 [], .str [], .str [], .bool false]) = false := by decide
      have c6 : CheckIn [.agg [.int .i64 11, .sl 0 [], .int .u8 0, .int .u8 0, .sl 0 [], .str [], .str [], .bool false]] := check_in (fit ⟨11, [], 0, 0, [], [], [], false⟩ (by intro x hx; simp at hx <;> omega) (by simp [SubsOK]) (by simp) (by simp) (by simp)) rfl
      have m7 : may6 (psOf [.int .i64 3, .sl 0 [], .int .u8 0, .int .u8 0, .sl 0 [], .str [], .str [], .bool true]) = false := by decide
      have c7 : CheckIn [.agg [.int .i64 3, .sl 0 [], .int .u8 0, .int .u8 0, .sl 0 [], .str [], .str [], .bool true]] := check_in (fit ⟨3, [], 0, 0, [], [], [], true⟩ (by intro x hx; simp at hx <;> omega) (by simp [SubsOK]) (by simp) (by simp) (by simp)) rfl
      rcases this with h | h | h | h | h | h | h | h | h
      all_goals subst h
      all_goals simp [and_assoc, checkoSpec, feedoSpec, lcsiSpec, lescSpec, loscSpec, lparamsSpec, lprintSpec, lworksSpec, repeatSpec, sameoSpec, stepoSpec, tellsoSpec, knA, knR, pBox, badL, psC, sbegin, ints, parC, checkSpec, m0, c0, m1, c1, m2, c2, m3, c3, m4, c4, m5, c5, m6, c6, m7, c7]
      all_goals first | exact Next.mk 1 (by omega) (by omega) (Weak.keep (by simp [knA, knR])) | exact Next.mk 2 (by omega) (by omega) (Weak.keep (by simp [knA, knR])) | exact Next.mk 3 (by omega) (by omega) (Weak.keep (by simp [knA, knR])) | exact Next.mk 4 (by omega) (by omega) (Weak.keep (by simp [knA, knR])) | exact Next.mk 5 (by omega) (by omega) (Weak.keep (by simp [knA, knR])) | exact Next.mk 6 (by omega) (by omega) (Weak.keep (by simp [knA, knR])) | exact Next.mk 7 (by omega) (by omega) (Weak.keep (by simp [knA, knR])) | exact Next.mk 8 (by omega) (by omega) (Weak.keep (by simp [knA, knR])) | exact Leaves.mk (Weak.ren [some 0] (baseOK.nil hh) (by simp) (by simp [knE, knR, pBox, psC, sbegin, ints, parC]) (by simp [knE, knR, pBox, psC, sbegin, ints, parC]))
    · unfold knE
      simp [-rep, r1, knR, pBox, psC, sbegin, ints, parC]
      refine AWP.leaves 2 knE (AWP.rounds (fun i => i ≤ 6) knB (fun i => 6 - i) 0 (by simp) ?_ ?_) ?_
      · exact Weak.ren [some 0, some 1] (baseOK.nil hh) (by simp) (by simp [knB, knR, pBox, goodL, psC, sbegin, ints, parC]) (by simp [knB, knR, pBox, goodL, psC, sbegin, ints, parC])
      · intro i hi
        refine wpc_ok hE mixed _ _ _ ?_
        have : i = 0 ∨ i = 1 ∨ i = 2 ∨ i = 3 ∨ i = 4 ∨ i = 5 ∨ i = 6 := by omega
        have m0 : may6 (psOf [.int .i64 0, .sl 0 [], .int .u8 0, .int .u8 0, .sl 0 [], .str [], .str [], .bool false]) = true := by decide
        have c0 : CheckIn [.agg [.int .i64 0, .sl 0 [], .int .u8 0, .int .u8 0, .sl 0 [], .str [], .str [], .bool false]] := check_in (fit ⟨0, [], 0, 0, [], [], [], false⟩ (by intro x hx; simp at hx <;> omega) (by simp [SubsOK]) (by simp) (by simp) (by simp)) rfl
        have m1 : may6 (psOf [.int .i64 0, .sl 1 [.int .u8 226], .int .u8 0, .int .u8 0, .sl 0 [], .str [], .str [], .bool false]) = true := by decide
        have c1 : CheckIn [.agg [.int .i64 0, .sl 1 [.int .u8 226], .int .u8 0, .int .u8 0, .sl 0 [], .str [], .str [], .bool false]] := check_in (fit ⟨0, [226], 0, 0, [], [], [], false⟩ (by intro x hx; simp at hx <;> omega) (by simp [SubsOK]) (by simp) (by simp) (by simp)) rfl
        have m2 : may6 (psOf [.int .i64 4, .sl 0 [], .int .u8 63, .int .u8 0, .sl 0 [], .str [], .str [], .bool false]) = true := by decide
        have c2 : CheckIn [.agg [.int .i64 4, .sl 0 [], .int .u8 63, .int .u8 0, .sl 0 [], .str [], .str [], .bool false]] := check_in (fit ⟨4, [], 63, 0, [], [], [], false⟩ (by intro x hx; simp at hx <;> omega) (by simp [SubsOK]) (by simp) (by simp) (by simp)) rfl
        have m3 : may6 (psOf [.int .i64 5, .sl 0 [], .int .u8 0, .int .u8 0, .sl 0 [], .str [32], .str [], .bool false]) = true := by decide
        have c3 : CheckIn [.agg [.int .i64 5, .sl 0 [], .int .u8 0, .int .u8 0, .sl 0 [], .str [32], .str [], .bool false]] := check_in (fit ⟨5, [], 0, 0, [], [32], [], false⟩ (by intro x hx; simp at hx <;> omega) (by simp [SubsOK]) (by simp) (by simp) (by simp)) rfl
        have m4 : may6 (psOf [.int .i64 6, .sl 0 [], .int .u8 0, .int .u8 0, .sl 0 [], .str [], .str [], .bool true]) = true := by decide
        have c4 : CheckIn [.agg [.int .i64 6, .sl 0 [], .int .u8 0, .int .u8 0, .sl 0 [], .str [], .str [], .bool true]] := check_in (fit ⟨6, [], 0, 0, [], [], [], true⟩ (by intro x hx; simp at hx <;> omega) (by simp [SubsOK]) (by simp) (by simp) (by simp)) rfl
        have m5 : may6 (psOf [.int .i64 12, .sl 0 [], .int .u8 0, .int .u8 113, .sl 0 [], .str [], .str [97], .bool false]) = true := by decide
        have c5 : CheckIn [.agg [.int .i64 12, .sl 0 [], .int .u8 0, .int .u8 113, .sl 0 [], .str [], .str [97], .bool false]] := check_in (fit ⟨12, [], 0, 113, [], [], [97], false⟩ (by intro x hx; simp at hx <;> omega) (by simp [SubsOK]) (by simp) (by simp) (by simp)) rfl
        rcases this with h | h | h | h | h | h | h
        all_goals subst h
        all_goals simp [and_assoc, checkoSpec, feedoSpec, lcsiSpec, lescSpec, loscSpec, lparamsSpec, lprintSpec, lworksSpec, repeatSpec, sameoSpec, stepoSpec, tellsoSpec, knB, knR, pBox, goodL, psC, sbegin, ints, parC, checkSpec, m0, c0, m1, c1, m2, c2, m3, c3, m4, c4, m5, c5]
        all_goals first | exact Next.mk 1 (by omega) (by omega) (Weak.keep (by simp [knB, knR])) | exact Next.mk 2 (by omega) (by omega) (Weak.keep (by simp [knB, knR])) | exact Next.mk 3 (by omega) (by omega) (Weak.keep (by simp [knB, knR])) | exact Next.mk 4 (by omega) (by omega) (Weak.keep (by simp [knB, knR])) | exact Next.mk 5 (by omega) (by omega) (Weak.keep (by simp [knB, knR])) | exact Next.mk 6 (by omega) (by omega) (Weak.keep (by simp [knB, knR])) | exact Leaves.mk (Weak.ren [some 0] (baseOK.nil hh) (by simp) (by simp [knE, knR, pBox, psC, sbegin, ints, parC]) (by simp [knE, knR, pBox, psC, sbegin, ints, parC]))
      · unfold knE
        simp [and_assoc, checkoSpec, feedoSpec, lcsiSpec, lescSpec, loscSpec, lparamsSpec, lprintSpec, lworksSpec, repeatSpec, sameoSpec, stepoSpec, tellsoSpec, lawKnownSpec, knR, pBox, psC, sbegin, ints, parC, sameSpec]
        exact ⟨sbegin 0, sbegin 0, rfl, ⟨fun x hx => by simp [sbegin] at hx, by simp [sbegin, SubsOK]⟩, fun x hx => by simp [sbegin] at hx⟩
end Fen
