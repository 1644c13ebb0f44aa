/- A part of the proof; no statement is proved here: PPastB, PPastC, PPastD, PPastE, PPastF. -/
import Derived.Test.YtecnbidgdohmgaaDoorRowB

set_option linter.unusedVariables false
set_option linter.unusedSimpArgs false

namespace Fen
open Go Go.Proofs

theorem pow_sl (l : List Rw) (a b : Nat) : ((rowsC l).drop (a * 2)).take (b * 2) = rowsC ((l.drop a).take b) := by rw [rowsC_drop, rowsC_take]
theorem pastF_len {cols : Int} {p : List Rw} (h : pastF cols p = 0) : p.length ≤ 100 := by
  unfold pastF at h
  split at h
  · cases h
  · split at h
    · rename_i q; exact q.1
    · cases h
theorem bothF_len {cols : Int} {p w : List Rw} (h : bothF cols p w = 0) : p.length ≤ 100 ∧ w.length ≤ 100 := by
  unfold bothF at h
  split at h
  · rename_i q; exact absurd h q
  · rename_i q; exact ⟨pastF_len (Decidable.not_not.1 q), pastF_len h⟩

def pushSpec : Spec := { pre := fun args => ∃ (cols : Int) (p w : List Rw), args = [.c (.int .i64 cols), rowsV p, rowsV w] ∧ RowsOK p ∧ RowsOK w, res := fun args => match args with
  | [.c (.int _ cols), .c (.sl _ a), .c (.sl _ b)] => .many [.val (rowsV (pushF cols (rowsOf a) (rowsOf b)).1), .val (.c (.int .i64 (pushF cols (rowsOf a) (rowsOf b)).2))]
  | _ => .many [] }
def G_rpush : Specs := [(26, bothSpec), (27, joinSpec)]
@[simp] theorem G_rpush_26 : G_rpush.find 26 = some bothSpec := rfl
@[simp] theorem G_rpush_27 : G_rpush.find 27 = some joinSpec := rfl
theorem G_rpush_ok (gl : Gl) : SpecsOK Tryd.prog gl G_rpush := .cons (both_sound gl) (.cons (join_sound gl) (.nil _ _))
set_option maxRecDepth 10000 in
theorem rpush_sound (gl : Gl) : Sound Tryd.prog gl 11 pushSpec := by
  refine sound_fn (N := Tryd.f11.ntmps) (rs := Tryd.f11.results.toList) mixed tok (G_rpush_ok gl) Tryd.func11 rfl rfl rfl rfl rfl ?_ ?_ ?_
  · rintro args ⟨cols,p,w,rfl,hp,hw⟩; simp [rowsOf_C,rowsV, Tryd.f11]
  · rintro args ⟨cols,p,w,rfl,hp,hw⟩; simp [rowsOf_C,rowsV, pushSpec, Tryd.f11]
  · rintro args ⟨cols,p,w,rfl,hp,hw⟩ bs hgl hh hro
    have hE : Env.OK ⟨Tryd.prog, T, G_rpush, bs⟩ := ⟨tok, by rw [hgl]; exact G_rpush_ok gl⟩
    simp only [pushSpec, rowsOf_C,rowsV]
    unfold pushF
    by_cases h : bothF cols p w = 0
    · obtain ⟨l1, l2⟩ := bothF_len h
      simp [and_assoc, pushSpec, bothSpec, joinSpec, Tryd.f11, h, hp, hw, l1, l2]
    · simp [and_assoc, pushSpec, bothSpec, joinSpec, Tryd.f11, h, hp, hw]

def popSpec : Spec := { pre := fun args => ∃ (cols : Int) (p : List Rw) (n : Int), args = [.c (.int .i64 cols), rowsV p, .c (.int .i64 n)] ∧ RowsOK p ∧ I64 n, res := fun args => match args with
  | [.c (.int _ cols), .c (.sl _ a), .c (.int _ n)] => .many [.val (rowsV (popF cols (rowsOf a) n).1), .val (rowsV (popF cols (rowsOf a) n).2.1), .val (.c (.int .i64 (popF cols (rowsOf a) n).2.2))]
  | _ => .many [] }
def G_pop : Specs := [(13, pastckSpec)]
@[simp] theorem G_pop_13 : G_pop.find 13 = some pastckSpec := rfl
theorem G_pop_ok : SpecsOK Tryd.prog glW G_pop := .cons pastck_sound (.nil _ _)
set_option maxRecDepth 10000 in
theorem pop_sound : Sound Tryd.prog glW 16 popSpec := by
  refine sound_fn (N := Tryd.f16.ntmps) (rs := Tryd.f16.results.toList) mixed tok G_pop_ok Tryd.func16 rfl rfl rfl rfl rfl ?_ ?_ ?_
  · rintro args ⟨cols,p,n,rfl,hp,hn1,hn2⟩; simp [rowsOf_C,rowsV, Tryd.f16]
  · rintro args ⟨cols,p,n,rfl,hp,hn1,hn2⟩; simp [rowsOf_C,rowsV, popSpec, Tryd.f16]
  · rintro args ⟨cols,p,n,rfl,hp,hn1,hn2⟩ bs hgl hh hro
    have hE : Env.OK ⟨Tryd.prog, T, G_pop, bs⟩ := ⟨tok, by rw [hgl]; exact G_pop_ok⟩
    simp only [popSpec, rowsOf_C,rowsV]
    unfold popF
    by_cases h : pastF cols p = 0
    · have l1 := pastF_len h
      by_cases hn : n < 0
      · simp [and_assoc, popSpec, pastckSpec, Tryd.f16, h, hp, hn]
      · have w1 : IntKind.i64.wrap ((p.length : Int) - n) = p.length - n := wrap64 _ (by omega) (by omega)
        have em : (if n < (p.length : Int) then (p.length : Int) - n else 0) = ((p.length - n.toNat : Nat) : Int) := by split <;> omega
        generalize p.length - n.toNat = m at *
        have hm : m ≤ p.length := by split at em <;> omega
        simp [and_assoc, popSpec, pastckSpec, Tryd.f16, h, hp, hn, w1, em]
        repeat' (first | (refine And.intro ?_ ?_) | (intro _))
        all_goals first | omega | rfl | (exact rowsC_take _ _) | (rw [rowsC_drop]; exact List.take_of_length_le (by simp <;> omega)) | (simp; omega) | skip
    · simp [and_assoc, popSpec, pastckSpec, Tryd.f16, h, hp]
def G_rpop : Specs := [(14, pastckSpec)]
@[simp] theorem G_rpop_14 : G_rpop.find 14 = some pastckSpec := rfl
theorem G_rpop_ok (gl : Gl) : SpecsOK Tryd.prog gl G_rpop := .cons (rpastck_sound gl) (.nil _ _)
set_option maxRecDepth 10000 in
theorem rpop_sound (gl : Gl) : Sound Tryd.prog gl 17 popSpec := by
  refine sound_fn (N := Tryd.f17.ntmps) (rs := Tryd.f17.results.toList) mixed tok (G_rpop_ok gl) Tryd.func17 rfl rfl rfl rfl rfl ?_ ?_ ?_
  · rintro args ⟨cols,p,n,rfl,hp,hn1,hn2⟩; simp [rowsOf_C,rowsV, Tryd.f17]
  · rintro args ⟨cols,p,n,rfl,hp,hn1,hn2⟩; simp [rowsOf_C,rowsV, popSpec, Tryd.f17]
  · rintro args ⟨cols,p,n,rfl,hp,hn1,hn2⟩ bs hgl hh hro
    have hE : Env.OK ⟨Tryd.prog, T, G_rpop, bs⟩ := ⟨tok, by rw [hgl]; exact G_rpop_ok gl⟩
    simp only [popSpec, rowsOf_C,rowsV]
    unfold popF
    by_cases h : pastF cols p = 0
    · have l1 := pastF_len h
      by_cases hn : n < 0
      · simp [and_assoc, popSpec, pastckSpec, Tryd.f17, h, hp, hn]
      · obtain ⟨m, hm, hm2, hml⟩ : ∃ m : Nat, (if (p.length : Int) < n then (p.length : Int) else n) = (m : Int) ∧ p.length - n.toNat = p.length - m ∧ m ≤ p.length := by
          by_cases q : (p.length : Int) < n
          · exact ⟨p.length, by rw [if_pos q], by omega, by omega⟩
          · exact ⟨n.toNat, by rw [if_neg q]; omega, rfl, by omega⟩
        have w1 : IntKind.i64.wrap ((p.length : Int) - m) = ((p.length - m : Nat) : Int) := by rw [wrap64 _ (by omega) (by omega)]; omega
        simp [and_assoc, popSpec, pastckSpec, Tryd.f17, h, hp, hn, w1, hm, hm2]
        repeat' (first | (refine And.intro ?_ ?_) | (intro _))
        all_goals first | omega | rfl | (exact rowsC_take _ _) | (rw [rowsC_drop]; exact List.take_of_length_le (by simp <;> omega)) | (simp; omega) | skip
    · simp [and_assoc, popSpec, pastckSpec, Tryd.f17, h, hp]

def viewSpec : Spec := { pre := fun args => ∃ (cols : Int) (p w : List Rw) (n : Int), args = [.c (.int .i64 cols), rowsV p, rowsV w, .c (.int .i64 n)] ∧ RowsOK p ∧ RowsOK w ∧ I64 n, res := fun args => match args with
  | [.c (.int _ cols), .c (.sl _ a), .c (.sl _ b), .c (.int _ n)] => .many [.val (rowsV (viewF cols (rowsOf a) (rowsOf b) n).1), .val (.c (.int .i64 (viewF cols (rowsOf a) (rowsOf b) n).2))]
  | _ => .many [] }
def G_rview : Specs := [(26, bothSpec)]
@[simp] theorem G_rview_26 : G_rview.find 26 = some bothSpec := rfl
theorem G_rview_ok (gl : Gl) : SpecsOK Tryd.prog gl G_rview := .cons (both_sound gl) (.nil _ _)
set_option maxRecDepth 10000 in
theorem rview_sound (gl : Gl) : Sound Tryd.prog gl 19 viewSpec := by
  refine sound_fn (N := Tryd.f19.ntmps) (rs := Tryd.f19.results.toList) mixed tok (G_rview_ok gl) Tryd.func19 rfl rfl rfl rfl rfl ?_ ?_ ?_
  · rintro args ⟨cols,p,w,n,rfl,hp,hw,hn1,hn2⟩; simp [rowsOf_C,rowsV, Tryd.f19]
  · rintro args ⟨cols,p,w,n,rfl,hp,hw,hn1,hn2⟩; simp [rowsOf_C,rowsV, viewSpec, Tryd.f19]
  · rintro args ⟨cols,p,w,n,rfl,hp,hw,hn1,hn2⟩ bs hgl hh hro
    have hE : Env.OK ⟨Tryd.prog, T, G_rview, bs⟩ := ⟨tok, by rw [hgl]; exact G_rview_ok gl⟩
    simp only [viewSpec, rowsOf_C,rowsV]
    unfold viewF
    by_cases h : bothF cols p w = 0
    · obtain ⟨l1, l2⟩ := bothF_len h
      by_cases hn : n < 0
      · simp [and_assoc, viewSpec, bothSpec, Tryd.f19, h, hp, hw, hn]
      · obtain ⟨m, hm, hm2⟩ : ∃ m : Nat, (m : Int) = (if (p.length : Int) < n then (p.length : Int) else n) ∧ p.length - n.toNat = p.length - m := by
          by_cases q : (p.length : Int) < n
          · exact ⟨p.length, by rw [if_pos q], by omega⟩
          · exact ⟨n.toNat, by rw [if_neg q]; omega, rfl⟩
        have hml : m ≤ p.length := by split at hm <;> omega
        have w1 : IntKind.i64.wrap ((p.length : Int) + w.length - m) = p.length + w.length - m := wrap64 _ (by omega) (by omega)
        have w2 : IntKind.i64.wrap ((p.length : Int) + w.length - m - w.length) = p.length - m := by rw [wrap64 _ (by omega) (by omega)]; omega
        have e1 : ((p.length : Int) - m).toNat = p.length - m := by omega
        have e2 : ((p.length : Int) + w.length - m - (p.length - m)).toNat = w.length := by omega
        simp [and_assoc, viewSpec, bothSpec, Tryd.f19, h, hp, hw, hn, ← hm, w1, w2, e1, e2, hm2]
        repeat' (first | (refine And.intro ?_ ?_) | (intro _))
        all_goals first | omega | (rw [← rowsC_app, pow_sl])
    · simp [and_assoc, viewSpec, bothSpec, Tryd.f19, h, hp, hw]
end Fen

namespace Fen
open Go Go.Proofs

/-- a guarded operation that is not wanted: its slot may be said to hold what one likes -/
theorem OpW.unwanted {P : Program} {bs : Base} {ops : Array Oper} {o : Oper} {st : St} {K : St → Prop} {gq : Nat × Bool} (x : X) (hg : o.guard = some gq) (hc : guardC ops st.r gq = some false) (hd : dstOK st.n o.dst)
    (h2 : K (st.put o.dst (.ifb false x) st.h)) : OpW P bs ops o st K := by
  intro a w Q R
  obtain ⟨g, R⟩ := R
  obtain ⟨j, b⟩ := gq
  have hw := guard_ok R.slot hc
  have hwant : Region.wanted o (yielded ops a.tmps) = false := by simp only [Region.wanted, hg]; exact hw
  rw [hwant]
  refine ⟨_, h2, ?_⟩
  have hd' : ∀ t, o.dst = some t → t < st.n := fun t ht => by rw [ht] at hd; exact hd
  exact RelG.put R (e := ⟨True, .ifb false x, .pure, st.h⟩) (v := undef) ⟨g, Ext.refl _ _, R.heap, by simp only [RelX]; exact ⟨fun h => (by cases h), fun _ => rfl⟩⟩ o.dst hd'

/-- lists of rows, as cells -/
def rowssC (ls : List (List Rw)) : List C := ls.map fun p => .sl p.length (rowsC p)
def partF (a b : Int) (l : List Rw) : List Rw := (l.take b.toNat).drop a.toNat
def partCaps (a b : Int) (p w : List Rw) : List C := [.ptr [.sl 2 [.sl p.length (rowsC p), .sl w.length (rowsC w)]], .ptr [.int .i64 a], .ptr [.int .i64 b]]
def partSpec : Spec := { pre := fun args => ∃ (a b : Int) (p w : List Rw), args = [.c (.int .i64 a), .c (.int .i64 b), .c (.sl 2 [.sl p.length (rowsC p), .sl w.length (rowsC w)])], res := fun args => match args with
  | [.c (.int _ a), .c (.int _ b), .c (.sl _ [.sl n p, .sl m w])] => .one (.val (.c (.fn 35 [.ptr [.sl 2 [.sl n p, .sl m w]], .ptr [.int .i64 a], .ptr [.int .i64 b]])))
  | _ => .many [] }
def G_part : Specs := []
theorem G_part_ok (gl : Gl) : SpecsOK Tryd.prog gl G_part := .nil _ _
set_option maxRecDepth 10000 in
theorem part_sound (gl : Gl) : Sound Tryd.prog gl 25 partSpec := by
  refine sound_fn (N := Tryd.f25.ntmps) (rs := Tryd.f25.results.toList) mixed tok (G_part_ok gl) Tryd.func25 rfl rfl rfl rfl rfl ?_ ?_ ?_
  · rintro args ⟨a,b,p,w,rfl⟩; simp [Tryd.f25]
  · rintro args ⟨a,b,p,w,rfl⟩; simp [partSpec, Tryd.f25]
  · rintro args ⟨a,b,p,w,rfl⟩ bs hgl hh hro
    have hE : Env.OK ⟨Tryd.prog, T, G_part, bs⟩ := ⟨tok, by rw [hgl]; exact G_part_ok gl⟩
    simp [partSpec, Tryd.f25]

@[simp] theorem get_snoc {α : Type} (h : List α) (b : α) : (h ++ [b])[h.length]? = some b := by simp
@[simp] theorem set_snoc {α : Type} (h : List α) (b c : α) : (h ++ [b]).set h.length c = h ++ [c] := by rw [List.set_append_right _ _ (Nat.le_refl _)]; simp
theorem rowssC_at {ls : List (List Rw)} {j : Nat} (h : j < ls.length) : (rowssC ls).drop j = .sl (ls[j]).length (rowsC ls[j]) :: rowssC (ls.drop (j + 1)) := by
  rw [rowssC, ← List.map_drop, List.drop_eq_getElem_cons h]; rfl
def flen {α : Type} (ls : List (List α)) (j : Nat) : Nat := ((ls.take j).flatten).length
theorem flatten_at {α : Type} : ∀ (ls : List (List α)) (j i : Nat) (h : j < ls.length), i < (ls[j]).length → ls.flatten[((ls.take j).flatten).length + i]? = (ls[j])[i]?
  | [], j, i, h, _ => by simp at h
  | l :: ls, 0, i, h, hi => by simp at hi ⊢; rw [List.getElem?_append_left hi]
  | l :: ls, j + 1, i, h, hi => by
    simp only [List.take_succ_cons, List.flatten_cons, List.length_append, List.getElem_cons_succ] at hi ⊢
    rw [List.getElem?_append_right (by omega), Nat.add_assoc, Nat.add_sub_cancel_left]
    exact flatten_at ls j i (by simpa using h) hi
theorem flatten_le {α : Type} (ls : List (List α)) (j : Nat) (h : j < ls.length) : ((ls.take j).flatten).length + (ls[j]).length ≤ ls.flatten.length := by
  have e : ls = ls.take j ++ ls[j] :: ls.drop (j + 1) := by rw [← List.drop_eq_getElem_cons h, List.take_append_drop]
  have e2 := congrArg (fun l => l.flatten.length) e
  simp only [List.flatten_append, List.flatten_cons, List.length_append] at e2
  omega
theorem flatten_take {α : Type} (ls : List (List α)) (j : Nat) (h : j < ls.length) : ((ls.take (j + 1)).flatten).length = ((ls.take j).flatten).length + (ls[j]).length := by
  rw [List.take_add_one, List.getElem?_eq_getElem h, List.flatten_append, List.length_append]; simp

def partO (id : Nat) (ls : List (List Rw)) (a b : Int) (x : Nat × Nat × List Blk) : St :=
  ⟨40, [(0, .yld id), (1, .fptr [.sl ls.length (rowssC ls)]), (2, .fptr [.int .i64 a]), (3, .fptr [.int .i64 b]), (5, .val (.int .i64 x.2.1)), (10, .val (.sl ls.length (rowssC ls))), (11, .val (.int .i64 ls.length)), (12, .val (.int .i64 x.1))], x.2.2⟩
def partI (id : Nat) (ls : List (List Rw)) (a b : Int) (j : Nat) (r : List Rw) (k0 : Nat) (x : Nat × List Blk) : St :=
  ⟨40, [(0, .yld id), (1, .fptr [.sl ls.length (rowssC ls)]), (2, .fptr [.int .i64 a]), (3, .fptr [.int .i64 b]), (5, .val (.int .i64 ((k0 + x.1 : Nat) : Int))), (10, .val (.sl ls.length (rowssC ls))), (11, .val (.int .i64 ls.length)), (12, .val (.int .i64 j)),
    (16, .val (.sl r.length (rowsC r))), (17, .val (.int .i64 r.length)), (18, .val (.int .i64 x.1))], x.2⟩
set_option maxHeartbeats 1000000 in
set_option maxRecDepth 10000 in
theorem part1_iter (gl : Gl) (a b : Nat) (ls : List (List Rw)) (h1 : a ≤ b) (hb : b ≤ 1000000) (hl : ls.flatten.length ≤ 1000000) (hls : ls.length ≤ 1000) :
    IterOK Tryd.prog gl 35 [.ptr [.sl ls.length (rowssC ls)], .ptr [.int .i64 a], .ptr [.int .i64 b]] ((partF a b ls.flatten).map fun r => [rowV r]) := by
  refine ⟨enters_of Tryd.func35 rfl rfl, Tryd.f35, _, Tryd.func35, rfl, rfl, by simp [Tryd.f35], ?_⟩
  intro bs id I Ix hgl hro hy hI h0
  have hE : Env.OK ⟨Tryd.prog, T, [], bs⟩ := ⟨tok, by rw [hgl]; exact .nil _ _⟩
  refine wpc_ok hE mixed _ _ _ ?_
  simp [Tryd.f35]
  refine AWP.rounds (fun x => x.1 ≤ ls.length ∧ x.2.1 = flen ls x.1 ∧ I (min x.2.1 b - a) x.2.2) (partO id ls a b) (fun x => ls.length - x.1) (0, 0, bs.h0) ⟨by simp, rfl, by simpa using h0⟩ ?_ ?_
  · refine Weak.keep ?_
    simp [partO]
  · rintro ⟨j, k0, h⟩ ⟨hj, hk, hI1⟩
    simp only at hj hk hI1
    refine wpc_ok hE mixed _ _ _ ?_
    rcases Nat.lt_or_ge j ls.length with hjl | hjl
    · have w1 : IntKind.i64.wrap ((j : Int) + 1) = j + 1 := wrap64 _ (by omega) (by omega)
      have hd := rowssC_at hjl
      have hfl : flen ls j + (ls[j]).length ≤ ls.flatten.length := flatten_le ls j hjl
      have hft : flen ls (j + 1) = flen ls j + (ls[j]).length := flatten_take ls j hjl
      have hat : ∀ (i : Nat) (h : j < ls.length), i < (ls[j]).length → ls.flatten[flen ls j + i]? = (ls[j])[i]? := flatten_at ls j
      simp [partO, hjl, hd]
      generalize hr : ls[j] = r at *
      refine AWP.rounds (fun x => x.1 ≤ r.length ∧ I (min (k0 + x.1) b - a) x.2) (partI id ls a b j r k0) (fun x => r.length - x.1) (0, h) ⟨by simp, by simpa using hI1⟩ ?_ ?_
      · refine Weak.keep ?_
        simp [partI]
      · rintro ⟨i, h⟩ ⟨hi, hI2⟩
        simp only at hi hI2
        refine wpc_ok hE mixed _ _ _ ?_
        rcases Nat.lt_or_ge i r.length with hil | hil
        · have w2 : IntKind.i64.wrap ((i : Int) + 1) = i + 1 := wrap64 _ (by omega) (by omega)
          have w3 : IntKind.i64.wrap ((k0 : Int) + i + 1) = (k0 : Int) + (i + 1) := by rw [wrap64 _ (by omega) (by omega)]; omega
          have hd2 := rowsC_at hil
          obtain ⟨hq, hcl, hln⟩ := hI _ _ hI2
          have hget : ls.flatten[k0 + i]? = some r[i] := by rw [hk, hat i hjl (by rw [hr]; exact hil)]; simp [hr, List.getElem?_eq_getElem hil]
          generalize r[i] = c at *
          by_cases hin : a ≤ k0 + i ∧ k0 + i < b
          · obtain ⟨q1, q2⟩ := hin
            have q1' : (a : Int) ≤ k0 + i := by omega
            have q2' : (k0 : Int) + i < b := by omega
            have hn : (min (k0 + i) b - a) + 1 = min (k0 + (i + 1)) b - a := by omega
            have hseq : ((partF a b ls.flatten).map fun r => [rowV r])[min (k0 + i) b - a]? = some [rowV c] := by
              simp only [partF, Int.toNat_natCast, List.getElem?_map, List.getElem?_drop]
              rw [show a + (min (k0 + i) b - a) = k0 + i by omega, List.getElem?_take_of_lt q2, hget]; rfl
            simp [partI, hil, hd2, q1', q2']
            refine OpW.weak (Weak.dropS [(0, .yld id), (1, .fptr [.sl ls.length (rowssC ls)]), (2, .fptr [.int .i64 a]), (3, .fptr [.int .i64 b]), (5, .val (.int .i64 ((k0 + i : Nat) : Int))), (10, .val (.sl ls.length (rowssC ls))), (11, .val (.int .i64 ls.length)), (12, .val (.int .i64 j)), (16, .val (.sl r.length (rowsC r))), (17, .val (.int .i64 r.length)), (18, .val (.int .i64 i)), (30, .val (.bool true)), (31, .yld id), (32, .agg (rowC c))] hcl hln (by simp) (by simp [lt_of_get hq.choose_spec]) (by simp)) ?_
            refine OpW.guarded rfl (c := true) (by simp [guardC]) (by simp [dstOK]) (fun _ => ?_) (fun e => by cases e)
            refine OpW.yield hy (min (k0 + i) b - a) [rowV c] rfl hI2 hq hseq (by simp [rowV]) (by simp) (by simp [dstOK]) (fun h' k => ?_) (fun h' k => ?_)
            · simp [w2, w3]
              refine Next.mk (i + 1, h') ⟨hil, by rw [← hn]; exact k⟩ (by simp only; omega) (Weak.keep ?_)
              simp [partI]
              done
            · simp
              exact .inr k
          · have q : ¬ ((a : Int) ≤ k0 + i ∧ (k0 : Int) + i < b) := by omega
            have hn : min (k0 + i) b - a = min (k0 + (i + 1)) b - a := by omega
            by_cases q1' : (a : Int) ≤ k0 + i
            · have q2' : ¬ (k0 : Int) + i < b := fun k => q ⟨q1', k⟩
              simp [partI, hil, hd2, q1', q2', w2, w3]
              refine OpW.unwanted (.val (.bool false)) rfl (by simp [guardC]) (by simp [dstOK]) ?_
              simp [w2, w3]
              refine Next.mk (i + 1, h) ⟨hil, by rw [← hn]; exact hI2⟩ (by simp only; omega) (Weak.drop hcl hln ?_ ?_)
              · simp [partI]
                done
              · simp [partI, lt_of_get hq.choose_spec]
            · simp [partI, hil, hd2, q1', w2, w3]
              refine OpW.unwanted (.val (.bool false)) rfl (by simp [guardC]) (by simp [dstOK]) ?_
              simp [w2, w3]
              refine Next.mk (i + 1, h) ⟨hil, by rw [← hn]; exact hI2⟩ (by simp only; omega) (Weak.drop hcl hln ?_ ?_)
              · simp [partI]
                done
              · simp [partI, lt_of_get hq.choose_spec]
        · have : i = r.length := by omega
          subst this
          simp [partI, w1]
          refine Next.mk (j + 1, k0 + r.length, h) ⟨hjl, by simp only; rw [hft, hk], hI2⟩ (by omega) (Weak.keep (by simp [partO]))
    · have : j = ls.length := by omega
      subst this
      have hk : k0 = ls.flatten.length := by rw [hk, flen, List.take_length]
      simp [partO]
      left
      have e : (partF a b ls.flatten).length = min k0 b - a := by simp [partF, hk]; omega
      rw [e]; exact hI1
end Fen

namespace Fen
open Go Go.Proofs

def rowssOf : List C → List (List Rw)
  | .sl _ cs :: l => rowsOf cs :: rowssOf l
  | _ => []
@[simp] theorem rowssOf_C (ls : List (List Rw)) : rowssOf (rowssC ls) = ls := by
  induction ls with
  | nil => rfl
  | cons p ls ih => simp only [rowssC, List.map_cons, rowssOf, rowsOf_C]; congr 1
def partFn (ls : List (List Rw)) (a b : Nat) : C := .fn 35 [.ptr [.sl ls.length (rowssC ls)], .ptr [.int .i64 a], .ptr [.int .i64 b]]
def PartOK (ls : List (List Rw)) (a b : Nat) : Prop := a ≤ b ∧ b ≤ 1000000 ∧ ls.flatten.length ≤ 1000000 ∧ ls.length ≤ 1000
def asHS : HS := { wr := true, eff := fun xs h => match xs, h with
  | [.nil, .val (.fn k [.ptr [.sl m cs], .ptr [.int q1 a], .ptr [.int q2 b]])], [] =>
    ((∃ (ls : List (List Rw)) (a' b' : Nat), C.fn k [.ptr [.sl m cs], .ptr [.int q1 a], .ptr [.int q2 b]] = partFn ls a' b' ∧ PartOK ls a' b'),
      if (partF a b (rowssOf cs).flatten).length = 0 then .nil else .ref 0 0,
      if (partF a b (rowssOf cs).flatten).length = 0 then [] else [.sl 25 0 true 2 (partF a b (rowssOf cs).flatten).length (rowsC (partF a b (rowssOf cs).flatten))])
  | _, _ => (False, .dead, h) }
def asSpec : Spec := { pre := fun _ => False, res := fun _ => .many [], hp := some asHS }

def asH (l : List Rw) (n : Nat) : List Blk :=
  if n = 0 then [.box 28 [.nil], .hid] else [.box 28 [.ref 2 (n - 1)], .hid, .sl 25 (n - 1) true 2 n (rowsC (l.take n))]

set_option maxRecDepth 10000 in
theorem as_sound (gl : Gl) : Sound Tryd.prog gl 34 asSpec := by
  refine sound_heap (hs := asHS) (N := Tryd.f34.ntmps) (rs := Tryd.f34.results.toList) mixed tok (.nil _ gl) Tryd.func34 rfl rfl rfl rfl rfl ?_ ?_
  · intro xs h hp
    simp only [asHS] at hp
    split at hp
    · simp [Tryd.f34]
    · exact hp.elim
  · intro xs h hp bs hgl hh hro
    simp only [asHS] at hp
    split at hp
    · rename_i k m cs q1 a q2 b
      obtain ⟨ls, a', b', e, h1, h2, h3, h4⟩ := hp
      simp only [partFn, C.fn.injEq, List.cons.injEq, C.ptr.injEq, C.sl.injEq, C.int.injEq, true_and, and_true] at e
      obtain ⟨rfl, ⟨rfl, rfl⟩, ⟨rfl, rfl⟩, rfl, rfl⟩ := e
      have it := part1_iter gl a' b' ls h1 h2 h3 h4
      simp only [hcEff, asHS, rowssOf_C]
      generalize hl : partF a' b' ls.flatten = l at *
      have hll : l.length ≤ 1000000 := by rw [← hl]; simp [partF]; omega
      simp [Tryd.f34]
      refine AWP.rangeFunc hro rfl (seq := l.map fun r => [rowV r]) (by rw [hgl]; exact it) (by simp) (by simp) (fun n y => y = n ∧ n ≤ l.length) (asH l) (fun _ _ => False) 0 ⟨rfl, by simp⟩ (by simp [asH]) ?_ (by simp) ?_ ?_ (by simp) (fun n y _ => ClosedH.of (by simp only [asH]; split <;> simp))
      · rintro n y ⟨rfl, hn⟩
        simp only [asH]; split <;> simp
      · rintro n y args ⟨rfl, hn⟩ hseq bs' hgl' hh'
        simp at hseq
        obtain ⟨c, hc, rfl⟩ := hseq
        have hE : Env.OK ⟨Tryd.prog, T, [], bs'⟩ := ⟨tok, .nil _ _⟩
        refine wpc_ok hE mixed _ _ _ ?_
        unfold asH
        split
        · rename_i h0
          subst h0
          simp [rowV]
          intro bs2 hgl2 hh2
          have hE2 : Env.OK ⟨Tryd.prog, T, [], bs2⟩ := ⟨tok, .nil _ _⟩
          refine wpc_ok hE2 mixed _ _ _ ?_
          simp
          have hlt := lt_of_get hc
          have h1 : List.take 1 l = [c] := by rw [List.take_one, List.head?_eq_getElem?, hc]; rfl
          refine ⟨1, ⟨rfl, by omega⟩, Weak.ren [some 0, some 1, some 3] (fun id hid => ?_) (by simp) (by simp [h1, rowsC]) trivial⟩
          rw [hh2] at hid
          have : id = 0 ∨ id = 1 := by simp at hid; omega
          rcases this with rfl | rfl <;> simp
        · rename_i hn0
          simp [rowV]
          intro bs2 hgl2 hh2
          have hE2 : Env.OK ⟨Tryd.prog, T, [], bs2⟩ := ⟨tok, .nil _ _⟩
          refine wpc_ok hE2 mixed _ _ _ ?_
          have hlt := lt_of_get hc
          have ht : rowsC (List.take (y + 1) l) = rowsC (List.take y l) ++ rowC c := by
            rw [List.take_add_one, hc, rowsC_app]; simp [rowsC]
          have e1 : y - 1 + 1 = y := by omega
          simp
          refine ⟨⟨by omega, by omega⟩, y + 1, ⟨rfl, by omega⟩, ?_⟩
          have W := Weak.drop (bs := bs2) (n := 13) (h := [.box 28 [.ref 2 y], .hid, .sl 25 y true 2 (y + 1) (rowsC (List.take (y + 1) l))]) (ex := [.box 25 ((rowC c).map .val)]) (r := []) (r' := []) (ClosedH.of (by simp)) (by rw [hh2]; simp) trivial trivial
          simp [e1, ht] at W ⊢
          exact Weak.trans (Weak.keep (r' := []) trivial) W
      · rintro y ⟨rfl, hn⟩
        simp only [List.length_map]
        unfold asH
        split
        · rename_i h0
          simp [h0]
          exact RetTo.ren [] .nil [] ⟨rfl, rfl⟩ (baseOK.nil hh) (by simp) (by simp) (by simp)
        · rename_i h0
          simp [h0]
          exact RetTo.ren [some 2] (.ref 0 0) [.sl 25 0 true 2 l.length (rowsC l)] ⟨rfl, rfl⟩ (baseOK.nil hh) (by simp) (by simp) (by simp)
    · exact hp.elim

def collectSpec : Spec := { pre := fun args => ∃ (ls : List (List Rw)) (a b : Nat), args = [.c (partFn ls a b)] ∧ PartOK ls a b, res := fun args => match args with
  | [.c (.fn _ [.ptr [.sl _ cs], .ptr [.int _ a], .ptr [.int _ b]])] => .one (.val (rowsV (partF a b (rowssOf cs).flatten)))
  | _ => .many [] }
def G_collect : Specs := [(34, asSpec)]
@[simp] theorem G_collect_34 : G_collect.find 34 = some asSpec := rfl
theorem G_collect_ok (gl : Gl) : SpecsOK Tryd.prog gl G_collect := .cons (as_sound gl) (.nil _ _)
set_option maxRecDepth 10000 in
theorem collect_sound (gl : Gl) : Sound Tryd.prog gl 24 collectSpec := by
  refine sound_fn (N := Tryd.f24.ntmps) (rs := Tryd.f24.results.toList) mixed tok (G_collect_ok gl) Tryd.func24 rfl rfl rfl rfl rfl ?_ ?_ ?_
  · rintro args ⟨ls,a,b,rfl,h1,h2,h3,h4⟩; simp [partFn, Tryd.f24]
  · rintro args ⟨ls,a,b,rfl,h1,h2,h3,h4⟩; simp [partFn, collectSpec, Tryd.f24]
  · rintro args ⟨ls,a,b,rfl,h1,h2,h3,h4⟩ bs hgl hh hro
    have hE : Env.OK ⟨Tryd.prog, T, G_collect, bs⟩ := ⟨tok, by rw [hgl]; exact G_collect_ok gl⟩
    simp only [collectSpec, partFn]
    have e : (∃ (ls' : List (List Rw)) (a' b' : Nat), C.fn 35 [.ptr [.sl ls.length (rowssC ls)], .ptr [.int .i64 a], .ptr [.int .i64 b]] = partFn ls' a' b' ∧ PartOK ls' a' b') := ⟨ls, a, b, rfl, h1, h2, h3, h4⟩
    rcases Decidable.em ((partF a b ls.flatten).length = 0) with h0 | h0
    · have h0' := List.eq_nil_of_length_eq_zero h0
      simp [collectSpec, asSpec, Tryd.f24, asHS, partFn, h0']
      exact ⟨ls, a, b, ⟨⟨rfl, rfl⟩, rfl, rfl⟩, h1, h2, h3, h4⟩
    · have h0' : ¬ partF a b ls.flatten = [] := fun k => h0 (by rw [k]; rfl)
      simp [collectSpec, asSpec, Tryd.f24, asHS, partFn, h0']
      exact ⟨ls, a, b, ⟨⟨rfl, rfl⟩, rfl, rfl⟩, h1, h2, h3, h4⟩

theorem partF_join (p w : List Rw) : partF ((p.length + w.length - 100 : Nat) : Int) ((p.length + w.length : Nat) : Int) (p ++ w) = joinF p w := by
  unfold partF joinF
  rw [Int.toNat_natCast, Int.toNat_natCast, ← List.length_append, List.take_length]
theorem partF_view (p w : List Rw) (m : Nat) (h : m ≤ p.length) : partF ((p.length - m : Nat) : Int) ((p.length - m + w.length : Nat) : Int) (p ++ w) = ((p ++ w).drop (p.length - m)).take w.length := by
  unfold partF
  rw [Int.toNat_natCast, Int.toNat_natCast, List.take_drop]

def G_push : Specs := [(23, rightSpec), (25, partSpec), (24, collectSpec)]
@[simp] theorem G_push_23 : G_push.find 23 = some rightSpec := rfl
@[simp] theorem G_push_25 : G_push.find 25 = some partSpec := rfl
@[simp] theorem G_push_24 : G_push.find 24 = some collectSpec := rfl
theorem G_push_ok : SpecsOK Tryd.prog glW G_push := .cons right_sound (.cons (part_sound glW) (.cons (collect_sound glW) (.nil _ _)))
set_option maxRecDepth 10000 in
theorem push_sound : Sound Tryd.prog glW 10 pushSpec := by
  refine sound_fn (N := Tryd.f10.ntmps) (rs := Tryd.f10.results.toList) mixed tok G_push_ok Tryd.func10 rfl rfl rfl rfl rfl ?_ ?_ ?_
  · rintro args ⟨cols,p,w,rfl,hp,hw⟩; simp [rowsOf_C,rowsV, Tryd.f10]
  · rintro args ⟨cols,p,w,rfl,hp,hw⟩; simp [rowsOf_C,rowsV, pushSpec, Tryd.f10]
  · rintro args ⟨cols,p,w,rfl,hp,hw⟩ bs hgl hh hro
    have hE : Env.OK ⟨Tryd.prog, T, G_push, bs⟩ := ⟨tok, by rw [hgl]; exact G_push_ok⟩
    simp only [pushSpec, rowsOf_C,rowsV]
    unfold pushF
    by_cases h : bothF cols p w = 0
    · obtain ⟨l1, l2⟩ := bothF_len h
      have w1 : IntKind.i64.wrap ((p.length : Int) + w.length) = p.length + w.length := wrap64 _ (by omega) (by omega)
      have w2 : IntKind.i64.wrap ((p.length : Int) + w.length - 100) = p.length + w.length - 100 := wrap64 _ (by omega) (by omega)
      have em : (if 100 < (p.length : Int) + w.length then (p.length : Int) + w.length - 100 else 0) = ((p.length + w.length - 100 : Nat) : Int) := by split <;> omega
      have ej := partF_join p w
      have eC : (∃ (ls : List (List Rw)) (a b : Nat), C.fn 35 [.ptr [.sl 2 [.sl p.length (rowsC p), .sl w.length (rowsC w)]], .ptr [.int .i64 ((p.length + w.length - 100 : Nat) : Int)], .ptr [.int .i64 ((p.length + w.length : Nat) : Int)]] = partFn ls a b ∧ PartOK ls a b) :=
        ⟨[p, w], p.length + w.length - 100, p.length + w.length, rfl, by omega, by omega, by simp; omega, by simp⟩
      simp [and_assoc, pushSpec, collectSpec, partSpec, rightSpec, Tryd.f10, h, hp, hw, w1, w2, em, rowssOf]
      rw [Int.natCast_add] at eC ej
      exact ⟨⟨p, rfl, rfl, w, rfl, rfl, hp, hw⟩, eC, by rw [ej], ej⟩
    · simp [and_assoc, pushSpec, collectSpec, partSpec, rightSpec, Tryd.f10, h, hp, hw]
      exact ⟨p, rfl, rfl, w, rfl, rfl, hp, hw⟩
def G_view : Specs := [(23, rightSpec), (25, partSpec), (24, collectSpec)]
@[simp] theorem G_view_23 : G_view.find 23 = some rightSpec := rfl
@[simp] theorem G_view_25 : G_view.find 25 = some partSpec := rfl
@[simp] theorem G_view_24 : G_view.find 24 = some collectSpec := rfl
theorem G_view_ok : SpecsOK Tryd.prog glW G_view := .cons right_sound (.cons (part_sound glW) (.cons (collect_sound glW) (.nil _ _)))
set_option maxRecDepth 10000 in
theorem view_sound : Sound Tryd.prog glW 18 viewSpec := by
  refine sound_fn (N := Tryd.f18.ntmps) (rs := Tryd.f18.results.toList) mixed tok G_view_ok Tryd.func18 rfl rfl rfl rfl rfl ?_ ?_ ?_
  · rintro args ⟨cols,p,w,n,rfl,hp,hw,hn1,hn2⟩; simp [rowsOf_C,rowsV, Tryd.f18]
  · rintro args ⟨cols,p,w,n,rfl,hp,hw,hn1,hn2⟩; simp [rowsOf_C,rowsV, viewSpec, Tryd.f18]
  · rintro args ⟨cols,p,w,n,rfl,hp,hw,hn1,hn2⟩ bs hgl hh hro
    have hE : Env.OK ⟨Tryd.prog, T, G_view, bs⟩ := ⟨tok, by rw [hgl]; exact G_view_ok⟩
    simp only [viewSpec, rowsOf_C,rowsV]
    unfold viewF
    by_cases h : bothF cols p w = 0
    · obtain ⟨l1, l2⟩ := bothF_len h
      by_cases hn : n < 0
      · simp [and_assoc, viewSpec, collectSpec, partSpec, rightSpec, Tryd.f18, h, hp, hw, hn]
        exact ⟨p, rfl, rfl, w, rfl, rfl, hp, hw⟩
      · obtain ⟨m, hm, hm2, hml⟩ : ∃ m : Nat, (if (p.length : Int) < n then (p.length : Int) else n) = (m : Int) ∧ p.length - n.toNat = p.length - m ∧ m ≤ p.length := by
          by_cases q : (p.length : Int) < n
          · exact ⟨p.length, by rw [if_pos q], by omega, by omega⟩
          · exact ⟨n.toNat, by rw [if_neg q]; omega, rfl, by omega⟩
        have w1 : IntKind.i64.wrap ((p.length : Int) - m) = ((p.length - m : Nat) : Int) := by rw [wrap64 _ (by omega) (by omega)]; omega
        have w2 : IntKind.i64.wrap (((p.length - m : Nat) : Int) + w.length) = ((p.length - m + w.length : Nat) : Int) := by rw [wrap64 _ (by omega) (by omega)]; omega
        have ej := partF_view p w m hml
        have eC : (∃ (ls : List (List Rw)) (a b : Nat), C.fn 35 [.ptr [.sl 2 [.sl p.length (rowsC p), .sl w.length (rowsC w)]], .ptr [.int .i64 ((p.length - m : Nat) : Int)], .ptr [.int .i64 ((p.length - m + w.length : Nat) : Int)]] = partFn ls a b ∧ PartOK ls a b) :=
          ⟨[p, w], p.length - m, p.length - m + w.length, rfl, by omega, by omega, by simp; omega, by simp⟩
        simp [and_assoc, viewSpec, collectSpec, partSpec, rightSpec, Tryd.f18, h, hp, hw, hn, w1, w2, hm, hm2, rowssOf]
        rw [Int.natCast_add] at eC ej
        exact ⟨⟨p, rfl, rfl, w, rfl, rfl, hp, hw⟩, eC, by rw [ej]; simp, ej⟩
    · simp [and_assoc, viewSpec, collectSpec, partSpec, rightSpec, Tryd.f18, h, hp, hw]
      exact ⟨p, rfl, rfl, w, rfl, rfl, hp, hw⟩
end Fen

namespace Fen
open Go Go.Proofs
@[simp] theorem cel_d24 (a b : Cel) : List.drop 24 (celC a ++ celC b) = [] := rfl

def rowsSpec : Spec := { pre := fun args => ∃ (cols : Int) (l : List Int), args = [.c (.int .i64 cols), bytesV l] ∧ 2 ≤ cols ∧ cols ≤ 80 ∧ l.length ≤ 1000 ∧ Bytes l, res := fun args => match args with
  | [.c (.int _ cols), .c (.sl _ l)] => .one (.own 25 true 2 (lettersF cols (l.map toI)).length (rowsC (lettersF cols (l.map toI))))
  | _ => .many [] }
def rowsLS (cols : Int) (l : List Int) (i : Nat) : St :=
  ⟨35, [(0, .val (.int .i64 cols)), (1, .val (.sl l.length (ints .u8 l))), (5, if i = 0 then .nil else .ref 0 0), (6, .val (.int .i64 i))],
    if i = 0 then [] else [.sl 25 0 true 2 i (rowsC (lettersF cols (l.take i)))]⟩
def G_rows : Specs := [(33, draftSpec)]
@[simp] theorem G_rows_33 : G_rows.find 33 = some draftSpec := rfl
theorem G_rows_ok (gl : Gl) : SpecsOK Tryd.prog gl G_rows := .cons (draft_sound gl) (.nil _ _)
set_option maxRecDepth 10000 in
theorem rows_sound (gl : Gl) : Sound Tryd.prog gl 20 rowsSpec := by
  refine sound_fn (N := Tryd.f20.ntmps) (rs := Tryd.f20.results.toList) mixed tok (G_rows_ok gl) Tryd.func20 rfl rfl rfl rfl rfl ?_ ?_ ?_
  · rintro args ⟨cols,l,rfl,hc0,hc1,hl,hB⟩; simp [bytesV,ints_toI, Tryd.f20]
  · rintro args ⟨cols,l,rfl,hc0,hc1,hl,hB⟩; simp [bytesV,ints_toI, rowsSpec, Tryd.f20]
  · rintro args ⟨cols,l,rfl,hc0,hc1,hl,hB⟩ bs hgl hh hro
    have hE : Env.OK ⟨Tryd.prog, T, G_rows, bs⟩ := ⟨tok, by rw [hgl]; exact G_rows_ok gl⟩
    simp only [rowsSpec, bytesV,ints_toI]
    simp [rowsSpec, draftSpec, Tryd.f20]
    refine AWP.rounds (fun i => i ≤ l.length) (rowsLS cols l) (fun i => l.length - i) 0 (by simp) ?_ ?_
    · refine Weak.keep ?_
      simp [rowsLS]
    · intro i hi
      refine wpc_ok hE mixed _ _ _ ?_
      rcases Nat.lt_or_ge i l.length with h | h
      · have w1 : IntKind.i64.wrap ((i : Int) + 1) = i + 1 := wrap64 _ (by omega) (by omega)
        have w2 : IntKind.i64.wrap (cols - 2) = cols - 2 := wrap64 _ (by omega) (by omega)
        have w3 : IntKind.u8.wrap (cols - 2) = cols - 2 := wrap8 _ (by omega) (by omega)
        have hd : l.drop i = l[i] :: l.drop (i + 1) := List.drop_eq_getElem_cons h
        have ht : lettersF cols (l.take (i + 1)) = lettersF cols (l.take i) ++ [draftF (cols - 2) [l[i]] (decide (l[i] % 3 = 0))] := by
          rw [List.take_add_one, List.getElem?_eq_getElem h]; simp only [lettersF, Option.toList_some, List.map_append, List.map_cons, List.map_nil]
        have hb := hB _ (List.getElem_mem h)
        generalize l[i] = b at *
        obtain ⟨hb0, hb1⟩ := hb
        have e3 : b.tmod 3 = b % 3 := Int.tmod_eq_emod_of_nonneg hb0
        have hc2 : 0 ≤ cols - 2 := by omega
        have hc3 : cols - 2 < 256 := by omega
        have e5 : (b % 3 == 0) = decide (b % 3 = 0) := rfl
        generalize decide (b % 3 = 0) = w at *
        rcases Nat.eq_zero_or_pos i with h0 | h0
        · subst h0
          have hh0 : (ints .u8 l).head? = some (.int .u8 b) := by
            have q : l = b :: l.drop 1 := by simpa using hd
            rw [q]; rfl
          have ht0 : rowsC (lettersF cols (List.take 1 l)) = rowC (draftF (cols - 2) [b] w) := by
            have q := ht
            simp only [Nat.zero_add, List.take_zero] at q
            rw [q]; simp [lettersF, rowsC]
          simp [rowsLS, draftSpec, and_assoc, h, hh0, w1, w2, w3, hb0, hb1, e3, e5, hc2, hc3]
          refine ⟨rfl, ⟨cols - 2, [b], by cases w <;> simp, hc2, hc3, by simp [hb0, hb1]⟩, Next.mk 1 h (by omega) (Weak.ren [some 1] (baseOK.nil hh) (by simp) ?_ ?_)⟩
          · simp [rowsLS, ht0]
          · simp [rowsLS]
        · have h0' : ¬ i = 0 := by omega
          have ht1 : rowsC (lettersF cols (List.take (i + 1) l)) = rowsC (lettersF cols (List.take i l)) ++ rowC (draftF (cols - 2) [b] w) := by
            rw [ht, rowsC_app]; simp [rowsC]
          simp [rowsLS, draftSpec, and_assoc, h, hd, w1, w2, w3, hb0, hb1, e3, e5, hc2, hc3, h0']
          refine ⟨rfl, ⟨cols - 2, [b], by cases w <;> simp, hc2, hc3, by simp [hb0, hb1]⟩, by omega, by omega, Next.mk (i + 1) h (by omega) (Weak.ren [some 0] (baseOK.nil hh) (by simp) ?_ ?_)⟩
          · simp [rowsLS, ht1]
          · simp [rowsLS]
      · have : i = l.length := by omega
        subst this
        rcases Nat.eq_zero_or_pos l.length with h0 | h0
        · have := List.eq_nil_of_length_eq_zero h0
          subst this
          simp [rowsLS, lettersF]
        · have h0' : ¬ l = [] := fun k => by simp [k] at h0
          simp [rowsLS, h0', lettersF]

def lofF (s : List UInt8) : List Rw := s.map fun b => ⟨[⟨b.toNat, 0, 0, 0, sty0⟩, ⟨32, 0, 0, 0, sty0⟩], false⟩
@[simp] theorem lofF_len (s : List UInt8) : (lofF s).length = s.length := by simp [lofF]
def oflSpec : Spec := { pre := fun args => ∃ s : List UInt8, args = [.c (.str s)] ∧ s.length ≤ 1000, res := fun args => .one (.own 25 true 2 (args.headD default).str.length (rowsC (lofF (args.headD default).str))) }
def oflS (s : List UInt8) (i : Nat) : St :=
  ⟨23, [(0, .val (.str s)), (3, if i = 0 then .nil else .ref 0 0), (4, .val (.int .i64 i))],
    if i = 0 then [] else [.sl 25 0 true 2 i (rowsC (lofF (s.take i)))]⟩
def G_ofl : Specs := []
theorem G_ofl_ok (gl : Gl) : SpecsOK Tryd.prog gl G_ofl := .nil _ _
set_option maxRecDepth 10000 in
theorem ofl_sound (gl : Gl) : Sound Tryd.prog gl 21 oflSpec := by
  refine sound_fn (N := Tryd.f21.ntmps) (rs := Tryd.f21.results.toList) mixed tok (G_ofl_ok gl) Tryd.func21 rfl rfl rfl rfl rfl ?_ ?_ ?_
  · rintro args ⟨s,rfl,hl⟩; simp [Tryd.f21]
  · rintro args ⟨s,rfl,hl⟩; simp [oflSpec, Tryd.f21]
  · rintro args ⟨s,rfl,hl⟩ bs hgl hh hro
    have hE : Env.OK ⟨Tryd.prog, T, G_ofl, bs⟩ := ⟨tok, by rw [hgl]; exact G_ofl_ok gl⟩
    simp [oflSpec, Tryd.f21]
    refine AWP.rounds (fun i => i ≤ s.length) (oflS s) (fun i => s.length - i) 0 (by simp) ?_ ?_
    · refine Weak.keep ?_
      simp [oflS]
    · intro i hi
      refine wpc_ok hE mixed _ _ _ ?_
      rcases Nat.lt_or_ge i s.length with h | h
      · have w1 : IntKind.i64.wrap ((i : Int) + 1) = i + 1 := wrap64 _ (by omega) (by omega)
        have ht : lofF (s.take (i + 1)) = lofF (s.take i) ++ [⟨[⟨s[i].toNat, 0, 0, 0, sty0⟩, ⟨32, 0, 0, 0, sty0⟩], false⟩] := by
          rw [List.take_add_one, List.getElem?_eq_getElem h]; simp only [lofF, Option.toList_some, List.map_append, List.map_cons, List.map_nil]
        have hg : s[i]? = some s[i] := List.getElem?_eq_getElem h
        have w2 : IntKind.i64.wrap (s[i].toNat : Int) = (s[i].toNat : Int) := wrap64 _ (by omega) (by have := s[i].toNat_lt; omega)
        rcases Nat.eq_zero_or_pos i with h0 | h0
        · subst h0
          have ht0 : rowsC (lofF (List.take 1 s)) = rowC ⟨[⟨s[0].toNat, 0, 0, 0, sty0⟩, ⟨32, 0, 0, 0, sty0⟩], false⟩ := by
            have q := ht
            simp only [Nat.zero_add, List.take_zero] at q
            rw [q]; simp [lofF, rowsC]
          simp [oflS, h, hg, w1, w2]
          refine Next.mk 1 h (by omega) (Weak.ren [some 0] (baseOK.nil hh) (by simp) ?_ ?_)
          · simp [oflS, ht0, rowC, celsC]
          · simp [oflS]
        · have h0' : ¬ i = 0 := by omega
          have ht1 : rowsC (lofF (List.take (i + 1) s)) = rowsC (lofF (List.take i s)) ++ rowC ⟨[⟨s[i].toNat, 0, 0, 0, sty0⟩, ⟨32, 0, 0, 0, sty0⟩], false⟩ := by
            rw [ht, rowsC_app]; simp [rowsC]
          simp [oflS, and_assoc, h, hg, w1, w2, h0']
          refine ⟨by omega, by omega, Next.mk (i + 1) h (by omega) (Weak.ren [some 0] (baseOK.nil hh) (by simp) ?_ ?_)⟩
          · simp [oflS, ht1, rowC, celsC]
          · simp [oflS]
      · have : i = s.length := by omega
        subst this
        rcases Nat.eq_zero_or_pos s.length with h0 | h0
        · have := List.eq_nil_of_length_eq_zero h0
          subst this
          simp [oflS, lofF]
        · have h0' : ¬ s = [] := fun k => by simp [k] at h0
          simp [oflS, h0']

structure Cas where
  (cols : Int) (old new : List Int) (many : Int) (odd : Rw) (at_ : Int) (spoil fit : Bool)
def casC (c : Cas) : List C := [.int .i64 c.cols, .sl c.old.length (ints .u8 c.old), .sl c.new.length (ints .u8 c.new), .int .u8 c.many, .sl c.odd.cells.length (celsC c.odd.cells), .bool c.odd.wrapped, .int .u8 c.at_, .bool c.spoil, .bool c.fit]
def casOf : List C → Cas
  | [.int _ a, .sl _ b, .sl _ d, .int _ e, .sl _ f, .bool g, .int _ h, .bool i, .bool j] => ⟨a, b.map toI, d.map toI, e, ⟨celsOf f, g⟩, h, i, j⟩
  | _ => ⟨0, [], [], 0, ⟨[], false⟩, 0, false, false⟩
@[simp] theorem casOf_C (c : Cas) : casOf (casC c) = c := by simp [casOf, casC]

section
variable (c : Cas)
@[simp] theorem cas_0 : (casC c).head? = some (.int .i64 c.cols) := rfl
@[simp] theorem cas_1 : (casC c)[1]? = some (.sl c.old.length (ints .u8 c.old)) := rfl
@[simp] theorem cas_2 : (casC c)[2]? = some (.sl c.new.length (ints .u8 c.new)) := rfl
@[simp] theorem cas_3 : (casC c)[3]? = some (.int .u8 c.many) := rfl
@[simp] theorem cas_4 : (casC c)[4]? = some (.sl c.odd.cells.length (celsC c.odd.cells)) := rfl
@[simp] theorem cas_5 : (casC c)[5]? = some (.bool c.odd.wrapped) := rfl
@[simp] theorem cas_6 : (casC c)[6]? = some (.int .u8 c.at_) := rfl
@[simp] theorem cas_7 : (casC c)[7]? = some (.bool c.spoil) := rfl
@[simp] theorem cas_8 : (casC c)[8]? = some (.bool c.fit) := rfl
@[simp] theorem cas_odd : List.take 2 (List.drop 4 (casC c)) = rowC c.odd := rfl
@[simp] theorem cas_len : (casC c).length = 9 := rfl
@[simp] theorem cas_all : List.take 9 (casC c) = casC c := rfl
end
def oddF (r : Rw) : Rw := ⟨r.cells.take 90, r.wrapped⟩
def oddSpec : Spec := { pre := fun args => ∃ c : Cas, args = [.agg (casC c)], res := fun args => match args with
  | [.agg cs] => .one (.val (rowV (oddF (casOf cs).odd)))
  | _ => .many [] }
def G_odd : Specs := []
theorem G_odd_ok (gl : Gl) : SpecsOK Tryd.prog gl G_odd := .nil _ _
set_option maxRecDepth 10000 in
theorem odd_sound (gl : Gl) : Sound Tryd.prog gl 22 oddSpec := by
  refine sound_fn (N := Tryd.f22.ntmps) (rs := Tryd.f22.results.toList) mixed tok (G_odd_ok gl) Tryd.func22 rfl rfl rfl rfl rfl ?_ ?_ ?_
  · rintro args ⟨c,rfl⟩; simp [casOf_C, Tryd.f22]
  · rintro args ⟨c,rfl⟩; simp [casOf_C, oddSpec, Tryd.f22]
  · rintro args ⟨c,rfl⟩ bs hgl hh hro
    have hE : Env.OK ⟨Tryd.prog, T, G_odd, bs⟩ := ⟨tok, by rw [hgl]; exact G_odd_ok gl⟩
    simp only [oddSpec, casOf_C]
    have em : (if 90 < (c.odd.cells.length : Int) then (90 : Int) else c.odd.cells.length) = ((min c.odd.cells.length 90 : Nat) : Int) := by split <;> omega
    simp [oddSpec, Tryd.f22, em, rowC, celsC_take, oddF]
    repeat' (first | (refine And.intro ?_ ?_) | (intro _))
    all_goals first | omega | (rw [← List.take_eq_take_min]) | skip

def isSpec : Spec := { pre := fun args => ∃ (l : List Rw) (s : List UInt8), args = [rowsV l, .c (.str s)] ∧ RowsFin l ∧ s.length ≤ 1000, res := fun args => match args with
  | [.c (.sl _ l), .c (.str s)] => .one (.val (.c (.bool (decide (rowsOf l = lofF s)))))
  | _ => .many [] }
def G_is : Specs := [(21, oflSpec), (12, samesSpec)]
@[simp] theorem G_is_21 : G_is.find 21 = some oflSpec := rfl
@[simp] theorem G_is_12 : G_is.find 12 = some samesSpec := rfl
theorem G_is_ok (gl : Gl) : SpecsOK Tryd.prog gl G_is := .cons (ofl_sound gl) (.cons (sames_sound gl) (.nil _ _))
set_option maxRecDepth 10000 in
theorem is_sound (gl : Gl) : Sound Tryd.prog gl 31 isSpec := by
  refine sound_fn (N := Tryd.f31.ntmps) (rs := Tryd.f31.results.toList) mixed tok (G_is_ok gl) Tryd.func31 rfl rfl rfl rfl rfl ?_ ?_ ?_
  · rintro args ⟨l,s,rfl,hl,hs⟩; simp [rowsOf_C,rowsV, Tryd.f31]
  · rintro args ⟨l,s,rfl,hl,hs⟩; simp [rowsOf_C,rowsV, isSpec, Tryd.f31]
  · rintro args ⟨l,s,rfl,hl,hs⟩ bs hgl hh hro
    have hE : Env.OK ⟨Tryd.prog, T, G_is, bs⟩ := ⟨tok, by rw [hgl]; exact G_is_ok gl⟩
    simp only [isSpec, rowsOf_C,rowsV]
    simp [and_assoc, isSpec, oflSpec, samesSpec, Tryd.f31, hs, hl]
    done
def seenF (p w : List UInt8) (n : Int) (want : List UInt8) : Bool := decide ((viewF 2 (lofF p) (lofF w) n).2 = 0) && decide ((viewF 2 (lofF p) (lofF w) n).1 = lofF want)
end Fen

namespace Fen
open Go Go.Proofs

def Cas.ok (c : Cas) : Prop := I64 c.cols ∧ Bytes c.old ∧ Bytes c.new ∧ 0 ≤ c.many ∧ c.many < 256 ∧ c.odd.ok ∧ 0 ≤ c.at_ ∧ c.at_ < 256
def Cas.cf (c : Cas) : Int := if c.fit = true then 2 + c.cols % 18446744073709551616 % 79 else c.cols
def clampF (n : Int) : Int := if n < 2 then 2 else if 80 < n then 80 else n
def putF (l : List Rw) (k : Nat) (r : Rw) : List Rw := l.set (k % l.length) r
def Cas.olds (c : Cas) : List Rw := (List.replicate (c.many.toNat % 4 + 1) (lettersF (clampF c.cf) (c.old.take 30))).flatten
def Cas.oldF (c : Cas) : List Rw := if c.spoil = true then putF c.olds c.at_.toNat (oddF c.odd) else c.olds
def Cas.news (c : Cas) : List Rw := lettersF (clampF c.cf) (c.new.take 40)
def Cas.newF (c : Cas) : List Rw := if c.spoil = false ∧ c.fit = false then putF c.news c.at_.toNat (oddF c.odd) else c.news
theorem putF_zero {l : List Rw} (k : Nat) (r : Rw) (h : l.length = 0) : putF l k r = l := by rw [List.eq_nil_of_length_eq_zero h]; rfl
@[simp] theorem putF_len (l : List Rw) (k : Nat) (r : Rw) : (putF l k r).length = l.length := by simp [putF]

def caseSpec : Spec := { pre := fun args => ∃ c : Cas, args = [.agg (casC c)] ∧ c.ok, res := fun args => match args with
  | [.agg cs] => .many [.val (.c (.int .i64 (casOf cs).cf)), .val (rowsV (casOf cs).oldF), .val (rowsV (casOf cs).newF)]
  | _ => .many [] }

theorem clamp_ok (n : Int) : 2 ≤ clampF n ∧ clampF n ≤ 80 := by unfold clampF; (repeat' split) <;> omega
theorem take_min' {α : Type} (l : List α) (n : Nat) : List.take (min l.length n) l = l.take n := by
  rcases Nat.le_total l.length n with h | h
  · rw [Nat.min_eq_left h, List.take_length, List.take_of_length_le h]
  · rw [Nat.min_eq_right h]
theorem rowsC_store {l : List Rw} {k : Nat} (h : k < l.length) (r : Rw) : List.take (k * 2) (rowsC l) ++ (rowC r ++ List.drop (k * 2 + 2) (rowsC l)) = rowsC (l.set k r) := rowsC_set h r

def reps (one : List Rw) (i : Nat) : List Rw := (List.replicate i one).flatten
theorem reps_succ (one : List Rw) (i : Nat) : reps one (i + 1) = reps one i ++ one := by simp [reps, List.replicate_succ']
theorem reps_one (one : List Rw) : reps one 1 = one := by simp [reps]
theorem reps_le (one : List Rw) (i : Nat) (h : i ≤ 4) (h2 : one.length ≤ 30) : (reps one i).length ≤ 120 := by
  have e : (reps one i).length = i * one.length := by simp [reps]
  rw [e]; exact Nat.le_trans (Nat.mul_le_mul h h2) (by decide)
theorem at_mod {a : Int} {n : Nat} (h : 0 ≤ a) (hn : 0 < n) : (a.tmod n).toNat = a.toNat % n ∧ 0 ≤ a.tmod n ∧ a.tmod n < n := by
  rw [Int.tmod_eq_emod_of_nonneg h]
  have := Int.emod_nonneg a (show (n : Int) ≠ 0 by omega)
  have := Int.emod_lt_of_pos a (show (0 : Int) < n by omega)
  refine ⟨?_, by omega, by omega⟩
  obtain ⟨k, rfl⟩ : ∃ k : Nat, a = k := ⟨a.toNat, by omega⟩
  rw [← Int.natCast_emod]; rfl
def caseS (c : Cas) (cf w : Int) (one : List Rw) (i : Nat) : St :=
  ⟨96, [(1, .ptr 0 0 0), (5, .val (.int .i64 cf)), (6, .val (.int .i64 w)), (7, if i = 0 then .nil else .ref 2 0), (8, .ref 1 0), (9, .val (.int .i64 i))],
    [.box 27 ((casC c).map .val), .sl 25 0 true 2 one.length (rowsC one)] ++ if i = 0 then [] else [.sl 25 0 true 2 (reps one i).length (rowsC (reps one i))]⟩
def G_case : Specs := [(20, rowsSpec), (22, oddSpec)]
@[simp] theorem G_case_20 : G_case.find 20 = some rowsSpec := rfl
@[simp] theorem G_case_22 : G_case.find 22 = some oddSpec := rfl
theorem G_case_ok (gl : Gl) : SpecsOK Tryd.prog gl G_case := .cons (rows_sound gl) (.cons (odd_sound gl) (.nil _ _))
set_option maxHeartbeats 2000000 in
set_option maxRecDepth 10000 in
theorem case_sound (gl : Gl) : Sound Tryd.prog gl 9 caseSpec := by
  refine sound_fn (N := Tryd.f9.ntmps) (rs := Tryd.f9.results.toList) mixed tok (G_case_ok gl) Tryd.func9 rfl rfl rfl rfl rfl ?_ ?_ ?_
  · rintro args ⟨c,rfl,hc1,hc2,hc3,hc4,hc5,hc6,hc7,hc8⟩; simp [casOf_C, Tryd.f9]
  · rintro args ⟨c,rfl,hc1,hc2,hc3,hc4,hc5,hc6,hc7,hc8⟩; simp [casOf_C, caseSpec, Tryd.f9]
  · rintro args ⟨c,rfl,hc1,hc2,hc3,hc4,hc5,hc6,hc7,hc8⟩ bs hgl hh hro
    have hE : Env.OK ⟨Tryd.prog, T, G_case, bs⟩ := ⟨tok, by rw [hgl]; exact G_case_ok gl⟩
    simp only [caseSpec, casOf_C]
    have hcf : c.cf = if c.fit = true then 2 + c.cols % 18446744073709551616 % 79 else c.cols := rfl
    obtain ⟨cols, old, new, many, odd, at_, spoil, fit⟩ := c
    simp only at hc1 hc2 hc3 hc4 hc5 hc6 hc7 hc8 hcf
    have wu : IntKind.u64.wrap cols = cols % 18446744073709551616 := by simp [IntKind.wrap, IntKind.signed, IntKind.bits]
    have et : (cols % 18446744073709551616).tmod 79 = cols % 18446744073709551616 % 79 := Int.tmod_eq_emod_of_nonneg (by omega)
    have w1 : IntKind.i64.wrap (cols % 18446744073709551616 % 79) = cols % 18446744073709551616 % 79 := wrap64 _ (by omega) (by omega)
    have w2 : IntKind.i64.wrap (2 + cols % 18446744073709551616 % 79) = 2 + cols % 18446744073709551616 % 79 := wrap64 _ (by omega) (by omega)
    obtain ⟨K, hK⟩ : ∃ K, K = (if fit = true then 2 + cols % 18446744073709551616 % 79 else cols) := ⟨_, rfl⟩
    have cl : ∀ n : Int, (if 80 < (if n < 2 then 2 else n) then 80 else (if n < 2 then 2 else n)) = clampF n := fun n => by unfold clampF; (repeat' split) <;> omega
    have c2 : ∀ n, 2 ≤ clampF n := fun n => (clamp_ok n).1
    have c80 : ∀ n, clampF n ≤ 80 := fun n => (clamp_ok n).2
    have em30 : (if 30 < (old.length : Int) then (30 : Int) else old.length) = ((min old.length 30 : Nat) : Int) := by split <;> omega
    have em40 : (if 40 < (new.length : Int) then (40 : Int) else new.length) = ((min new.length 40 : Nat) : Int) := by split <;> omega
    have t30 := take_min' old 30
    have t40 := take_min' new 40
    have b30 : Bytes (old.take 30) := fun x hx => hc2 x (List.mem_of_mem_take hx)
    have b40 : Bytes (new.take 40) := fun x hx => hc3 x (List.mem_of_mem_take hx)
    have hold : ∀ one, one = lettersF (clampF K) (old.take 30) → one.length ≤ 30 := fun one h => by rw [h, letters_len, List.length_take]; omega
    have hnew : ∀ one, one = lettersF (clampF K) (new.take 40) → one.length ≤ 40 := fun one h => by rw [h, letters_len, List.length_take]; omega
    have e4 : many.tmod 4 = many % 4 := Int.tmod_eq_emod_of_nonneg hc4
    have w4 : IntKind.i64.wrap (many % 4) = many % 4 := wrap64 _ (by omega) (by omega)
    rw [← hK] at hcf
    obtain ⟨f0, hf0⟩ : ∃ f0, f0 = fit := ⟨_, rfl⟩
    cases fit <;> simp only [if_true, Bool.false_eq_true, if_false] at hK <;> simp [and_assoc, caseSpec, oddSpec, rowsSpec, Tryd.f9, wu, et, w1, w2, cl, em30, t30, c2, c80]
    all_goals
      refine ⟨by omega, by omega, by omega, b30, ?_⟩
      obtain ⟨one, hone⟩ : ∃ one, one = lettersF (clampF K) (old.take 30) := ⟨_, rfl⟩
      have hlen := hold _ hone
      refine AWP.rounds (fun i => i ≤ many.toNat % 4 + 1) (caseS ⟨cols, old, new, many, odd, at_, spoil, f0⟩ K (clampF K) one) (fun i => 5 - i) 0 (by simp) ?_ ?_
      · refine Weak.heap (by simp [caseS, hone, hK, hf0]) ?_
        simp [caseS, hK]
      · intro i hi
        refine wpc_ok hE mixed _ _ _ ?_
        by_cases h : (i : Int) ≤ many % 4
        · have w1 : IntKind.i64.wrap ((i : Int) + 1) = i + 1 := wrap64 _ (by omega) (by omega)
          rcases Nat.eq_zero_or_pos i with h0 | h0
          · subst h0
            have h00 : 0 ≤ many % 4 := by omega
            simp [caseS, h00, w1, e4, w4]
            exact ⟨⟨by omega, by omega⟩, Next.mk 1 (by omega) (by omega) (Weak.ren [some 0, some 1, some 2] (baseOK.nil hh) (by simp) (by simp [caseS, reps_one]) (by simp [caseS]))⟩
          · have h0' : ¬ i = 0 := by omega
            have hr := reps_le one i (by omega) hlen
            simp [caseS, h, w1, e4, w4, h0']
            refine ⟨⟨by omega, by omega⟩, Next.mk (i + 1) (by omega) (by omega) (Weak.ren [some 0, some 1, some 2] (baseOK.nil hh) (by simp) (by simp [caseS, reps_succ, rowsC_app]) (by simp [caseS]))⟩
        · have hi2 : i = many.toNat % 4 + 1 := by omega
          have h0' : ¬ i = 0 := by omega
          obtain ⟨O, hO⟩ : ∃ O, O = reps one i := ⟨_, rfl⟩
          have hOl : O.length ≤ 120 := by rw [hO]; exact reps_le one i (by omega) hlen
          obtain ⟨N, hN⟩ : ∃ N, N = lettersF (clampF K) (new.take 40) := ⟨_, rfl⟩
          have hNl := hnew _ hN
          have wa : IntKind.i64.wrap at_ = at_ := wrap64 _ (by omega) (by omega)
          have eo : ∀ f, (⟨cols, old, new, many, odd, at_, spoil, f⟩ : Cas).cf = K → (⟨cols, old, new, many, odd, at_, spoil, f⟩ : Cas).olds = O := fun f hf => by
            simp only [Cas.olds, hf]; rw [hO, hone, reps, hi2]
          have en : ∀ f, (⟨cols, old, new, many, odd, at_, spoil, f⟩ : Cas).cf = K → (⟨cols, old, new, many, odd, at_, spoil, f⟩ : Cas).news = N := fun f hf => by
            simp only [Cas.news, hf]; rw [hN]
          have eo := eo _ hcf
          have en := en _ hcf
          obtain ⟨R, hR⟩ : ∃ R, R = oddF odd := ⟨_, rfl⟩
          have pO := putF_zero (l := O) at_.toNat (oddF odd)
          have pN := putF_zero (l := N) at_.toNat (oddF odd)
          have mo := fun h => at_mod (a := at_) (n := O.length) hc7 h
          have mn := fun h => at_mod (a := at_) (n := N.length) hc7 h
          rcases Nat.eq_zero_or_pos O.length with o0 | o0 <;> rcases Nat.eq_zero_or_pos N.length with n0 | n0 <;> cases spoil <;> simp only [Cas.oldF, Cas.newF, eo, en]
          all_goals
            simp [caseS, rowsSpec, oddSpec, and_assoc, h, e4, w4, h0', ← hO, em40, t40, c2, c80, b40, ← hN, o0, n0, wa, hf0, hcf, pO, pN, mo, mn]
            repeat' (first | (refine And.intro ?_ ?_) | (intro _))
            all_goals first | omega | rfl | exact ⟨_, rfl⟩ | exact rowsC_store (Nat.mod_lt _ (by assumption)) _ | (rename_i q; rw [q] at n0; simp at n0; done) | (rename_i q; rw [q] at o0; simp at o0; done) | skip
end Fen
