/- A part of the proof; no statement is proved here: RRowS, RRowT, RRowU, RRowV, RRowW, RRowX, RRowY. -/
import Derived.Test.YtcjkcoekjfbcgaaDoorKowC
import Derived.Test.YtcjkcoekjfbcgaaDoorKorE

set_option linter.unusedVariables false
set_option linter.unusedSimpArgs false

namespace Fen
open Go Go.Proofs

/-! ### Insert, Delete -/
def insF (l : List Cel) (col n : Nat) : List Cel := (partF (partF l col) ((l.length - n : Nat) : Int)).take (col + n) ++ ((partF (partF l col) ((l.length - n : Nat) : Int)).drop col).take (l.length - (col + n))
def delF (l : List Cel) (col n : Nat) : List Cel := (partF (partF l col) ((col + n : Nat) : Int)).take col ++ (partF (partF l col) ((col + n : Nat) : Int)).drop (col + n) ++ (partF (partF l col) ((col + n : Nat) : Int)).drop (l.length - n)
theorem ins_len {l : List Cel} {col n : Nat} (h : col + n ≤ l.length) : (insF l col n).length = l.length := by simp [insF]; omega
theorem del_len {l : List Cel} {col n : Nat} (h : col + n ≤ l.length) : (delF l col n).length = l.length := by simp [delF]; omega
def ins1HS : HS := { wr := true, eff := fun xs h => match xs with
  | [.ref id v, .val (.int q1 n), .fptr [.int q2 a]] =>
    ((∃ (l : List Cel) (a' n' : Nat), h[id]? = some (.sl 34 v true 12 l.length (celsC l)) ∧ a = a' ∧ n = n' ∧ q1 = .i64 ∧ q2 = .i64 ∧ a' + n' ≤ l.length ∧ l.length ≤ 1000), .view id v (a.toNat * 12) n.toNat,
      match h[id]? with | some (.sl ty v' p sz m cs) => h.set id (.sl ty v' p sz m (celsC (insF (celsOf cs) a.toNat n.toNat))) | _ => h)
  | _ => (False, .dead, h) }
def ins1Spec : Spec := { pre := fun _ => False, res := fun _ => .many [], hp := some ins1HS }
def G_ins1 : Specs := [(52, partSpec)]
@[simp] theorem G_ins1_live : Specs.live G_ins1 = false := rfl
@[simp] theorem G_ins1_nils : Specs.nils G_ins1 = false := rfl
@[simp] theorem G_ins1_froz : Specs.froz G_ins1 = false := rfl
@[simp] theorem G_ins1_52 : G_ins1.find 52 = some partSpec := rfl
theorem G_ins1_ok (gl : Gl) : SpecsOK Tryd.prog gl G_ins1 := .cons (part_sound gl) (.nil _ _)
set_option maxHeartbeats 1000000 in
set_option maxRecDepth 10000 in
theorem ins1_sound (gl : Gl) : Sound Tryd.prog gl 62 ins1Spec := by
  refine sound_heap (hs := ins1HS) (N := Tryd.f62.ntmps) (rs := Tryd.f62.results.toList) mixed tok (G_ins1_ok gl) Tryd.func62 rfl rfl rfl rfl rfl ?_ ?_
  · intro xs h hp
    simp only [ins1HS] at hp
    split at hp
    all_goals first | exact hp.elim | simp [Tryd.f62]
  · intro xs h hp bs hgl hh hro
    have hE : Env.OK ⟨Tryd.prog, T, G_ins1, bs⟩ := ⟨tok, by rw [hgl]; exact G_ins1_ok gl⟩
    simp only [ins1HS] at hp
    split at hp
    · rename_i id v q1 n0 q2 a0
      obtain ⟨l, a, n, hget, rfl, rfl, rfl, rfl, hal, hl⟩ := hp
      have hid := lt_of_get hget
      have g := fun y => get_set_self (y := y) hget
      have w1 : IntKind.i64.wrap ((l.length : Int) - n) = ((l.length - n : Nat) : Int) := by rw [wrap64 _ (by omega) (by omega)]; omega
      have w2 : IntKind.i64.wrap ((a : Int) + n) = ((a + n : Nat) : Int) := by rw [wrap64 _ (by omega) (by omega)]; omega
      obtain ⟨P, hP, hPl⟩ : ∃ P, partF (partF l a) ((l.length - n : Nat) : Int) = P ∧ P.length = l.length := ⟨_, rfl, by simp⟩
      have e : insF l a n = P.take (a + n) ++ (P.drop a).take (l.length - (a + n)) := by unfold insF; rw [hP]
      have e1 : ((a : Int) + n).toNat = a + n := by omega
      have e2 : ((l.length : Int) - ((a : Int) + n)).toNat = l.length - (a + n) := by omega
      have m1 : min (l.length - a) (l.length - (a + n)) = l.length - (a + n) := by omega
      simp [Tryd.f62, hcEff, ins1HS, and_assoc, partSpec, partHS, hget, g, celsOf_C, w1, w2, hP, hPl, e, e1, e2, m1]
      refine ⟨⟨l, rfl, rfl, hl⟩, by omega, by omega, by omega, by omega, by omega, rfl, by omega, by omega, RetTo.same ⟨by first | rfl | (congr 1; omega), ?_⟩⟩
      have f1 : List.drop ((a + n) * 12 + (l.length - (a + n)) * 12) (celsC P) = [] := List.drop_eq_nil_of_le (by simp [hPl]; omega)
      simp only [f1, celsC_drop, celsC_take, List.take_take, celsC_app, List.append_nil, Nat.min_eq_left (by omega : l.length - (a + n) ≤ l.length - a)]
    · exact hp.elim
def del1HS : HS := { wr := true, eff := fun xs h => match xs with
  | [.ref id v, .val (.int q1 n), .fptr [.int q2 a]] =>
    ((∃ (l : List Cel) (a' n' : Nat), h[id]? = some (.sl 34 v true 12 l.length (celsC l)) ∧ a = a' ∧ n = n' ∧ q1 = .i64 ∧ q2 = .i64 ∧ a' + n' ≤ l.length ∧ l.length ≤ 1000),
      .view id v (match h[id]? with | some (.sl _ _ _ _ m _) => (m - n.toNat) * 12 | _ => 0) n.toNat,
      match h[id]? with | some (.sl ty v' p sz m cs) => h.set id (.sl ty v' p sz m (celsC (delF (celsOf cs) a.toNat n.toNat))) | _ => h)
  | _ => (False, .dead, h) }
def del1Spec : Spec := { pre := fun _ => False, res := fun _ => .many [], hp := some del1HS }
def G_del1 : Specs := [(52, partSpec)]
@[simp] theorem G_del1_live : Specs.live G_del1 = false := rfl
@[simp] theorem G_del1_nils : Specs.nils G_del1 = false := rfl
@[simp] theorem G_del1_froz : Specs.froz G_del1 = false := rfl
@[simp] theorem G_del1_52 : G_del1.find 52 = some partSpec := rfl
theorem G_del1_ok (gl : Gl) : SpecsOK Tryd.prog gl G_del1 := .cons (part_sound gl) (.nil _ _)
set_option maxHeartbeats 1000000 in
set_option maxRecDepth 10000 in
theorem del1_sound (gl : Gl) : Sound Tryd.prog gl 64 del1Spec := by
  refine sound_heap (hs := del1HS) (N := Tryd.f64.ntmps) (rs := Tryd.f64.results.toList) mixed tok (G_del1_ok gl) Tryd.func64 rfl rfl rfl rfl rfl ?_ ?_
  · intro xs h hp
    simp only [del1HS] at hp
    split at hp
    all_goals first | exact hp.elim | simp [Tryd.f64]
  · intro xs h hp bs hgl hh hro
    have hE : Env.OK ⟨Tryd.prog, T, G_del1, bs⟩ := ⟨tok, by rw [hgl]; exact G_del1_ok gl⟩
    simp only [del1HS] at hp
    split at hp
    · rename_i id v q1 n0 q2 a0
      obtain ⟨l, a, n, hget, rfl, rfl, rfl, rfl, hal, hl⟩ := hp
      have hid := lt_of_get hget
      have g := fun y => get_set_self (y := y) hget
      have w1 : IntKind.i64.wrap ((l.length : Int) - n) = ((l.length - n : Nat) : Int) := by rw [wrap64 _ (by omega) (by omega)]; omega
      have w2 : IntKind.i64.wrap ((a : Int) + n) = (a : Int) + n := wrap64 _ (by omega) (by omega)
      have ec : ((a + n : Nat) : Int) = (a : Int) + n := by omega
      obtain ⟨P, hP, hPl⟩ : ∃ P, partF (partF l a) ((a : Int) + n) = P ∧ P.length = l.length := ⟨_, rfl, by simp⟩
      have e : delF l a n = P.take a ++ P.drop (a + n) ++ P.drop (l.length - n) := by unfold delF; rw [ec, hP]
      have e1 : ((a : Int) + n).toNat = a + n := by omega
      have e2 : ((l.length : Int) - ((a : Int) + n)).toNat = l.length - (a + n) := by omega
      have m1 : min (l.length - (a + n)) (l.length - a) = l.length - (a + n) := by omega
      simp [Tryd.f64, hcEff, del1HS, and_assoc, partSpec, partHS, hget, g, celsOf_C, w1, w2, hP, hPl, e, e1, e2, m1]
      refine ⟨⟨l, rfl, rfl, hl⟩, by omega, by omega, by omega, by omega, by omega, rfl, RetTo.same ⟨by first | rfl | (congr 1; omega), ?_⟩⟩
      have f3 : List.take (l.length - (a + n)) (List.drop (a + n) P) = List.drop (a + n) P := List.take_of_length_le (by simp [hPl])
      have f4 : List.drop (a * 12 + (l.length - (a + n)) * 12) (celsC P) = celsC (List.drop (l.length - n) P) := by rw [show a * 12 + (l.length - (a + n)) * 12 = (l.length - n) * 12 by omega, celsC_drop]
      simp only [celsC_drop, celsC_take, f3, f4, celsC_app]
    · exact hp.elim
end Fen

namespace Fen
open Go Go.Proofs

def shF (ins : Bool) (l : List Cel) (col n : Nat) (s : Sty) : List Cel := if ins = true then eraseF (insF l col n) col (col + n) s else eraseF (delF l col n) (l.length - n) l.length s
theorem sh_len (ins : Bool) {l : List Cel} {col n : Nat} (s : Sty) (h : col + n ≤ l.length) : (shF ins l col n s).length = l.length := by
  unfold shF
  split
  · rw [erase_len s (by omega) (by rw [ins_len h]; exact h), ins_len h]
  · rw [erase_len s (by omega) (by rw [del_len h]; exact Nat.le_refl _), del_len h]
def sh1HS : HS := { wr := true, eff := fun xs h => match xs with
  | [.ref id v, .fptr [.fn k [.ptr [.int q1 a]]], .fptr [.int q2 n], .fptr s] =>
    ((∃ (l : List Cel) (st : Sty) (a' n' : Nat), h[id]? = some (.sl 34 v true 12 l.length (celsC l)) ∧ s = styC st ∧ a = a' ∧ n = n' ∧ q1 = .i64 ∧ q2 = .i64 ∧ (k = 62 ∨ k = 64) ∧ a' + n' ≤ l.length ∧ l.length ≤ 1000), .tup [],
      match h[id]? with | some (.sl ty v' p sz m cs) => h.set id (.sl ty v' p sz m (celsC (shF (k == 62) (celsOf cs) a.toNat n.toNat (stOf s)))) | _ => h)
  | _ => (False, .dead, h) }
def sh1S (id v : Nat) (M : List Cel) (st : Sty) (o n : Nat) (h : List Blk) (i : Nat) : St :=
  ⟨22, [(0, .ref id v), (3, .fptr (styC st)), (5, .view id v (o * 12) n), (12, .val (.int .i64 n)), (13, .val (.int .i64 i))], h.set id (.sl 34 v true 12 M.length (celsC (eraseF M o (o + i) st)))⟩
theorem sh_set (E : List Cel) (o i : Nat) (c : Cel) (h : o + i < E.length) : List.take (o * 12 + i * 12) (celsC E) ++ (celC c ++ List.drop (o * 12 + i * 12 + 12) (celsC E)) = celsC (E.set (o + i) c) := by
  rw [← Nat.add_mul]; exact celsC_set h c
def sh1Spec : Spec := { pre := fun _ => False, res := fun _ => .many [], hp := some sh1HS }
def G_sh1 : Specs := [(62, ins1Spec), (64, del1Spec), (41, blankSpec)]
@[simp] theorem G_sh1_live : Specs.live G_sh1 = false := rfl
@[simp] theorem G_sh1_nils : Specs.nils G_sh1 = false := rfl
@[simp] theorem G_sh1_froz : Specs.froz G_sh1 = false := rfl
@[simp] theorem G_sh1_62 : G_sh1.find 62 = some ins1Spec := rfl
@[simp] theorem G_sh1_64 : G_sh1.find 64 = some del1Spec := rfl
@[simp] theorem G_sh1_41 : G_sh1.find 41 = some blankSpec := rfl
theorem G_sh1_ok (gl : Gl) : SpecsOK Tryd.prog gl G_sh1 := .cons (ins1_sound gl) (.cons (del1_sound gl) (.cons (rowblank_sound gl) (.nil _ _)))
set_option maxHeartbeats 2000000 in
set_option maxRecDepth 10000 in
theorem sh1_sound (gl : Gl) : Sound Tryd.prog gl 77 sh1Spec := by
  refine sound_heap (hs := sh1HS) (N := Tryd.f77.ntmps) (rs := Tryd.f77.results.toList) mixed tok (G_sh1_ok gl) Tryd.func77 rfl rfl rfl rfl rfl ?_ ?_
  · intro xs h hp
    simp only [sh1HS] at hp
    split at hp
    all_goals first | exact hp.elim | simp [Tryd.f77]
  · intro xs h hp bs hgl hh hro
    have hE : Env.OK ⟨Tryd.prog, T, G_sh1, bs⟩ := ⟨tok, by rw [hgl]; exact G_sh1_ok gl⟩
    simp only [sh1HS] at hp
    split at hp
    · rename_i id v k q1 a0 q2 n0 s
      obtain ⟨l, st, a, n, hget, rfl, rfl, rfl, rfl, rfl, hk, hal, hl⟩ := hp
      have hid := lt_of_get hget
      have g := fun y => get_set_self (y := y) hget
      have round : ∀ (M : List Cel) (o : Nat), M.length = l.length → o + n ≤ l.length → ∀ i, i < n →
          IntKind.i64.wrap ((i : Int) + 1) = i + 1 ∧ (eraseF M o (o + i) st).length = l.length ∧ (eraseF M o (o + i) st).set (o + i) (blankF st) = eraseF M o (o + (i + 1)) st := fun M o hM ho i hi =>
        ⟨wrap64 _ (by omega) (by omega), by rw [erase_len st (by omega) (by omega), hM], erase_step st (by omega)⟩
      obtain rfl | rfl := hk
      · have hM := ins_len hal
        have e : shF true l a n st = eraseF (insF l a n) a (a + n) st := rfl
        simp [Tryd.f77, hcEff, sh1HS, and_assoc, blankSpec, del1Spec, ins1Spec, ins1HS, del1HS, hget, g, celsOf_C, e]
        refine ⟨⟨l, rfl, rfl, a, rfl, n, rfl, hal, hl⟩, ?_⟩
        refine AWP.rounds (fun i => i ≤ n) (sh1S id v (insF l a n) st a n h) (fun i => n - i) 0 (by simp) ?_ ?_
        · refine Weak.heap ?_ ?_
          · rw [Nat.add_zero, erase_same, hM]
          · simp
            done
        · intro i hi
          refine wpc_ok hE mixed _ _ _ ?_
          by_cases hil : i < n
          · obtain ⟨w1, el, es⟩ := round _ a hM hal i hil
            have s1 := fun c => sh_set (eraseF (insF l a n) a (a + i) st) a i c (by omega)
            simp [sh1S, and_assoc, blankSpec, del1Spec, ins1Spec, styV, celV, g, hil, w1, s1, hM, el]
            exact ⟨by omega, Next.mk (i + 1) (by omega) (by omega) (Weak.heap (by rw [es, hM]) (by simp))⟩
          · obtain rfl : i = n := by omega
            simp [sh1S, and_assoc, blankSpec, del1Spec, ins1Spec, hM]
            exact RetTo.same ⟨rfl, rfl⟩
      · have hM := del_len hal
        have e : shF false l a n st = eraseF (delF l a n) (l.length - n) l.length st := rfl
        simp [Tryd.f77, hcEff, sh1HS, and_assoc, blankSpec, del1Spec, ins1Spec, ins1HS, del1HS, hget, g, celsOf_C, e]
        refine ⟨⟨l, rfl, rfl, a, rfl, n, rfl, hal, hl⟩, ?_⟩
        refine AWP.rounds (fun i => i ≤ n) (sh1S id v (delF l a n) st (l.length - n) n h) (fun i => n - i) 0 (by simp) ?_ ?_
        · refine Weak.heap ?_ ?_
          · rw [Nat.add_zero, erase_same, hM]
          · simp
            done
        · intro i hi
          refine wpc_ok hE mixed _ _ _ ?_
          by_cases hil : i < n
          · obtain ⟨w1, el, es⟩ := round _ (l.length - n) hM (by omega) i hil
            have s1 := fun c => sh_set (eraseF (delF l a n) (l.length - n) (l.length - n + i) st) (l.length - n) i c (by omega)
            simp [sh1S, and_assoc, blankSpec, del1Spec, ins1Spec, styV, celV, g, hil, w1, s1, hM, el]
            exact ⟨by omega, Next.mk (i + 1) (by omega) (by omega) (Weak.heap (by rw [es, hM]) (by simp))⟩
          · obtain rfl : i = n := by omega
            have eo : l.length - i + i = l.length := by omega
            simp [sh1S, and_assoc, blankSpec, del1Spec, ins1Spec, hM, eo]
            exact RetTo.same ⟨rfl, rfl⟩
    · exact hp.elim
end Fen

namespace Fen
open Go Go.Proofs

def chShSpec : Spec := { pre := fun args => ∃ (r : Rw) (k : Nat) (a n : Nat) (st : Sty), args = [rowV r, .c (.fn 77 [.ptr [.fn k [.ptr [.int .i64 a]]], .ptr [.int .i64 n], .ptr (styC st)])] ∧ (k = 62 ∨ k = 64) ∧ a + n ≤ r.cells.length ∧ r.cells.length ≤ 1000, res := fun args => match args with
  | [.agg r, .c (.fn _ [.ptr [.fn k [.ptr [.int _ a]]], .ptr [.int _ n], .ptr s])] => .one (.val (rowV ⟨shF (k == 62) (rowOf r).cells a.toNat n.toNat (stOf s), (rowOf r).wrapped⟩))
  | _ => .many [] }
def G_chSh : Specs := [(77, sh1Spec)]
@[simp] theorem G_chSh_live : Specs.live G_chSh = false := rfl
@[simp] theorem G_chSh_nils : Specs.nils G_chSh = false := rfl
@[simp] theorem G_chSh_froz : Specs.froz G_chSh = false := rfl
@[simp] theorem G_chSh_77 : G_chSh.find 77 = some sh1Spec := rfl
theorem G_chSh_ok (gl : Gl) : SpecsOK Tryd.prog gl G_chSh := .cons (sh1_sound gl) (.nil _ _)
set_option maxRecDepth 10000 in
theorem chSh_sound (gl : Gl) : Sound Tryd.prog gl 50 chShSpec := by
  refine sound_fn (N := Tryd.f50.ntmps) (rs := Tryd.f50.results.toList) mixed tok (G_chSh_ok gl) Tryd.func50 rfl rfl rfl rfl rfl ?_ ?_ ?_
  · rintro args ⟨r,k,a,n,st,rfl,hk,h1,h3⟩; simp [rowV,rowOf_C,stOf_C, Tryd.f50]
  · rintro args ⟨r,k,a,n,st,rfl,hk,h1,h3⟩; simp [rowV,rowOf_C,stOf_C, chShSpec, Tryd.f50]
  · rintro args ⟨r,k,a,n,st,rfl,hk,h1,h3⟩ bs hgl hh hro
    have hE : Env.OK ⟨Tryd.prog, T, G_chSh, bs⟩ := ⟨tok, by rw [hgl]; exact G_chSh_ok gl⟩
    simp only [chShSpec, rowV,rowOf_C,stOf_C]
    have tk : List.take (r.cells.length * 12) (celsC r.cells) = celsC r.cells := List.take_of_length_le (by simp)
    have dk : List.drop (r.cells.length * 12) (celsC (List.replicate r.cells.length ⟨0, 0, 0, 0, sty0⟩)) = [] := List.drop_eq_nil_of_le (by simp)
    have el := fun b => sh_len b st h1
    obtain rfl | rfl := hk
    · simp [and_assoc, chShSpec, sh1Spec, Tryd.f50, sh1HS, rep_cel, tk, dk, el, rowC]
      exact ⟨by omega, by omega, r.cells, rfl, rfl, a, rfl, n, rfl, h1, h3⟩
    · simp [and_assoc, chShSpec, sh1Spec, Tryd.f50, sh1HS, rep_cel, tk, dk, el, rowC]
      exact ⟨by omega, by omega, r.cells, rfl, rfl, a, rfl, n, rfl, h1, h3⟩
def shiftRowF (ins : Bool) (r : Rw) (col n : Int) (s : Sty) : Rw × Int :=
  if wrongF r col ≠ 0 then (nilR, wrongF r col) else if n < 0 then (nilR, 2) else if styF s ≠ 0 then (nilR, styF s) else if n = 0 then (r, 0) else
  (⟨shF ins r.cells col.toNat (min n.toNat (r.cells.length - col.toNat)) s, r.wrapped⟩, 0)
def shiftSpec : Spec := { pre := fun args => ∃ (r : Rw) (col n : Int) (s : Sty) (k : Nat), args = [rowV r, .c (.int .i64 col), .c (.int .i64 n), styV s, .c (.fn k [.ptr [.int .i64 col]])] ∧ (k = 62 ∨ k = 64) ∧ r.ok ∧ s.ok, res := fun args => match args with
  | [.agg r, .c (.int _ a), .c (.int _ n), .agg s, .c (.fn k _)] => .many [.val (rowV (shiftRowF (k == 62) (rowOf r) a n (stOf s)).1), .val (.c (.int .i64 (shiftRowF (k == 62) (rowOf r) a n (stOf s)).2))]
  | _ => .many [] }
def G_shift : Specs := [(48, wrongSpec), (58, stySpec), (50, chShSpec)]
@[simp] theorem G_shift_live : Specs.live G_shift = false := rfl
@[simp] theorem G_shift_nils : Specs.nils G_shift = false := rfl
@[simp] theorem G_shift_froz : Specs.froz G_shift = false := rfl
@[simp] theorem G_shift_48 : G_shift.find 48 = some wrongSpec := rfl
@[simp] theorem G_shift_58 : G_shift.find 58 = some stySpec := rfl
@[simp] theorem G_shift_50 : G_shift.find 50 = some chShSpec := rfl
theorem G_shift_ok : SpecsOK Tryd.prog glW G_shift := .cons wrong_sound (.cons (sty_sound glW) (.cons (chSh_sound glW) (.nil _ _)))
set_option maxHeartbeats 2000000 in
set_option maxRecDepth 10000 in
theorem shift_sound : Sound Tryd.prog glW 61 shiftSpec := by
  refine sound_fn (N := Tryd.f61.ntmps) (rs := Tryd.f61.results.toList) mixed tok G_shift_ok Tryd.func61 rfl rfl rfl rfl rfl ?_ ?_ ?_
  · rintro args ⟨r,x,y,s,k,rfl,hk,hr,hs⟩; simp [rowV,styV,rowOf_C,stOf_C, Tryd.f61]
  · rintro args ⟨r,x,y,s,k,rfl,hk,hr,hs⟩; simp [rowV,styV,rowOf_C,stOf_C, shiftSpec, Tryd.f61]
  · rintro args ⟨r,x,y,s,k,rfl,hk,hr,hs⟩ bs hgl hh hro
    have hE : Env.OK ⟨Tryd.prog, T, G_shift, bs⟩ := ⟨tok, by rw [hgl]; exact G_shift_ok⟩
    simp only [shiftSpec, rowV,styV,rowOf_C,stOf_C]
    unfold shiftRowF
    rcases Decidable.em (wrongF r x = 0) with h1 | h1
    rotate_left
    · simp [and_assoc, shiftSpec, chShSpec, stySpec, wrongSpec, Tryd.f61, hr, h1, nilR_C]
      done
    by_cases h2 : y < 0
    · simp [and_assoc, shiftSpec, chShSpec, stySpec, wrongSpec, Tryd.f61, hr, h1, h2, nilR_C]
      done
    rcases Decidable.em (styF s = 0) with h3 | h3
    rotate_left
    · simp [and_assoc, shiftSpec, chShSpec, stySpec, wrongSpec, Tryd.f61, hr, hs, h1, h2, h3, nilR_C]
      done
    obtain ⟨q1, q2, q3⟩ := wrong_ok h1
    obtain ⟨a, rfl⟩ : ∃ a : Nat, x = a := ⟨x.toNat, by omega⟩
    obtain ⟨n, rfl⟩ : ∃ n : Nat, y = n := ⟨y.toNat, by omega⟩
    obtain ⟨l2, l80, _⟩ := row_len q1
    have hal : a < r.cells.length := by omega
    have w1 : IntKind.i64.wrap ((r.cells.length : Int) - a) = (r.cells.length : Int) - a := wrap64 _ (by omega) (by omega)
    have em : (if (r.cells.length : Int) - a < n then (r.cells.length : Int) - a else n) = ((min n (r.cells.length - a) : Nat) : Int) := by split <;> omega
    by_cases h4 : n = 0
    · subst h4
      have em0 : ¬ (r.cells.length : Int) - a < 0 := by omega
      simp [and_assoc, shiftSpec, chShSpec, stySpec, wrongSpec, Tryd.f61, hr, hs, h1, h3, w1, em0]
      done
    · have hm : ¬ min n (r.cells.length - a) = 0 := by omega
      obtain ⟨m, hmm, hm1⟩ : ∃ m, min n (r.cells.length - a) = m ∧ a + m ≤ r.cells.length := ⟨_, rfl, by omega⟩
      rw [hmm] at hm em
      obtain rfl | rfl := hk
      · simp [and_assoc, shiftSpec, chShSpec, stySpec, wrongSpec, Tryd.f61, hr, hs, h1, h2, h3, h4, w1, em, hm, hmm]
        exact ⟨a, rfl, m, rfl, hm1, by omega⟩
      · simp [and_assoc, shiftSpec, chShSpec, stySpec, wrongSpec, Tryd.f61, hr, hs, h1, h2, h3, h4, w1, em, hm, hmm]
        exact ⟨a, rfl, m, rfl, hm1, by omega⟩
def moveSpec (ins : Bool) : Spec := { pre := fun args => ∃ (r : Rw) (col n : Int) (s : Sty), args = [rowV r, .c (.int .i64 col), .c (.int .i64 n), styV s] ∧ r.ok ∧ s.ok, res := fun args => match args with
  | [.agg r, .c (.int _ a), .c (.int _ n), .agg s] => .many [.val (rowV (shiftRowF ins (rowOf r) a n (stOf s)).1), .val (.c (.int .i64 (shiftRowF ins (rowOf r) a n (stOf s)).2))]
  | _ => .many [] }
def insertSpec : Spec := moveSpec true
def deleteSpec : Spec := moveSpec false
def G_insert : Specs := [(61, shiftSpec)]
@[simp] theorem G_insert_live : Specs.live G_insert = false := rfl
@[simp] theorem G_insert_nils : Specs.nils G_insert = false := rfl
@[simp] theorem G_insert_froz : Specs.froz G_insert = false := rfl
@[simp] theorem G_insert_61 : G_insert.find 61 = some shiftSpec := rfl
theorem G_insert_ok : SpecsOK Tryd.prog glW G_insert := .cons shift_sound (.nil _ _)
set_option maxHeartbeats 1000000 in
set_option maxRecDepth 10000 in
theorem insert_sound : Sound Tryd.prog glW 25 insertSpec := by
  refine sound_fn (N := Tryd.f25.ntmps) (rs := Tryd.f25.results.toList) mixed tok G_insert_ok Tryd.func25 rfl rfl rfl rfl rfl ?_ ?_ ?_
  · rintro args ⟨r,x,y,s,rfl,hr,hs⟩; simp [moveSpec,rowV,styV,rowOf_C,stOf_C, Tryd.f25]
  · rintro args ⟨r,x,y,s,rfl,hr,hs⟩; simp [moveSpec,rowV,styV,rowOf_C,stOf_C, insertSpec, Tryd.f25]
  · rintro args ⟨r,x,y,s,rfl,hr,hs⟩ bs hgl hh hro
    have hE : Env.OK ⟨Tryd.prog, T, G_insert, bs⟩ := ⟨tok, by rw [hgl]; exact G_insert_ok⟩
    simp only [insertSpec, moveSpec,rowV,styV,rowOf_C,stOf_C]
    simp [and_assoc, insertSpec, shiftSpec, Tryd.f25, hr, hs, rowV, styV]
    done
def G_delete : Specs := [(61, shiftSpec)]
@[simp] theorem G_delete_live : Specs.live G_delete = false := rfl
@[simp] theorem G_delete_nils : Specs.nils G_delete = false := rfl
@[simp] theorem G_delete_froz : Specs.froz G_delete = false := rfl
@[simp] theorem G_delete_61 : G_delete.find 61 = some shiftSpec := rfl
theorem G_delete_ok : SpecsOK Tryd.prog glW G_delete := .cons shift_sound (.nil _ _)
set_option maxHeartbeats 1000000 in
set_option maxRecDepth 10000 in
theorem delete_sound : Sound Tryd.prog glW 27 deleteSpec := by
  refine sound_fn (N := Tryd.f27.ntmps) (rs := Tryd.f27.results.toList) mixed tok G_delete_ok Tryd.func27 rfl rfl rfl rfl rfl ?_ ?_ ?_
  · rintro args ⟨r,x,y,s,rfl,hr,hs⟩; simp [moveSpec,rowV,styV,rowOf_C,stOf_C, Tryd.f27]
  · rintro args ⟨r,x,y,s,rfl,hr,hs⟩; simp [moveSpec,rowV,styV,rowOf_C,stOf_C, deleteSpec, Tryd.f27]
  · rintro args ⟨r,x,y,s,rfl,hr,hs⟩ bs hgl hh hro
    have hE : Env.OK ⟨Tryd.prog, T, G_delete, bs⟩ := ⟨tok, by rw [hgl]; exact G_delete_ok⟩
    simp only [deleteSpec, moveSpec,rowV,styV,rowOf_C,stOf_C]
    simp [and_assoc, deleteSpec, shiftSpec, Tryd.f27, hr, hs, rowV, styV]
    done
end Fen

namespace Fen
open Go Go.Proofs

/-! ### the law's own helpers -/
def wideF : Cel := ⟨20013, 0, 0, 1, sty0⟩
def lwideSpec : Spec := { pre := fun args => args = [], res := fun _ => .one (.val (celV wideF)) }
def G_lwide : Specs := []
@[simp] theorem G_lwide_live : Specs.live G_lwide = false := rfl
@[simp] theorem G_lwide_nils : Specs.nils G_lwide = false := rfl
@[simp] theorem G_lwide_froz : Specs.froz G_lwide = false := rfl
theorem G_lwide_ok (gl : Gl) : SpecsOK Tryd.prog gl G_lwide := .nil _ _
set_option maxRecDepth 10000 in
theorem lwide_sound (gl : Gl) : Sound Tryd.prog gl 32 lwideSpec := by
  refine sound_fn (N := Tryd.f32.ntmps) (rs := Tryd.f32.results.toList) mixed tok (G_lwide_ok gl) Tryd.func32 rfl rfl rfl rfl rfl ?_ ?_ ?_
  · rintro args rfl; simp [Tryd.f32]
  · rintro args rfl; simp [lwideSpec, Tryd.f32]
  · rintro args rfl bs hgl hh hro
    have hE : Env.OK ⟨Tryd.prog, T, G_lwide, bs⟩ := ⟨tok, by rw [hgl]; exact G_lwide_ok gl⟩
    have e : wideF = ⟨20013, 0, 0, 1, sty0⟩ := rfl
    simp [and_assoc, lwideSpec, Tryd.f32, e, celV]
def shortF (r : Rw) : Rw := ⟨r.cells.take 90, r.wrapped⟩
def shortSpec : Spec := { pre := fun args => ∃ r : Rw, args = [rowV r], res := fun args => match args with
  | [.agg r] => .one (.val (rowV (shortF (rowOf r))))
  | _ => .many [] }
def G_short : Specs := []
@[simp] theorem G_short_live : Specs.live G_short = false := rfl
@[simp] theorem G_short_nils : Specs.nils G_short = false := rfl
@[simp] theorem G_short_froz : Specs.froz G_short = false := rfl
theorem G_short_ok (gl : Gl) : SpecsOK Tryd.prog gl G_short := .nil _ _
set_option maxRecDepth 10000 in
theorem short_sound (gl : Gl) : Sound Tryd.prog gl 15 shortSpec := by
  refine sound_fn (N := Tryd.f15.ntmps) (rs := Tryd.f15.results.toList) mixed tok (G_short_ok gl) Tryd.func15 rfl rfl rfl rfl rfl ?_ ?_ ?_
  · rintro args ⟨r,rfl⟩; simp [rowV,rowOf_C, Tryd.f15]
  · rintro args ⟨r,rfl⟩; simp [rowV,rowOf_C, shortSpec, Tryd.f15]
  · rintro args ⟨r,rfl⟩ bs hgl hh hro
    have hE : Env.OK ⟨Tryd.prog, T, G_short, bs⟩ := ⟨tok, by rw [hgl]; exact G_short_ok gl⟩
    simp only [shortSpec, rowV,rowOf_C]
    have em : (if 90 < (r.cells.length : Int) then (90 : Int) else r.cells.length) = ((min 90 r.cells.length : Nat) : Int) := by split <;> omega
    have tk : List.take (min 90 r.cells.length * 12) (celsC r.cells) = celsC (r.cells.take 90) := by rw [celsC_take]; congr 1; rw [← List.take_take]; simp
    simp [and_assoc, shortSpec, Tryd.f15, em, tk, shortF, rowC]
    exact Nat.min_le_right _ _
def likeSpec : Spec := { pre := fun args => ∃ (a b : Rw) (e f : Int), args = [rowV a, .c (.int .i64 e), rowV b, .c (.int .i64 f)] ∧ a.cells.length ≤ 1000, res := fun args => match args with
  | [.agg a, .c (.int _ e), .agg b, .c (.int _ f)] => .one (.val (.c (.bool (decide (e = f) && decide (rowOf a = rowOf b)))))
  | _ => .many [] }
def G_like : Specs := [(30, sameSpec)]
@[simp] theorem G_like_live : Specs.live G_like = false := rfl
@[simp] theorem G_like_nils : Specs.nils G_like = false := rfl
@[simp] theorem G_like_froz : Specs.froz G_like = false := rfl
@[simp] theorem G_like_30 : G_like.find 30 = some sameSpec := rfl
theorem G_like_ok (gl : Gl) : SpecsOK Tryd.prog gl G_like := .cons (same_sound gl) (.nil _ _)
set_option maxRecDepth 10000 in
theorem like_sound (gl : Gl) : Sound Tryd.prog gl 18 likeSpec := by
  refine sound_fn (N := Tryd.f18.ntmps) (rs := Tryd.f18.results.toList) mixed tok (G_like_ok gl) Tryd.func18 rfl rfl rfl rfl rfl ?_ ?_ ?_
  · rintro args ⟨a,b,e,f,rfl,ha⟩; simp [rowV,rowOf_C, Tryd.f18]
  · rintro args ⟨a,b,e,f,rfl,ha⟩; simp [rowV,rowOf_C, likeSpec, Tryd.f18]
  · rintro args ⟨a,b,e,f,rfl,ha⟩ bs hgl hh hro
    have hE : Env.OK ⟨Tryd.prog, T, G_like, bs⟩ := ⟨tok, by rw [hgl]; exact G_like_ok gl⟩
    simp only [likeSpec, rowV,rowOf_C]
    by_cases h : e = f
    · simp [and_assoc, likeSpec, sameSpec, Tryd.f18, h, ha, rowV]
      done
    · simp [and_assoc, likeSpec, sameSpec, Tryd.f18, h, rowV]
      done
/-- rows written as letters -/
def letF (b : UInt8) : List Cel := if b = 87 then [wideF, ⟨0, 0, 0, 2, sty0⟩] else if b = 46 then [⟨32, 0, 0, 0, sty0⟩] else if b = 66 then [⟨32, 0, 0, 0, ⟨1, 0, 0, 0, 0, 0, 0, 0⟩⟩] else [⟨b.toNat, 0, 0, 0, sty0⟩]
def lofR (s : List UInt8) : List Cel := s.flatMap letF
def lofRSpec : Spec := { pre := fun args => ∃ s : List UInt8, args = [.c (.str s)] ∧ s.length ≤ 100, res := fun args => .one (.val (rowV ⟨lofR (args.headD default).str, false⟩)) }
def lofS (s : List UInt8) (h0 : List Blk) (i : Nat) : St :=
  ⟨44, [(0, .val (.str s)), (2, .ptr h0.length 0 0), (3, if i = 0 then .nil else .ref (h0.length + 1) (i - 1)), (4, .val (.int .i64 i))],
    h0 ++ (.box 27 [.nil, .val (.bool false)] :: if i = 0 then [] else [.sl 34 (i - 1) true 12 (lofR (s.take i)).length (celsC (lofR (s.take i)))])⟩
theorem letF_len (b : UInt8) : (letF b).length ≤ 2 := by
  unfold letF
  split
  · exact Nat.le_refl _
  · split
    · simp
    · split <;> simp
theorem lofR_step {s : List UInt8} {i : Nat} (h : i < s.length) : lofR (s.take (i + 1)) = lofR (s.take i) ++ letF s[i] := by
  rw [List.take_add_one, List.getElem?_eq_getElem h]; simp only [lofR, List.flatMap_append, Option.toList_some, List.flatMap_cons, List.flatMap_nil, List.append_nil]
theorem lofR_len (s : List UInt8) : (lofR s).length ≤ 2 * s.length := by
  induction s with
  | nil => simp [lofR]
  | cons b s ih => have := letF_len b; simp only [lofR, List.flatMap_cons, List.length_append, List.length_cons] at ih ⊢; omega
theorem d24 (a b : Cel) : List.drop 24 (celC a ++ celC b) = [] := rfl
theorem bC : C.int .i64 32 :: C.int .i64 0 :: C.int .i64 0 :: C.int .i64 0 :: C.int .i64 1 :: (styC sty0).tail = celC ⟨32, 0, 0, 0, ⟨1, 0, 0, 0, 0, 0, 0, 0⟩⟩ := rfl
def G_lofR : Specs := [(32, lwideSpec)]
@[simp] theorem G_lofR_live : Specs.live G_lofR = false := rfl
@[simp] theorem G_lofR_nils : Specs.nils G_lofR = false := rfl
@[simp] theorem G_lofR_froz : Specs.froz G_lofR = false := rfl
@[simp] theorem G_lofR_32 : G_lofR.find 32 = some lwideSpec := rfl
theorem G_lofR_ok (gl : Gl) : SpecsOK Tryd.prog gl G_lofR := .cons (lwide_sound gl) (.nil _ _)
set_option maxHeartbeats 1000000 in
set_option maxRecDepth 10000 in
theorem lofR_sound (gl : Gl) : Sound Tryd.prog gl 31 lofRSpec := by
  refine sound_fn (N := Tryd.f31.ntmps) (rs := Tryd.f31.results.toList) mixed tok (G_lofR_ok gl) Tryd.func31 rfl rfl rfl rfl rfl ?_ ?_ ?_
  · rintro args ⟨s,rfl,hl⟩; simp [Tryd.f31]
  · rintro args ⟨s,rfl,hl⟩; simp [lofRSpec, Tryd.f31]
  · rintro args ⟨s,rfl,hl⟩ bs hgl hh hro
    have hE : Env.OK ⟨Tryd.prog, T, G_lofR, bs⟩ := ⟨tok, by rw [hgl]; exact G_lofR_ok gl⟩
    simp [and_assoc, lofRSpec, lwideSpec, Tryd.f31]
    refine AWP.rounds (fun i => i ≤ s.length) (lofS s []) (fun i => s.length - i) 0 (by simp) ?_ ?_
    · refine Weak.keep ?_
      simp [lofS]
    · intro i hi
      refine wpc_ok hE mixed _ _ _ ?_
      rcases Nat.lt_or_ge i s.length with h | h
      · have w1 : IntKind.i64.wrap ((i : Int) + 1) = i + 1 := wrap64 _ (by omega) (by omega)
        have hg : s[i]? = some s[i] := List.getElem?_eq_getElem h
        have w2 : IntKind.i64.wrap (s[i].toNat : Int) = (s[i].toNat : Int) := wrap64 _ (by omega) (by have := s[i].toNat_lt; omega)
        have hst := lofR_step h
        have hle := lofR_len (s.take i)
        simp only [List.length_take] at hle
        have ne : ∀ n : Nat, n < 256 → ¬ s[i] = UInt8.ofNat n → ¬ (s[i].toNat : Int) = n := fun n hn hne k => hne (by
          have k2 : s[i].toNat = n := by omega
          rw [← k2]; simp)
        by_cases c1 : s[i] = 87
        · have hst2 : lofR (s.take (i + 1)) = lofR (s.take i) ++ [wideF, ⟨0, 0, 0, 2, sty0⟩] := by rw [hst]; congr 1; unfold letF; simp [c1]
          rcases Nat.eq_zero_or_pos i with h0 | h0
          · subst h0
            have e0 : lofR (s.take 0) = [] := rfl
            rw [e0] at hst2
            simp [lofS, and_assoc, lwideSpec, h, hg, w1, c1, celV, d24, bC]
            exact Next.mk 1 h (by omega) (Weak.heap (by simp [hst2, celsC]) (by simp))
          · have h0' : ¬ i = 0 := by omega
            have hi1 : i - 1 + 1 = i := by omega
            simp [lofS, and_assoc, lwideSpec, h, hg, w1, c1, h0', hi1, celV, d24, bC]
            exact ⟨by omega, by omega, Next.mk (i + 1) h (by omega) (Weak.heap (by simp [hst2, celsC_app, celsC]) (by simp))⟩
        · have n1 : ¬ (s[i].toNat : Int) = 87 := ne 87 (by decide) c1
          by_cases c2 : s[i] = 46
          · have hst2 : lofR (s.take (i + 1)) = lofR (s.take i) ++ [⟨32, 0, 0, 0, sty0⟩] := by rw [hst]; congr 1; unfold letF; simp [c1, c2]
            rcases Nat.eq_zero_or_pos i with h0 | h0
            · subst h0
              have e0 : lofR (s.take 0) = [] := rfl
              rw [e0] at hst2
              simp [lofS, and_assoc, lwideSpec, h, hg, w1, n1, c2, celV, d24, bC]
              exact Next.mk 1 h (by omega) (Weak.heap (by simp [hst2, celsC]) (by simp))
            · have h0' : ¬ i = 0 := by omega
              have hi1 : i - 1 + 1 = i := by omega
              simp [lofS, and_assoc, lwideSpec, h, hg, w1, n1, c2, h0', hi1, celV, d24, bC]
              exact ⟨by omega, by omega, Next.mk (i + 1) h (by omega) (Weak.heap (by simp [hst2, celsC_app, celsC]) (by simp))⟩
          · have n2 : ¬ (s[i].toNat : Int) = 46 := ne 46 (by decide) c2
            by_cases c3 : s[i] = 66
            · have hst2 : lofR (s.take (i + 1)) = lofR (s.take i) ++ [⟨32, 0, 0, 0, ⟨1, 0, 0, 0, 0, 0, 0, 0⟩⟩] := by rw [hst]; congr 1; unfold letF; simp [c1, c2, c3]
              rcases Nat.eq_zero_or_pos i with h0 | h0
              · subst h0
                have e0 : lofR (s.take 0) = [] := rfl
                rw [e0] at hst2
                simp [lofS, and_assoc, lwideSpec, h, hg, w1, n1, n2, c3, celV, d24, bC]
                exact Next.mk 1 h (by omega) (Weak.heap (by simp [hst2, celsC]) (by simp))
              · have h0' : ¬ i = 0 := by omega
                have hi1 : i - 1 + 1 = i := by omega
                simp [lofS, and_assoc, lwideSpec, h, hg, w1, n1, n2, c3, h0', hi1, celV, d24, bC]
                exact ⟨by omega, by omega, Next.mk (i + 1) h (by omega) (Weak.heap (by simp [hst2, celsC_app, celsC]) (by simp))⟩
            · have n3 : ¬ (s[i].toNat : Int) = 66 := ne 66 (by decide) c3
              have hst2 : lofR (s.take (i + 1)) = lofR (s.take i) ++ [⟨s[i].toNat, 0, 0, 0, sty0⟩] := by rw [hst]; congr 1; unfold letF; simp [c1, c2, c3]
              rcases Nat.eq_zero_or_pos i with h0 | h0
              · subst h0
                have e0 : lofR (s.take 0) = [] := rfl
                rw [e0] at hst2
                simp [lofS, and_assoc, lwideSpec, h, hg, w1, n1, n2, n3, w2, celV, d24, bC]
                exact Next.mk 1 h (by omega) (Weak.heap (by simp [hst2, celsC]) (by simp))
              · have h0' : ¬ i = 0 := by omega
                have hi1 : i - 1 + 1 = i := by omega
                simp [lofS, and_assoc, lwideSpec, h, hg, w1, n1, n2, n3, w2, h0', hi1, celV, d24, bC]
                exact ⟨by omega, by omega, Next.mk (i + 1) h (by omega) (Weak.heap (by simp [hst2, celsC_app, celsC]) (by simp))⟩
      · obtain rfl : i = s.length := by omega
        rcases Nat.eq_zero_or_pos s.length with h0 | h0
        · have := List.eq_nil_of_length_eq_zero h0
          subst this
          simp [lofS, lofR, rowV, rowC]
          done
        · have h0' : ¬ s = [] := fun k => by simp [k] at h0
          simp [lofS, h0', rowV, rowC]
          done
end Fen

namespace Fen
open Go Go.Proofs

theorem sh_ins (l : List Cel) {a m : Nat} (s : Sty) (h : a + m ≤ l.length) {P : List Cel} (hP : partF (partF l a) ((l.length - m : Nat) : Int) = P) : shF true l a m s = P.take a ++ (List.replicate m (blankF s) ++ (P.drop a).take (l.length - m - a)) := by
  have hPl : P.length = l.length := by rw [← hP]; simp
  unfold shF eraseF insF
  rw [if_pos rfl, hP]
  have e1 : (P.take (a + m) ++ (P.drop a).take (l.length - (a + m))).take a = P.take a := by
    rw [List.take_append_of_le_length (by simp; omega), List.take_take, Nat.min_eq_left (by omega)]
  have e2 : (P.take (a + m) ++ (P.drop a).take (l.length - (a + m))).drop (a + m) = (P.drop a).take (l.length - (a + m)) := by
    rw [List.drop_left' (by simp; omega)]
  rw [e1, e2, List.append_assoc, show a + m - a = m by omega, show l.length - (a + m) = l.length - m - a by omega]
theorem sh_del (l : List Cel) {a m : Nat} (s : Sty) (h : a + m ≤ l.length) {P : List Cel} (hP : partF (partF l a) ((a + m : Nat) : Int) = P) : shF false l a m s = P.take a ++ (P.drop (a + m) ++ List.replicate m (blankF s)) := by
  have hPl : P.length = l.length := by rw [← hP]; simp
  unfold shF eraseF delF
  rw [if_neg (by decide), hP]
  have e1 : (P.take a ++ P.drop (a + m) ++ P.drop (l.length - m)).take (l.length - m) = P.take a ++ P.drop (a + m) := by
    rw [List.take_left' (by simp; omega)]
  have e2 : (P.take a ++ P.drop (a + m) ++ P.drop (l.length - m)).drop l.length = [] := List.drop_eq_nil_of_le (by simp; omega)
  rw [e1, e2, List.append_nil, List.append_assoc, show l.length - (l.length - m) = m by omega]

def rshiftSpec : Spec := { pre := fun args => ∃ (r : Rw) (col n : Int) (s : Sty) (ins : Bool), args = [rowV r, .c (.int .i64 col), .c (.int .i64 n), styV s, .c (.bool ins)] ∧ r.ok ∧ s.ok, res := fun args => match args with
  | [.agg r, .c (.int _ a), .c (.int _ n), .agg s, .c (.bool ins)] => .many [.val (rowV (shiftRowF ins (rowOf r) a n (stOf s)).1), .val (.c (.int .i64 (shiftRowF ins (rowOf r) a n (stOf s)).2))]
  | _ => .many [] }
def G_rshift : Specs := [(36, rowckSpec), (60, stySpec), (54, partedSpec), (63, blanksSpec)]
@[simp] theorem G_rshift_live : Specs.live G_rshift = false := rfl
@[simp] theorem G_rshift_nils : Specs.nils G_rshift = false := rfl
@[simp] theorem G_rshift_froz : Specs.froz G_rshift = false := rfl
@[simp] theorem G_rshift_36 : G_rshift.find 36 = some rowckSpec := rfl
@[simp] theorem G_rshift_60 : G_rshift.find 60 = some stySpec := rfl
@[simp] theorem G_rshift_54 : G_rshift.find 54 = some partedSpec := rfl
@[simp] theorem G_rshift_63 : G_rshift.find 63 = some blanksSpec := rfl
theorem G_rshift_ok (gl : Gl) : SpecsOK Tryd.prog gl G_rshift := .cons (rrowck_sound gl) (.cons (rsty_sound gl) (.cons (parted_sound gl) (.cons (blanks_sound gl) (.nil _ _))))
set_option maxHeartbeats 2000000 in
set_option maxRecDepth 10000 in
theorem rshift_sound (gl : Gl) : Sound Tryd.prog gl 26 rshiftSpec := by
  refine sound_fn (N := Tryd.f26.ntmps) (rs := Tryd.f26.results.toList) mixed tok (G_rshift_ok gl) Tryd.func26 rfl rfl rfl rfl rfl ?_ ?_ ?_
  · rintro args ⟨r,x,y,s,ins,rfl,hr,hs⟩; simp [rowV,styV,rowOf_C,stOf_C, Tryd.f26]
  · rintro args ⟨r,x,y,s,ins,rfl,hr,hs⟩; simp [rowV,styV,rowOf_C,stOf_C, rshiftSpec, Tryd.f26]
  · rintro args ⟨r,x,y,s,ins,rfl,hr,hs⟩ bs hgl hh hro
    have hE : Env.OK ⟨Tryd.prog, T, G_rshift, bs⟩ := ⟨tok, by rw [hgl]; exact G_rshift_ok gl⟩
    simp only [rshiftSpec, rowV,styV,rowOf_C,stOf_C]
    unfold shiftRowF wrongF
    rcases Decidable.em (rowF r = 0) with q1 | q1
    rotate_left
    · simp [and_assoc, rshiftSpec, blanksSpec, partedSpec, rowckSpec, stySpec, Tryd.f26, hr, q1, nilR_C]
      done
    by_cases n1 : x < 0
    · simp [and_assoc, rshiftSpec, blanksSpec, partedSpec, rowckSpec, stySpec, Tryd.f26, hr, q1, n1, nilR_C]
      done
    by_cases n2 : (r.cells.length : Int) ≤ x
    · simp [and_assoc, rshiftSpec, blanksSpec, partedSpec, rowckSpec, stySpec, Tryd.f26, hr, q1, n1, n2, nilR_C]
      done
    by_cases h2 : y < 0
    · simp [and_assoc, rshiftSpec, blanksSpec, partedSpec, rowckSpec, stySpec, Tryd.f26, hr, q1, n1, n2, h2, nilR_C]
      done
    rcases Decidable.em (styF s = 0) with h3 | h3
    rotate_left
    · simp [and_assoc, rshiftSpec, blanksSpec, partedSpec, rowckSpec, stySpec, Tryd.f26, hr, hs, q1, n1, n2, h2, h3, nilR_C]
      done
    obtain ⟨a, rfl⟩ : ∃ a : Nat, x = a := ⟨x.toNat, by omega⟩
    obtain ⟨n, rfl⟩ : ∃ n : Nat, y = n := ⟨y.toNat, by omega⟩
    obtain ⟨l2, l80, _⟩ := row_len q1
    have hal : a < r.cells.length := by omega
    have n4 : ¬ r.cells.length ≤ a := by omega
    have l1000 : r.cells.length ≤ 1000 := by omega
    have w1 : IntKind.i64.wrap ((r.cells.length : Int) - a) = (r.cells.length : Int) - a := wrap64 _ (by omega) (by omega)
    have em : (if (r.cells.length : Int) - a < n then (r.cells.length : Int) - a else n) = ((min n (r.cells.length - a) : Nat) : Int) := by split <;> omega
    by_cases h4 : n = 0
    · subst h4
      have em0 : ¬ (r.cells.length : Int) - a < 0 := by omega
      simp [and_assoc, rshiftSpec, blanksSpec, partedSpec, rowckSpec, stySpec, Tryd.f26, hr, hs, q1, n1, n2, n4, h3, w1, em0]
      done
    · have hm : ¬ min n (r.cells.length - a) = 0 := by omega
      obtain ⟨m, hmm, hm1⟩ : ∃ m, min n (r.cells.length - a) = m ∧ a + m ≤ r.cells.length := ⟨_, rfl, by omega⟩
      rw [hmm] at hm em
      have m1000 : m ≤ 1000 := by omega
      cases ins
      · have ec : ((a + m : Nat) : Int) = (a : Int) + m := by omega
        have w2 : IntKind.i64.wrap ((a : Int) + m) = (a : Int) + m := wrap64 _ (by omega) (by omega)
        obtain ⟨P, hP, hPl⟩ : ∃ P, partF (partF r.cells a) ((a : Int) + m) = P ∧ P.length = r.cells.length := ⟨_, rfl, by simp⟩
        have e := sh_del r.cells s hm1 (P := P) (by rw [ec, hP])
        have e1 : ((a : Int) + m).toNat = a + m := by omega
        have e2 : ((r.cells.length : Int) - ((a : Int) + m)).toNat = r.cells.length - (a + m) := by omega
        simp [and_assoc, rshiftSpec, blanksSpec, partedSpec, rowckSpec, stySpec, Tryd.f26, hr, hs, q1, n1, n2, n4, h2, h3, h4, w1, w2, em, hm, hmm, l1000, m1000, hP, hPl, e, e1, e2, styV, celsV]
        refine ⟨⟨r.cells, rfl, rfl, l1000⟩, ⟨_, by simp, rfl, by simpa using l1000⟩, by omega, by omega, by omega, by omega, by omega, by omega, by omega, by omega, by omega, ⟨m, rfl, m1000⟩, by omega, by omega, rfl, ?_⟩
        have f1 : List.take (r.cells.length - (a + m)) (List.drop (a + m) P) = List.drop (a + m) P := List.take_of_length_le (by simp [hPl])
        simp only [celsC_take, celsC_drop, f1, rowC, celsC_app]
        congr 2
        simp [hPl]; omega
      · have w2 : IntKind.i64.wrap ((r.cells.length : Int) - m) = ((r.cells.length - m : Nat) : Int) := by rw [wrap64 _ (by omega) (by omega)]; omega
        obtain ⟨P, hP, hPl⟩ : ∃ P, partF (partF r.cells a) ((r.cells.length - m : Nat) : Int) = P ∧ P.length = r.cells.length := ⟨_, rfl, by simp⟩
        have e := sh_ins r.cells s hm1 hP
        simp [and_assoc, rshiftSpec, blanksSpec, partedSpec, rowckSpec, stySpec, Tryd.f26, hr, hs, q1, n1, n2, n4, h2, h3, h4, w1, w2, em, hm, hmm, l1000, m1000, hP, hPl, e, styV, celsV]
        refine ⟨⟨r.cells, rfl, rfl, l1000⟩, ⟨_, by simp, rfl, by simpa using l1000⟩, by omega, by omega, by omega, by omega, ⟨m, rfl, m1000⟩, by omega, by omega, by omega, by omega, by omega, by omega, rfl, ?_⟩
        simp only [celsC_take, celsC_drop, rowC, celsC_app]
        congr 2
        simp [hPl]; omega
end Fen

namespace Fen
open Go Go.Proofs

def lisSpec : Spec := { pre := fun args => ∃ (a : Rw) (e : Int) (s : List UInt8), args = [rowV a, .c (.int .i64 e), .c (.str s)] ∧ a.cells.length ≤ 1000 ∧ s.length ≤ 100, res := fun args => match args with
  | [.agg a, .c (.int _ e), .c (.str s)] => .one (.val (.c (.bool (decide (e = 0) && decide (rowOf a = ⟨lofR s, false⟩)))))
  | _ => .many [] }
def G_lis : Specs := [(31, lofRSpec), (30, sameSpec)]
@[simp] theorem G_lis_live : Specs.live G_lis = false := rfl
@[simp] theorem G_lis_nils : Specs.nils G_lis = false := rfl
@[simp] theorem G_lis_froz : Specs.froz G_lis = false := rfl
@[simp] theorem G_lis_31 : G_lis.find 31 = some lofRSpec := rfl
@[simp] theorem G_lis_30 : G_lis.find 30 = some sameSpec := rfl
theorem G_lis_ok (gl : Gl) : SpecsOK Tryd.prog gl G_lis := .cons (lofR_sound gl) (.cons (same_sound gl) (.nil _ _))
set_option maxRecDepth 10000 in
theorem lis_sound (gl : Gl) : Sound Tryd.prog gl 34 lisSpec := by
  refine sound_fn (N := Tryd.f34.ntmps) (rs := Tryd.f34.results.toList) mixed tok (G_lis_ok gl) Tryd.func34 rfl rfl rfl rfl rfl ?_ ?_ ?_
  · rintro args ⟨a,e,s,rfl,ha,hs⟩; simp [rowV,rowOf_C, Tryd.f34]
  · rintro args ⟨a,e,s,rfl,ha,hs⟩; simp [rowV,rowOf_C, lisSpec, Tryd.f34]
  · rintro args ⟨a,e,s,rfl,ha,hs⟩ bs hgl hh hro
    have hE : Env.OK ⟨Tryd.prog, T, G_lis, bs⟩ := ⟨tok, by rw [hgl]; exact G_lis_ok gl⟩
    simp only [lisSpec, rowV,rowOf_C]
    by_cases h : e = 0
    · simp [and_assoc, lisSpec, lofRSpec, sameSpec, Tryd.f34, h, ha, hs, rowV]
      rfl
    · simp [and_assoc, lisSpec, lofRSpec, sameSpec, Tryd.f34, h, rowV]
      rfl

/-- the same function where its row stays the caller's own -/
def lofHHS : HS := { wr := true, eff := fun xs h => match xs with
  | [.val (.str s)] => ((0 < s.length ∧ s.length ≤ 100), .recd [.ref (h.length + 1) (s.length - 1), .val (.bool false)],
      h ++ [.box 27 [.ref (h.length + 1) (s.length - 1), .val (.bool false)], .sl 34 (s.length - 1) true 12 (lofR s).length (celsC (lofR s))])
  | _ => (False, .dead, h) }
def lofHSpec : Spec := { pre := fun _ => False, res := fun _ => .many [], hp := some lofHHS }
def G_lofH : Specs := [(32, (liveOf lwideSpec))]
@[simp] theorem G_lofH_live : Specs.live G_lofH = true := rfl
@[simp] theorem G_lofH_nils : Specs.nils G_lofH = false := rfl
@[simp] theorem G_lofH_froz : Specs.froz G_lofH = false := rfl
@[simp] theorem G_lofH_32 : G_lofH.find 32 = some (liveOf lwideSpec) := rfl
theorem G_lofH_ok (gl : Gl) : SpecsOK Tryd.prog gl G_lofH := .cons (lwide_sound gl).live (.nil _ _)
set_option maxRecDepth 10000 in
theorem lofH_sound (gl : Gl) : Sound Tryd.prog gl 31 lofHSpec := by
  refine sound_heap (hs := lofHHS) (N := Tryd.f31.ntmps) (rs := Tryd.f31.results.toList) mixed tok (G_lofH_ok gl) Tryd.func31 rfl rfl rfl rfl rfl ?_ ?_
  · intro xs h hp
    simp only [lofHHS] at hp
    split at hp
    all_goals first | exact hp.elim | simp [Tryd.f31]
  · intro xs h hp bs hgl hh hro
    have hE : Env.OK ⟨Tryd.prog, T, G_lofH, bs⟩ := ⟨tok, by rw [hgl]; exact G_lofH_ok gl⟩
    simp only [lofHHS] at hp
    split at hp
    · rename_i s
      obtain ⟨hs0, hl⟩ := hp
      have q0 : ∀ l : List Blk, (h ++ l)[h.length]? = l[0]? := fun l => by rw [List.getElem?_append_right (Nat.le_refl _), Nat.sub_self]
      have q1 : ∀ l : List Blk, (h ++ l)[h.length + 1]? = l[1]? := fun l => by rw [List.getElem?_append_right (by omega)]; congr 1; omega
      have s0 : ∀ (l : List Blk) (b : Blk), (h ++ l).set h.length b = h ++ l.set 0 b := fun l b => by rw [List.set_append_right _ _ (Nat.le_refl _), Nat.sub_self]
      have s1 : ∀ (l : List Blk) (b : Blk), (h ++ l).set (h.length + 1) b = h ++ l.set 1 b := fun l b => by rw [List.set_append_right _ _ (by omega)]; congr 2; omega
      simp [Tryd.f31, hcEff, lofHHS, and_assoc, lwideSpec]
      refine AWP.rounds (fun i => i ≤ s.length) (lofS s h) (fun i => s.length - i) 0 (by simp) ?_ ?_
      · refine Weak.keep ?_
        simp [lofS]
      · intro i hi
        refine wpc_ok hE mixed _ _ _ ?_
        rcases Nat.lt_or_ge i s.length with hil | hil
        · have w1 : IntKind.i64.wrap ((i : Int) + 1) = i + 1 := wrap64 _ (by omega) (by omega)
          have hg : s[i]? = some s[i] := List.getElem?_eq_getElem hil
          have w2 : IntKind.i64.wrap (s[i].toNat : Int) = (s[i].toNat : Int) := wrap64 _ (by omega) (by have := s[i].toNat_lt; omega)
          have hst := lofR_step hil
          have hle := lofR_len (s.take i)
          simp only [List.length_take] at hle
          have ne : ∀ n : Nat, n < 256 → ¬ s[i] = UInt8.ofNat n → ¬ (s[i].toNat : Int) = n := fun n hn hne k => hne (by
            have k2 : s[i].toNat = n := by omega
            rw [← k2]; simp)
          by_cases c1 : s[i] = 87
          · have hst2 : lofR (s.take (i + 1)) = lofR (s.take i) ++ [wideF, ⟨0, 0, 0, 2, sty0⟩] := by rw [hst]; congr 1; unfold letF; simp [c1]
            rcases Nat.eq_zero_or_pos i with h0 | h0
            · subst h0
              have e0 : lofR (s.take 0) = [] := rfl
              rw [e0] at hst2
              simp [lofS, and_assoc, lwideSpec, q0, q1, s0, s1, hil, hg, w1, c1, celV, d24, bC]
              exact Next.mk 1 hil (by omega) (Weak.heap (by simp [hst2, celsC]) (by simp))
            · have h0' : ¬ i = 0 := by omega
              have hi1 : i - 1 + 1 = i := by omega
              simp [lofS, and_assoc, lwideSpec, q0, q1, s0, s1, hil, hg, w1, c1, h0', hi1, celV, d24, bC]
              exact ⟨by omega, by omega, Next.mk (i + 1) hil (by omega) (Weak.heap (by simp [hst2, celsC_app, celsC]) (by simp))⟩
          · have n1 : ¬ (s[i].toNat : Int) = 87 := ne 87 (by decide) c1
            by_cases c2 : s[i] = 46
            · have hst2 : lofR (s.take (i + 1)) = lofR (s.take i) ++ [⟨32, 0, 0, 0, sty0⟩] := by rw [hst]; congr 1; unfold letF; simp [c1, c2]
              rcases Nat.eq_zero_or_pos i with h0 | h0
              · subst h0
                have e0 : lofR (s.take 0) = [] := rfl
                rw [e0] at hst2
                simp [lofS, and_assoc, lwideSpec, q0, q1, s0, s1, hil, hg, w1, n1, c2, celV, d24, bC]
                exact Next.mk 1 hil (by omega) (Weak.heap (by simp [hst2, celsC]) (by simp))
              · have h0' : ¬ i = 0 := by omega
                have hi1 : i - 1 + 1 = i := by omega
                simp [lofS, and_assoc, lwideSpec, q0, q1, s0, s1, hil, hg, w1, n1, c2, h0', hi1, celV, d24, bC]
                exact ⟨by omega, by omega, Next.mk (i + 1) hil (by omega) (Weak.heap (by simp [hst2, celsC_app, celsC]) (by simp))⟩
            · have n2 : ¬ (s[i].toNat : Int) = 46 := ne 46 (by decide) c2
              by_cases c3 : s[i] = 66
              · have hst2 : lofR (s.take (i + 1)) = lofR (s.take i) ++ [⟨32, 0, 0, 0, ⟨1, 0, 0, 0, 0, 0, 0, 0⟩⟩] := by rw [hst]; congr 1; unfold letF; simp [c1, c2, c3]
                rcases Nat.eq_zero_or_pos i with h0 | h0
                · subst h0
                  have e0 : lofR (s.take 0) = [] := rfl
                  rw [e0] at hst2
                  simp [lofS, and_assoc, lwideSpec, q0, q1, s0, s1, hil, hg, w1, n1, n2, c3, celV, d24, bC]
                  exact Next.mk 1 hil (by omega) (Weak.heap (by simp [hst2, celsC]) (by simp))
                · have h0' : ¬ i = 0 := by omega
                  have hi1 : i - 1 + 1 = i := by omega
                  simp [lofS, and_assoc, lwideSpec, q0, q1, s0, s1, hil, hg, w1, n1, n2, c3, h0', hi1, celV, d24, bC]
                  exact ⟨by omega, by omega, Next.mk (i + 1) hil (by omega) (Weak.heap (by simp [hst2, celsC_app, celsC]) (by simp))⟩
              · have n3 : ¬ (s[i].toNat : Int) = 66 := ne 66 (by decide) c3
                have hst2 : lofR (s.take (i + 1)) = lofR (s.take i) ++ [⟨s[i].toNat, 0, 0, 0, sty0⟩] := by rw [hst]; congr 1; unfold letF; simp [c1, c2, c3]
                rcases Nat.eq_zero_or_pos i with h0 | h0
                · subst h0
                  have e0 : lofR (s.take 0) = [] := rfl
                  rw [e0] at hst2
                  simp [lofS, and_assoc, lwideSpec, q0, q1, s0, s1, hil, hg, w1, n1, n2, n3, w2, celV, d24, bC]
                  exact Next.mk 1 hil (by omega) (Weak.heap (by simp [hst2, celsC]) (by simp))
                · have h0' : ¬ i = 0 := by omega
                  have hi1 : i - 1 + 1 = i := by omega
                  simp [lofS, and_assoc, lwideSpec, q0, q1, s0, s1, hil, hg, w1, n1, n2, n3, w2, h0', hi1, celV, d24, bC]
                  exact ⟨by omega, by omega, Next.mk (i + 1) hil (by omega) (Weak.heap (by simp [hst2, celsC_app, celsC]) (by simp))⟩
        · obtain rfl : i = s.length := by omega
          have h0' : ¬ s = [] := fun k => by simp [k] at hs0
          simp [lofS, and_assoc, lwideSpec, h0', q0, q1, s0, s1]
          exact RetTo.same ⟨rfl, rfl⟩
    · exact hp.elim
end Fen

namespace Fen
open Go Go.Proofs

def of2HS : HS := twoHS lofRSpec lofHHS (fun _ h => h.isEmpty)
def of2Spec : Spec := { pre := fun _ => False, res := fun _ => .many [], hp := some of2HS }
theorem of2_sound (gl : Gl) : Sound Tryd.prog gl 31 of2Spec := Sound.two (lofR_sound gl) (lofH_sound gl) rfl _
theorem of2_wr : of2HS.wr = true := rfl
theorem of2_eff0 (s : List UInt8) : of2HS.eff [.val (.str s)] [] = (s.length ≤ 100, .agg (rowC ⟨lofR s, false⟩), []) := by
  simp [of2HS, twoHS, twoE, opCallS, lofRSpec, cvE, toVs, toV, toV1, imp, impC, V.x, C.x, V.str, rowV]
theorem of2_eff1 (s : List UInt8) (b : Blk) (h : List Blk) : of2HS.eff [.val (.str s)] (b :: h) = ((0 < s.length ∧ s.length ≤ 100), .recd [.ref ((b :: h).length + 1) (s.length - 1), .val (.bool false)],
      (b :: h) ++ [.box 27 [.ref ((b :: h).length + 1) (s.length - 1), .val (.bool false)], .sl 34 (s.length - 1) true 12 (lofR s).length (celsC (lofR s))]) := by
  simp [of2HS, twoHS, twoE, hcEff, lofHHS]

/-! ### the chapter's examples -/
def b1 : Sty := ⟨1, 0, 0, 0, 0, 0, 0, 0⟩
theorem ex0 : rowF ⟨lofR [97, 98, 87, 99, 46], false⟩ = 0 := by decide +kernel
theorem ex1 : putRowF ⟨lofR [97, 98, 87, 99, 46], false⟩ 3 ⟨120, 0, 0, 0, sty0⟩ = (⟨lofR [97, 98, 46, 120, 99, 46], false⟩, 0) := by decide +kernel
theorem ex2 : putRowF ⟨lofR [97, 98, 87, 99, 46], false⟩ 1 wideF = (⟨lofR [97, 87, 46, 99, 46], false⟩, 0) := by decide +kernel
theorem ex3 : eraseRowF ⟨lofR [97, 98, 87, 99, 46], false⟩ 3 4 b1 = (⟨lofR [97, 98, 66, 66, 99, 46], false⟩, 0) := by decide +kernel
theorem ex4 : shiftRowF true ⟨lofR [97, 98, 87, 99, 46], false⟩ 2 1 b1 = (⟨lofR [97, 98, 66, 87, 99], false⟩, 0) := by decide +kernel
theorem ex5 : shiftRowF true ⟨lofR [97, 98, 87, 99, 46], false⟩ 3 2 b1 = (⟨lofR [97, 98, 46, 66, 66, 46], false⟩, 0) := by decide +kernel
theorem ex6 : shiftRowF false ⟨lofR [97, 98, 87, 99, 46], false⟩ 1 2 b1 = (⟨lofR [97, 46, 99, 46, 66, 66], false⟩, 0) := by decide +kernel
theorem ex7 : markRowF ⟨lofR [97, 98, 87, 99, 46], false⟩ 3 769 = (⟨(lofR [97, 98, 87, 99, 46]).set 2 (setM (cat (lofR [97, 98, 87, 99, 46]) 2) 0 769), false⟩, 0) := by decide +kernel
theorem letF_ok (b : UInt8) : ∀ c ∈ letF b, c.ok := by
  intro c hc
  have : c.st.attr = 0 ∨ c.st.attr = 1 := by
    unfold letF at hc
    (repeat' split at hc) <;> simp at hc
    · rcases hc with rfl | rfl <;> simp [wideF, sty0]
    · subst hc; simp [sty0]
    · subst hc; simp
    · subst hc; simp [sty0]
  exact ⟨by omega, by omega⟩
theorem lofR_ok (s : List UInt8) (w : Bool) : Rw.ok ⟨lofR s, w⟩ := fun c hc => by
  simp only [lofR, List.mem_flatMap] at hc
  obtain ⟨b, _, hb⟩ := hc
  exact letF_ok b c hb
theorem b1_ok : b1.ok := ⟨by decide, by decide⟩
theorem b1_C : C.int .i64 1 :: (styC sty0).tail = styC b1 := rfl
theorem b1_C2 : [C.int .i64 1, C.int .i64 0, C.int .i64 0, C.int .i64 0, C.int .i64 0, C.int .i64 0, C.int .i64 0, C.int .i64 0] = styC b1 := rfl
theorem xC : C.int .i64 120 :: (celC cel0).tail = celC ⟨120, 0, 0, 0, sty0⟩ := rfl
def lworksSpec : Spec := { pre := fun args => args = [], res := fun _ => .one (.val (.c (.bool true))) }
def G_lworks : Specs := [(31, of2Spec), (32, lwideSpec), (16, putSpec), (23, eraseSpec), (25, insertSpec), (27, deleteSpec), (20, markSpec), (29, rowckSpec), (34, lisSpec), (30, sameSpec)]
@[simp] theorem G_lworks_live : Specs.live G_lworks = false := rfl
@[simp] theorem G_lworks_nils : Specs.nils G_lworks = false := rfl
@[simp] theorem G_lworks_froz : Specs.froz G_lworks = false := rfl
@[simp] theorem G_lworks_31 : G_lworks.find 31 = some of2Spec := rfl
@[simp] theorem G_lworks_32 : G_lworks.find 32 = some lwideSpec := rfl
@[simp] theorem G_lworks_16 : G_lworks.find 16 = some putSpec := rfl
@[simp] theorem G_lworks_23 : G_lworks.find 23 = some eraseSpec := rfl
@[simp] theorem G_lworks_25 : G_lworks.find 25 = some insertSpec := rfl
@[simp] theorem G_lworks_27 : G_lworks.find 27 = some deleteSpec := rfl
@[simp] theorem G_lworks_20 : G_lworks.find 20 = some markSpec := rfl
@[simp] theorem G_lworks_29 : G_lworks.find 29 = some rowckSpec := rfl
@[simp] theorem G_lworks_34 : G_lworks.find 34 = some lisSpec := rfl
@[simp] theorem G_lworks_30 : G_lworks.find 30 = some sameSpec := rfl
theorem G_lworks_ok : SpecsOK Tryd.prog glW G_lworks := .cons (of2_sound glW) (.cons (lwide_sound glW) (.cons put_sound (.cons erase_sound (.cons insert_sound (.cons delete_sound (.cons mark_sound (.cons rowck_sound (.cons (lis_sound glW) (.cons (same_sound glW) (.nil _ _))))))))))
set_option maxHeartbeats 4000000 in
set_option maxRecDepth 10000 in
theorem lworks_sound : Sound Tryd.prog glW 19 lworksSpec := by
  refine sound_fn (N := Tryd.f19.ntmps) (rs := Tryd.f19.results.toList) mixed tok G_lworks_ok Tryd.func19 rfl rfl rfl rfl rfl ?_ ?_ ?_
  · rintro args rfl; simp [Tryd.f19]
  · rintro args rfl; simp [lworksSpec, Tryd.f19]
  · rintro args rfl bs hgl hh hro
    have hE : Env.OK ⟨Tryd.prog, T, G_lworks, bs⟩ := ⟨tok, by rw [hgl]; exact G_lworks_ok⟩
    have e0 := ex0
    have e1 := ex1
    have e2 := ex2
    have e3 := ex3
    have e4 := ex4
    have e5 := ex5
    have e6 := ex6
    have e7 := ex7
    have hL6 : (lofR [97, 98, 87, 99, 46]).length = 6 := by decide +kernel
    have ok0 : Rw.ok ⟨lofR [97, 98, 87, 99, 46], false⟩ := lofR_ok _ _
    have okx : Cel.ok ⟨120, 0, 0, 0, sty0⟩ := ⟨by decide, by decide⟩
    have okw : Cel.ok wideF := ⟨by decide, by decide⟩
    have ln : ∀ s : List UInt8, s.length ≤ 6 → (lofR s).length ≤ 1000 := fun s h => by have := lofR_len s; omega
    have l1 : (lofR [97, 98, 46, 120, 99, 46]).length ≤ 1000 := ln _ (by decide)
    have l2 : (lofR [97, 87, 46, 99, 46]).length ≤ 1000 := ln _ (by decide)
    have l3 : (lofR [97, 98, 66, 66, 99, 46]).length ≤ 1000 := ln _ (by decide)
    have l4 : (lofR [97, 98, 66, 87, 99]).length ≤ 1000 := ln _ (by decide)
    have l5 : (lofR [97, 98, 46, 66, 66, 46]).length ≤ 1000 := ln _ (by decide)
    have l6 : (lofR [97, 46, 99, 46, 66, 66]).length ≤ 1000 := ln _ (by decide)
    obtain ⟨L, hL⟩ : ∃ l, lofR [97, 98, 87, 99, 46] = l := ⟨_, rfl⟩
    simp only [hL] at e0 e1 e2 e3 e4 e5 e6 e7 hL6 ok0
    obtain ⟨X1, hX1⟩ : ∃ l, lofR [97, 98, 46, 120, 99, 46] = l := ⟨_, rfl⟩
    simp only [hX1] at e1 l1
    obtain ⟨X2, hX2⟩ : ∃ l, lofR [97, 87, 46, 99, 46] = l := ⟨_, rfl⟩
    simp only [hX2] at e2 l2
    obtain ⟨X3, hX3⟩ : ∃ l, lofR [97, 98, 66, 66, 99, 46] = l := ⟨_, rfl⟩
    simp only [hX3] at e3 l3
    obtain ⟨X4, hX4⟩ : ∃ l, lofR [97, 98, 66, 87, 99] = l := ⟨_, rfl⟩
    simp only [hX4] at e4 l4
    obtain ⟨X5, hX5⟩ : ∃ l, lofR [97, 98, 46, 66, 66, 46] = l := ⟨_, rfl⟩
    simp only [hX5] at e5 l5
    obtain ⟨X6, hX6⟩ : ∃ l, lofR [97, 46, 99, 46, 66, 66] = l := ⟨_, rfl⟩
    simp only [hX6] at e6 l6
    have cm : List.take 25 (celsC L) ++ C.int .i64 769 :: List.drop 26 (celsC L) = celsC (L.set 2 (setM (cat L 2) 0 769)) := cels_mark (a := 2) (k := 0) 769 (by omega) (by omega)
    simp [and_assoc, lworksSpec, deleteSpec, eraseSpec, insertSpec, lisSpec, lwideSpec, markSpec, of2Spec, putSpec, rowckSpec, sameSpec, Tryd.f19, moveSpec, of2_wr, of2_eff0, of2_eff1, rowV, celV, styV, b1_C, b1_C2, xC, hL, hX1, hX2, hX3, hX4, hX5, hX6, e0, e1, e2, e3, e4, e5, e6, e7, ok0, okx, okw, b1_ok, l1, l2, l3, l4, l5, l6, hL6, cm]
    exact ⟨by decide +kernel, ⟨⟨L.set 2 (setM (cat L 2) 0 769), false⟩, by simp [rowC, hL6]⟩, by simp [rowOf]⟩
end Fen
