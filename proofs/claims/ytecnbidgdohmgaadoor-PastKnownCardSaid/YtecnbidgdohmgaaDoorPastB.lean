/- A part of the proof; no statement is proved here: PPastG, PPastH, PPastT, PPastI, PPastJ, PPastK. -/
import Derived.Test.YtecnbidgdohmgaaDoorPastA

set_option linter.unusedVariables false
set_option linter.unusedSimpArgs false

namespace Fen
open Go Go.Proofs

theorem chain_cells : ∀ (l : List Cel) (a : Cel), chainF a l = true → ∀ c ∈ l, cellF c = 0
  | [], _, _, c, hc => by simp at hc
  | x :: l, a, h, c, hc => by
    simp only [chainF, Bool.and_eq_true, Bool.not_eq_true'] at h
    rcases List.mem_cons.1 hc with rfl | hc
    · exact ((offF_iff _ _).1 h.1).1
    · exact chain_cells l x h.2 c hc
theorem cell_ok {c : Cel} (h : cellF c = 0) : c.ok := by
  have h1 : styF c.st = 0 := by
    unfold cellF at h
    split at h
    · cases h
    · rename_i q; simpa using q
  unfold styF at h1
  split at h1
  · cases h1
  · rename_i q
    show -9223372036854775808 ≤ c.st.attr ∧ c.st.attr ≤ 9223372036854775807
    omega
theorem row_ok {r : Rw} (h : rowF r = 0) : r.ok ∧ 2 ≤ r.cells.length ∧ r.cells.length ≤ 80 := by
  unfold rowF at h
  split at h
  · rename_i q; exact ⟨fun c hc => cell_ok (chain_cells _ _ q.2.2 c hc), q.1, q.2.1⟩
  · cases h
def Fin1 (p : List Rw) : Prop := ∀ r ∈ p, r.cells.length ≤ 1000
theorem okRows_ok {cols : Int} {p : List Rw} (h : okRows cols p = true) : RowsOK p ∧ Fin1 p := by
  simp only [okRows, List.all_eq_true, Bool.and_eq_true, decide_eq_true_eq] at h
  exact ⟨fun r hr => (row_ok (h r hr).2).1, fun r hr => by have := (row_ok (h r hr).2).2.2; omega⟩
theorem Fin1.sub {p q : List Rw} (h : Fin1 p) (k : ∀ r ∈ q, r ∈ p) : Fin1 q := fun r hr => h r (k r hr)
theorem Fin1.app {p q : List Rw} (h : Fin1 p) (k : Fin1 q) : Fin1 (p ++ q) := fun r hr => (List.mem_append.1 hr).elim (h r) (k r)
theorem Fin1.take {p : List Rw} (h : Fin1 p) (n : Nat) : Fin1 (p.take n) := h.sub fun r hr => List.mem_of_mem_take hr
theorem Fin1.drop {p : List Rw} (h : Fin1 p) (n : Nat) : Fin1 (p.drop n) := h.sub fun r hr => List.mem_of_mem_drop hr
theorem Fin1.nil : Fin1 [] := fun r hr => by simp at hr
theorem RowsOK.app {p q : List Rw} (h : RowsOK p) (k : RowsOK q) : RowsOK (p ++ q) := fun r hr => (List.mem_append.1 hr).elim (h r) (k r)
theorem RowsOK.take {p : List Rw} (h : RowsOK p) (n : Nat) : RowsOK (p.take n) := fun r hr => h r (List.mem_of_mem_take hr)
theorem RowsOK.drop {p : List Rw} (h : RowsOK p) (n : Nat) : RowsOK (p.drop n) := fun r hr => h r (List.mem_of_mem_drop hr)
theorem RowsOK.nil : RowsOK [] := fun r hr => by simp at hr
theorem pushF_fin {cols : Int} {p w : List Rw} (hp : Fin1 p) (hw : Fin1 w) : RowsFin (pushF cols p w).1 := by
  unfold pushF
  split
  · exact ⟨by simp, Fin1.nil⟩
  · exact ⟨by rw [joinF_len]; omega, (hp.app hw).drop _⟩
theorem pastF_len0 {cols : Int} {p : List Rw} (h : ¬ pastF cols p ≠ 0) : p.length ≤ 100 := pastF_len (Decidable.not_not.1 h)
theorem popF_fin {cols : Int} {p : List Rw} {n : Int} (hp : Fin1 p) : RowsFin (popF cols p n).1 ∧ RowsFin (popF cols p n).2.1 := by
  unfold popF
  split
  · exact ⟨⟨by simp, Fin1.nil⟩, ⟨by simp, Fin1.nil⟩⟩
  · rename_i h
    have := pastF_len0 h
    split
    · exact ⟨⟨by simp, Fin1.nil⟩, ⟨by simp, Fin1.nil⟩⟩
    · exact ⟨⟨by simp; omega, hp.take _⟩, ⟨by simp; omega, hp.drop _⟩⟩
theorem viewF_fin {cols : Int} {p w : List Rw} {n : Int} (hp : Fin1 p) (hw : Fin1 w) : RowsFin (viewF cols p w n).1 := by
  unfold viewF
  split
  · exact ⟨by simp, Fin1.nil⟩
  · rename_i h
    have := bothF_len (Decidable.not_not.1 h)
    split
    · exact ⟨by simp, Fin1.nil⟩
    · exact ⟨by simp; omega, ((hp.app hw).drop _).take _⟩

theorem lofF_ok (s : List UInt8) : RowsOK (lofF s) := fun r hr c hc => by
  simp only [lofF, List.mem_map] at hr
  obtain ⟨b, _, rfl⟩ := hr
  simp only [List.mem_cons, List.not_mem_nil, or_false] at hc
  rcases hc with rfl | rfl <;> (show (-9223372036854775808 : Int) ≤ 0 ∧ (0 : Int) ≤ 9223372036854775807; decide)
theorem lofF_fin1 (s : List UInt8) : Fin1 (lofF s) := fun r hr => by
  simp only [lofF, List.mem_map] at hr
  obtain ⟨b, _, rfl⟩ := hr
  simp
theorem lofF_fin {s : List UInt8} (h : s.length ≤ 1000) : RowsFin (lofF s) := ⟨by simp; omega, lofF_fin1 s⟩

def seenSpec : Spec := { pre := fun args => ∃ (p w : List UInt8) (n : Int) (want : List UInt8), args = [.c (.str p), .c (.str w), .c (.int .i64 n), .c (.str want)] ∧ p.length ≤ 1000 ∧ w.length ≤ 1000 ∧ want.length ≤ 1000 ∧ I64 n, res := fun args => match args with
  | [.c (.str p), .c (.str w), .c (.int _ n), .c (.str want)] => .one (.val (.c (.bool (seenF p w n want))))
  | _ => .many [] }
def G_seen : Specs := [(21, oflSpec), (18, viewSpec), (31, isSpec)]
@[simp] theorem G_seen_21 : G_seen.find 21 = some oflSpec := rfl
@[simp] theorem G_seen_18 : G_seen.find 18 = some viewSpec := rfl
@[simp] theorem G_seen_31 : G_seen.find 31 = some isSpec := rfl
theorem G_seen_ok : SpecsOK Tryd.prog glW G_seen := .cons (ofl_sound glW) (.cons view_sound (.cons (is_sound glW) (.nil _ _)))
set_option maxRecDepth 10000 in
theorem seen_sound : Sound Tryd.prog glW 32 seenSpec := by
  refine sound_fn (N := Tryd.f32.ntmps) (rs := Tryd.f32.results.toList) mixed tok G_seen_ok Tryd.func32 rfl rfl rfl rfl rfl ?_ ?_ ?_
  · rintro args ⟨p,w,n,want,rfl,h1,h2,h3,h4⟩; simp [Tryd.f32]
  · rintro args ⟨p,w,n,want,rfl,h1,h2,h3,h4⟩; simp [seenSpec, Tryd.f32]
  · rintro args ⟨p,w,n,want,rfl,h1,h2,h3,h4⟩ bs hgl hh hro
    have hE : Env.OK ⟨Tryd.prog, T, G_seen, bs⟩ := ⟨tok, by rw [hgl]; exact G_seen_ok⟩
    simp only [seenSpec]
    unfold seenF
    have hf := viewF_fin (cols := 2) (n := n) (lofF_fin1 p) (lofF_fin1 w)
    obtain ⟨v, hv⟩ : ∃ v, viewF 2 (lofF p) (lofF w) n = v := ⟨_, rfl⟩
    rw [hv] at hf ⊢
    rcases Decidable.em (v.2 = 0) with q | q
    · simp [and_assoc, seenSpec, isSpec, oflSpec, viewSpec, Tryd.f32, h1, h2, h3, h4, lofF_ok, hv, hf, q]
    · simp [and_assoc, seenSpec, isSpec, oflSpec, viewSpec, Tryd.f32, h1, h2, h3, h4, lofF_ok, hv, hf, q]

def worksSpec : Spec := { pre := fun args => args = [], res := fun _ => .one (.val (.c (.bool true))) }
def as_ (n : Nat) : List UInt8 := List.replicate n 97
theorem as_succ (n : Nat) : as_ n ++ [97] = as_ (n + 1) := by simp [as_, List.replicate_succ']
@[simp] theorem as_len (n : Nat) : (as_ n).length = n := by simp [as_]
def worksS (i : Nat) : St :=
  ⟨116, [(1, .val (.sl 3 (rowsC (lofF [97, 98, 99])))), (2, .val (.int .i64 0)), (3, .val (.sl 1 (rowsC (lofF [97])))), (4, .val (.sl 2 (rowsC (lofF [98, 99])))), (5, .val (.int .i64 0)), (6, .val (.sl 0 [])), (7, .val (.sl 3 (rowsC (lofF [97, 98, 99])))), (8, .val (.int .i64 0)), (9, .val (.str (as_ i))), (10, .val (.int .i64 i))], []⟩
def G_works : Specs := [(21, oflSpec), (10, pushSpec), (16, popSpec), (31, isSpec), (13, pastckSpec), (32, seenSpec)]
@[simp] theorem G_works_21 : G_works.find 21 = some oflSpec := rfl
@[simp] theorem G_works_10 : G_works.find 10 = some pushSpec := rfl
@[simp] theorem G_works_16 : G_works.find 16 = some popSpec := rfl
@[simp] theorem G_works_31 : G_works.find 31 = some isSpec := rfl
@[simp] theorem G_works_13 : G_works.find 13 = some pastckSpec := rfl
@[simp] theorem G_works_32 : G_works.find 32 = some seenSpec := rfl
theorem G_works_ok : SpecsOK Tryd.prog glW G_works := .cons (ofl_sound glW) (.cons push_sound (.cons pop_sound (.cons (is_sound glW) (.cons pastck_sound (.cons seen_sound (.nil _ _))))))
set_option maxHeartbeats 2000000 in
set_option maxRecDepth 10000 in
theorem works_sound : Sound Tryd.prog glW 15 worksSpec := by
  refine sound_fn (N := Tryd.f15.ntmps) (rs := Tryd.f15.results.toList) mixed tok G_works_ok Tryd.func15 rfl rfl rfl rfl rfl ?_ ?_ ?_
  · rintro args rfl; simp [Tryd.f15]
  · rintro args rfl; simp [worksSpec, Tryd.f15]
  · rintro args rfl bs hgl hh hro
    have hE : Env.OK ⟨Tryd.prog, T, G_works, bs⟩ := ⟨tok, by rw [hgl]; exact G_works_ok⟩
    have e1 : pushF 2 (lofF [97, 98]) (lofF [99]) = (lofF [97, 98, 99], 0) := by decide +kernel
    have e2 : popF 2 (lofF [97, 98, 99]) 2 = (lofF [97], lofF [98, 99], 0) := by decide +kernel
    have e3 : popF 2 (lofF [97, 98, 99]) 9 = ([], lofF [97, 98, 99], 0) := by decide +kernel
    have e4 : pushF 2 (lofF (as_ 99)) (lofF [98, 99]) = (lofF ((as_ 99).tail ++ [98, 99]), 0) := by decide +kernel
    have e5 : popF 2 (lofF [97, 98, 99]) (-1) = ([], [], 2) := by decide +kernel
    have e6 : pastF 81 [] = 2 := by decide +kernel
    have e7 : seenF [97, 98, 99] [100, 100] 0 [100, 100] = true := by decide +kernel
    have e8 : seenF [97, 98, 99] [100, 100] 1 [99, 100] = true := by decide +kernel
    have e9 : seenF [97, 98, 99] [100, 100] 2 [98, 99] = true := by decide +kernel
    have e10 : seenF [97, 98, 99] [100, 100] 9 [97, 98] = true := by decide +kernel
    have i2 : I64 2 := by constructor <;> decide
    have i9 : I64 9 := by constructor <;> decide
    have i1 : I64 (-1) := by constructor <;> decide
    have i0 : I64 0 := by constructor <;> decide
    have i3 : I64 1 := by constructor <;> decide
    simp [and_assoc, worksSpec, isSpec, oflSpec, pastckSpec, popSpec, pushSpec, seenSpec, Tryd.f15, lofF_ok, e1, e2, e3, i2, i9]
    refine AWP.rounds (fun i => i ≤ 99) worksS (fun i => 99 - i) 0 (by simp) ?_ ?_
    · refine Weak.ren [] (baseOK.nil hh) (by simp) (by simp) ?_
      simp [worksS, as_]
    · intro i hi
      refine wpc_ok hE mixed _ _ _ ?_
      by_cases h : i < 99
      · have w1 : IntKind.i64.wrap ((i : Int) + 1) = i + 1 := wrap64 _ (by omega) (by omega)
        have h' : (i : Int) < 99 := by omega
        simp [worksS, h', w1]
        exact ⟨by omega, Next.mk (i + 1) (by omega) (by omega) (Weak.keep (by simp [worksS, as_succ]))⟩
      · obtain rfl : i = 99 := by omega
        have f1 : RowsFin (lofF [97, 98, 99]) := lofF_fin (by decide)
        have f2 : RowsFin (lofF [97]) := lofF_fin (by decide)
        have f3 : RowsFin (lofF [98, 99]) := lofF_fin (by decide)
        have f4 : RowsFin [] := ⟨by simp, Fin1.nil⟩
        have f5 : RowsFin (lofF ((as_ 99).tail ++ [98, 99])) := lofF_fin (by simp)
        have o1 : RowsOK [] := RowsOK.nil
        have e0 : lofF [] = [] := rfl
        have r0 : rowsOf [] = [] := rfl
        have t99 : List.take 99 (as_ 99) = as_ 99 := by decide +kernel
        have x1 : (∃ l : List Rw, rowsC l = [] ∧ 0 = l.length ∧ RowsFin l) := ⟨[], rfl, rfl, f4⟩
        have x2 : (∃ l : List Rw, rowsC l = [] ∧ 0 = l.length ∧ RowsOK l) := ⟨[], rfl, rfl, o1⟩
        simp [worksS, and_assoc, isSpec, oflSpec, pastckSpec, popSpec, pushSpec, seenSpec, lofF_ok, e1, e2, e3, e4, e5, e6, e7, e8, e9, e10, i2, i9, i0, i1, i3, f1, f2, f3, f4, f5, o1, e0, r0, t99, x1, x2]
end Fen

namespace Fen
open Go Go.Proofs

theorem oddF_ok {r : Rw} (h : r.ok) : (oddF r).ok := fun c hc => h c (List.mem_of_mem_take hc)
theorem oddF_fin (r : Rw) : (oddF r).cells.length ≤ 1000 := by simp [oddF]; omega
theorem letters_rows {cols : Int} (h : 2 ≤ cols ∧ cols ≤ 80) (l : List Int) : RowsOK (lettersF cols l) ∧ Fin1 (lettersF cols l) := okRows_ok (letters_ok h l)
theorem mem_putF {l : List Rw} {k : Nat} {r x : Rw} (h : x ∈ putF l k r) : x ∈ l ∨ x = r := by
  simp only [putF] at h
  exact (List.mem_or_eq_of_mem_set h)
theorem case_rows (c : Cas) (h : c.ok) : RowsOK c.oldF ∧ Fin1 c.oldF ∧ RowsOK c.newF ∧ Fin1 c.newF := by
  obtain ⟨_, _, _, _, _, ho, _, _⟩ := h
  have h1 := letters_rows (clamp_ok c.cf) (c.old.take 30)
  have h2 := letters_rows (clamp_ok c.cf) (c.new.take 40)
  have g1 : RowsOK c.olds ∧ Fin1 c.olds := by
    constructor
    · intro r hr
      simp only [Cas.olds, List.mem_flatten, List.mem_replicate] at hr
      obtain ⟨l, ⟨_, rfl⟩, hr⟩ := hr
      exact h1.1 r hr
    · intro r hr
      simp only [Cas.olds, List.mem_flatten, List.mem_replicate] at hr
      obtain ⟨l, ⟨_, rfl⟩, hr⟩ := hr
      exact h1.2 r hr
  have put : ∀ (l : List Rw) (k : Nat), RowsOK l → Fin1 l → RowsOK (putF l k (oddF c.odd)) ∧ Fin1 (putF l k (oddF c.odd)) := fun l k a b =>
    ⟨fun r hr => (mem_putF hr).elim (a r) (fun e => e ▸ oddF_ok ho), fun r hr => (mem_putF hr).elim (b r) (fun e => e ▸ oddF_fin _)⟩
  unfold Cas.oldF Cas.newF
  refine ⟨?_, ?_, ?_, ?_⟩
  · split
    · exact (put _ _ g1.1 g1.2).1
    · exact g1.1
  · split
    · exact (put _ _ g1.1 g1.2).2
    · exact g1.2
  · split
    · exact (put _ _ h2.1 h2.2).1
    · exact h2.1
  · split
    · exact (put _ _ h2.1 h2.2).2
    · exact h2.2
theorem case_cols (c : Cas) (h : c.ok) : I64 c.cf := by
  obtain ⟨⟨a, b⟩, _⟩ := h
  unfold Cas.cf
  split
  · constructor <;> omega
  · exact ⟨a, b⟩

def lawPushesSpec : Spec := { pre := fun args => ∃ c : Cas, args = [.agg (casC c)] ∧ c.ok, res := fun _ => .one (.val (.c (.bool true))) }
def G_lawPushes : Specs := [(9, caseSpec), (10, pushSpec), (11, pushSpec), (12, samesSpec), (13, pastckSpec), (14, pastckSpec), (15, worksSpec)]
@[simp] theorem G_lawPushes_9 : G_lawPushes.find 9 = some caseSpec := rfl
@[simp] theorem G_lawPushes_10 : G_lawPushes.find 10 = some pushSpec := rfl
@[simp] theorem G_lawPushes_11 : G_lawPushes.find 11 = some pushSpec := rfl
@[simp] theorem G_lawPushes_12 : G_lawPushes.find 12 = some samesSpec := rfl
@[simp] theorem G_lawPushes_13 : G_lawPushes.find 13 = some pastckSpec := rfl
@[simp] theorem G_lawPushes_14 : G_lawPushes.find 14 = some pastckSpec := rfl
@[simp] theorem G_lawPushes_15 : G_lawPushes.find 15 = some worksSpec := rfl
theorem G_lawPushes_ok : SpecsOK Tryd.prog glW G_lawPushes := .cons (case_sound glW) (.cons push_sound (.cons (rpush_sound glW) (.cons (sames_sound glW) (.cons pastck_sound (.cons (rpastck_sound glW) (.cons works_sound (.nil _ _)))))))
set_option maxRecDepth 10000 in
theorem lawPushes_sound : Sound Tryd.prog glW 3 lawPushesSpec := by
  refine sound_fn (N := Tryd.f3.ntmps) (rs := Tryd.f3.results.toList) mixed tok G_lawPushes_ok Tryd.func3 rfl rfl rfl rfl rfl ?_ ?_ ?_
  · rintro args ⟨c,rfl,h⟩; simp [Tryd.f3]
  · rintro args ⟨c,rfl,h⟩; simp [lawPushesSpec, Tryd.f3]
  · rintro args ⟨c,rfl,h⟩ bs hgl hh hro
    have hE : Env.OK ⟨Tryd.prog, T, G_lawPushes, bs⟩ := ⟨tok, by rw [hgl]; exact G_lawPushes_ok⟩
    obtain ⟨r1, r2, r3, r4⟩ := case_rows c h
    have ec : ∃ c', casC c = casC c' ∧ c'.ok := ⟨c, rfl, h⟩
    have hf := pushF_fin (cols := c.cf) r2 r4
    have s1 : casOf (casC c) = c := casOf_C c
    simp only [lawPushesSpec]
    simp [and_assoc, lawPushesSpec, caseSpec, pastckSpec, pushSpec, samesSpec, worksSpec, Tryd.f3, h, ec, r1, r3, hf]


def lawPopsSpec : Spec := { pre := fun args => ∃ (c : Cas) (n : Int), args = [.agg (casC c), .c (.int .i64 n)] ∧ c.ok ∧ I64 n, res := fun _ => .one (.val (.c (.bool true))) }
def G_lawPops : Specs := [(9, caseSpec), (16, popSpec), (17, popSpec), (12, samesSpec), (15, worksSpec)]
@[simp] theorem G_lawPops_9 : G_lawPops.find 9 = some caseSpec := rfl
@[simp] theorem G_lawPops_16 : G_lawPops.find 16 = some popSpec := rfl
@[simp] theorem G_lawPops_17 : G_lawPops.find 17 = some popSpec := rfl
@[simp] theorem G_lawPops_12 : G_lawPops.find 12 = some samesSpec := rfl
@[simp] theorem G_lawPops_15 : G_lawPops.find 15 = some worksSpec := rfl
theorem G_lawPops_ok : SpecsOK Tryd.prog glW G_lawPops := .cons (case_sound glW) (.cons pop_sound (.cons (rpop_sound glW) (.cons (sames_sound glW) (.cons works_sound (.nil _ _)))))
set_option maxHeartbeats 1000000 in
set_option maxRecDepth 10000 in
theorem lawPops_sound : Sound Tryd.prog glW 4 lawPopsSpec := by
  refine sound_fn (N := Tryd.f4.ntmps) (rs := Tryd.f4.results.toList) mixed tok G_lawPops_ok Tryd.func4 rfl rfl rfl rfl rfl ?_ ?_ ?_
  · rintro args ⟨c,n,rfl,h,hn⟩; simp [Tryd.f4]
  · rintro args ⟨c,n,rfl,h,hn⟩; simp [lawPopsSpec, Tryd.f4]
  · rintro args ⟨c,n,rfl,h,hn⟩ bs hgl hh hro
    have hE : Env.OK ⟨Tryd.prog, T, G_lawPops, bs⟩ := ⟨tok, by rw [hgl]; exact G_lawPops_ok⟩
    obtain ⟨r1, r2, r3, r4⟩ := case_rows c h
    have ec : ∃ c', casC c = casC c' ∧ c'.ok := ⟨c, rfl, h⟩
    have wu : IntKind.u64.wrap n = n % 18446744073709551616 := by simp [IntKind.wrap, IntKind.signed, IntKind.bits]
    have et : (n % 18446744073709551616).tmod 130 = n % 18446744073709551616 % 130 := Int.tmod_eq_emod_of_nonneg (by omega)
    have w1 : IntKind.i64.wrap (n % 18446744073709551616 % 130) = n % 18446744073709551616 % 130 := wrap64 _ (by omega) (by omega)
    obtain ⟨m, hm⟩ : ∃ m, n % 18446744073709551616 % 130 = m := ⟨_, rfl⟩
    have i1 : I64 m := by constructor <;> omega
    have wm : IntKind.i64.wrap m = m := wrap64 _ i1.1 i1.2
    have i0 : I64 0 := by constructor <;> decide
    have p1 := fun k => (popF_fin (cols := c.cf) (n := k) r2).1
    have p2 := fun k => (popF_fin (cols := c.cf) (n := k) r2).2
    simp only [lawPopsSpec]
    simp [and_assoc, lawPopsSpec, caseSpec, popSpec, samesSpec, worksSpec, Tryd.f4, h, ec, wu, et, w1, hm]
    refine AWP.unroll hE mixed 4 ?_
    simp [and_assoc, caseSpec, popSpec, samesSpec, worksSpec, r1, hn, wm, i1, i0, p1, p2]


def lawViewsSpec : Spec := lawPopsSpec
def G_lawViews : Specs := [(9, caseSpec), (18, viewSpec), (19, viewSpec), (12, samesSpec), (15, worksSpec)]
@[simp] theorem G_lawViews_9 : G_lawViews.find 9 = some caseSpec := rfl
@[simp] theorem G_lawViews_18 : G_lawViews.find 18 = some viewSpec := rfl
@[simp] theorem G_lawViews_19 : G_lawViews.find 19 = some viewSpec := rfl
@[simp] theorem G_lawViews_12 : G_lawViews.find 12 = some samesSpec := rfl
@[simp] theorem G_lawViews_15 : G_lawViews.find 15 = some worksSpec := rfl
theorem G_lawViews_ok : SpecsOK Tryd.prog glW G_lawViews := .cons (case_sound glW) (.cons view_sound (.cons (rview_sound glW) (.cons (sames_sound glW) (.cons works_sound (.nil _ _)))))
set_option maxHeartbeats 1000000 in
set_option maxRecDepth 10000 in
theorem lawViews_sound : Sound Tryd.prog glW 5 lawPopsSpec := by
  refine sound_fn (N := Tryd.f5.ntmps) (rs := Tryd.f5.results.toList) mixed tok G_lawViews_ok Tryd.func5 rfl rfl rfl rfl rfl ?_ ?_ ?_
  · rintro args ⟨c,n,rfl,h,hn⟩; simp [Tryd.f5]
  · rintro args ⟨c,n,rfl,h,hn⟩; simp [lawPopsSpec, Tryd.f5]
  · rintro args ⟨c,n,rfl,h,hn⟩ bs hgl hh hro
    have hE : Env.OK ⟨Tryd.prog, T, G_lawViews, bs⟩ := ⟨tok, by rw [hgl]; exact G_lawViews_ok⟩
    obtain ⟨r1, r2, r3, r4⟩ := case_rows c h
    have ec : ∃ c', casC c = casC c' ∧ c'.ok := ⟨c, rfl, h⟩
    have wu : IntKind.u64.wrap n = n % 18446744073709551616 := by simp [IntKind.wrap, IntKind.signed, IntKind.bits]
    have et : (n % 18446744073709551616).tmod 130 = n % 18446744073709551616 % 130 := Int.tmod_eq_emod_of_nonneg (by omega)
    have w1 : IntKind.i64.wrap (n % 18446744073709551616 % 130) = n % 18446744073709551616 % 130 := wrap64 _ (by omega) (by omega)
    obtain ⟨m, hm⟩ : ∃ m, n % 18446744073709551616 % 130 = m := ⟨_, rfl⟩
    have i1 : I64 m := by constructor <;> omega
    have wm : IntKind.i64.wrap m = m := wrap64 _ i1.1 i1.2
    have i0 : I64 0 := by constructor <;> decide
    have p1 := fun k => viewF_fin (cols := c.cf) (n := k) r2 r4
    simp only [lawPopsSpec]
    simp [and_assoc, lawPopsSpec, caseSpec, samesSpec, viewSpec, worksSpec, Tryd.f5, h, ec, wu, et, w1, hm]
    refine AWP.unroll hE mixed 4 ?_
    simp [and_assoc, caseSpec, samesSpec, viewSpec, worksSpec, r1, r3, hn, wm, i1, i0, p1]

end Fen

namespace Fen
open Go Go.Proofs

theorem celsC_flatMap (l : List Cel) : l.flatMap celC = celsC l := by
  induction l with
  | nil => rfl
  | cons c l ih => rw [List.flatMap_cons, ih]; rfl
theorem typed_i64 {d : Nat} {p : List C} (h : Typed T d 3 p) : ∃ n, p = [.int .i64 n] ∧ I64 n := by
  obtain ⟨n, rfl, q⟩ := typed_int T_3 h
  exact ⟨n, rfl, i64_of q⟩
theorem typed_u8 {d : Nat} {p : List C} (h : Typed T d 5 p) : ∃ n, p = [.int .u8 n] ∧ 0 ≤ n ∧ n < 256 := by
  obtain ⟨n, rfl, q⟩ := typed_int T_5 h
  exact ⟨n, rfl, u8_of q⟩
theorem typed_color {d : Nat} {p : List C} (h : Typed T d 67 p) : ∃ a b : Int, p = [.int .i64 a, .int .i64 b] := by
  obtain ⟨d', parts, rfl, hk⟩ := typed_struct T_67 h
  match parts, hk with
  | [p0, p1], ⟨h0, h1, _⟩ =>
    obtain ⟨a, rfl, _⟩ := typed_i64 h0
    obtain ⟨b, rfl, _⟩ := typed_i64 h1
    exact ⟨a, b, rfl⟩
theorem typed_sty {d : Nat} {p : List C} (h : Typed T d 69 p) : ∃ s : Sty, p = styC s ∧ s.ok := by
  obtain ⟨d', parts, rfl, hk⟩ := typed_struct T_69 h
  match parts, hk with
  | [p0, p1, p2, p3, p4], ⟨h0, h1, h2, h3, h4, _⟩ =>
    obtain ⟨a, rfl, qa⟩ := typed_i64 h0
    obtain ⟨b, rfl, _⟩ := typed_i64 h1
    obtain ⟨c0, c1, rfl⟩ := typed_color h2
    obtain ⟨d0, d1, rfl⟩ := typed_color h3
    obtain ⟨e0, e1, rfl⟩ := typed_color h4
    exact ⟨⟨a, b, c0, c1, d0, d1, e0, e1⟩, rfl, qa⟩
theorem typed_marks {d : Nat} {p : List C} (h : Typed T d 65 p) : ∃ a b : Int, p = [.int .i64 a, .int .i64 b] := by
  obtain ⟨d', parts, rfl, hl, hk⟩ := typed_array T_65 h
  match parts, hl with
  | [p0, p1], _ =>
    obtain ⟨a, rfl, _⟩ := typed_i64 (hk p0 (by simp))
    obtain ⟨b, rfl, _⟩ := typed_i64 (hk p1 (by simp))
    exact ⟨a, b, rfl⟩
theorem typed_cel {d : Nat} {p : List C} (h : Typed T d 71 p) : ∃ c : Cel, p = celC c ∧ c.ok := by
  obtain ⟨d', parts, rfl, hk⟩ := typed_struct T_71 h
  match parts, hk with
  | [p0, p1, p2, p3], ⟨h0, h1, h2, h3, _⟩ =>
    obtain ⟨a, rfl, _⟩ := typed_i64 h0
    obtain ⟨m0, m1, rfl⟩ := typed_marks h1
    obtain ⟨w, rfl, _⟩ := typed_i64 h2
    obtain ⟨s, rfl, qs⟩ := typed_sty h3
    exact ⟨⟨a, m0, m1, w, s⟩, by simp, qs⟩
theorem typed_row {d : Nat} {p : List C} (h : Typed T d 25 p) : ∃ r : Rw, p = rowC r ∧ r.ok ∧ r.cells.length ≤ maxLen := by
  obtain ⟨d', parts, rfl, hk⟩ := typed_struct T_25 h
  match parts, hk with
  | [p0, p1], ⟨h0, h1, _⟩ =>
    obtain ⟨l, rfl, hl, ql⟩ := typed_slice_of T_23 (fun d p h => typed_cel h) h0
    obtain ⟨w, rfl⟩ := typed_bool T_4 h1
    exact ⟨⟨l, w⟩, by simp [rowC, celsC_flatMap], ql, hl⟩
theorem typed_bytes {d : Nat} {p : List C} (h : Typed T d 22 p) : ∃ l : List Int, p = [.sl l.length (ints .u8 l)] ∧ l.length ≤ maxLen ∧ Bytes l := by
  obtain ⟨l, rfl, hl, ql⟩ := typed_slice_of (en := fun n : Int => [C.int .u8 n]) T_22 (fun d p h => typed_u8 h) h
  exact ⟨l, by rw [flatMap_ints], hl, ql⟩
theorem typed_cas {d : Nat} {p : List C} (h : Typed T d 27 p) : ∃ c : Cas, p = casC c ∧ c.ok := by
  obtain ⟨d', parts, rfl, hk⟩ := typed_struct T_27 h
  match parts, hk with
  | [p0, p1, p2, p3, p4, p5, p6, p7], ⟨h0, h1, h2, h3, h4, h5, h6, h7, _⟩ =>
    obtain ⟨a, rfl, qa⟩ := typed_i64 h0
    obtain ⟨b, rfl, _, qb⟩ := typed_bytes h1
    obtain ⟨c, rfl, _, qc⟩ := typed_bytes h2
    obtain ⟨m, rfl, qm1, qm2⟩ := typed_u8 h3
    obtain ⟨r, rfl, qr, _⟩ := typed_row h4
    obtain ⟨k, rfl, qk1, qk2⟩ := typed_u8 h5
    obtain ⟨s, rfl⟩ := typed_bool T_4 h6
    obtain ⟨f, rfl⟩ := typed_bool T_4 h7
    exact ⟨⟨a, b, c, m, r, k, s, f⟩, rfl, qa, qb, qc, qm1, qm2, qr, qk1, qk2⟩
theorem arg_cas {A : V} (h : TypedV T 27 A) : ∃ c : Cas, A = .agg (casC c) ∧ c.ok := by
  obtain ⟨d, ks, rfl, hk⟩ := arg_agg T_27 rfl h
  obtain ⟨c, rfl, hc⟩ := typed_cas hk
  exact ⟨c, rfl, hc⟩
theorem arg_bytes {A : V} (h : TypedV T 22 A) : ∃ l : List Int, A = bytesV l ∧ l.length ≤ maxLen ∧ Bytes l := by
  obtain ⟨l, rfl, hl, ql⟩ := arg_slice_of (en := fun n : Int => [C.int .u8 n]) T_22 (fun d p h => typed_u8 h) h
  exact ⟨l, by rw [flatMap_ints]; rfl, hl, ql⟩
end Fen

namespace Fen
open Go Go.Proofs

theorem bothF_ok {cols : Int} {p w : List Rw} (h : 2 ≤ cols ∧ cols ≤ 80) (hp : p.length ≤ 100) (hw : w.length ≤ 100) (op : okRows cols p = true) (ow : okRows cols w = true) : bothF cols p w = 0 := by
  unfold bothF
  rw [pastF_ok h hp op, pastF_ok h hw ow]; rfl
theorem viewF_ok {cols : Int} {p w : List Rw} (h : 2 ≤ cols ∧ cols ≤ 80) (hp : p.length ≤ 100) (hw : w.length ≤ 100) (op : okRows cols p = true) (ow : okRows cols w = true) (n : Nat) :
    viewF cols p w n = (((p ++ w).drop (p.length - n)).take w.length, 0) := by
  unfold viewF
  rw [if_neg (by rw [bothF_ok h hp hw op ow]; simp), if_neg (by omega), Int.toNat_natCast]
theorem pushF_ok {cols : Int} {p w : List Rw} (h : 2 ≤ cols ∧ cols ≤ 80) (hp : p.length ≤ 100) (hw : w.length ≤ 100) (op : okRows cols p = true) (ow : okRows cols w = true) : pushF cols p w = (joinF p w, 0) := by
  unfold pushF
  rw [if_neg (by rw [bothF_ok h hp hw op ow]; simp)]
theorem popF_ok {cols : Int} {p : List Rw} (h : 2 ≤ cols ∧ cols ≤ 80) (hp : p.length ≤ 100) (op : okRows cols p = true) (n : Nat) : popF cols p n = (p.take (p.length - n), p.drop (p.length - n), 0) := by
  unfold popF
  rw [if_neg (by rw [pastF_ok h hp op]; simp), if_neg (by omega), Int.toNat_natCast]
theorem okRows_join {cols : Int} {p w : List Rw} (op : okRows cols p = true) (ow : okRows cols w = true) : okRows cols (joinF p w) = true := okRows_drop (by rw [okRows_app, op, ow]; rfl) _

/-! the plain law of Looks -/
theorem view_one (p w : List Rw) (n : Nat) (hn : n < p.length) (hw : 0 < w.length) :
    (((p ++ w).drop (p.length - n)).take w.length).take (w.length - 1) = (((p ++ w).drop (p.length - (n + 1))).take w.length).drop 1 := by
  rw [List.take_take, List.drop_take, List.drop_drop]
  congr 1
  · omega
  · congr 1; omega
theorem view_top (p w : List Rw) (n : Nat) (hn : n < p.length) (hw : 0 < w.length) :
    (((p ++ w).drop (p.length - (n + 1))).take w.length).take 1 = (p.take (p.length - n)).drop (p.length - n - 1) := by
  rw [List.take_take, Nat.min_eq_left (by omega), List.drop_append_of_le_length (by omega), List.take_append_of_le_length (by simp; omega), List.drop_take]
  congr 1
  omega

def lawLooksSpec : Spec := { pre := fun args => ∃ (cols off : Int) (old rows : List Int), args = [.c (.int .u8 cols), bytesV old, bytesV rows, .c (.int .u8 off)] ∧ 0 ≤ cols ∧ cols < 256 ∧ 0 ≤ off ∧ off < 256 ∧ Bytes old ∧ Bytes rows, res := fun _ => .one (.val (.c (.bool true))) }
def G_lawLooks : Specs := [(20, rowsSpec), (18, viewSpec), (12, samesSpec), (15, worksSpec)]
@[simp] theorem G_lawLooks_20 : G_lawLooks.find 20 = some rowsSpec := rfl
@[simp] theorem G_lawLooks_18 : G_lawLooks.find 18 = some viewSpec := rfl
@[simp] theorem G_lawLooks_12 : G_lawLooks.find 12 = some samesSpec := rfl
@[simp] theorem G_lawLooks_15 : G_lawLooks.find 15 = some worksSpec := rfl
theorem G_lawLooks_ok : SpecsOK Tryd.prog glW G_lawLooks := .cons (rows_sound glW) (.cons view_sound (.cons (sames_sound glW) (.cons works_sound (.nil _ _))))
set_option maxHeartbeats 2000000 in
set_option maxRecDepth 10000 in
theorem lawLooks_sound : Sound Tryd.prog glW 7 lawLooksSpec := by
  refine sound_fn (N := Tryd.f7.ntmps) (rs := Tryd.f7.results.toList) mixed tok G_lawLooks_ok Tryd.func7 rfl rfl rfl rfl rfl ?_ ?_ ?_
  · rintro args ⟨cols,off,old,rows,rfl,hc0,hc1,hf0,hf1,hb1,hb2⟩; simp [bytesV, Tryd.f7]
  · rintro args ⟨cols,off,old,rows,rfl,hc0,hc1,hf0,hf1,hb1,hb2⟩; simp [bytesV, lawLooksSpec, Tryd.f7]
  · rintro args ⟨cols,off,old,rows,rfl,hc0,hc1,hf0,hf1,hb1,hb2⟩ bs hgl hh hro
    have hE : Env.OK ⟨Tryd.prog, T, G_lawLooks, bs⟩ := ⟨tok, by rw [hgl]; exact G_lawLooks_ok⟩
    simp only [lawLooksSpec, bytesV]
    have w0 : IntKind.i64.wrap cols = cols := wrap64 _ (by omega) (by omega)
    have e0 : cols.tmod 79 = cols % 79 := Int.tmod_eq_emod_of_nonneg hc0
    obtain ⟨C, hC⟩ : ∃ C, 2 + cols % 79 = C := ⟨_, rfl⟩
    have hC2 : 2 ≤ C ∧ C ≤ 80 := by omega
    have w1 : IntKind.i64.wrap C = C := wrap64 _ (by omega) (by omega)
    have em1 : (if 100 < (old.length : Int) then (100 : Int) else old.length) = ((min old.length 100 : Nat) : Int) := by split <;> omega
    have em2 : (if 40 < (rows.length : Int) then (40 : Int) else rows.length) = ((min rows.length 40 : Nat) : Int) := by split <;> omega
    have t1 := take_min' old 100
    have t2 := take_min' rows 40
    have b1 : Bytes (old.take 100) := fun x hx => hb1 x (List.mem_of_mem_take hx)
    have b2 : Bytes (rows.take 40) := fun x hx => hb2 x (List.mem_of_mem_take hx)
    obtain ⟨p, hp⟩ : ∃ p, lettersF C (old.take 100) = p := ⟨_, rfl⟩
    obtain ⟨w, hw⟩ : ∃ w, lettersF C (rows.take 40) = w := ⟨_, rfl⟩
    have hpl : p.length ≤ 100 := by rw [← hp, letters_len, List.length_take]; omega
    have hwl : w.length ≤ 40 := by rw [← hw, letters_len, List.length_take]; omega
    have op : okRows C p = true := by rw [← hp]; exact letters_ok hC2 _
    have ow : okRows C w = true := by rw [← hw]; exact letters_ok hC2 _
    obtain ⟨r1, r2⟩ := okRows_ok op
    obtain ⟨r3, r4⟩ := okRows_ok ow
    have w2 : IntKind.i64.wrap off = off := wrap64 _ (by omega) (by omega)
    have e2 : off.tmod 120 = off % 120 := Int.tmod_eq_emod_of_nonneg hf0
    obtain ⟨n, hn⟩ : ∃ n : Nat, off % 120 = n := ⟨(off % 120).toNat, by omega⟩
    have hn2 : n < 120 := by omega
    have w3 : IntKind.i64.wrap ((n : Int) + 1) = ((n + 1 : Nat) : Int) := wrap64 _ (by omega) (by omega)
    have v0 : viewF C p w 0 = (w, 0) := by
      have := viewF_ok hC2 hpl (by omega) op ow 0
      rw [show ((0 : Nat) : Int) = 0 from rfl] at this
      rw [this, Nat.sub_zero, List.drop_left, List.take_length]
    have v1 := viewF_ok hC2 hpl (by omega : w.length ≤ 100) op ow n
    have v2 := viewF_ok hC2 hpl (by omega : w.length ≤ 100) op ow (n + 1)
    have i0 : I64 0 := by constructor <;> decide
    have i1 : I64 (n : Int) := by constructor <;> omega
    have i2 : I64 ((n + 1 : Nat) : Int) := by constructor <;> omega
    obtain ⟨a, ha⟩ : ∃ a, ((p ++ w).drop (p.length - n)).take w.length = a := ⟨_, rfl⟩
    obtain ⟨b, hb⟩ : ∃ b, ((p ++ w).drop (p.length - (n + 1))).take w.length = b := ⟨_, rfl⟩
    rw [ha] at v1
    rw [hb] at v2
    have la : a.length = w.length := by rw [← ha]; simp; omega
    have lb : b.length = w.length := by rw [← hb]; simp; omega
    have fw : RowsFin w := ⟨by omega, r4⟩
    have fa : RowsFin a := ⟨by omega, by rw [← ha]; exact ((r2.app r4).drop _).take _⟩
    have fb : RowsFin b := ⟨by omega, by rw [← hb]; exact ((r2.app r4).drop _).take _⟩
    rw [Int.natCast_add] at v2 w3 i2
    simp only [Int.cast_ofNat_Int] at v2 w3 i2
    have f0 : min old.length 100 ≤ old.length ∧ min old.length 100 = min 100 old.length ∧ min 100 old.length ≤ 1000 ∧ min rows.length 40 ≤ rows.length ∧ min rows.length 40 = min 40 rows.length ∧ min 40 rows.length ≤ 1000 := by omega
    obtain ⟨f1, f2, f3, f4, f5, f6⟩ := f0
    by_cases hcs : p.length ≤ n ∨ w = []
    · have hab : a = b := by
        rcases hcs with h | h
        · rw [← ha, ← hb, show p.length - n = 0 by omega, show p.length - (n + 1) = 0 by omega]
        · rw [← ha, ← hb, h]; simp
      simp [and_assoc, lawLooksSpec, rowsSpec, samesSpec, viewSpec, worksSpec, Tryd.f7, w0, e0, hC, w1, em1, em2, t1, t2, b1, b2, hC2.1, hC2.2, hp, hw, w2, e2, hn, w3, v0, v1, v2, r1, r3, i0, i1, i2, fw, fa, fb, la, lb, hcs, hab]
      exact ⟨f1, f2, f3, f4, f5, f6, rfl, fun h1 h2 => (hcs.elim (fun q => absurd h1 (by omega)) (fun q => absurd q h2))⟩
    · have hn3 : n < p.length := by omega
      have hw0 : 0 < w.length := List.length_pos_iff.2 fun e => hcs (.inr e)
      have w4 : IntKind.i64.wrap ((w.length : Int) - 1) = ((w.length - 1 : Nat) : Int) := by rw [wrap64 _ (by omega) (by omega)]; omega
      have w5 : IntKind.i64.wrap ((p.length : Int) - n) = ((p.length - n : Nat) : Int) := by rw [wrap64 _ (by omega) (by omega)]; omega
      have w6 : IntKind.i64.wrap (((p.length - n : Nat) : Int) - 1) = ((p.length - n - 1 : Nat) : Int) := by rw [wrap64 _ (by omega) (by omega)]; omega
      have em3 : (if 0 < p.length - n - 1 then ((p.length - n - 1 : Nat) : Int) else 0) = ((p.length - n - 1 : Nat) : Int) := by split <;> omega
      have x1 := view_one p w n hn3 hw0
      have x2 := view_top p w n hn3 hw0
      rw [ha, hb] at x1
      rw [hb] at x2
      have hwne : ¬ w = [] := fun e => hcs (.inr e)
      have hnle : ¬ p.length ≤ n := by omega
      have e1n : (((p.length - n : Nat) : Int) - ((p.length - n - 1 : Nat) : Int)).toNat = 1 := by omega
      have ra : List.take ((w.length - 1) * 2) (rowsC a) = rowsC (a.take (w.length - 1)) := rowsC_take _ _
      have rb : List.take ((w.length - 1) * 2) (List.drop 2 (rowsC b)) = rowsC (b.drop 1) := by
        have q := pow_sl b 1 (w.length - 1)
        rw [Nat.one_mul] at q
        rw [q, List.take_of_length_le (by simp; omega)]
      have rt : List.take 2 (rowsC b) = rowsC (b.take 1) := rowsC_take b 1
      have rp : List.take 2 (List.drop ((p.length - n - 1) * 2) (rowsC p)) = rowsC ((p.take (p.length - n)).drop (p.length - n - 1)) := by
        have q := pow_sl p (p.length - n - 1) 1
        rw [Nat.one_mul] at q
        rw [q, List.drop_take]
        congr 2; omega
      have fx1 : RowsFin (b.drop 1) := ⟨by simp; omega, Fin1.drop fb.2 1⟩
      have fx2 : RowsFin (b.take 1) := ⟨by simp; omega, Fin1.take fb.2 1⟩
      have lx1 : (b.drop 1).length = w.length - 1 := by simp [lb]
      simp [and_assoc, lawLooksSpec, rowsSpec, samesSpec, viewSpec, worksSpec, Tryd.f7, w0, e0, hC, w1, em1, em2, t1, t2, b1, b2, hC2.1, hC2.2, hp, hw, w2, e2, hn, w3, v0, v1, v2, r1, r3, i0, i1, i2, fw, fa, fb, la, lb, hn3, hwne, hnle, w4, w5, w6, em3, e1n, ra, rb, rt, rp, x1, x2, fx1, fx2, lx1]
      exact ⟨f1, f2, f3, f4, f5, f6, rfl, by omega, by rw [← List.drop_one]; exact fx1, by omega, by omega, x2 ▸ fx2, rfl⟩
end Fen

namespace Fen
open Go Go.Proofs

def zs101 : List Int := List.replicate 101 0
def full101 : List Rw := lettersF 2 zs101
def bad3 : List Rw := lettersF 3 [1]
def bad2 : List Rw := lofF [97, 7]
theorem rep_rep (c : C) : ∀ n, rep n [c] = List.replicate n c
  | 0 => rfl
  | n + 1 => by simp only [rep, rep_rep c n]; rfl
theorem rep_zs : rep 101 [C.int .u8 0] = ints .u8 zs101 := by rw [rep_rep, ints, zs101, List.map_replicate]
def knownS (F L B : List Rw) (i : Nat) : St :=
  ⟨215, [(2, .ref 0 0), (3, .val (.sl 3 [.sl 101 (rowsC F), .sl 2 (rowsC L), .sl 1 (rowsC B)])), (4, .val (.int .i64 i))], [.sl 25 0 false 2 101 (rowsC F)]⟩
def lawPKnownSpec : Spec := worksSpec
def G_lawPKnown : Specs := [(20, rowsSpec), (21, oflSpec), (10, pushSpec), (16, popSpec), (18, viewSpec), (13, pastckSpec), (15, worksSpec)]
@[simp] theorem G_lawPKnown_20 : G_lawPKnown.find 20 = some rowsSpec := rfl
@[simp] theorem G_lawPKnown_21 : G_lawPKnown.find 21 = some oflSpec := rfl
@[simp] theorem G_lawPKnown_10 : G_lawPKnown.find 10 = some pushSpec := rfl
@[simp] theorem G_lawPKnown_16 : G_lawPKnown.find 16 = some popSpec := rfl
@[simp] theorem G_lawPKnown_18 : G_lawPKnown.find 18 = some viewSpec := rfl
@[simp] theorem G_lawPKnown_13 : G_lawPKnown.find 13 = some pastckSpec := rfl
@[simp] theorem G_lawPKnown_15 : G_lawPKnown.find 15 = some worksSpec := rfl
theorem G_lawPKnown_ok : SpecsOK Tryd.prog glW G_lawPKnown := .cons (rows_sound glW) (.cons (ofl_sound glW) (.cons push_sound (.cons pop_sound (.cons view_sound (.cons pastck_sound (.cons works_sound (.nil _ _)))))))
set_option maxHeartbeats 4000000 in
set_option maxRecDepth 10000 in
theorem lawPKnown_sound : Sound Tryd.prog glW 8 worksSpec := by
  refine sound_fn (N := Tryd.f8.ntmps) (rs := Tryd.f8.results.toList) mixed tok G_lawPKnown_ok Tryd.func8 rfl rfl rfl rfl rfl ?_ ?_ ?_
  · rintro args rfl; simp [Tryd.f8]
  · rintro args rfl; simp [worksSpec, Tryd.f8]
  · rintro args rfl bs hgl hh hro
    have hE : Env.OK ⟨Tryd.prog, T, G_lawPKnown, bs⟩ := ⟨tok, by rw [hgl]; exact G_lawPKnown_ok⟩
    have hB : Bytes zs101 := fun x hx => by rw [(List.mem_replicate.1 hx).2]; decide
    have lz : zs101.length = 101 := rfl
    have lf : (lettersF 2 zs101).length = 101 := by rw [letters_len, lz]
    have rep1 : ∀ x : C, rep 1 [x] = [x] := fun _ => rfl
    have rep3 : ∀ x : C, rep 3 [x] = [x, x, x] := fun _ => rfl
    obtain ⟨F, hF⟩ : ∃ F, lettersF 2 zs101 = F := ⟨_, rfl⟩
    obtain ⟨B, hB3⟩ : ∃ B, lettersF 3 [1] = B := ⟨_, rfl⟩
    obtain ⟨L, hL⟩ : ∃ L, lofF [97, 7] = L := ⟨_, rfl⟩
    have i1 : I64 (-1) := by constructor <;> decide
    have i5 : I64 5 := by constructor <;> decide
    have ib : I64 4611686018427387904 := by constructor <;> decide
    have oF : RowsOK F := by rw [← hF]; exact (letters_rows (by decide) _).1
    have oB : RowsOK B := by rw [← hB3]; exact (letters_rows (by decide) _).1
    have oL : RowsOK L := by rw [← hL]; exact lofF_ok _
    have oN : RowsOK [] := RowsOK.nil
    have x2 : (∃ l : List Rw, rowsC l = [] ∧ 0 = l.length ∧ RowsOK l) := ⟨[], rfl, rfl, oN⟩
    have r0 : rowsOf [] = [] := rfl
    have lB : B.length = 1 := by rw [← hB3]; rfl
    have lL : L.length = 2 := by rw [← hL]; rfl
    rw [hF] at lf
    have p1 : pushF 2 F [] = ([], 280) := by rw [← hF]; decide +kernel
    have p2 : pushF 2 B [] = ([], 280) := by rw [← hB3]; decide +kernel
    have p3 : pushF 2 L [] = ([], 280) := by rw [← hL]; decide +kernel
    have q1 : pushF 2 [] F = ([], 280) := by rw [← hF]; decide +kernel
    have q2 : pushF 2 [] B = ([], 280) := by rw [← hB3]; decide +kernel
    have q3 : pushF 2 [] L = ([], 280) := by rw [← hL]; decide +kernel
    have o1 : popF 2 F (-1) = ([], [], 280) := by rw [← hF]; decide +kernel
    have o2 : popF 2 B (-1) = ([], [], 280) := by rw [← hB3]; decide +kernel
    have o3 : popF 2 L (-1) = ([], [], 280) := by rw [← hL]; decide +kernel
    have v1 : viewF 2 F [] (-1) = ([], 280) := by rw [← hF]; decide +kernel
    have v2 : viewF 2 B [] (-1) = ([], 280) := by rw [← hB3]; decide +kernel
    have v3 : viewF 2 L [] (-1) = ([], 280) := by rw [← hL]; decide +kernel
    have u1 : viewF 2 [] F (-1) = ([], 280) := by rw [← hF]; decide +kernel
    have u2 : viewF 2 [] B (-1) = ([], 280) := by rw [← hB3]; decide +kernel
    have u3 : viewF 2 [] L (-1) = ([], 280) := by rw [← hL]; decide +kernel
    have c1 : pastF 2 F = 280 := by rw [← hF]; decide +kernel
    have c2 : pastF 2 B = 280 := by rw [← hB3]; decide +kernel
    have c3 : pastF 2 L = 280 := by rw [← hL]; decide +kernel
    have d1 : pushF 1 [] L = ([], 2) := by rw [← hL]; decide +kernel
    have d2 : popF 81 L (-1) = ([], [], 2) := by rw [← hL]; decide +kernel
    have d3 : viewF 2 (lofF [97]) (lofF [98]) (-1) = ([], 2) := by decide +kernel
    have d4 : popF 2 [] 5 = ([], [], 0) := by decide +kernel
    have d5 : viewF 2 [] [] 5 = ([], 0) := by decide +kernel
    have d6 : viewF 2 (F.take 100) (F.take 100) 4611686018427387904 = (F.take 100, 0) := by rw [← hF]; decide +kernel
    have d7 : pushF 2 (F.take 100) (F.take 100) = (F.take 100, 0) := by rw [← hF]; decide +kernel
    have d8 : pastF 2 [] = 0 := by decide +kernel
    have tF : List.take 200 (rowsC F) = rowsC (F.take 100) := rowsC_take F 100
    have oT : RowsOK (F.take 100) := oF.take _
    simp [-rep, and_assoc, worksSpec, oflSpec, pastckSpec, popSpec, pushSpec, rowsSpec, viewSpec, Tryd.f8, rep_zs, hB, lz, lf, rep1, rep3, hF, hB3, hL, lB, lL]
    refine AWP.rounds (fun i => i ≤ 3) (knownS F L B) (fun i => 3 - i) 0 (by simp) ?_ ?_
    · refine Weak.ren [some 1] (baseOK.nil hh) (by simp) ?_ ?_
      · simp [knownS, lf]
        done
      · simp [knownS]
        done
    · intro i hi
      refine wpc_ok hE mixed _ _ _ ?_
      obtain rfl | rfl | rfl | rfl : i = 0 ∨ i = 1 ∨ i = 2 ∨ i = 3 := by omega
      · simp [knownS, and_assoc, oflSpec, pastckSpec, popSpec, pushSpec, rowsSpec, viewSpec, worksSpec, hB, lz, lf, i1, oF, x2, r0, p1, q1, o1, v1, u1, c1]
        exact Next.mk 1 (by omega) (by omega) (Weak.keep (by simp [knownS]))
      · simp [knownS, and_assoc, oflSpec, pastckSpec, popSpec, pushSpec, rowsSpec, viewSpec, worksSpec, hB, lz, lf, i1, oL, x2, r0, lL, p3, q3, o3, v3, u3, c3]
        exact Next.mk 2 (by omega) (by omega) (Weak.keep (by simp [knownS]))
      · simp [knownS, and_assoc, oflSpec, pastckSpec, popSpec, pushSpec, rowsSpec, viewSpec, worksSpec, hB, lz, lf, i1, oB, x2, r0, lB, p2, q2, o2, v2, u2, c2]
        exact Next.mk 3 (by omega) (by omega) (Weak.keep (by simp [knownS]))
      · simp [knownS, and_assoc, oflSpec, pastckSpec, popSpec, pushSpec, rowsSpec, viewSpec, worksSpec, lz, lf, i1, i5, ib, oF, oL, oN, x2, r0, lL, d1, d2, d3, d4, d5, d6, d7, d8, tF, oT, lofF_ok]
        exact ⟨⟨[], rfl, rfl, [], rfl, rfl, oN, oN⟩, rfl, rfl⟩
end Fen

namespace Fen
open Go Go.Proofs

theorem joinF_take {p w : List Rw} {k : Nat} (h : k < w.length) : joinF (joinF p (w.take k)) ((w.drop k).take 1) = joinF p (w.take (k + 1)) := by
  rw [joinF_assoc, List.take_add (i := k) (j := 1)]
def tail100 (l : List Rw) : List Rw := l.drop (l.length - 100)
theorem tail_join (a w : List Rw) : joinF (tail100 a) w = tail100 (a ++ w) := by
  have e : tail100 a = joinF [] a := by simp [tail100, joinF]
  rw [e, joinF_assoc]; simp [tail100, joinF]
theorem tail_len (l : List Rw) : (tail100 l).length = min l.length 100 := by simp [tail100]; omega
theorem tail_eq (l : List Rw) : tail100 l = l.drop (l.length - (tail100 l).length) := by rw [tail_len, tail100]; congr 1; omega
theorem tail_back (a w : List Rw) (h : w.length ≤ 40) : (tail100 (a ++ w)).drop ((tail100 (a ++ w)).length - w.length) = w := by
  rw [tail_len, tail100, List.drop_drop, List.length_append]
  rw [show a.length + w.length - 100 + (min (a.length + w.length) 100 - w.length) = a.length by omega, List.drop_left]

/-- lists of letters, as cells -/
def lettersC (l : List (List Int)) : List C := l.map fun x => .sl x.length (ints .u8 x)
theorem lettersC_at {l : List (List Int)} {k : Nat} (h : k < l.length) : (lettersC l).drop k = .sl (l[k]).length (ints .u8 l[k]) :: lettersC (l.drop (k + 1)) := by
  rw [lettersC, ← List.map_drop, List.drop_eq_getElem_cons h]; rfl

def lawBackSpec : Spec := { pre := fun args => ∃ (cols : Int) (l : List (List Int)), args = [.c (.int .u8 cols), .c (.sl l.length (lettersC l))] ∧ 0 ≤ cols ∧ cols < 256 ∧ ∀ x ∈ l, Bytes x, res := fun _ => .one (.val (.c (.bool true))) }
def backS (C : Int) (l : List (List Int)) (x : Nat × List Rw) : St :=
  ⟨141, [(1, .val (.sl l.length (lettersC l))), (5, .val (.int .i64 C)), (6, .val (.sl (tail100 x.2).length (rowsC (tail100 x.2)))), (7, if x.1 = 0 then .nil else .ref 0 0), (8, .val (.int .i64 x.1))],
    if x.1 = 0 then [] else [.sl 25 0 false 2 x.2.length (rowsC x.2)]⟩
def backI (C : Int) (l : List (List Int)) (i : Nat) (all w : List Rw) (k : Nat) : St :=
  ⟨141, [(1, .val (.sl l.length (lettersC l))), (5, .val (.int .i64 C)), (6, .val (.sl (tail100 all).length (rowsC (tail100 all)))), (7, if i = 0 then .nil else .ref 1 0), (8, .val (.int .i64 i)),
      (9, .ref 0 0), (10, .val (.sl (joinF (tail100 all) w).length (rowsC (joinF (tail100 all) w)))), (11, .val (.int .i64 0)), (12, .val (.sl (joinF (tail100 all) (w.take k)).length (rowsC (joinF (tail100 all) (w.take k))))), (13, .val (.int .i64 k))],
    .sl 25 0 false 2 w.length (rowsC w) :: if i = 0 then [] else [.sl 25 0 false 2 all.length (rowsC all)]⟩
def G_lawBack : Specs := [(20, rowsSpec), (10, pushSpec), (16, popSpec), (13, pastckSpec), (12, samesSpec), (15, worksSpec)]
@[simp] theorem G_lawBack_20 : G_lawBack.find 20 = some rowsSpec := rfl
@[simp] theorem G_lawBack_10 : G_lawBack.find 10 = some pushSpec := rfl
@[simp] theorem G_lawBack_16 : G_lawBack.find 16 = some popSpec := rfl
@[simp] theorem G_lawBack_13 : G_lawBack.find 13 = some pastckSpec := rfl
@[simp] theorem G_lawBack_12 : G_lawBack.find 12 = some samesSpec := rfl
@[simp] theorem G_lawBack_15 : G_lawBack.find 15 = some worksSpec := rfl
theorem G_lawBack_ok : SpecsOK Tryd.prog glW G_lawBack := .cons (rows_sound glW) (.cons push_sound (.cons pop_sound (.cons pastck_sound (.cons (sames_sound glW) (.cons works_sound (.nil _ _))))))
set_option maxHeartbeats 2000000 in
set_option maxRecDepth 10000 in
theorem lawBack_sound : Sound Tryd.prog glW 6 lawBackSpec := by
  refine sound_fn (N := Tryd.f6.ntmps) (rs := Tryd.f6.results.toList) mixed tok G_lawBack_ok Tryd.func6 rfl rfl rfl rfl rfl ?_ ?_ ?_
  · rintro args ⟨cols,l,rfl,hc0,hc1,hB⟩; simp [Tryd.f6]
  · rintro args ⟨cols,l,rfl,hc0,hc1,hB⟩; simp [lawBackSpec, Tryd.f6]
  · rintro args ⟨cols,l,rfl,hc0,hc1,hB⟩ bs hgl hh hro
    have hE : Env.OK ⟨Tryd.prog, T, G_lawBack, bs⟩ := ⟨tok, by rw [hgl]; exact G_lawBack_ok⟩
    have w0 : IntKind.i64.wrap cols = cols := wrap64 _ (by omega) (by omega)
    have e0 : cols.tmod 79 = cols % 79 := Int.tmod_eq_emod_of_nonneg hc0
    obtain ⟨C, hC⟩ : ∃ C, 2 + cols % 79 = C := ⟨_, rfl⟩
    have hC2 : 2 ≤ C ∧ C ≤ 80 := by omega
    have w1 : IntKind.i64.wrap C = C := wrap64 _ (by omega) (by omega)
    simp only [lawBackSpec]
    simp [and_assoc, lawBackSpec, pastckSpec, popSpec, pushSpec, rowsSpec, samesSpec, worksSpec, Tryd.f6, w0, e0, hC, w1]
    refine AWP.rounds (fun x => x.1 ≤ l.length ∧ x.1 ≤ 8 ∧ okRows C x.2 = true ∧ (x.1 = 0 → x.2 = []) ∧ x.2.length ≤ 40 * x.1) (backS C l) (fun x => 8 - x.1) (0, []) ⟨by simp, by simp, rfl, fun _ => rfl, by simp⟩ ?_ ?_
    · refine Weak.keep ?_
      simp [backS, tail100]
    · rintro ⟨i, all⟩ ⟨hi, hi8, hok, hi0, hal⟩
      simp only at hi hi8 hok hi0 hal
      refine wpc_ok hE mixed _ _ _ ?_
      by_cases hgo : i < l.length ∧ i < 8
      · obtain ⟨hil, hi8'⟩ := hgo
        have h8 : (i : Int) < 8 := by omega
        have hd := lettersC_at hil
        have hb := hB _ (List.getElem_mem hil)
        generalize l[i] = x at *
        have em : (if 40 < (x.length : Int) then (40 : Int) else x.length) = ((min x.length 40 : Nat) : Int) := by split <;> omega
        have t1 := take_min' x 40
        have b1 : Bytes (x.take 40) := fun y hy => hb y (List.mem_of_mem_take hy)
        obtain ⟨w, hw⟩ : ∃ w, lettersF C (x.take 40) = w := ⟨_, rfl⟩
        have hwl : w.length ≤ 40 := by rw [← hw, letters_len, List.length_take]; omega
        have ow : okRows C w = true := by rw [← hw]; exact letters_ok hC2 _
        have op : okRows C (tail100 all) = true := okRows_drop hok _
        have hpl : (tail100 all).length ≤ 100 := by rw [tail_len]; omega
        have pw := pushF_ok hC2 hpl (by omega : w.length ≤ 100) op ow
        obtain ⟨r1, r2⟩ := okRows_ok op
        obtain ⟨r3, r4⟩ := okRows_ok ow
        have f0 : min x.length 40 ≤ x.length ∧ min x.length 40 = min 40 x.length ∧ min 40 x.length ≤ 1000 := by omega
        have oj : ∀ k, okRows C (joinF (tail100 all) (w.take k)) = true := fun k => okRows_join op (okRows_take ow k)
        have lj : ∀ k, (joinF (tail100 all) (w.take k)).length ≤ 100 := fun k => by rw [joinF_len]; omega
        have pk : ∀ k, k < w.length → pushF C (joinF (tail100 all) (w.take k)) ((w.drop k).take 1) = (joinF (tail100 all) (w.take (k + 1)), 0) := fun k hk => by
          rw [pushF_ok hC2 (lj k) (by simp; omega) (oj k) (okRows_take (okRows_drop ow k) 1), joinF_take hk]
        have rk : ∀ k, List.take 2 (List.drop (k * 2) (rowsC w)) = rowsC ((w.drop k).take 1) := fun k => pow_sl w k 1
        have jk : ∀ k, RowsOK (joinF (tail100 all) (w.take k)) := fun k => (okRows_ok (oj k)).1
        have r5 : ∀ k, RowsOK ((w.drop k).take 1) := fun k => (r3.drop k).take 1
        have lk1 : ∀ k, k < w.length → ((w.drop k).take 1).length = 1 := fun k hk => by simp; omega
        have e1 : ∀ k : Int, (k + 1 - k).toNat = 1 := fun k => by omega
        have hJ := tail_join all w
        obtain ⟨J, hJ'⟩ : ∃ J, joinF (tail100 all) w = J := ⟨_, rfl⟩
        rw [hJ'] at hJ pw
        have oJ : okRows C J = true := by rw [← hJ']; exact okRows_join op ow
        have lJ : J.length = min (all.length + w.length) 100 := by rw [hJ, tail_len]; simp
        have pJ := popF_ok hC2 (by omega : J.length ≤ 100) oJ w.length
        have bJ : J.drop (J.length - w.length) = w := by rw [hJ]; exact tail_back all w hwl
        rw [bJ] at pJ
        obtain ⟨j1, j2⟩ := okRows_ok oJ
        have cJ := pastF_ok hC2 (by omega : J.length ≤ 100) oJ
        have fJ : RowsFin J := ⟨by omega, j2⟩
        have fw : RowsFin w := ⟨by omega, r4⟩
        have iw : I64 (w.length : Int) := by constructor <;> omega
        have em2 : (if 100 < (all.length : Int) + w.length then (100 : Int) else (all.length : Int) + w.length) = (J.length : Int) := by split <;> omega
        have w5 : IntKind.i64.wrap ((all.length : Int) + w.length - J.length) = ((all.length + w.length - J.length : Nat) : Int) := by rw [wrap64 _ (by omega) (by omega)]; omega
        have e5 : ((all.length : Int) + w.length - ((all.length + w.length - J.length : Nat) : Int)).toNat = J.length := by omega
        have rJ : List.take (J.length * 2) (List.drop ((all.length + w.length - J.length) * 2) (rowsC all ++ rowsC w)) = rowsC J := by
          rw [← rowsC_app, pow_sl]
          have q := tail_eq (all ++ w)
          rw [← hJ, List.length_append] at q
          rw [← q, List.take_length]
        have w6 : IntKind.i64.wrap (((J.length - w.length : Nat) : Int) + (w.length : Int)) = (J.length : Int) := by rw [wrap64 _ (by omega) (by omega)]; omega
        have jn : joinF (tail100 all) [] = tail100 all := joinF_nil _ hpl
        have rw0 : List.take (w.length * 2) (rowsC w) = rowsC w := List.take_of_length_le (by simp)
        have okn : okRows C (all ++ w) = true := by rw [okRows_app, hok, ow]; rfl
        have wk : IntKind.i64.wrap (w.length : Int) = w.length := wrap64 _ (by omega) (by omega)
        have wi : IntKind.i64.wrap ((i : Int) + 1) = i + 1 := wrap64 _ (by omega) (by omega)
        have wz : IntKind.i64.wrap 0 = 0 := rfl
        rcases Nat.eq_zero_or_pos i with h0 | h0
        · subst h0
          have ha := hi0 rfl
          have hJw : J = w := by rw [hJ, ha, List.nil_append, tail100, show w.length - 100 = 0 by omega, List.drop_zero]
          have tw : tail100 w = w := by rw [tail100, show w.length - 100 = 0 by omega, List.drop_zero]
          simp [backS, and_assoc, pastckSpec, popSpec, pushSpec, rowsSpec, samesSpec, worksSpec, hil, hd, em, t1, b1, hC2.1, hC2.2, hw, pw, r1, r3]
          refine ⟨f0.1, f0.2.1, f0.2.2, rfl, ?_⟩
          refine AWP.rounds (fun k => k ≤ w.length) (backI C l 0 all w) (fun k => w.length - k) 0 (by simp) ?_ ?_
          · refine Weak.ren [some 0] (baseOK.nil hh) (by simp) ?_ ?_
            · simp [backI]
            · simp [backI, hJ', jn]
          · intro k hk
            refine wpc_ok hE mixed _ _ _ ?_
            rcases Nat.lt_or_ge k w.length with hkl | hkl
            · have w3 : IntKind.i64.wrap ((k : Int) + 1) = k + 1 := wrap64 _ (by omega) (by omega)
              simp [backI, and_assoc, pastckSpec, popSpec, pushSpec, rowsSpec, samesSpec, worksSpec, hkl, w3, e1, rk, jk, r5, lk1 k hkl, pk k hkl, hC2.1, hC2.2]
              exact ⟨by omega, by omega, Next.mk (k + 1) hkl (by omega) (Weak.keep (by simp [backI]))⟩
            · obtain rfl : k = w.length := by omega
              have em3 : (if 100 < (w.length : Int) then (100 : Int) else w.length) = w.length := by split <;> omega
              rw [hJw] at hJ' pJ cJ fJ j1
              rw [Nat.sub_self, List.take_zero] at pJ
              simp [backI, and_assoc, pastckSpec, popSpec, pushSpec, rowsSpec, samesSpec, worksSpec, List.take_length, hJ', pJ, cJ, fJ, fw, iw, em3, wz, wk, rw0, j1]
              exact ⟨by omega, by omega, Next.mk (1, all ++ w) ⟨hil, by omega, okn, by simp, by simp [ha]; omega⟩ (by simp only; omega) (Weak.ren [some 1] (baseOK.nil hh) (by simp) (by simp [backS, ha]) (by simp [backS, ha, tw]))⟩
        · have h0' : ¬ i = 0 := by omega
          simp [backS, and_assoc, pastckSpec, popSpec, pushSpec, rowsSpec, samesSpec, worksSpec, hil, h8, hd, em, t1, b1, hC2.1, hC2.2, hw, pw, r1, r3, h0']
          refine ⟨f0.1, f0.2.1, f0.2.2, rfl, ?_⟩
          refine AWP.rounds (fun k => k ≤ w.length) (backI C l i all w) (fun k => w.length - k) 0 (by simp) ?_ ?_
          · refine Weak.ren [some 1, some 0] (baseOK.nil hh) (by simp) ?_ ?_
            · simp [backI, h0']
            · simp [backI, h0', hJ', jn]
          · intro k hk
            refine wpc_ok hE mixed _ _ _ ?_
            rcases Nat.lt_or_ge k w.length with hkl | hkl
            · have w3 : IntKind.i64.wrap ((k : Int) + 1) = k + 1 := wrap64 _ (by omega) (by omega)
              simp [backI, and_assoc, pastckSpec, popSpec, pushSpec, rowsSpec, samesSpec, worksSpec, h0', hkl, w3, e1, rk, jk, r5, lk1 k hkl, pk k hkl, hC2.1, hC2.2]
              refine ⟨by omega, by omega, Next.mk (k + 1) hkl (by omega) (Weak.heap ?_ ?_)⟩
              · simp [h0']
              · simp [h0']
            · obtain rfl : k = w.length := by omega
              simp [backI, and_assoc, pastckSpec, popSpec, pushSpec, rowsSpec, samesSpec, worksSpec, h0', List.take_length, hJ', pJ, cJ, fJ, fw, iw, em2, w5, e5, rJ, w6, wi, j1]
              exact ⟨by omega, by omega, by omega, Next.mk (i + 1, all ++ w) ⟨hil, by simp only; omega, okn, by simp, by simp; omega⟩ (by simp only; omega) (Weak.ren [some 1] (baseOK.nil hh) (by simp) (by simp [backS, rowsC_app]) (by simp [backS, ← hJ]))⟩
      · by_cases hil : i < l.length
        · have h8 : ¬ (i : Int) < 8 := by omega
          simp [backS, hil, h8]
        · simp [backS, hil]
theorem lettersC_flatMap (l : List (List Int)) : l.flatMap (fun x => [C.sl x.length (ints .u8 x)]) = lettersC l := by
  induction l with
  | nil => rfl
  | cons c l ih => rw [List.flatMap_cons, ih]; rfl
theorem arg_lols {A : V} (h : TypedV T 44 A) : ∃ l : List (List Int), A = .c (.sl l.length (lettersC l)) ∧ ∀ x ∈ l, Bytes x := by
  obtain ⟨l, rfl, hl, ql⟩ := arg_slice_of (en := fun x : List Int => [C.sl x.length (ints .u8 x)]) T_44 (fun d p h => (by
    obtain ⟨x, rfl, _, hx⟩ := typed_bytes h
    exact ⟨x, rfl, hx⟩ : ∃ a : List Int, p = [C.sl a.length (ints .u8 a)] ∧ Bytes a)) h
  exact ⟨l, by rw [lettersC_flatMap], ql⟩
end Fen
