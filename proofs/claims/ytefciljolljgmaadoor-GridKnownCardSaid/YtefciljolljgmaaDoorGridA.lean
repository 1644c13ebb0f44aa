/- A part of the proof; no statement is proved here: GGridA, GGridB, GGridC, GGridD, GGridE, GGridF, GGridG. -/
import Derived.Test.YtefciljolljgmaaDoorRowC
import Derived.Test.YtefciljolljgmaaDoorRowB
import Derived.Test.YtefciljolljgmaaDoorCoreE

set_option linter.unusedVariables false
set_option linter.unusedSimpArgs false

namespace Fen
open Go Go.Proofs

/-! ### slices of the library, over rows -/
def growHS : HS := { wr := true, eff := fun xs h => match xs with
  | [.nil, .val (.int .i64 n)] => ((0 < n ∧ n ≤ 1000), .ref h.length 1, h ++ [.sl 27 1 true 2 0 []])
  | _ => (False, .dead, h) }
def growSpec : Spec := { pre := fun _ => False, res := fun _ => .many [], hp := some growHS }
def G_grow : Specs := []
@[simp] theorem G_grow_live : Specs.live G_grow = false := rfl
theorem G_grow_ok (gl : Gl) : SpecsOK Tryd.prog gl G_grow := .nil _ _
set_option maxRecDepth 10000 in
theorem grow_sound (gl : Gl) : Sound Tryd.prog gl 60 growSpec := by
  refine sound_heapA (hs := growHS) (N := Tryd.f60.ntmps) (rs := Tryd.f60.results.toList) tok Tryd.func60 rfl rfl rfl rfl rfl ?_ ?_
  · intro xs h hp
    simp only [growHS] at hp
    split at hp
    all_goals first | exact hp.elim | simp [Tryd.f60]
  · intro xs h hp bs hgl hh hro
    have hE : Env.OK ⟨Tryd.prog, T, G_grow, bs⟩ := ⟨tok, by rw [hgl]; exact G_grow_ok gl⟩
    simp only [growHS] at hp
    split at hp
    · rename_i n
      obtain ⟨h1, h2⟩ := hp
      obtain ⟨k, rfl⟩ : ∃ k : Nat, n = k := ⟨n.toNat, by omega⟩
      have n0 : ¬ (k : Int) < 0 := by omega
      have k0 : 0 < k := by omega
      have k1 : ¬ k = 0 := by omega
      have w1 : IntKind.i64.wrap (k : Int) = k := wrap64 _ (by omega) (by omega)
      refine wpcU_ok hE mixed 5 _ _ _ ?_
      simp [Tryd.f60, hcEff, growHS, n0]
      refine OpW.capNil tok T_34 (by simp) (by simp) ?_
      simp [w1, k0, k1]
      refine AWP.regionH hE 8 ?_
      simp
      refine OpW.capNil tok T_34 (by simp) (by simp) ?_
      simp
      refine OpW.appMake (k := k) (kq := .i64) tok T_34 T_3 T_27 (by simp) (by simp) (by omega) (by simp; omega) (by unfold maxLen; omega) (by simp) (by simp) ?_
      simp
      refine OpW.trunc (id := h.length) (ver := 0) (sz := 2) (n := k) (e' := 27) (cs := rep k [.sl 0 [], .bool false]) tok T_34 T_27 (by simp) (by simp) (by simp) (by simp) ?_
      simp
      exact RetTo.same ⟨rfl, rfl⟩
    · exact hp.elim

def concatSpec : Spec := { pre := fun args => ∃ p w : List Rw, args = [.c (.sl 2 [.sl p.length (rowsC p), .sl w.length (rowsC w)])] ∧ 0 < p.length + w.length ∧ p.length + w.length ≤ 1000, res := fun args => match args with
  | [.c (.sl _ [.sl _ a, .sl _ b])] => .one (.val (rowsV (rowsOf a ++ rowsOf b)))
  | _ => .many [] }
def G_concat : Specs := [(60, growSpec)]
@[simp] theorem G_concat_live : Specs.live G_concat = false := rfl
@[simp] theorem G_concat_60 : G_concat.find 60 = some growSpec := rfl
theorem G_concat_ok (gl : Gl) : SpecsOK Tryd.prog gl G_concat := .cons (grow_sound gl) (.nil _ _)
set_option maxRecDepth 10000 in
theorem concat_sound (gl : Gl) : Sound Tryd.prog gl 36 concatSpec := by
  refine sound_fn (N := Tryd.f36.ntmps) (rs := Tryd.f36.results.toList) mixed tok (G_concat_ok gl) Tryd.func36 rfl rfl rfl rfl rfl ?_ ?_ ?_
  · rintro args ⟨p,w,rfl,h0,h1⟩; simp [rowsOf_C, Tryd.f36]
  · rintro args ⟨p,w,rfl,h0,h1⟩; simp [rowsOf_C, concatSpec, Tryd.f36]
  · rintro args ⟨p,w,rfl,h0,h1⟩ bs hgl hh hro
    have hE : Env.OK ⟨Tryd.prog, T, G_concat, bs⟩ := ⟨tok, by rw [hgl]; exact G_concat_ok gl⟩
    simp only [concatSpec, rowsOf_C]
    have w1 : IntKind.i64.wrap (p.length : Int) = p.length := wrap64 _ (by omega) (by omega)
    have w2 : IntKind.i64.wrap ((p.length : Int) + w.length) = p.length + w.length := wrap64 _ (by omega) (by omega)
    have n1 : ¬ (p.length : Int) < 0 := by omega
    have n2 : ¬ (p.length : Int) + w.length < 0 := by omega
    have n3 : 0 < (p.length : Int) + w.length := by omega
    have n4 : (p.length : Int) + w.length ≤ 1000 := by omega
    simp [Tryd.f36]
    refine AWP.unroll hE mixed 3 ?_
    simp [and_assoc, growSpec, growHS, w1, w2, n1, n2, n3, n4]
    refine AWP.unroll hE mixed 3 ?_
    simp [and_assoc, growSpec, growHS, rowsV]
    exact ⟨by omega, by omega, by omega, by omega, (rowsC_app p w).symm⟩

def eqfSpec : Spec := { pre := fun args => ∃ a b : List Rw, args = [rowsV a, rowsV b, .c (.fn 58 [])] ∧ RowsFin a, res := fun args => match args with
  | [.c (.sl _ a), .c (.sl _ b), _] => .one (.val (.c (.bool (decide (rowsOf a = rowsOf b)))))
  | _ => .many [] }
def eqfS (a b : List Rw) (k : Nat) : St := ⟨32, [(1, .val (.sl b.length (rowsC b))), (2, .val (.fn 58 [])), (15, .val (.sl a.length (rowsC a))), (16, .val (.int .i64 a.length)), (17, .val (.int .i64 k))], []⟩
def G_eqf : Specs := [(58, sameSpec)]
@[simp] theorem G_eqf_live : Specs.live G_eqf = false := rfl
@[simp] theorem G_eqf_58 : G_eqf.find 58 = some sameSpec := rfl
theorem G_eqf_ok (gl : Gl) : SpecsOK Tryd.prog gl G_eqf := .cons (rowsame_sound gl) (.nil _ _)
set_option maxRecDepth 10000 in
theorem eqf_sound (gl : Gl) : Sound Tryd.prog gl 57 eqfSpec := by
  refine sound_fn (N := Tryd.f57.ntmps) (rs := Tryd.f57.results.toList) mixed tok (G_eqf_ok gl) Tryd.func57 rfl rfl rfl rfl rfl ?_ ?_ ?_
  · rintro args ⟨a,b,rfl,ha1,ha2⟩; simp [rowsOf_C,rowsV, Tryd.f57]
  · rintro args ⟨a,b,rfl,ha1,ha2⟩; simp [rowsOf_C,rowsV, eqfSpec, Tryd.f57]
  · rintro args ⟨a,b,rfl,ha1,ha2⟩ bs hgl hh hro
    have hE : Env.OK ⟨Tryd.prog, T, G_eqf, bs⟩ := ⟨tok, by rw [hgl]; exact G_eqf_ok gl⟩
    simp only [eqfSpec, rowsOf_C,rowsV]
    rcases Decidable.em (a.length = b.length) with h1 | h1
    rotate_left
    · have e : decide (a = b) = false := by simp; rintro rfl; exact h1 rfl
      have h1' : ¬ (a.length : Int) = b.length := by omega
      simp [eqfSpec, sameSpec, Tryd.f57, h1', e]
    simp [eqfSpec, sameSpec, Tryd.f57, h1]
    refine AWP.rounds (fun k => k ≤ a.length ∧ a.take k = b.take k) (eqfS a b) (fun k => a.length - k) 0 ⟨by simp, by simp⟩ ?_ ?_
    · refine Weak.ren [] (baseOK.nil hh) (by simp) (by simp) ?_
      simp [eqfS, h1]
    · rintro k ⟨hk, hc⟩
      refine wpc_ok hE mixed _ _ _ ?_
      rcases Nat.lt_or_ge k a.length with h | h
      · have w1 : IntKind.i64.wrap ((k : Int) + 1) = k + 1 := wrap64 _ (by omega) (by omega)
        have hb : k < b.length := by omega
        have hd := rowsC_at h
        have hdb := rowsC_at hb
        have ht := List.take_add_one (l := a) (i := k)
        have htb := List.take_add_one (l := b) (i := k)
        rw [List.getElem?_eq_getElem h] at ht
        rw [List.getElem?_eq_getElem hb] at htb
        have hne : ¬ a[k] = b[k] → ¬ a = b := fun q e => by subst e; exact q rfl
        have hx : (a[k]).cells.length ≤ 1000 := ha2 _ (List.getElem_mem h)
        generalize a[k] = x at *
        generalize b[k] = y at *
        simp [eqfS, sameSpec, rowV, hd, hdb, w1, h, hb, hx]
        exact ⟨hne, fun e => Next.mk (k + 1) ⟨h, by rw [ht, htb, hc, e]⟩ (by omega) (Weak.ren [] (baseOK.nil hh) (by simp) (by simp) (by simp [eqfS]))⟩
      · have : k = a.length := by omega
        subst this
        have e : a = b := by
          rw [List.take_length, h1, List.take_length] at hc
          exact hc
        subst e
        simp [eqfS]
def G_gsame : Specs := [(57, eqfSpec)]
@[simp] theorem G_gsame_live : Specs.live G_gsame = false := rfl
@[simp] theorem G_gsame_57 : G_gsame.find 57 = some eqfSpec := rfl
theorem G_gsame_ok (gl : Gl) : SpecsOK Tryd.prog gl G_gsame := .cons (eqf_sound gl) (.nil _ _)
set_option maxRecDepth 10000 in
theorem gsame_sound (gl : Gl) : Sound Tryd.prog gl 32 samesSpec := by
  refine sound_fn (N := Tryd.f32.ntmps) (rs := Tryd.f32.results.toList) mixed tok (G_gsame_ok gl) Tryd.func32 rfl rfl rfl rfl rfl ?_ ?_ ?_
  · rintro args ⟨a,b,rfl,ha⟩; simp [rowsOf_C,rowsV, Tryd.f32]
  · rintro args ⟨a,b,rfl,ha⟩; simp [rowsOf_C,rowsV, samesSpec, Tryd.f32]
  · rintro args ⟨a,b,rfl,ha⟩ bs hgl hh hro
    have hE : Env.OK ⟨Tryd.prog, T, G_gsame, bs⟩ := ⟨tok, by rw [hgl]; exact G_gsame_ok gl⟩
    simp only [samesSpec, rowsOf_C,rowsV]
    simp [and_assoc, samesSpec, eqfSpec, Tryd.f32, rowsV, ha]
    exact ⟨a, rfl, rfl, ha⟩

def colsG (g : List Rw) : Nat := match g with
  | [] => 0
  | r :: _ => r.cells.length
def gcolsSpec : Spec := { pre := fun args => ∃ g : List Rw, args = [rowsV g] ∧ g ≠ [], res := fun args => match args with
  | [.c (.sl _ cs)] => .one (.val (.c (.int .i64 (colsG (rowsOf cs)))))
  | _ => .many [] }
def G_gcols : Specs := []
@[simp] theorem G_gcols_live : Specs.live G_gcols = false := rfl
theorem G_gcols_ok (gl : Gl) : SpecsOK Tryd.prog gl G_gcols := .nil _ _
set_option maxRecDepth 10000 in
theorem gcols_sound (gl : Gl) : Sound Tryd.prog gl 47 gcolsSpec := by
  refine sound_fn (N := Tryd.f47.ntmps) (rs := Tryd.f47.results.toList) mixed tok (G_gcols_ok gl) Tryd.func47 rfl rfl rfl rfl rfl ?_ ?_ ?_
  · rintro args ⟨g,rfl,hg⟩; simp [rowsOf_C,rowsV, Tryd.f47]
  · rintro args ⟨g,rfl,hg⟩; simp [rowsOf_C,rowsV, gcolsSpec, Tryd.f47]
  · rintro args ⟨g,rfl,hg⟩ bs hgl hh hro
    have hE : Env.OK ⟨Tryd.prog, T, G_gcols, bs⟩ := ⟨tok, by rw [hgl]; exact G_gcols_ok gl⟩
    simp only [gcolsSpec, rowsOf_C,rowsV]
    match g, hg with
    | r :: g, _ =>
      simp [and_assoc, gcolsSpec, Tryd.f47, rowsC, rowC, colsG]

def gridF (g : List Rw) : Int := if g.length < 1 ∨ 40 < g.length then 230 else if okRows (colsG g) g = true then 0 else 230
theorem gridF_or (g : List Rw) : gridF g = 0 ∨ gridF g = 230 := by unfold gridF; (repeat' split) <;> simp
theorem gridF_ok {g : List Rw} (h : gridF g = 0) : 1 ≤ g.length ∧ g.length ≤ 40 ∧ okRows (colsG g) g = true := by
  unfold gridF at h
  split at h
  · cases h
  · split at h
    · exact ⟨by omega, by omega, by assumption⟩
    · cases h
def gridckSpec : Spec := { pre := fun args => ∃ g : List Rw, args = [rowsV g] ∧ RowsOK g, res := fun args => match args with
  | [.c (.sl _ cs)] => .one (.val (.c (.int .i64 (gridF (rowsOf cs)))))
  | _ => .many [] }
def gridckS (g : List Rw) (k : Nat) : St := ⟨31, [(0, .val (.sl g.length (rowsC g))), (13, .val (.sl g.length (rowsC g))), (14, .val (.int .i64 g.length)), (15, .val (.int .i64 k))], []⟩
def G_gridck : Specs := [(51, rowckSpec), (47, gcolsSpec)]
@[simp] theorem G_gridck_live : Specs.live G_gridck = false := rfl
@[simp] theorem G_gridck_51 : G_gridck.find 51 = some rowckSpec := rfl
@[simp] theorem G_gridck_47 : G_gridck.find 47 = some gcolsSpec := rfl
theorem G_gridck_ok : SpecsOK Tryd.prog glW G_gridck := .cons rowck_sound (.cons (gcols_sound glW) (.nil _ _))
set_option maxRecDepth 10000 in
theorem gridck_sound : Sound Tryd.prog glW 23 gridckSpec := by
  refine sound_fn (N := Tryd.f23.ntmps) (rs := Tryd.f23.results.toList) mixed tok G_gridck_ok Tryd.func23 rfl rfl rfl rfl rfl ?_ ?_ ?_
  · rintro args ⟨g,rfl,hg⟩; simp [rowsOf_C,rowsV, Tryd.f23]
  · rintro args ⟨g,rfl,hg⟩; simp [rowsOf_C,rowsV, gridckSpec, Tryd.f23]
  · rintro args ⟨g,rfl,hg⟩ bs hgl hh hro
    have hE : Env.OK ⟨Tryd.prog, T, G_gridck, bs⟩ := ⟨tok, by rw [hgl]; exact G_gridck_ok⟩
    simp only [gridckSpec, rowsOf_C,rowsV]
    by_cases h0 : g.length < 1
    · have e : gridF g = 230 := by unfold gridF; rw [if_pos (.inl h0)]
      have h0' : (g.length : Int) < 1 := by omega
      simp [gridckSpec, gcolsSpec, rowckSpec, Tryd.f23, h0', e]
    by_cases h40 : 40 < (g.length : Int)
    · have e : gridF g = 230 := by unfold gridF; rw [if_pos (.inr (by omega))]
      have h0' : ¬ (g.length : Int) < 1 := by omega
      simp [gridckSpec, gcolsSpec, rowckSpec, Tryd.f23, h40, h0', e]
    have h0' : ¬ (g.length : Int) < 1 := by omega
    have e : gridF g = if okRows (colsG g) g = true then 0 else 230 := by unfold gridF; rw [if_neg (by omega)]
    have gne : ¬ g = [] := fun q => by rw [q] at h0; exact h0 (by simp)
    have eC : ∃ g' : List Rw, g.length = g'.length ∧ g = g' ∧ ¬ g' = [] := ⟨g, rfl, rfl, fun q => by rw [q] at h0; exact h0 (by simp)⟩
    simp [gridckSpec, gcolsSpec, rowckSpec, Tryd.f23, h0', h40, e]
    refine AWP.rounds (fun k => k ≤ g.length ∧ okRows (colsG g) g = okRows (colsG g) (g.drop k)) (gridckS g) (fun k => g.length - k) 0 ⟨by simp, by simp⟩ ?_ ?_
    · refine Weak.ren [] (baseOK.nil hh) (by simp) (by simp) ?_
      simp [gridckS]
    · rintro k ⟨hk, hc⟩
      refine wpc_ok hE mixed _ _ _ ?_
      rcases Nat.lt_or_ge k g.length with h | h
      · have w1 : IntKind.i64.wrap ((k : Int) + 1) = k + 1 := wrap64 _ (by omega) (by omega)
        have hd := rowsC_at h
        have hok : (g[k]).ok := hg _ (List.getElem_mem h)
        rw [List.drop_eq_getElem_cons h] at hc
        generalize g[k] = r at *
        simp [gridckS, and_assoc, gridckSpec, gcolsSpec, rowckSpec, Tryd.f23, hd, w1, h, hok, eC, gne, rowV]
        refine ⟨by decide +kernel, fun q => ?_, fun q1 q2 => Next.mk (k + 1) ⟨h, by rw [hc]; simp [okRows, q1, q2]⟩ (by omega) (Weak.ren [] (baseOK.nil hh) (by simp) (by simp) (by simp [gridckS]))⟩
        rw [hc]
        simp only [okRows, List.all_cons, Bool.and_eq_false_imp, Bool.and_eq_true, decide_eq_true_eq]
        rintro ⟨k1, k2⟩
        rcases q with q | q
        · exact absurd k2 q
        · exact absurd k1 q
      · have : k = g.length := by omega
        subst this
        have hc : okRows (colsG g) g = true := by rw [hc]; simp [okRows]
        simp [gridckS, hc]

def rrightSpec : Spec := { pre := fun args => ∃ r : Rw, args = [rowV r] ∧ r.ok, res := fun args => .one (.val (.c (.bool (decide (rowF (rowOf (args.headD default).cs) = 0))))) }
def G_rright : Specs := [(56, rowckSpec)]
@[simp] theorem G_rright_live : Specs.live G_rright = false := rfl
@[simp] theorem G_rright_56 : G_rright.find 56 = some rowckSpec := rfl
theorem G_rright_ok (gl : Gl) : SpecsOK Tryd.prog gl G_rright := .cons (rrowck_sound gl) (.nil _ _)
set_option maxRecDepth 10000 in
theorem rright_sound (gl : Gl) : Sound Tryd.prog gl 61 rrightSpec := by
  refine sound_fn (N := Tryd.f61.ntmps) (rs := Tryd.f61.results.toList) mixed tok (G_rright_ok gl) Tryd.func61 rfl rfl rfl rfl rfl ?_ ?_ ?_
  · rintro args ⟨r,rfl,hr⟩; simp [Tryd.f61]
  · rintro args ⟨r,rfl,hr⟩; simp [rrightSpec, Tryd.f61]
  · rintro args ⟨r,rfl,hr⟩ bs hgl hh hro
    have hE : Env.OK ⟨Tryd.prog, T, G_rright, bs⟩ := ⟨tok, by rw [hgl]; exact G_rright_ok gl⟩
    simp [rrightSpec, rowckSpec, Tryd.f61, rowV, hr]
    rfl
def grightSpec : Spec := { pre := fun args => ∃ g : List Rw, args = [rowsV g] ∧ RowsOK g, res := fun args => match args with
  | [.c (.sl _ cs)] => .one (.val (.c (.bool (decide (gridF (rowsOf cs) = 0)))))
  | _ => .many [] }
def grightS (g : List Rw) (k : Nat) : St := ⟨38, [(0, .val (.sl g.length (rowsC g))), (3, .val (.int .i64 k))], []⟩
def G_gright : Specs := [(61, rrightSpec)]
@[simp] theorem G_gright_live : Specs.live G_gright = false := rfl
@[simp] theorem G_gright_61 : G_gright.find 61 = some rrightSpec := rfl
theorem G_gright_ok (gl : Gl) : SpecsOK Tryd.prog gl G_gright := .cons (rright_sound gl) (.nil _ _)
set_option maxRecDepth 10000 in
theorem gright_sound (gl : Gl) : Sound Tryd.prog gl 37 grightSpec := by
  refine sound_fn (N := Tryd.f37.ntmps) (rs := Tryd.f37.results.toList) mixed tok (G_gright_ok gl) Tryd.func37 rfl rfl rfl rfl rfl ?_ ?_ ?_
  · rintro args ⟨g,rfl,hg⟩; simp [rowsOf_C,rowsV, Tryd.f37]
  · rintro args ⟨g,rfl,hg⟩; simp [rowsOf_C,rowsV, grightSpec, Tryd.f37]
  · rintro args ⟨g,rfl,hg⟩ bs hgl hh hro
    have hE : Env.OK ⟨Tryd.prog, T, G_gright, bs⟩ := ⟨tok, by rw [hgl]; exact G_gright_ok gl⟩
    simp only [grightSpec, rowsOf_C,rowsV]
    by_cases h0 : g.length < 1
    · have e : gridF g = 230 := by unfold gridF; rw [if_pos (.inl h0)]
      have h0' : (g.length : Int) < 1 := by omega
      simp [grightSpec, rrightSpec, Tryd.f37, h0', e]
    by_cases h40 : 40 < (g.length : Int)
    · have e : gridF g = 230 := by unfold gridF; rw [if_pos (.inr (by omega))]
      have h0' : ¬ (g.length : Int) < 1 := by omega
      simp [grightSpec, rrightSpec, Tryd.f37, h40, h0', e]
    have h0' : ¬ (g.length : Int) < 1 := by omega
    have e : gridF g = if okRows (colsG g) g = true then 0 else 230 := by unfold gridF; rw [if_neg (by omega)]
    obtain ⟨r0, hr0⟩ : ∃ r0 : Rw, (rowsC g).head?.getD C.nilf = .sl (colsG g) (celsC r0.cells) := by
      match g, h0 with
      | r :: g, _ => exact ⟨r, rfl⟩
    have gl0 : 0 < g.length := by omega
    simp [grightSpec, rrightSpec, Tryd.f37, h0', h40, e]
    refine AWP.rounds (fun k => k ≤ g.length ∧ okRows (colsG g) g = okRows (colsG g) (g.drop k)) (grightS g) (fun k => g.length - k) 0 ⟨by simp, by simp⟩ ?_ ?_
    · refine Weak.keep ?_
      simp [grightS]
    · rintro k ⟨hk, hc⟩
      refine wpc_ok hE mixed _ _ _ ?_
      rcases Nat.lt_or_ge k g.length with h | h
      · have w1 : IntKind.i64.wrap ((k : Int) + 1) = k + 1 := wrap64 _ (by omega) (by omega)
        have hd := rowsC_at h
        have hok : (g[k]).ok := hg _ (List.getElem_mem h)
        rw [List.drop_eq_getElem_cons h] at hc
        generalize g[k] = r at *
        have p1 : 0 < 2 + (g.length - (k + 1)) * 2 := by omega
        simp [grightS, and_assoc, grightSpec, rrightSpec, Tryd.f37, hd, w1, h, hok, hr0, gl0, p1, rowV]
        refine ⟨by decide +kernel, fun q => ?_, fun q1 q2 => Next.mk (k + 1) ⟨h, by rw [hc]; simp [okRows, q1, q2]⟩ (by omega) (Weak.keep (by simp [grightS]))⟩
        rw [hc]
        simp only [okRows, List.all_cons, Bool.and_eq_false_imp, Bool.and_eq_true, decide_eq_true_eq]
        rintro ⟨k1, k2⟩
        rcases q with q | q
        · exact absurd k2 q
        · exact absurd k1 q
      · have : k = g.length := by omega
        subst this
        have hc : okRows (colsG g) g = true := by rw [hc]; simp [okRows]
        simp [grightS, hc]
def G_rgridck : Specs := [(37, grightSpec)]
@[simp] theorem G_rgridck_live : Specs.live G_rgridck = false := rfl
@[simp] theorem G_rgridck_37 : G_rgridck.find 37 = some grightSpec := rfl
theorem G_rgridck_ok (gl : Gl) : SpecsOK Tryd.prog gl G_rgridck := .cons (gright_sound gl) (.nil _ _)
set_option maxRecDepth 10000 in
theorem rgridck_sound (gl : Gl) : Sound Tryd.prog gl 31 gridckSpec := by
  refine sound_fn (N := Tryd.f31.ntmps) (rs := Tryd.f31.results.toList) mixed tok (G_rgridck_ok gl) Tryd.func31 rfl rfl rfl rfl rfl ?_ ?_ ?_
  · rintro args ⟨g,rfl,hg⟩; simp [rowsOf_C,rowsV, Tryd.f31]
  · rintro args ⟨g,rfl,hg⟩; simp [rowsOf_C,rowsV, gridckSpec, Tryd.f31]
  · rintro args ⟨g,rfl,hg⟩ bs hgl hh hro
    have hE : Env.OK ⟨Tryd.prog, T, G_rgridck, bs⟩ := ⟨tok, by rw [hgl]; exact G_rgridck_ok gl⟩
    simp only [gridckSpec, rowsOf_C,rowsV]
    rcases gridF_or g with h | h <;> simp [and_assoc, gridckSpec, grightSpec, Tryd.f31, h, hg]
end Fen

namespace Fen
open Go Go.Proofs

def blankRow (w : Nat) (s : Sty) : Rw := ⟨List.replicate w (blankF s), false⟩
def nilRw : Rw := ⟨[], false⟩
theorem rep_row : ∀ n, rep n [C.sl 0 [], C.bool false] = rowsC (List.replicate n nilRw)
  | 0 => rfl
  | n + 1 => by simp only [rep, List.replicate_succ, rowsC]; rw [rep_row n]; rfl
theorem fill_step {α : Type} {n k : Nat} (x z : α) (h : k < n) : (List.replicate k x ++ List.replicate (n - k) z).set k x = List.replicate (k + 1) x ++ List.replicate (n - (k + 1)) z := by
  rw [List.set_append_right _ _ (by simp), List.length_replicate, Nat.sub_self, show n - k = (n - (k + 1)) + 1 by omega, List.replicate_succ, List.set_cons_zero, List.replicate_succ' (n := k)]
  simp

def gblanksSpec : Spec := { pre := fun args => ∃ (w n : Nat) (s : Sty), args = [.c (.int .i64 w), .c (.int .i64 n), styV s] ∧ 2 ≤ w ∧ w ≤ 80 ∧ n ≤ 40 ∧ s.ok ∧ styF s = 0, res := fun args => match args with
  | [.c (.int _ w), .c (.int _ n), .agg s] => .one (.val (rowsV (List.replicate n.toNat (blankRow w.toNat (stOf s)))))
  | _ => .many [] }
def gblanksS (w n : Nat) (s : Sty) (k : Nat) : St :=
  ⟨27, [(0, .val (.int .i64 w)), (5, .ptr 0 0 0), (7, .ref 1 0), (12, .val (.int .i64 n)), (13, .val (.int .i64 k))], [.box 32 ((styC s).map .val), .sl 27 0 true 2 n (rowsC (List.replicate k (blankRow w s) ++ List.replicate (n - k) nilRw))]⟩
def G_gblanks : Specs := [(70, newSpec)]
@[simp] theorem G_gblanks_live : Specs.live G_gblanks = false := rfl
@[simp] theorem G_gblanks_70 : G_gblanks.find 70 = some newSpec := rfl
theorem G_gblanks_ok (gl : Gl) : SpecsOK Tryd.prog gl G_gblanks := .cons (new_sound gl) (.nil _ _)
set_option maxRecDepth 10000 in
theorem gblanks_sound (gl : Gl) : Sound Tryd.prog gl 52 gblanksSpec := by
  refine sound_fn (N := Tryd.f52.ntmps) (rs := Tryd.f52.results.toList) mixed tok (G_gblanks_ok gl) Tryd.func52 rfl rfl rfl rfl rfl ?_ ?_ ?_
  · rintro args ⟨w,n,s,rfl,h1,h2,h3,h4,h5⟩; simp [stOf_C,styV, Tryd.f52]
  · rintro args ⟨w,n,s,rfl,h1,h2,h3,h4,h5⟩; simp [stOf_C,styV, gblanksSpec, Tryd.f52]
  · rintro args ⟨w,n,s,rfl,h1,h2,h3,h4,h5⟩ bs hgl hh hro
    have hE : Env.OK ⟨Tryd.prog, T, G_gblanks, bs⟩ := ⟨tok, by rw [hgl]; exact G_gblanks_ok gl⟩
    simp only [gblanksSpec, stOf_C,styV]
    have n1 : n ≤ 1000 := by omega
    have hn : newF w s = (blankRow w s, 0) := by
      unfold newF
      rw [if_neg (by omega), if_neg (by simp [h5])]
      rfl
    have b1 : (n : Int) * 32 ≤ 140737488355328 := by omega
    have b2 : (n : Int) ≤ 9223372036854775807 := by omega
    simp [and_assoc, gblanksSpec, newSpec, Tryd.f52, rep_row, b1, b2]
    repeat (first | refine And.intro (by decide +kernel) ?_ | refine And.intro (by omega) ?_)
    refine AWP.rounds (fun k => k ≤ n) (gblanksS w n s) (fun k => n - k) 0 (by simp) ?_ ?_
    · exact Weak.ren [some 0, some 1] (baseOK.nil hh) (by simp) (by simp [gblanksS]) (by simp [gblanksS])
    · intro k hk
      refine wpc_ok hE mixed _ _ _ ?_
      rcases Nat.lt_or_ge k n with h | h
      · have w1 : IntKind.i64.wrap ((k : Int) + 1) = k + 1 := wrap64 _ (by omega) (by omega)
        have hl : (List.replicate k (blankRow w s) ++ List.replicate (n - k) nilRw).length = n := by simp; omega
        have hs := rowsC_set (l := List.replicate k (blankRow w s) ++ List.replicate (n - k) nilRw) (k := k) (by omega) (blankRow w s)
        rw [fill_step _ _ h] at hs
        simp [gblanksS, and_assoc, newSpec, h, w1, hn, h4, styV, rowV]
        exact ⟨by omega, Next.mk (k + 1) h (by omega) (Weak.ren [some 0, some 1] (baseOK.nil hh) (by simp) (by simp [gblanksS, hs]) (by simp [gblanksS]))⟩
      · obtain rfl : k = n := by omega
        simp [gblanksS, rowsV]

def rblankS (w n : Nat) (s : Sty) (i : Nat) : St :=
  ⟨22, [(0, .val (.int .i64 w)), (1, .val (.int .i64 n)), (5, .ptr 0 0 0), (7, if i = 0 then .nil else .ref 1 0), (8, .val (.int .i64 i))],
    .box 32 ((styC s).map .val) :: if i = 0 then [] else [.sl 27 0 true 2 i (rowsC (List.replicate i (blankRow w s)))]⟩
def G_rgblank : Specs := [(63, blanksSpec)]
@[simp] theorem G_rgblank_live : Specs.live G_rgblank = false := rfl
@[simp] theorem G_rgblank_63 : G_rgblank.find 63 = some blanksSpec := rfl
theorem G_rgblank_ok (gl : Gl) : SpecsOK Tryd.prog gl G_rgblank := .cons (blanks_sound gl) (.nil _ _)
set_option maxRecDepth 10000 in
theorem rgblank_sound (gl : Gl) : Sound Tryd.prog gl 39 gblanksSpec := by
  refine sound_fn (N := Tryd.f39.ntmps) (rs := Tryd.f39.results.toList) mixed tok (G_rgblank_ok gl) Tryd.func39 rfl rfl rfl rfl rfl ?_ ?_ ?_
  · rintro args ⟨w,n,s,rfl,h1,h2,h3,h4,h5⟩; simp [stOf_C,styV, Tryd.f39]
  · rintro args ⟨w,n,s,rfl,h1,h2,h3,h4,h5⟩; simp [stOf_C,styV, gblanksSpec, Tryd.f39]
  · rintro args ⟨w,n,s,rfl,h1,h2,h3,h4,h5⟩ bs hgl hh hro
    have hE : Env.OK ⟨Tryd.prog, T, G_rgblank, bs⟩ := ⟨tok, by rw [hgl]; exact G_rgblank_ok gl⟩
    simp only [gblanksSpec, stOf_C,styV]
    simp [and_assoc, gblanksSpec, blanksSpec, Tryd.f39]
    refine AWP.rounds (fun i => i ≤ n) (rblankS w n s) (fun i => n - i) 0 (by simp) ?_ ?_
    · refine Weak.keep ?_
      simp [rblankS]
    · intro i hi
      refine wpc_ok hE mixed _ _ _ ?_
      rcases Nat.lt_or_ge i n with hl | hl
      · have w1 : IntKind.i64.wrap ((i : Int) + 1) = i + 1 := wrap64 _ (by omega) (by omega)
        have w80 : w ≤ 1000 := by omega
        have e : rowsC (List.replicate (i + 1) (blankRow w s)) = rowsC (List.replicate i (blankRow w s)) ++ rowC (blankRow w s) := by
          rw [List.replicate_succ', rowsC_app]; simp [rowsC]
        have e0 : [C.sl w (celsC (List.replicate w (blankF s))), C.bool false] = rowC (blankRow w s) := by simp [rowC, blankRow]
        rcases Nat.eq_zero_or_pos i with h0 | h0
        · subst h0
          simp [rblankS, and_assoc, blanksSpec, styV, celsV, hl, w1, w80, e0]
          exact ⟨⟨w, rfl, w80⟩, Next.mk 1 (by omega) (by omega) (Weak.ren [some 0, some 1] (baseOK.nil hh) (by simp) (by simp [rblankS, rowsC]) (by simp [rblankS]))⟩
        · have h0' : ¬ i = 0 := by omega
          simp [rblankS, and_assoc, blanksSpec, styV, celsV, hl, w1, h0', w80, e0]
          exact ⟨⟨w, rfl, w80⟩, by omega, by omega, Next.mk (i + 1) (by omega) (by omega) (Weak.ren [some 0, some 1] (baseOK.nil hh) (by simp) (by simp [rblankS, e]) (by simp [rblankS]))⟩
      · obtain rfl : i = n := by omega
        rcases Nat.eq_zero_or_pos i with h0 | h0
        · subst h0
          simp [rblankS, rowsV]
        · have h0' : ¬ i = 0 := by omega
          simp [rblankS, rowsV, h0']

def newGF (cols rows : Int) (s : Sty) : List Rw × Int :=
  if cols < 2 ∨ 80 < cols ∨ rows < 1 ∨ 40 < rows then ([], 2) else if styF s ≠ 0 then ([], styF s) else (List.replicate rows.toNat (blankRow cols.toNat s), 0)
def gnewSpec : Spec := { pre := fun args => ∃ (c r : Int) (s : Sty), args = [.c (.int .i64 c), .c (.int .i64 r), styV s] ∧ s.ok, res := fun args => match args with
  | [.c (.int _ c), .c (.int _ r), .agg s] => .many [.val (rowsV (newGF c r (stOf s)).1), .val (.c (.int .i64 (newGF c r (stOf s)).2))]
  | _ => .many [] }
def G_gnew : Specs := [(44, stySpec), (52, gblanksSpec)]
@[simp] theorem G_gnew_live : Specs.live G_gnew = false := rfl
@[simp] theorem G_gnew_44 : G_gnew.find 44 = some stySpec := rfl
@[simp] theorem G_gnew_52 : G_gnew.find 52 = some gblanksSpec := rfl
theorem G_gnew_ok (gl : Gl) : SpecsOK Tryd.prog gl G_gnew := .cons (sty_sound gl) (.cons (gblanks_sound gl) (.nil _ _))
set_option maxRecDepth 10000 in
theorem gnew_sound (gl : Gl) : Sound Tryd.prog gl 25 gnewSpec := by
  refine sound_fn (N := Tryd.f25.ntmps) (rs := Tryd.f25.results.toList) mixed tok (G_gnew_ok gl) Tryd.func25 rfl rfl rfl rfl rfl ?_ ?_ ?_
  · rintro args ⟨c,r,s,rfl,hs⟩; simp [stOf_C,styV, Tryd.f25]
  · rintro args ⟨c,r,s,rfl,hs⟩; simp [stOf_C,styV, gnewSpec, Tryd.f25]
  · rintro args ⟨c,r,s,rfl,hs⟩ bs hgl hh hro
    have hE : Env.OK ⟨Tryd.prog, T, G_gnew, bs⟩ := ⟨tok, by rw [hgl]; exact G_gnew_ok gl⟩
    simp only [gnewSpec, stOf_C,styV]
    unfold newGF
    by_cases h1 : c < 2
    · simp [and_assoc, gnewSpec, gblanksSpec, stySpec, Tryd.f25, h1, rowsV]
    by_cases h2 : 80 < c
    · simp [and_assoc, gnewSpec, gblanksSpec, stySpec, Tryd.f25, h1, h2, rowsV]
    by_cases h3 : r < 1
    · simp [and_assoc, gnewSpec, gblanksSpec, stySpec, Tryd.f25, h1, h2, h3, rowsV]
    by_cases h4 : 40 < r
    · simp [and_assoc, gnewSpec, gblanksSpec, stySpec, Tryd.f25, h1, h2, h3, h4, rowsV]
    by_cases h5 : styF s = 0
    · obtain ⟨w, rfl⟩ : ∃ w : Nat, c = w := ⟨c.toNat, by omega⟩
      obtain ⟨n, rfl⟩ : ∃ n : Nat, r = n := ⟨r.toNat, by omega⟩
      simp [and_assoc, gnewSpec, gblanksSpec, stySpec, Tryd.f25, h1, h2, h3, h4, h5, hs, styV]
      exact ⟨w, rfl, n, rfl, by omega, by omega, by omega⟩
    · simp [and_assoc, gnewSpec, gblanksSpec, stySpec, Tryd.f25, h1, h2, h3, h4, h5, hs, rowsV, styV]
def G_rgnew : Specs := [(38, stySpec), (39, gblanksSpec)]
@[simp] theorem G_rgnew_live : Specs.live G_rgnew = false := rfl
@[simp] theorem G_rgnew_38 : G_rgnew.find 38 = some stySpec := rfl
@[simp] theorem G_rgnew_39 : G_rgnew.find 39 = some gblanksSpec := rfl
theorem G_rgnew_ok (gl : Gl) : SpecsOK Tryd.prog gl G_rgnew := .cons (rsty_sound gl) (.cons (rgblank_sound gl) (.nil _ _))
set_option maxRecDepth 10000 in
theorem rgnew_sound (gl : Gl) : Sound Tryd.prog gl 26 gnewSpec := by
  refine sound_fn (N := Tryd.f26.ntmps) (rs := Tryd.f26.results.toList) mixed tok (G_rgnew_ok gl) Tryd.func26 rfl rfl rfl rfl rfl ?_ ?_ ?_
  · rintro args ⟨c,r,s,rfl,hs⟩; simp [stOf_C,styV, Tryd.f26]
  · rintro args ⟨c,r,s,rfl,hs⟩; simp [stOf_C,styV, gnewSpec, Tryd.f26]
  · rintro args ⟨c,r,s,rfl,hs⟩ bs hgl hh hro
    have hE : Env.OK ⟨Tryd.prog, T, G_rgnew, bs⟩ := ⟨tok, by rw [hgl]; exact G_rgnew_ok gl⟩
    simp only [gnewSpec, stOf_C,styV]
    unfold newGF
    by_cases h1 : c < 2
    · simp [and_assoc, gnewSpec, gblanksSpec, stySpec, Tryd.f26, h1, rowsV]
    by_cases h2 : 80 < c
    · simp [and_assoc, gnewSpec, gblanksSpec, stySpec, Tryd.f26, h1, h2, rowsV]
    by_cases h3 : r < 1
    · simp [and_assoc, gnewSpec, gblanksSpec, stySpec, Tryd.f26, h1, h2, h3, rowsV]
    by_cases h4 : 40 < r
    · simp [and_assoc, gnewSpec, gblanksSpec, stySpec, Tryd.f26, h1, h2, h3, h4, rowsV]
    by_cases h5 : styF s = 0
    · obtain ⟨w, rfl⟩ : ∃ w : Nat, c = w := ⟨c.toNat, by omega⟩
      obtain ⟨n, rfl⟩ : ∃ n : Nat, r = n := ⟨r.toNat, by omega⟩
      simp [and_assoc, gnewSpec, gblanksSpec, stySpec, Tryd.f26, h1, h2, h3, h4, h5, hs, styV]
      exact ⟨w, rfl, n, rfl, by omega, by omega, by omega⟩
    · simp [and_assoc, gnewSpec, gblanksSpec, stySpec, Tryd.f26, h1, h2, h3, h4, h5, hs, rowsV, styV]

/-! ### places -/
def placeF (g : List Rw) (r c : Int) : Bool := decide ((0 ≤ r ∧ r < g.length ∧ 0 ≤ c ∧ c ≤ colsG g) ∨ (r = g.length ∧ c = 0))
def placeSpec : Spec := { pre := fun args => ∃ (g : List Rw) (r c : Int), args = [rowsV g, .agg [.int .i64 r, .int .i64 c]] ∧ g ≠ [], res := fun args => match args with
  | [.c (.sl _ cs), .agg [.int _ r, .int _ c]] => .one (.val (.c (.bool (placeF (rowsOf cs) r c))))
  | _ => .many [] }
def G_gplace : Specs := [(47, gcolsSpec)]
@[simp] theorem G_gplace_live : Specs.live G_gplace = false := rfl
@[simp] theorem G_gplace_47 : G_gplace.find 47 = some gcolsSpec := rfl
theorem G_gplace_ok (gl : Gl) : SpecsOK Tryd.prog gl G_gplace := .cons (gcols_sound gl) (.nil _ _)
set_option maxRecDepth 10000 in
theorem gplace_sound (gl : Gl) : Sound Tryd.prog gl 43 placeSpec := by
  refine sound_fn (N := Tryd.f43.ntmps) (rs := Tryd.f43.results.toList) mixed tok (G_gplace_ok gl) Tryd.func43 rfl rfl rfl rfl rfl ?_ ?_ ?_
  · rintro args ⟨g,r,c,rfl,hg⟩; simp [rowsOf_C,rowsV, Tryd.f43]
  · rintro args ⟨g,r,c,rfl,hg⟩; simp [rowsOf_C,rowsV, placeSpec, Tryd.f43]
  · rintro args ⟨g,r,c,rfl,hg⟩ bs hgl hh hro
    have hE : Env.OK ⟨Tryd.prog, T, G_gplace, bs⟩ := ⟨tok, by rw [hgl]; exact G_gplace_ok gl⟩
    simp only [placeSpec, rowsOf_C,rowsV]
    unfold placeF
    have eC : ∃ g' : List Rw, g.length = g'.length ∧ g = g' ∧ ¬ g' = [] := ⟨g, rfl, rfl, hg⟩
    rcases Decidable.em (0 ≤ r) with h1 | h1 <;> rcases Decidable.em (r < g.length) with h2 | h2 <;> rcases Decidable.em (0 ≤ c) with h3 | h3 <;> rcases Decidable.em (c ≤ colsG g) with h4 | h4 <;> rcases Decidable.em (r = g.length) with h5 | h5 <;> rcases Decidable.em (c = 0) with h6 | h6 <;> first | (exfalso; omega) | skip
    all_goals simp [and_assoc, placeSpec, gcolsSpec, Tryd.f43, h1, h2, h3, h4, h5, h6, eC, hg]
    all_goals decide +kernel
def G_rgplace : Specs := []
@[simp] theorem G_rgplace_live : Specs.live G_rgplace = false := rfl
theorem G_rgplace_ok (gl : Gl) : SpecsOK Tryd.prog gl G_rgplace := .nil _ _
set_option maxRecDepth 10000 in
theorem rgplace_sound (gl : Gl) : Sound Tryd.prog gl 49 placeSpec := by
  refine sound_fn (N := Tryd.f49.ntmps) (rs := Tryd.f49.results.toList) mixed tok (G_rgplace_ok gl) Tryd.func49 rfl rfl rfl rfl rfl ?_ ?_ ?_
  · rintro args ⟨g,r,c,rfl,hg⟩; simp [rowsOf_C,rowsV, Tryd.f49]
  · rintro args ⟨g,r,c,rfl,hg⟩; simp [rowsOf_C,rowsV, placeSpec, Tryd.f49]
  · rintro args ⟨g,r,c,rfl,hg⟩ bs hgl hh hro
    have hE : Env.OK ⟨Tryd.prog, T, G_rgplace, bs⟩ := ⟨tok, by rw [hgl]; exact G_rgplace_ok gl⟩
    simp only [placeSpec, rowsOf_C,rowsV]
    unfold placeF
    obtain ⟨r0, hr0⟩ : ∃ r0 : Rw, (rowsC g).head?.getD C.nilf = .sl (colsG g) (celsC r0.cells) := by
      match g, hg with
      | r :: g, _ => exact ⟨r, rfl⟩
    have gl0 : 0 < g.length := List.length_pos_iff.2 hg
    rcases Decidable.em (r = g.length) with h5 | h5
    · rcases Decidable.em (c = 0) with h6 | h6 <;> simp [and_assoc, placeSpec, Tryd.f49, h5, h6]
    rcases Decidable.em (0 ≤ r) with h1 | h1 <;> rcases Decidable.em (r < g.length) with h2 | h2 <;> rcases Decidable.em (0 ≤ c) with h3 | h3 <;> rcases Decidable.em (c ≤ colsG g) with h4 | h4 <;> first | (exfalso; omega) | skip
    all_goals simp [and_assoc, placeSpec, Tryd.f49, h1, h2, h3, h4, h5, hr0, gl0]
    all_goals decide +kernel
end Fen

namespace Fen
open Go Go.Proofs

theorem rowOf_C' (r : Rw) : rowOf (rowC r) = r := rowOf_C r

/-! ### the closures, on the heap -/
def gset1HS : HS := { wr := true, eff := fun xs h => match xs with
  | [.ref id v, .fptr r, .fptr [.int q i]] =>
    ((∃ (l : List Rw) (r' : Rw) (i' : Nat), h[id]? = some (.sl 27 v true 2 l.length (rowsC l)) ∧ r = rowC r' ∧ i = i' ∧ q = .i64 ∧ i' < l.length ∧ l.length ≤ 40), .tup [],
      match h[id]? with | some (.sl ty v' p sz n cs) => h.set id (.sl ty v' p sz n (rowsC ((rowsOf cs).set i.toNat (rowOf r)))) | _ => h)
  | _ => (False, .dead, h) }
def gset1Spec : Spec := { pre := fun _ => False, res := fun _ => .many [], hp := some gset1HS }
def G_gset1 : Specs := []
@[simp] theorem G_gset1_live : Specs.live G_gset1 = false := rfl
theorem G_gset1_ok (gl : Gl) : SpecsOK Tryd.prog gl G_gset1 := .nil _ _
set_option maxRecDepth 10000 in
theorem gset1_sound (gl : Gl) : Sound Tryd.prog gl 55 gset1Spec := by
  refine sound_heap (hs := gset1HS) (N := Tryd.f55.ntmps) (rs := Tryd.f55.results.toList) mixed tok (G_gset1_ok gl) Tryd.func55 rfl rfl rfl rfl rfl ?_ ?_
  · intro xs h hp
    simp only [gset1HS] at hp
    split at hp
    all_goals first | exact hp.elim | simp [Tryd.f55]
  · intro xs h hp bs hgl hh hro
    have hE : Env.OK ⟨Tryd.prog, T, G_gset1, bs⟩ := ⟨tok, by rw [hgl]; exact G_gset1_ok gl⟩
    simp only [gset1HS] at hp
    split at hp
    · rename_i id v r q i
      obtain ⟨l, r, i, hget, rfl, rfl, rfl, hi, hl⟩ := hp
      have g := fun y => get_set_self (y := y) hget
      have hs := rowsC_set hi r
      simp [Tryd.f55, hcEff, gset1HS, hget, rowsOf_C, rowOf_C, hi, g]
      refine ⟨by omega, ?_⟩
      rw [hs]
      exact RetTo.same ⟨rfl, rfl⟩
    · exact hp.elim
def layF (l : List Rw) (top : Nat) (s : List Rw) : List Rw := l.take top ++ s ++ l.drop (top + s.length)
theorem layF_len {l s : List Rw} {top : Nat} (h : top + s.length ≤ l.length) : (layF l top s).length = l.length := by simp [layF]; omega
def gturn1HS : HS := { wr := true, eff := fun xs h => match xs with
  | [.ref id v, .fptr [.int q t], .fptr [.sl n cs]] =>
    ((∃ (l s : List Rw) (t' : Nat), h[id]? = some (.sl 27 v true 2 l.length (rowsC l)) ∧ cs = rowsC s ∧ n = s.length ∧ t = t' ∧ q = .i64 ∧ t' + s.length ≤ l.length ∧ l.length ≤ 40), .tup [],
      match h[id]? with | some (.sl ty v' p sz n' ds) => h.set id (.sl ty v' p sz n' (rowsC (layF (rowsOf ds) t.toNat (rowsOf cs)))) | _ => h)
  | _ => (False, .dead, h) }
def gturn1Spec : Spec := { pre := fun _ => False, res := fun _ => .many [], hp := some gturn1HS }
def G_gturn1 : Specs := []
@[simp] theorem G_gturn1_live : Specs.live G_gturn1 = false := rfl
theorem G_gturn1_ok (gl : Gl) : SpecsOK Tryd.prog gl G_gturn1 := .nil _ _
set_option maxRecDepth 10000 in
theorem gturn1_sound (gl : Gl) : Sound Tryd.prog gl 59 gturn1Spec := by
  refine sound_heap (hs := gturn1HS) (N := Tryd.f59.ntmps) (rs := Tryd.f59.results.toList) mixed tok (G_gturn1_ok gl) Tryd.func59 rfl rfl rfl rfl rfl ?_ ?_
  · intro xs h hp
    simp only [gturn1HS] at hp
    split at hp
    all_goals first | exact hp.elim | simp [Tryd.f59]
  · intro xs h hp bs hgl hh hro
    have hE : Env.OK ⟨Tryd.prog, T, G_gturn1, bs⟩ := ⟨tok, by rw [hgl]; exact G_gturn1_ok gl⟩
    simp only [gturn1HS] at hp
    split at hp
    · rename_i id v q t n cs
      obtain ⟨l, s, t, hget, rfl, rfl, rfl, rfl, ht, hl⟩ := hp
      have g := fun y => get_set_self (y := y) hget
      have e1 : ((l.length : Int) - t).toNat = l.length - t := by omega
      have e2 : min s.length (l.length - t) = s.length := by omega
      have tk : List.take (s.length * 2) (rowsC s) = rowsC s := List.take_of_length_le (by simp)
      have hlay : List.take (t * 2) (rowsC l) ++ (rowsC s ++ List.drop (t * 2 + s.length * 2) (rowsC l)) = rowsC (layF l t s) := by
        rw [rowsC_take, ← Nat.add_mul, rowsC_drop, layF, rowsC_app, rowsC_app, List.append_assoc]
      simp [Tryd.f59, hcEff, gturn1HS, hget, rowsOf_C, g, e1, e2, tk, hlay]
      exact ⟨by omega, by omega, rfl, RetTo.same ⟨rfl, rfl⟩⟩
    · exact hp.elim
/-- a row of a grid of which a part is erased -/
def eraseAt (w : Nat) (fr fc tr tc : Int) (s : Sty) (k : Nat) (r : Rw) : Rw :=
  if fr ≤ k ∧ (k : Int) ≤ tr then (eraseRowF r (if (k : Int) = fr then fc else 0) (if (k : Int) = tr then tc else w) s).1 else r
def eraseTo (w : Nat) (fr fc tr tc : Int) (s : Sty) (l : List Rw) (m : Nat) : List Rw := l.mapIdx fun k r => if k < m then eraseAt w fr fc tr tc s k r else r
section
variable (w : Nat) (fr fc tr tc : Int) (s : Sty) (l : List Rw)
theorem eraseTo_len (m : Nat) : (eraseTo w fr fc tr tc s l m).length = l.length := by simp [eraseTo]
theorem eraseTo_at {m : Nat} (h : m < l.length) : (eraseTo w fr fc tr tc s l m)[m]'(by rw [eraseTo_len]; exact h) = l[m] := by simp [eraseTo]
theorem eraseTo_set {m : Nat} (h : m < l.length) : (eraseTo w fr fc tr tc s l m).set m (eraseAt w fr fc tr tc s m l[m]) = eraseTo w fr fc tr tc s l (m + 1) := by
  refine List.ext_getElem (by simp [eraseTo]) fun i h1 h2 => ?_
  rw [List.getElem_set]
  simp only [eraseTo, List.getElem_mapIdx]
  by_cases c : m = i
  · subst c; simp
  · rw [if_neg c]
    by_cases d : i < m
    · rw [if_pos d, if_pos (by omega)]
    · rw [if_neg d, if_neg (by omega)]
theorem eraseTo_end {m : Nat} (h : tr < m) : eraseTo w fr fc tr tc s l m = eraseTo w fr fc tr tc s l l.length := by
  refine List.ext_getElem (by simp [eraseTo]) fun i h1 h2 => ?_
  simp only [eraseTo, List.getElem_mapIdx]
  have hi : i < l.length := by simpa [eraseTo] using h1
  by_cases d : i < m
  · rw [if_pos d, if_pos hi]
  · rw [if_neg d, if_pos hi, eraseAt, if_neg (by omega)]
theorem eraseTo_start {m : Nat} (h : (m : Int) ≤ fr) : eraseTo w fr fc tr tc s l m = l := by
  refine List.ext_getElem (by simp [eraseTo]) fun i h1 h2 => ?_
  simp only [eraseTo, List.getElem_mapIdx]
  by_cases d : i < m
  · rw [if_pos d, eraseAt, if_neg (by omega)]
  · rw [if_neg d]
end
def gerase1HS : HS := { wr := true, eff := fun xs h => match xs with
  | [.ref id v, .fptr [.int q1 a, .int q2 b], .fptr [.int q3 c, .int q4 d], .fptr [.sl n cs], .fptr s] =>
    ((∃ (l g : List Rw) (st : Sty), h[id]? = some (.sl 27 v true 2 l.length (rowsC l)) ∧ cs = rowsC g ∧ n = g.length ∧ g ≠ [] ∧ s = styC st ∧ q1 = .i64 ∧ q2 = .i64 ∧ q3 = .i64 ∧ q4 = .i64 ∧ l.length ≤ 40 ∧ 0 ≤ a ∧ a ≤ l.length ∧ RowsOK l ∧ st.ok), .tup [],
      match h[id]? with | some (.sl ty v' p sz n' ds) => h.set id (.sl ty v' p sz n' (rowsC (eraseTo (colsG (rowsOf cs)) a b c d (stOf s) (rowsOf ds) (rowsOf ds).length))) | _ => h)
  | _ => (False, .dead, h) }
def gerS (id v : Nat) (l g : List Rw) (st : Sty) (a b c d : Int) (h : List Blk) (k : Nat) : St :=
  ⟨51, [(0, .ref id v), (1, .fptr [.int .i64 a, .int .i64 b]), (2, .fptr [.int .i64 c, .int .i64 d]), (3, .fptr [.sl g.length (rowsC g)]), (4, .fptr (styC st)), (6, .val (.int .i64 k))], h.set id (.sl 27 v true 2 l.length (rowsC (eraseTo (colsG g) a b c d st l k)))⟩
def gerase1Spec : Spec := { pre := fun _ => False, res := fun _ => .many [], hp := some gerase1HS }
def G_gerase1 : Specs := [(47, gcolsSpec), (48, eraseSpec)]
@[simp] theorem G_gerase1_live : Specs.live G_gerase1 = false := rfl
@[simp] theorem G_gerase1_47 : G_gerase1.find 47 = some gcolsSpec := rfl
@[simp] theorem G_gerase1_48 : G_gerase1.find 48 = some eraseSpec := rfl
theorem G_gerase1_ok : SpecsOK Tryd.prog glW G_gerase1 := .cons (gcols_sound glW) (.cons erase_sound (.nil _ _))
set_option maxRecDepth 10000 in
theorem gerase1_sound : Sound Tryd.prog glW 46 gerase1Spec := by
  refine sound_heap (hs := gerase1HS) (N := Tryd.f46.ntmps) (rs := Tryd.f46.results.toList) mixed tok G_gerase1_ok Tryd.func46 rfl rfl rfl rfl rfl ?_ ?_
  · intro xs h hp
    simp only [gerase1HS] at hp
    split at hp
    all_goals first | exact hp.elim | simp [Tryd.f46]
  · intro xs h hp bs hgl hh hro
    have hE : Env.OK ⟨Tryd.prog, T, G_gerase1, bs⟩ := ⟨tok, by rw [hgl]; exact G_gerase1_ok⟩
    simp only [gerase1HS] at hp
    split at hp
    · rename_i id v q1 a q2 b q3 c q4 d n cs s
      obtain ⟨l, g, st, hget, rfl, rfl, hg, rfl, rfl, rfl, rfl, rfl, hl, ha0, hal, hok, hst⟩ := hp
      obtain ⟨a, rfl⟩ : ∃ n : Nat, a = n := ⟨a.toNat, by omega⟩
      have gs := fun y => get_set_self (y := y) hget
      have eC : ∃ g' : List Rw, g.length = g'.length ∧ g = g' ∧ ¬ g' = [] := ⟨g, rfl, rfl, hg⟩
      simp [Tryd.f46, hcEff, gerase1HS, hget, rowsOf_C, stOf_C]
      refine AWP.rounds (fun k => a ≤ k ∧ k ≤ l.length) (gerS id v l g st a b c d h) (fun k => l.length - k) a ⟨by omega, by omega⟩ ?_ ?_
      · refine Weak.heap ?_ ?_
        · rw [eraseTo_start _ _ _ _ _ _ _ (Int.le_refl _), set_same hget]
        · simp
      · rintro k ⟨hka, hkl⟩
        refine wpc_ok hE mixed _ _ _ ?_
        by_cases h1 : (k : Int) ≤ c
        rotate_left
        · have e := eraseTo_end (colsG g) a b c d st l (m := k) (by omega)
          simp [gerS, h1, gs, e]
          exact RetTo.same ⟨rfl, rfl⟩
        rcases Nat.lt_or_ge k l.length with h2 | h2
        rotate_left
        · obtain rfl : k = l.length := by omega
          simp [gerS, h1, gs]
          exact RetTo.same ⟨rfl, rfl⟩
        have w1 : IntKind.i64.wrap ((k : Int) + 1) = k + 1 := wrap64 _ (by omega) (by omega)
        have hlen := eraseTo_len (colsG g) a b c d st l k
        have hd := rowsC_at (l := eraseTo (colsG g) a b c d st l k) (k := k) (by rw [hlen]; exact h2)
        rw [eraseTo_at _ _ _ _ _ _ _ h2] at hd
        have hs := rowsC_set (l := eraseTo (colsG g) a b c d st l k) (k := k) (by rw [hlen]; exact h2) (eraseAt (colsG g) a b c d st k l[k])
        rw [eraseTo_set _ _ _ _ _ _ _ h2] at hs
        have hr : (l[k]).ok := hok _ (List.getElem_mem h2)
        have he : eraseAt (colsG g) a b c d st k l[k] = (eraseRowF l[k] (if (k : Int) = a then b else 0) (if (k : Int) = c then d else colsG g) st).1 := by rw [eraseAt, if_pos ⟨by omega, h1⟩]
        rw [he] at hs
        generalize l[k] = r at *
        by_cases h3 : (k : Int) = a
        · have h3' : ((k : Int) = a) = True := eq_true h3
          rw [if_pos h3] at hs
          by_cases h4 : (k : Int) = c
          · have h4' : ((k : Int) = c) = True := eq_true h4
            rw [if_pos h4] at hs
            simp [gerS, and_assoc, eraseSpec, gcolsSpec, h1, h2, h3', h4', gs, w1, eC, hg, hlen, hd, hr, hst, rowV, styV]
            exact ⟨by omega, rfl, Next.mk (k + 1) ⟨by omega, h2⟩ (by omega) (Weak.heap (by rw [← hs]) (by simp))⟩
          · have h4' : ((k : Int) = c) = False := eq_false h4
            rw [if_neg h4] at hs
            simp [gerS, and_assoc, eraseSpec, gcolsSpec, h1, h2, h3', h4', gs, w1, eC, hg, hlen, hd, hr, hst, rowV, styV]
            exact ⟨by omega, rfl, Next.mk (k + 1) ⟨by omega, h2⟩ (by omega) (Weak.heap (by rw [← hs]) (by simp))⟩
        · have h3' : ((k : Int) = a) = False := eq_false h3
          rw [if_neg h3] at hs
          by_cases h4 : (k : Int) = c
          · have h4' : ((k : Int) = c) = True := eq_true h4
            rw [if_pos h4] at hs
            simp [gerS, and_assoc, eraseSpec, gcolsSpec, h1, h2, h3', h4', gs, w1, eC, hg, hlen, hd, hr, hst, rowV, styV]
            exact ⟨by omega, rfl, Next.mk (k + 1) ⟨by omega, h2⟩ (by omega) (Weak.heap (by rw [← hs]) (by simp))⟩
          · have h4' : ((k : Int) = c) = False := eq_false h4
            rw [if_neg h4] at hs
            simp [gerS, and_assoc, eraseSpec, gcolsSpec, h1, h2, h3', h4', gs, w1, eC, hg, hlen, hd, hr, hst, rowV, styV]
            exact ⟨by omega, rfl, Next.mk (k + 1) ⟨by omega, h2⟩ (by omega) (Weak.heap (by rw [← hs]) (by simp))⟩
    · exact hp.elim
end Fen

namespace Fen
open Go Go.Proofs

theorem take_rows (g : List Rw) : List.take (g.length * 2) (rowsC g) = rowsC g := List.take_of_length_le (by simp)
theorem drop_rows (g : List Rw) : List.drop (g.length * 2) (rowsC (List.replicate g.length nilRw)) = [] := List.drop_eq_nil_of_le (by simp)

/-! ### a copy, changed by one of the closures -/
def chgSetSpec : Spec := { pre := fun args => ∃ (g : List Rw) (r : Rw) (i : Nat), args = [rowsV g, .c (.fn 55 [.ptr (rowC r), .ptr [.int .i64 i]])] ∧ i < g.length ∧ g.length ≤ 40, res := fun args => match args with
  | [.c (.sl _ cs), .c (.fn _ [.ptr r, .ptr [.int _ i]])] => .one (.val (rowsV ((rowsOf cs).set i.toNat (rowOf r))))
  | _ => .many [] }
def G_chgSet : Specs := [(55, gset1Spec)]
@[simp] theorem G_chgSet_live : Specs.live G_chgSet = false := rfl
@[simp] theorem G_chgSet_55 : G_chgSet.find 55 = some gset1Spec := rfl
theorem G_chgSet_ok (gl : Gl) : SpecsOK Tryd.prog gl G_chgSet := .cons (gset1_sound gl) (.nil _ _)
set_option maxRecDepth 10000 in
theorem chgSet_sound (gl : Gl) : Sound Tryd.prog gl 45 chgSetSpec := by
  refine sound_fn (N := Tryd.f45.ntmps) (rs := Tryd.f45.results.toList) mixed tok (G_chgSet_ok gl) Tryd.func45 rfl rfl rfl rfl rfl ?_ ?_ ?_
  · rintro args ⟨g,r,i,rfl,h1,h2⟩; simp [rowsV,rowsOf_C,rowOf_C, Tryd.f45]
  · rintro args ⟨g,r,i,rfl,h1,h2⟩; simp [rowsV,rowsOf_C,rowOf_C, chgSetSpec, Tryd.f45]
  · rintro args ⟨g,r,i,rfl,h1,h2⟩ bs hgl hh hro
    have hE : Env.OK ⟨Tryd.prog, T, G_chgSet, bs⟩ := ⟨tok, by rw [hgl]; exact G_chgSet_ok gl⟩
    simp only [chgSetSpec, rowsV,rowsOf_C,rowOf_C]
    have tk := take_rows g
    have dk := drop_rows g
    simp [and_assoc, chgSetSpec, gset1Spec, Tryd.f45, gset1HS, rep_row, tk, dk]
    exact ⟨by omega, by omega, g, rfl, rfl, i, rfl, h1, h2⟩
def chgTurnSpec : Spec := { pre := fun args => ∃ (g s : List Rw) (t : Nat), args = [rowsV g, .c (.fn 59 [.ptr [.int .i64 t], .ptr [.sl s.length (rowsC s)]])] ∧ t + s.length ≤ g.length ∧ g.length ≤ 40, res := fun args => match args with
  | [.c (.sl _ cs), .c (.fn _ [.ptr [.int _ t], .ptr [.sl _ s]])] => .one (.val (rowsV (layF (rowsOf cs) t.toNat (rowsOf s))))
  | _ => .many [] }
def G_chgTurn : Specs := [(59, gturn1Spec)]
@[simp] theorem G_chgTurn_live : Specs.live G_chgTurn = false := rfl
@[simp] theorem G_chgTurn_59 : G_chgTurn.find 59 = some gturn1Spec := rfl
theorem G_chgTurn_ok (gl : Gl) : SpecsOK Tryd.prog gl G_chgTurn := .cons (gturn1_sound gl) (.nil _ _)
set_option maxRecDepth 10000 in
theorem chgTurn_sound (gl : Gl) : Sound Tryd.prog gl 45 chgTurnSpec := by
  refine sound_fn (N := Tryd.f45.ntmps) (rs := Tryd.f45.results.toList) mixed tok (G_chgTurn_ok gl) Tryd.func45 rfl rfl rfl rfl rfl ?_ ?_ ?_
  · rintro args ⟨g,s,t,rfl,h1,h2⟩; simp [rowsV,rowsOf_C, Tryd.f45]
  · rintro args ⟨g,s,t,rfl,h1,h2⟩; simp [rowsV,rowsOf_C, chgTurnSpec, Tryd.f45]
  · rintro args ⟨g,s,t,rfl,h1,h2⟩ bs hgl hh hro
    have hE : Env.OK ⟨Tryd.prog, T, G_chgTurn, bs⟩ := ⟨tok, by rw [hgl]; exact G_chgTurn_ok gl⟩
    simp only [chgTurnSpec, rowsV,rowsOf_C]
    have tk := take_rows g
    have dk := drop_rows g
    have hl := layF_len h1
    simp [and_assoc, chgTurnSpec, gturn1Spec, Tryd.f45, gturn1HS, rep_row, tk, dk, hl]
    exact ⟨by omega, by omega, g, rfl, rfl, t, rfl, h1, h2⟩
def chgEraseSpec : Spec := { pre := fun args => ∃ (g : List Rw) (a b c d : Int) (st : Sty), args = [rowsV g, .c (.fn 46 [.ptr [.int .i64 a, .int .i64 b], .ptr [.int .i64 c, .int .i64 d], .ptr [.sl g.length (rowsC g)], .ptr (styC st)])] ∧ g ≠ [] ∧ g.length ≤ 40 ∧ 0 ≤ a ∧ a ≤ g.length ∧ RowsOK g ∧ st.ok, res := fun args => match args with
  | [.c (.sl _ cs), .c (.fn _ [.ptr [.int _ a, .int _ b], .ptr [.int _ c, .int _ d], .ptr [.sl _ _], .ptr s])] => .one (.val (rowsV (eraseTo (colsG (rowsOf cs)) a b c d (stOf s) (rowsOf cs) (rowsOf cs).length)))
  | _ => .many [] }
def G_chgErase : Specs := [(46, gerase1Spec)]
@[simp] theorem G_chgErase_live : Specs.live G_chgErase = false := rfl
@[simp] theorem G_chgErase_46 : G_chgErase.find 46 = some gerase1Spec := rfl
theorem G_chgErase_ok : SpecsOK Tryd.prog glW G_chgErase := .cons gerase1_sound (.nil _ _)
set_option maxRecDepth 10000 in
theorem chgErase_sound : Sound Tryd.prog glW 45 chgEraseSpec := by
  refine sound_fn (N := Tryd.f45.ntmps) (rs := Tryd.f45.results.toList) mixed tok G_chgErase_ok Tryd.func45 rfl rfl rfl rfl rfl ?_ ?_ ?_
  · rintro args ⟨g,a,b,c,d,st,rfl,hg,h1,h2,h3,h4,h5⟩; simp [rowsV,rowsOf_C,stOf_C, Tryd.f45]
  · rintro args ⟨g,a,b,c,d,st,rfl,hg,h1,h2,h3,h4,h5⟩; simp [rowsV,rowsOf_C,stOf_C, chgEraseSpec, Tryd.f45]
  · rintro args ⟨g,a,b,c,d,st,rfl,hg,h1,h2,h3,h4,h5⟩ bs hgl hh hro
    have hE : Env.OK ⟨Tryd.prog, T, G_chgErase, bs⟩ := ⟨tok, by rw [hgl]; exact G_chgErase_ok⟩
    simp only [chgEraseSpec, rowsV,rowsOf_C,stOf_C]
    have tk := take_rows g
    have dk := drop_rows g
    have hl := eraseTo_len (colsG g) a b c d st g g.length
    simp [and_assoc, chgEraseSpec, gerase1Spec, Tryd.f45, gerase1HS, rep_row, tk, dk, hl]
    exact ⟨by omega, by omega, g, rfl, rfl, hg, h1, h2, h3, h4, h5⟩

/-! ### what goes, and what the region is then -/
def upSpec : Spec := { pre := fun args => ∃ (l : List Rw) (n : Nat) (b : List Rw), args = [rowsV l, .c (.int .i64 n), rowsV b] ∧ n ≤ l.length ∧ 0 < l.length ∧ l.length ≤ 40 ∧ b.length = n, res := fun args => match args with
  | [.c (.sl _ l), .c (.int _ n), .c (.sl _ b)] => .many [.val (rowsV ((rowsOf l).take n.toNat)), .val (rowsV ((rowsOf l).drop n.toNat ++ rowsOf b))]
  | _ => .many [] }
def G_gup1 : Specs := [(36, concatSpec)]
@[simp] theorem G_gup1_live : Specs.live G_gup1 = false := rfl
@[simp] theorem G_gup1_36 : G_gup1.find 36 = some concatSpec := rfl
theorem G_gup1_ok (gl : Gl) : SpecsOK Tryd.prog gl G_gup1 := .cons (concat_sound gl) (.nil _ _)
set_option maxRecDepth 10000 in
theorem gup1_sound (gl : Gl) : Sound Tryd.prog gl 35 upSpec := by
  refine sound_fn (N := Tryd.f35.ntmps) (rs := Tryd.f35.results.toList) mixed tok (G_gup1_ok gl) Tryd.func35 rfl rfl rfl rfl rfl ?_ ?_ ?_
  · rintro args ⟨l,n,b,rfl,h1,h2,h3,h4⟩; simp [rowsV,rowsOf_C, Tryd.f35]
  · rintro args ⟨l,n,b,rfl,h1,h2,h3,h4⟩; simp [rowsV,rowsOf_C, upSpec, Tryd.f35]
  · rintro args ⟨l,n,b,rfl,h1,h2,h3,h4⟩ bs hgl hh hro
    have hE : Env.OK ⟨Tryd.prog, T, G_gup1, bs⟩ := ⟨tok, by rw [hgl]; exact G_gup1_ok gl⟩
    simp only [upSpec, rowsV,rowsOf_C]
    have e1 : List.take ((l.length - n) * 2) (List.drop (n * 2) (rowsC l)) = rowsC (l.drop n) := by rw [rowsC_drop]; exact List.take_of_length_le (by simp)
    have e2 : min n l.length = n := by omega
    have e3 := rowsC_take l n
    simp [and_assoc, upSpec, concatSpec, Tryd.f35, e1, e2, e3, h1]
    exact ⟨⟨l.drop n, by simp, rfl, b, rfl, rfl, by simp; omega, by simp; omega⟩, by decide +kernel⟩
def downSpec : Spec := { pre := upSpec.pre, res := fun args => match args with
  | [.c (.sl _ l), .c (.int _ n), .c (.sl _ b)] => .many [.val (rowsV ((rowsOf l).drop ((rowsOf l).length - n.toNat))), .val (rowsV (rowsOf b ++ (rowsOf l).take ((rowsOf l).length - n.toNat)))]
  | _ => .many [] }
def G_gdown1 : Specs := [(36, concatSpec)]
@[simp] theorem G_gdown1_live : Specs.live G_gdown1 = false := rfl
@[simp] theorem G_gdown1_36 : G_gdown1.find 36 = some concatSpec := rfl
theorem G_gdown1_ok (gl : Gl) : SpecsOK Tryd.prog gl G_gdown1 := .cons (concat_sound gl) (.nil _ _)
set_option maxRecDepth 10000 in
theorem gdown1_sound (gl : Gl) : Sound Tryd.prog gl 40 downSpec := by
  refine sound_fn (N := Tryd.f40.ntmps) (rs := Tryd.f40.results.toList) mixed tok (G_gdown1_ok gl) Tryd.func40 rfl rfl rfl rfl rfl ?_ ?_ ?_
  · rintro args ⟨l,n,b,rfl,h1,h2,h3,h4⟩; simp [rowsV,rowsOf_C, Tryd.f40]
  · rintro args ⟨l,n,b,rfl,h1,h2,h3,h4⟩; simp [rowsV,rowsOf_C, downSpec, Tryd.f40]
  · rintro args ⟨l,n,b,rfl,h1,h2,h3,h4⟩ bs hgl hh hro
    have hE : Env.OK ⟨Tryd.prog, T, G_gdown1, bs⟩ := ⟨tok, by rw [hgl]; exact G_gdown1_ok gl⟩
    simp only [downSpec, rowsV,rowsOf_C]
    have w1 : IntKind.i64.wrap ((l.length : Int) - n) = ((l.length - n : Nat) : Int) := by rw [wrap64 _ (by omega) (by omega)]; omega
    have e1 : List.take ((l.length - (l.length - n)) * 2) (List.drop ((l.length - n) * 2) (rowsC l)) = rowsC (l.drop (l.length - n)) := by rw [rowsC_drop]; exact List.take_of_length_le (by simp)
    have e3 := rowsC_take l (l.length - n)
    simp [and_assoc, downSpec, concatSpec, Tryd.f40, upSpec, w1, e1, e3]
    exact ⟨⟨b, rfl, rfl, l.take (l.length - n), by simp, rfl, by simp; omega, by simp; omega⟩, by decide +kernel⟩
end Fen

namespace Fen
open Go Go.Proofs

theorem okRows_RowsOK {cols : Int} {p : List Rw} (h : okRows cols p = true) : ∀ r ∈ p, rowF r = 0 ∧ (r.cells.length : Int) = cols := fun r hr => by
  simp only [okRows, List.all_eq_true, Bool.and_eq_true, decide_eq_true_eq] at h
  exact ⟨(h r hr).2, (h r hr).1⟩
theorem colsG_ok {g : List Rw} (h : gridF g = 0) : 2 ≤ colsG g ∧ colsG g ≤ 80 ∧ g ≠ [] := by
  obtain ⟨h1, _, h3⟩ := gridF_ok h
  match g, h1 with
  | r :: g, _ =>
    have := (okRows_RowsOK h3 r (List.mem_cons_self ..)).1
    have := row_len this
    exact ⟨this.1, this.2.1, by simp⟩

/-- the region, what goes of it, and what it is then -/
def regionF (g : List Rw) (t b : Nat) : List Rw := (g.drop t).take (b - t)
def wentF (up : Bool) (l : List Rw) (m : Nat) : List Rw := if up then l.take m else l.drop (l.length - m)
def isF (up : Bool) (l : List Rw) (m : Nat) (r : Rw) : List Rw := if up then l.drop m ++ List.replicate m r else List.replicate m r ++ l.take (l.length - m)
def turnF (up : Bool) (g : List Rw) (t b n : Int) (s : Sty) : List Rw × List Rw × Int :=
  if gridF g ≠ 0 then ([], [], 230) else if t < 0 ∨ b < t ∨ (g.length : Int) ≤ b ∨ n < 0 then ([], [], 2) else if styF s ≠ 0 then ([], [], styF s) else
  (layF g t.toNat (isF up (regionF g t.toNat (b.toNat + 1)) (min n.toNat (b.toNat + 1 - t.toNat)) (blankRow (colsG g) s)), wentF up (regionF g t.toNat (b.toNat + 1)) (min n.toNat (b.toNat + 1 - t.toNat)), 0)
def turnUpSpec : Spec := { pre := fun args => ∃ (g : List Rw) (t b n : Int) (s : Sty), args = [rowsV g, .c (.int .i64 t), .c (.int .i64 b), .c (.int .i64 n), styV s, .c (.fn 35 [])] ∧ RowsOK g ∧ s.ok, res := fun args => match args with
  | [.c (.sl _ cs), .c (.int _ t), .c (.int _ b), .c (.int _ n), .agg s, _] => .many [.val (rowsV (turnF true (rowsOf cs) t b n (stOf s)).1), .val (rowsV (turnF true (rowsOf cs) t b n (stOf s)).2.1), .val (.c (.int .i64 (turnF true (rowsOf cs) t b n (stOf s)).2.2))]
  | _ => .many [] }
def turnDownSpec : Spec := { pre := fun args => ∃ (g : List Rw) (t b n : Int) (s : Sty), args = [rowsV g, .c (.int .i64 t), .c (.int .i64 b), .c (.int .i64 n), styV s, .c (.fn 40 [])] ∧ RowsOK g ∧ s.ok, res := fun args => match args with
  | [.c (.sl _ cs), .c (.int _ t), .c (.int _ b), .c (.int _ n), .agg s, _] => .many [.val (rowsV (turnF false (rowsOf cs) t b n (stOf s)).1), .val (rowsV (turnF false (rowsOf cs) t b n (stOf s)).2.1), .val (.c (.int .i64 (turnF false (rowsOf cs) t b n (stOf s)).2.2))]
  | _ => .many [] }
def G_turnUp : Specs := [(23, gridckSpec), (44, stySpec), (47, gcolsSpec), (52, gblanksSpec), (35, upSpec), (45, chgTurnSpec)]
@[simp] theorem G_turnUp_live : Specs.live G_turnUp = false := rfl
@[simp] theorem G_turnUp_23 : G_turnUp.find 23 = some gridckSpec := rfl
@[simp] theorem G_turnUp_44 : G_turnUp.find 44 = some stySpec := rfl
@[simp] theorem G_turnUp_47 : G_turnUp.find 47 = some gcolsSpec := rfl
@[simp] theorem G_turnUp_52 : G_turnUp.find 52 = some gblanksSpec := rfl
@[simp] theorem G_turnUp_35 : G_turnUp.find 35 = some upSpec := rfl
@[simp] theorem G_turnUp_45 : G_turnUp.find 45 = some chgTurnSpec := rfl
theorem G_turnUp_ok : SpecsOK Tryd.prog glW G_turnUp := .cons gridck_sound (.cons (sty_sound glW) (.cons (gcols_sound glW) (.cons (gblanks_sound glW) (.cons (gup1_sound glW) (.cons (chgTurn_sound glW) (.nil _ _))))))
set_option maxHeartbeats 2000000 in
set_option maxRecDepth 10000 in
theorem turnUp_sound : Sound Tryd.prog glW 34 turnUpSpec := by
  refine sound_fn (N := Tryd.f34.ntmps) (rs := Tryd.f34.results.toList) mixed tok G_turnUp_ok Tryd.func34 rfl rfl rfl rfl rfl ?_ ?_ ?_
  · rintro args ⟨g,t,b,n,s,rfl,hg,hs⟩; simp [rowsV,styV,rowsOf_C,stOf_C, Tryd.f34]
  · rintro args ⟨g,t,b,n,s,rfl,hg,hs⟩; simp [rowsV,styV,rowsOf_C,stOf_C, turnUpSpec, Tryd.f34]
  · rintro args ⟨g,t,b,n,s,rfl,hg,hs⟩ bs hgl hh hro
    have hE : Env.OK ⟨Tryd.prog, T, G_turnUp, bs⟩ := ⟨tok, by rw [hgl]; exact G_turnUp_ok⟩
    simp only [turnUpSpec, rowsV,styV,rowsOf_C,stOf_C]
    unfold turnF
    have eg : ∃ g' : List Rw, g.length = g'.length ∧ g = g' ∧ RowsOK g' := ⟨g, rfl, rfl, hg⟩
    rcases gridF_or g with h0 | h0
    rotate_left
    · simp [and_assoc, turnUpSpec, chgTurnSpec, gblanksSpec, gcolsSpec, gridckSpec, stySpec, upSpec, Tryd.f34, h0, eg, rowsV]
    by_cases h1 : t < 0
    · simp [and_assoc, turnUpSpec, chgTurnSpec, gblanksSpec, gcolsSpec, gridckSpec, stySpec, upSpec, Tryd.f34, h0, eg, h1, rowsV]
    by_cases h2 : b < t
    · simp [and_assoc, turnUpSpec, chgTurnSpec, gblanksSpec, gcolsSpec, gridckSpec, stySpec, upSpec, Tryd.f34, h0, eg, h1, h2, rowsV]
    by_cases h3 : (g.length : Int) ≤ b
    · simp [and_assoc, turnUpSpec, chgTurnSpec, gblanksSpec, gcolsSpec, gridckSpec, stySpec, upSpec, Tryd.f34, h0, eg, h1, h2, h3, rowsV]
    by_cases h4 : n < 0
    · simp [and_assoc, turnUpSpec, chgTurnSpec, gblanksSpec, gcolsSpec, gridckSpec, stySpec, upSpec, Tryd.f34, h0, eg, h1, h2, h3, h4, rowsV]
    rcases Decidable.em (styF s = 0) with h5 | h5
    rotate_left
    · simp [and_assoc, turnUpSpec, chgTurnSpec, gblanksSpec, gcolsSpec, gridckSpec, stySpec, upSpec, Tryd.f34, h0, eg, hs, h1, h2, h3, h4, h5, rowsV, styV]
    obtain ⟨_, l40, _⟩ := gridF_ok h0
    obtain ⟨c2, c80, gne⟩ := colsG_ok h0
    obtain ⟨t, rfl⟩ : ∃ k : Nat, t = k := ⟨t.toNat, by omega⟩
    obtain ⟨b, rfl⟩ : ∃ k : Nat, b = k := ⟨b.toNat, by omega⟩
    have w1 : IntKind.i64.wrap ((b : Int) + 1) = ((b + 1 : Nat) : Int) := by rw [wrap64 _ (by omega) (by omega)]; omega
    have hm : ∃ m : Nat, min n.toNat (b + 1 - t) = m ∧ (if ((b + 1 - t : Nat) : Int) < n then ((b + 1 - t : Nat) : Int) else n) = m ∧ m ≤ b + 1 - t := by
      refine ⟨min n.toNat (b + 1 - t), rfl, ?_, by omega⟩
      split <;> omega
    obtain ⟨m, hm1, hm2, hm3⟩ := hm
    have eb : (((b + 1 : Nat) : Int) - t).toNat = b + 1 - t := by omega
    have hr : List.take ((b + 1 - t) * 2) (List.drop (t * 2) (rowsC g)) = rowsC (regionF g t (b + 1)) := by rw [rowsC_drop, rowsC_take]; rfl
    have eC : ∃ g' : List Rw, g.length = g'.length ∧ g = g' ∧ ¬ g' = [] := ⟨g, rfl, rfl, gne⟩
    have hrl : (regionF g t (b + 1)).length = b + 1 - t := by simp [regionF]; omega
    simp [and_assoc, turnUpSpec, chgTurnSpec, gblanksSpec, gcolsSpec, gridckSpec, stySpec, upSpec, Tryd.f34, h0, eg, hs, h1, h2, h3, h4, h5, w1, eb, hr, hrl, hm1, hm2, eC, rowsV, styV, isF, wentF]
    exact ⟨by omega, by omega, ⟨colsG g, rfl, m, rfl, c2, c80, by omega⟩, ⟨regionF g t (b + 1), hrl.symm, rfl, m, rfl, List.replicate m (blankRow (colsG g) s), by simp, rfl, by omega, by omega, by omega, by simp⟩, by decide +kernel, g, rfl, rfl, (regionF g t (b + 1)).drop m ++ List.replicate m (blankRow (colsG g) s), t, rfl, by simp [hrl], rfl, by simp [hrl]; omega, l40⟩
def G_turnDown : Specs := [(23, gridckSpec), (44, stySpec), (47, gcolsSpec), (52, gblanksSpec), (40, downSpec), (45, chgTurnSpec)]
@[simp] theorem G_turnDown_live : Specs.live G_turnDown = false := rfl
@[simp] theorem G_turnDown_23 : G_turnDown.find 23 = some gridckSpec := rfl
@[simp] theorem G_turnDown_44 : G_turnDown.find 44 = some stySpec := rfl
@[simp] theorem G_turnDown_47 : G_turnDown.find 47 = some gcolsSpec := rfl
@[simp] theorem G_turnDown_52 : G_turnDown.find 52 = some gblanksSpec := rfl
@[simp] theorem G_turnDown_40 : G_turnDown.find 40 = some downSpec := rfl
@[simp] theorem G_turnDown_45 : G_turnDown.find 45 = some chgTurnSpec := rfl
theorem G_turnDown_ok : SpecsOK Tryd.prog glW G_turnDown := .cons gridck_sound (.cons (sty_sound glW) (.cons (gcols_sound glW) (.cons (gblanks_sound glW) (.cons (gdown1_sound glW) (.cons (chgTurn_sound glW) (.nil _ _))))))
set_option maxHeartbeats 2000000 in
set_option maxRecDepth 10000 in
theorem turnDown_sound : Sound Tryd.prog glW 34 turnDownSpec := by
  refine sound_fn (N := Tryd.f34.ntmps) (rs := Tryd.f34.results.toList) mixed tok G_turnDown_ok Tryd.func34 rfl rfl rfl rfl rfl ?_ ?_ ?_
  · rintro args ⟨g,t,b,n,s,rfl,hg,hs⟩; simp [rowsV,styV,rowsOf_C,stOf_C, Tryd.f34]
  · rintro args ⟨g,t,b,n,s,rfl,hg,hs⟩; simp [rowsV,styV,rowsOf_C,stOf_C, turnDownSpec, Tryd.f34]
  · rintro args ⟨g,t,b,n,s,rfl,hg,hs⟩ bs hgl hh hro
    have hE : Env.OK ⟨Tryd.prog, T, G_turnDown, bs⟩ := ⟨tok, by rw [hgl]; exact G_turnDown_ok⟩
    simp only [turnDownSpec, rowsV,styV,rowsOf_C,stOf_C]
    unfold turnF
    have eg : ∃ g' : List Rw, g.length = g'.length ∧ g = g' ∧ RowsOK g' := ⟨g, rfl, rfl, hg⟩
    rcases gridF_or g with h0 | h0
    rotate_left
    · simp [and_assoc, turnDownSpec, chgTurnSpec, downSpec, gblanksSpec, gcolsSpec, gridckSpec, stySpec, Tryd.f34, upSpec, h0, eg, rowsV]
    by_cases h1 : t < 0
    · simp [and_assoc, turnDownSpec, chgTurnSpec, downSpec, gblanksSpec, gcolsSpec, gridckSpec, stySpec, Tryd.f34, upSpec, h0, eg, h1, rowsV]
    by_cases h2 : b < t
    · simp [and_assoc, turnDownSpec, chgTurnSpec, downSpec, gblanksSpec, gcolsSpec, gridckSpec, stySpec, Tryd.f34, upSpec, h0, eg, h1, h2, rowsV]
    by_cases h3 : (g.length : Int) ≤ b
    · simp [and_assoc, turnDownSpec, chgTurnSpec, downSpec, gblanksSpec, gcolsSpec, gridckSpec, stySpec, Tryd.f34, upSpec, h0, eg, h1, h2, h3, rowsV]
    by_cases h4 : n < 0
    · simp [and_assoc, turnDownSpec, chgTurnSpec, downSpec, gblanksSpec, gcolsSpec, gridckSpec, stySpec, Tryd.f34, upSpec, h0, eg, h1, h2, h3, h4, rowsV]
    rcases Decidable.em (styF s = 0) with h5 | h5
    rotate_left
    · simp [and_assoc, turnDownSpec, chgTurnSpec, downSpec, gblanksSpec, gcolsSpec, gridckSpec, stySpec, Tryd.f34, upSpec, h0, eg, hs, h1, h2, h3, h4, h5, rowsV, styV]
    obtain ⟨_, l40, _⟩ := gridF_ok h0
    obtain ⟨c2, c80, gne⟩ := colsG_ok h0
    obtain ⟨t, rfl⟩ : ∃ k : Nat, t = k := ⟨t.toNat, by omega⟩
    obtain ⟨b, rfl⟩ : ∃ k : Nat, b = k := ⟨b.toNat, by omega⟩
    have w1 : IntKind.i64.wrap ((b : Int) + 1) = ((b + 1 : Nat) : Int) := by rw [wrap64 _ (by omega) (by omega)]; omega
    have hm : ∃ m : Nat, min n.toNat (b + 1 - t) = m ∧ (if ((b + 1 - t : Nat) : Int) < n then ((b + 1 - t : Nat) : Int) else n) = m ∧ m ≤ b + 1 - t := by
      refine ⟨min n.toNat (b + 1 - t), rfl, ?_, by omega⟩
      split <;> omega
    obtain ⟨m, hm1, hm2, hm3⟩ := hm
    have eb : (((b + 1 : Nat) : Int) - t).toNat = b + 1 - t := by omega
    have hr : List.take ((b + 1 - t) * 2) (List.drop (t * 2) (rowsC g)) = rowsC (regionF g t (b + 1)) := by rw [rowsC_drop, rowsC_take]; rfl
    have eC : ∃ g' : List Rw, g.length = g'.length ∧ g = g' ∧ ¬ g' = [] := ⟨g, rfl, rfl, gne⟩
    have hrl : (regionF g t (b + 1)).length = b + 1 - t := by simp [regionF]; omega
    simp [and_assoc, turnDownSpec, chgTurnSpec, downSpec, gblanksSpec, gcolsSpec, gridckSpec, stySpec, Tryd.f34, upSpec, h0, eg, hs, h1, h2, h3, h4, h5, w1, eb, hr, hrl, hm1, hm2, eC, rowsV, styV, isF, wentF]
    exact ⟨by omega, by omega, ⟨colsG g, rfl, m, rfl, c2, c80, by omega⟩, ⟨regionF g t (b + 1), hrl.symm, rfl, m, rfl, List.replicate m (blankRow (colsG g) s), by simp, rfl, by omega, by omega, by omega, by simp⟩, by decide +kernel, g, rfl, rfl, List.replicate m (blankRow (colsG g) s) ++ (regionF g t (b + 1)).take (b + 1 - t - m), t, rfl, by simp [hrl], rfl, by simp [hrl]; omega, l40⟩

def turn2Spec (up : Bool) : Spec := { pre := fun args => ∃ (g : List Rw) (t b n : Int) (s : Sty), args = [rowsV g, .c (.int .i64 t), .c (.int .i64 b), .c (.int .i64 n), styV s] ∧ RowsOK g ∧ s.ok, res := fun args => match args with
  | [.c (.sl _ cs), .c (.int _ t), .c (.int _ b), .c (.int _ n), .agg s] => .many [.val (rowsV (turnF up (rowsOf cs) t b n (stOf s)).1), .val (rowsV (turnF up (rowsOf cs) t b n (stOf s)).2.1), .val (.c (.int .i64 (turnF up (rowsOf cs) t b n (stOf s)).2.2))]
  | _ => .many [] }
def gupSpec : Spec := turn2Spec true
def gdownSpec : Spec := turn2Spec false
def G_gup : Specs := [(34, turnUpSpec)]
@[simp] theorem G_gup_live : Specs.live G_gup = false := rfl
@[simp] theorem G_gup_34 : G_gup.find 34 = some turnUpSpec := rfl
theorem G_gup_ok : SpecsOK Tryd.prog glW G_gup := .cons turnUp_sound (.nil _ _)
set_option maxRecDepth 10000 in
theorem gup_sound : Sound Tryd.prog glW 13 gupSpec := by
  refine sound_fn (N := Tryd.f13.ntmps) (rs := Tryd.f13.results.toList) mixed tok G_gup_ok Tryd.func13 rfl rfl rfl rfl rfl ?_ ?_ ?_
  · rintro args ⟨g,t,b,n,s,rfl,hg,hs⟩; simp [turn2Spec,rowsV,styV,rowsOf_C,stOf_C, Tryd.f13]
  · rintro args ⟨g,t,b,n,s,rfl,hg,hs⟩; simp [turn2Spec,rowsV,styV,rowsOf_C,stOf_C, gupSpec, Tryd.f13]
  · rintro args ⟨g,t,b,n,s,rfl,hg,hs⟩ bs hgl hh hro
    have hE : Env.OK ⟨Tryd.prog, T, G_gup, bs⟩ := ⟨tok, by rw [hgl]; exact G_gup_ok⟩
    simp only [gupSpec, turn2Spec,rowsV,styV,rowsOf_C,stOf_C]
    have eg : ∃ g' : List Rw, g.length = g'.length ∧ g = g' ∧ RowsOK g' := ⟨g, rfl, rfl, hg⟩
    simp [and_assoc, gupSpec, turnUpSpec, Tryd.f13, gupSpec, gdownSpec, turn2Spec, eg, hs, rowsV, styV]
    done
def G_gdown : Specs := [(34, turnDownSpec)]
@[simp] theorem G_gdown_live : Specs.live G_gdown = false := rfl
@[simp] theorem G_gdown_34 : G_gdown.find 34 = some turnDownSpec := rfl
theorem G_gdown_ok : SpecsOK Tryd.prog glW G_gdown := .cons turnDown_sound (.nil _ _)
set_option maxRecDepth 10000 in
theorem gdown_sound : Sound Tryd.prog glW 15 gdownSpec := by
  refine sound_fn (N := Tryd.f15.ntmps) (rs := Tryd.f15.results.toList) mixed tok G_gdown_ok Tryd.func15 rfl rfl rfl rfl rfl ?_ ?_ ?_
  · rintro args ⟨g,t,b,n,s,rfl,hg,hs⟩; simp [turn2Spec,rowsV,styV,rowsOf_C,stOf_C, Tryd.f15]
  · rintro args ⟨g,t,b,n,s,rfl,hg,hs⟩; simp [turn2Spec,rowsV,styV,rowsOf_C,stOf_C, gdownSpec, Tryd.f15]
  · rintro args ⟨g,t,b,n,s,rfl,hg,hs⟩ bs hgl hh hro
    have hE : Env.OK ⟨Tryd.prog, T, G_gdown, bs⟩ := ⟨tok, by rw [hgl]; exact G_gdown_ok⟩
    simp only [gdownSpec, turn2Spec,rowsV,styV,rowsOf_C,stOf_C]
    have eg : ∃ g' : List Rw, g.length = g'.length ∧ g = g' ∧ RowsOK g' := ⟨g, rfl, rfl, hg⟩
    simp [and_assoc, gdownSpec, turnDownSpec, Tryd.f15, gupSpec, gdownSpec, turn2Spec, eg, hs, rowsV, styV]
    done
end Fen

namespace Fen
open Go Go.Proofs

def setGF (g : List Rw) (i : Int) (r : Rw) : List Rw × Int :=
  if gridF g ≠ 0 then ([], 230) else if i < 0 ∨ (g.length : Int) ≤ i then ([], 2) else if rowF r ≠ 0 then ([], rowF r) else if r.cells.length ≠ colsG g then ([], 2) else (g.set i.toNat r, 0)
def gsetSpec : Spec := { pre := fun args => ∃ (g : List Rw) (i : Int) (r : Rw), args = [rowsV g, .c (.int .i64 i), rowV r] ∧ RowsOK g ∧ r.ok, res := fun args => match args with
  | [.c (.sl _ cs), .c (.int _ i), .agg r] => .many [.val (rowsV (setGF (rowsOf cs) i (rowOf r)).1), .val (.c (.int .i64 (setGF (rowsOf cs) i (rowOf r)).2))]
  | _ => .many [] }
def G_gset : Specs := [(23, gridckSpec), (51, rowckSpec), (47, gcolsSpec), (45, chgSetSpec)]
@[simp] theorem G_gset_live : Specs.live G_gset = false := rfl
@[simp] theorem G_gset_23 : G_gset.find 23 = some gridckSpec := rfl
@[simp] theorem G_gset_51 : G_gset.find 51 = some rowckSpec := rfl
@[simp] theorem G_gset_47 : G_gset.find 47 = some gcolsSpec := rfl
@[simp] theorem G_gset_45 : G_gset.find 45 = some chgSetSpec := rfl
theorem G_gset_ok : SpecsOK Tryd.prog glW G_gset := .cons gridck_sound (.cons rowck_sound (.cons (gcols_sound glW) (.cons (chgSet_sound glW) (.nil _ _))))
set_option maxHeartbeats 1000000 in
set_option maxRecDepth 10000 in
theorem gset_sound : Sound Tryd.prog glW 29 gsetSpec := by
  refine sound_fn (N := Tryd.f29.ntmps) (rs := Tryd.f29.results.toList) mixed tok G_gset_ok Tryd.func29 rfl rfl rfl rfl rfl ?_ ?_ ?_
  · rintro args ⟨g,i,r,rfl,hg,hr⟩; simp [rowsV,rowV,rowsOf_C,rowOf_C, Tryd.f29]
  · rintro args ⟨g,i,r,rfl,hg,hr⟩; simp [rowsV,rowV,rowsOf_C,rowOf_C, gsetSpec, Tryd.f29]
  · rintro args ⟨g,i,r,rfl,hg,hr⟩ bs hgl hh hro
    have hE : Env.OK ⟨Tryd.prog, T, G_gset, bs⟩ := ⟨tok, by rw [hgl]; exact G_gset_ok⟩
    simp only [gsetSpec, rowsV,rowV,rowsOf_C,rowOf_C]
    unfold setGF
    have eg : ∃ g' : List Rw, g.length = g'.length ∧ g = g' ∧ RowsOK g' := ⟨g, rfl, rfl, hg⟩
    rcases gridF_or g with h0 | h0
    rotate_left
    · simp [and_assoc, gsetSpec, chgSetSpec, gcolsSpec, gridckSpec, rowckSpec, Tryd.f29, h0, eg, rowsV]
    by_cases h1 : i < 0
    · simp [and_assoc, gsetSpec, chgSetSpec, gcolsSpec, gridckSpec, rowckSpec, Tryd.f29, h0, eg, h1, rowsV]
    by_cases h2 : (g.length : Int) ≤ i
    · simp [and_assoc, gsetSpec, chgSetSpec, gcolsSpec, gridckSpec, rowckSpec, Tryd.f29, h0, eg, h1, h2, rowsV]
    by_cases h3 : rowF r = 0
    rotate_left
    · simp [and_assoc, gsetSpec, chgSetSpec, gcolsSpec, gridckSpec, rowckSpec, Tryd.f29, h0, eg, hr, h1, h2, h3, rowsV, rowV]
    obtain ⟨_, l40, _⟩ := gridF_ok h0
    obtain ⟨c2, c80, gne⟩ := colsG_ok h0
    have eC : ∃ g' : List Rw, g.length = g'.length ∧ g = g' ∧ ¬ g' = [] := ⟨g, rfl, rfl, gne⟩
    obtain ⟨i, rfl⟩ : ∃ k : Nat, i = k := ⟨i.toNat, by omega⟩
    by_cases h4 : r.cells.length = colsG g
    · have h4' : ((r.cells.length : Int) = colsG g) = True := eq_true (by omega)
      simp [and_assoc, gsetSpec, chgSetSpec, gcolsSpec, gridckSpec, rowckSpec, Tryd.f29, h0, eg, hr, h1, h2, h3, h4, h4', eC, rowsV, rowV]
      exact ⟨by decide +kernel, g, rfl, rfl, i, rfl, by omega, l40⟩
    · have h4' : ((r.cells.length : Int) = colsG g) = False := eq_false (by omega)
      simp [and_assoc, gsetSpec, chgSetSpec, gcolsSpec, gridckSpec, rowckSpec, Tryd.f29, h0, eg, hr, h1, h2, h3, h4, h4', eC, rowsV, rowV]
      decide +kernel
def G_rgset : Specs := [(37, grightSpec), (56, rowckSpec)]
@[simp] theorem G_rgset_live : Specs.live G_rgset = false := rfl
@[simp] theorem G_rgset_37 : G_rgset.find 37 = some grightSpec := rfl
@[simp] theorem G_rgset_56 : G_rgset.find 56 = some rowckSpec := rfl
theorem G_rgset_ok (gl : Gl) : SpecsOK Tryd.prog gl G_rgset := .cons (gright_sound gl) (.cons (rrowck_sound gl) (.nil _ _))
set_option maxHeartbeats 1000000 in
set_option maxRecDepth 10000 in
theorem rgset_sound (gl : Gl) : Sound Tryd.prog gl 30 gsetSpec := by
  refine sound_fn (N := Tryd.f30.ntmps) (rs := Tryd.f30.results.toList) mixed tok (G_rgset_ok gl) Tryd.func30 rfl rfl rfl rfl rfl ?_ ?_ ?_
  · rintro args ⟨g,i,r,rfl,hg,hr⟩; simp [rowsV,rowV,rowsOf_C,rowOf_C, Tryd.f30]
  · rintro args ⟨g,i,r,rfl,hg,hr⟩; simp [rowsV,rowV,rowsOf_C,rowOf_C, gsetSpec, Tryd.f30]
  · rintro args ⟨g,i,r,rfl,hg,hr⟩ bs hgl hh hro
    have hE : Env.OK ⟨Tryd.prog, T, G_rgset, bs⟩ := ⟨tok, by rw [hgl]; exact G_rgset_ok gl⟩
    simp only [gsetSpec, rowsV,rowV,rowsOf_C,rowOf_C]
    unfold setGF
    have eg : ∃ g' : List Rw, g.length = g'.length ∧ g = g' ∧ RowsOK g' := ⟨g, rfl, rfl, hg⟩
    rcases gridF_or g with h0 | h0
    rotate_left
    · simp [and_assoc, gsetSpec, grightSpec, rowckSpec, Tryd.f30, h0, eg, rowsV]
    by_cases h1 : i < 0
    · simp [and_assoc, gsetSpec, grightSpec, rowckSpec, Tryd.f30, h0, eg, h1, rowsV]
    by_cases h2 : (g.length : Int) ≤ i
    · simp [and_assoc, gsetSpec, grightSpec, rowckSpec, Tryd.f30, h0, eg, h1, h2, rowsV]
    by_cases h3 : rowF r = 0
    rotate_left
    · simp [and_assoc, gsetSpec, grightSpec, rowckSpec, Tryd.f30, h0, eg, hr, h1, h2, h3, rowsV, rowV]
    obtain ⟨_, l40, _⟩ := gridF_ok h0
    obtain ⟨c2, c80, gne⟩ := colsG_ok h0
    obtain ⟨r0, hr0⟩ : ∃ r0 : Rw, (rowsC g).head?.getD C.nilf = .sl (colsG g) (celsC r0.cells) := by
      match g, gne with
      | r :: g, _ => exact ⟨r, rfl⟩
    have gl0 : 0 < g.length := List.length_pos_iff.2 gne
    obtain ⟨i, rfl⟩ : ∃ k : Nat, i = k := ⟨i.toNat, by omega⟩
    have hs := rowsC_set (l := g) (k := i) (by omega) r
    by_cases h4 : r.cells.length = colsG g
    · have h4' : ((r.cells.length : Int) = colsG g) = True := eq_true (by omega)
      simp [and_assoc, gsetSpec, grightSpec, rowckSpec, Tryd.f30, h0, eg, hr, h1, h2, h3, h4, h4', hr0, gl0, hs, rowsV, rowV]
      exact ⟨by decide +kernel, by omega, by omega, by omega, by omega⟩
    · have h4' : ((r.cells.length : Int) = colsG g) = False := eq_false (by omega)
      simp [and_assoc, gsetSpec, grightSpec, rowckSpec, Tryd.f30, h0, eg, hr, h1, h2, h3, h4, h4', hr0, gl0, rowsV, rowV]
      decide +kernel

def eraseGF (g : List Rw) (fr fc tr tc : Int) (s : Sty) : List Rw × Int :=
  if gridF g ≠ 0 then ([], 230) else if placeF g fr fc = false ∨ placeF g tr tc = false ∨ tr < fr ∨ (fr = tr ∧ tc < fc) then ([], 2) else if styF s ≠ 0 then ([], styF s) else (eraseTo (colsG g) fr fc tr tc s g g.length, 0)
def geraseSpec : Spec := { pre := fun args => ∃ (g : List Rw) (fr fc tr tc : Int) (s : Sty), args = [rowsV g, .agg [.int .i64 fr, .int .i64 fc], .agg [.int .i64 tr, .int .i64 tc], styV s] ∧ RowsOK g ∧ s.ok, res := fun args => match args with
  | [.c (.sl _ cs), .agg [.int _ fr, .int _ fc], .agg [.int _ tr, .int _ tc], .agg s] => .many [.val (rowsV (eraseGF (rowsOf cs) fr fc tr tc (stOf s)).1), .val (.c (.int .i64 (eraseGF (rowsOf cs) fr fc tr tc (stOf s)).2))]
  | _ => .many [] }
def G_gerase : Specs := [(23, gridckSpec), (43, placeSpec), (44, stySpec), (45, chgEraseSpec)]
@[simp] theorem G_gerase_live : Specs.live G_gerase = false := rfl
@[simp] theorem G_gerase_23 : G_gerase.find 23 = some gridckSpec := rfl
@[simp] theorem G_gerase_43 : G_gerase.find 43 = some placeSpec := rfl
@[simp] theorem G_gerase_44 : G_gerase.find 44 = some stySpec := rfl
@[simp] theorem G_gerase_45 : G_gerase.find 45 = some chgEraseSpec := rfl
theorem G_gerase_ok : SpecsOK Tryd.prog glW G_gerase := .cons gridck_sound (.cons (gplace_sound glW) (.cons (sty_sound glW) (.cons chgErase_sound (.nil _ _))))
set_option maxHeartbeats 2000000 in
set_option maxRecDepth 10000 in
theorem gerase_sound : Sound Tryd.prog glW 18 geraseSpec := by
  refine sound_fn (N := Tryd.f18.ntmps) (rs := Tryd.f18.results.toList) mixed tok G_gerase_ok Tryd.func18 rfl rfl rfl rfl rfl ?_ ?_ ?_
  · rintro args ⟨g,fr,fc,tr,tc,s,rfl,hg,hs⟩; simp [rowsV,styV,rowsOf_C,stOf_C, Tryd.f18]
  · rintro args ⟨g,fr,fc,tr,tc,s,rfl,hg,hs⟩; simp [rowsV,styV,rowsOf_C,stOf_C, geraseSpec, Tryd.f18]
  · rintro args ⟨g,fr,fc,tr,tc,s,rfl,hg,hs⟩ bs hgl hh hro
    have hE : Env.OK ⟨Tryd.prog, T, G_gerase, bs⟩ := ⟨tok, by rw [hgl]; exact G_gerase_ok⟩
    simp only [geraseSpec, rowsV,styV,rowsOf_C,stOf_C]
    unfold eraseGF
    have eg : ∃ g' : List Rw, g.length = g'.length ∧ g = g' ∧ RowsOK g' := ⟨g, rfl, rfl, hg⟩
    rcases gridF_or g with h0 | h0
    rotate_left
    · simp [and_assoc, geraseSpec, chgEraseSpec, gridckSpec, placeSpec, stySpec, Tryd.f18, h0, eg, rowsV]
    obtain ⟨_, l40, _⟩ := gridF_ok h0
    obtain ⟨c2, c80, gne⟩ := colsG_ok h0
    have eC : ∃ g' : List Rw, g.length = g'.length ∧ g = g' ∧ ¬ g' = [] := ⟨g, rfl, rfl, gne⟩
    rcases Bool.eq_false_or_eq_true (placeF g fr fc) with h1 | h1
    rotate_left
    · simp [and_assoc, geraseSpec, chgEraseSpec, gridckSpec, placeSpec, stySpec, Tryd.f18, h0, eg, eC, h1, rowsV]
    rcases Bool.eq_false_or_eq_true (placeF g tr tc) with h2 | h2
    rotate_left
    · simp [and_assoc, geraseSpec, chgEraseSpec, gridckSpec, placeSpec, stySpec, Tryd.f18, h0, eg, eC, h1, h2, rowsV]
    by_cases h3 : tr < fr
    · simp [and_assoc, geraseSpec, chgEraseSpec, gridckSpec, placeSpec, stySpec, Tryd.f18, h0, eg, eC, h1, h2, h3, rowsV]
    by_cases h4 : fr = tr ∧ tc < fc
    · obtain ⟨rfl, h4⟩ := h4
      simp [and_assoc, geraseSpec, chgEraseSpec, gridckSpec, placeSpec, stySpec, Tryd.f18, h0, eg, eC, h1, h2, h4, rowsV]
    have h4' : ¬ (fr = tr ∧ tc < fc) := h4
    have hfr : 0 ≤ fr ∧ fr ≤ g.length := by
      simp only [placeF, decide_eq_true_eq] at h1
      omega
    rcases Decidable.em (styF s = 0) with h5 | h5
    rotate_left
    · by_cases h6 : fr = tr
      · have h7 : ¬ tc < fc := fun q => h4 ⟨h6, q⟩
        have h6' : (fr = tr) = True := eq_true h6
        simp [and_assoc, geraseSpec, chgEraseSpec, gridckSpec, placeSpec, stySpec, Tryd.f18, h0, eg, eC, hs, h1, h2, h3, h4', h5, h6', h7, rowsV, styV]
      · simp [and_assoc, geraseSpec, chgEraseSpec, gridckSpec, placeSpec, stySpec, Tryd.f18, h0, eg, eC, hs, h1, h2, h3, h4', h5, h6, rowsV, styV]
    · by_cases h6 : fr = tr
      · have h7 : ¬ tc < fc := fun q => h4 ⟨h6, q⟩
        have h6' : (fr = tr) = True := eq_true h6
        simp [and_assoc, geraseSpec, chgEraseSpec, gridckSpec, placeSpec, stySpec, Tryd.f18, h0, eg, eC, hs, h1, h2, h3, h4', h5, h6', h7, rowsV, styV]
        exact ⟨g, rfl, rfl, rfl, rfl, gne, l40, hfr.1, hfr.2, hg⟩
      · simp [and_assoc, geraseSpec, chgEraseSpec, gridckSpec, placeSpec, stySpec, Tryd.f18, h0, eg, eC, hs, h1, h2, h3, h4', h5, h6, rowsV, styV]
        exact ⟨g, rfl, rfl, rfl, rfl, gne, l40, hfr.1, hfr.2, hg⟩

def rgerS (g : List Rw) (fr fc tr tc : Int) (s : Sty) (i : Nat) : St :=
  ⟨109, [(0, .val (.sl g.length (rowsC g))), (5, .ptr 0 0 0), (6, .ptr 1 0 0), (7, .ptr 2 0 0), (11, if i = 0 then .nil else .ref 3 0), (12, .val (.int .i64 i))],
    [.box 48 [.val (.int .i64 fr), .val (.int .i64 fc)], .box 48 [.val (.int .i64 tr), .val (.int .i64 tc)], .box 32 ((styC s).map .val)] ++ if i = 0 then [] else [.sl 27 0 true 2 i (rowsC ((eraseTo (colsG g) fr fc tr tc s g g.length).take i))]⟩
theorem eraseTo_take {w : Nat} {fr fc tr tc : Int} {s : Sty} {l : List Rw} {i : Nat} (h : i < l.length) : (eraseTo w fr fc tr tc s l l.length).take (i + 1) = (eraseTo w fr fc tr tc s l l.length).take i ++ [eraseAt w fr fc tr tc s i l[i]] := by
  have h' : i < (eraseTo w fr fc tr tc s l l.length).length := by rw [eraseTo_len]; exact h
  rw [List.take_succ_eq_append_getElem h']
  congr 2
  simp only [eraseTo, List.getElem_mapIdx]
  rw [if_pos h]
def G_rgerase : Specs := [(37, grightSpec), (49, placeSpec), (38, stySpec), (50, eraseSpec)]
@[simp] theorem G_rgerase_live : Specs.live G_rgerase = false := rfl
@[simp] theorem G_rgerase_37 : G_rgerase.find 37 = some grightSpec := rfl
@[simp] theorem G_rgerase_49 : G_rgerase.find 49 = some placeSpec := rfl
@[simp] theorem G_rgerase_38 : G_rgerase.find 38 = some stySpec := rfl
@[simp] theorem G_rgerase_50 : G_rgerase.find 50 = some eraseSpec := rfl
theorem G_rgerase_ok (gl : Gl) : SpecsOK Tryd.prog gl G_rgerase := .cons (gright_sound gl) (.cons (rgplace_sound gl) (.cons (rsty_sound gl) (.cons (rerase_sound gl) (.nil _ _))))
set_option maxHeartbeats 4000000 in
set_option maxRecDepth 10000 in
theorem rgerase_sound (gl : Gl) : Sound Tryd.prog gl 19 geraseSpec := by
  refine sound_fn (N := Tryd.f19.ntmps) (rs := Tryd.f19.results.toList) mixed tok (G_rgerase_ok gl) Tryd.func19 rfl rfl rfl rfl rfl ?_ ?_ ?_
  · rintro args ⟨g,fr,fc,tr,tc,s,rfl,hg,hs⟩; simp [rowsV,styV,rowsOf_C,stOf_C, Tryd.f19]
  · rintro args ⟨g,fr,fc,tr,tc,s,rfl,hg,hs⟩; simp [rowsV,styV,rowsOf_C,stOf_C, geraseSpec, Tryd.f19]
  · rintro args ⟨g,fr,fc,tr,tc,s,rfl,hg,hs⟩ bs hgl hh hro
    have hE : Env.OK ⟨Tryd.prog, T, G_rgerase, bs⟩ := ⟨tok, by rw [hgl]; exact G_rgerase_ok gl⟩
    simp only [geraseSpec, rowsV,styV,rowsOf_C,stOf_C]
    unfold eraseGF
    have eg : ∃ g' : List Rw, g.length = g'.length ∧ g = g' ∧ RowsOK g' := ⟨g, rfl, rfl, hg⟩
    rcases gridF_or g with h0 | h0
    rotate_left
    · simp [and_assoc, geraseSpec, eraseSpec, grightSpec, placeSpec, stySpec, Tryd.f19, h0, eg, rowsV]
    obtain ⟨_, l40, hrows⟩ := gridF_ok h0
    obtain ⟨c2, c80, gne⟩ := colsG_ok h0
    have eC : ∃ g' : List Rw, g.length = g'.length ∧ g = g' ∧ ¬ g' = [] := ⟨g, rfl, rfl, gne⟩
    rcases Bool.eq_false_or_eq_true (placeF g fr fc) with h1 | h1
    rotate_left
    · simp [and_assoc, geraseSpec, eraseSpec, grightSpec, placeSpec, stySpec, Tryd.f19, h0, eg, eC, h1, rowsV]
    rcases Bool.eq_false_or_eq_true (placeF g tr tc) with h2 | h2
    rotate_left
    · simp [and_assoc, geraseSpec, eraseSpec, grightSpec, placeSpec, stySpec, Tryd.f19, h0, eg, eC, h1, h2, rowsV]
    by_cases h3 : tr < fr
    · simp [and_assoc, geraseSpec, eraseSpec, grightSpec, placeSpec, stySpec, Tryd.f19, h0, eg, eC, h1, h2, h3, rowsV]
    by_cases h4 : fr = tr ∧ tc < fc
    · obtain ⟨rfl, h4⟩ := h4
      simp [and_assoc, geraseSpec, eraseSpec, grightSpec, placeSpec, stySpec, Tryd.f19, h0, eg, eC, h1, h2, h4, rowsV]
    have h4' : ¬ (fr = tr ∧ tc < fc) := h4
    rcases Decidable.em (styF s = 0) with h5 | h5
    rotate_left
    · by_cases h6 : fr = tr
      · have h7 : ¬ tc < fc := fun q => h4 ⟨h6, q⟩
        have h6' : (fr = tr) = True := eq_true h6
        simp [and_assoc, geraseSpec, eraseSpec, grightSpec, placeSpec, stySpec, Tryd.f19, h0, eg, eC, hs, h1, h2, h3, h4', h5, h6', h7, rowsV, styV]
      · simp [and_assoc, geraseSpec, eraseSpec, grightSpec, placeSpec, stySpec, Tryd.f19, h0, eg, eC, hs, h1, h2, h3, h4', h5, h6, rowsV, styV]
    simp -implicitDefEqProofs [and_assoc, geraseSpec, eraseSpec, grightSpec, placeSpec, stySpec, Tryd.f19, h0, eg, eC, hs, h1, h2, h3, h4', h5, rowsV, styV]
    intro _
    have hcols : ∀ (i : Nat) (h : i < g.length), (g[i]).cells.length = colsG g := fun i h => by
      have := (okRows_RowsOK hrows _ (List.getElem_mem h)).2
      omega
    refine AWP.leaves 0 (rgerS g fr fc tr tc s g.length) (AWP.rounds (fun i => i ≤ g.length) (rgerS g fr fc tr tc s) (fun i => g.length - i) 0 (by simp) ?_ ?_) ?_
    · exact Weak.keep (by simp [rgerS])
    · intro i hi
      refine wpc_ok hE mixed _ _ _ ?_
      rcases Nat.lt_or_ge i g.length with h | h
      · have w1 : IntKind.i64.wrap ((i : Int) + 1) = ((i + 1 : Nat) : Int) := by rw [wrap64 _ (by omega) (by omega)]; omega
        have hd := rowsC_at h
        have ht := eraseTo_take (w := colsG g) (fr := fr) (fc := fc) (tr := tr) (tc := tc) (s := s) h
        have hr : (g[i]).ok := hg _ (List.getElem_mem h)
        have hw := hcols i h
        have hlt : ((eraseTo (colsG g) fr fc tr tc s g g.length).take i).length = i := by rw [List.length_take, eraseTo_len]; omega
        have e : rowsC ((eraseTo (colsG g) fr fc tr tc s g g.length).take (i + 1)) = rowsC ((eraseTo (colsG g) fr fc tr tc s g g.length).take i) ++ rowC (eraseAt (colsG g) fr fc tr tc s i g[i]) := by
          rw [ht, rowsC_app]; simp [rowsC]
        have hA : eraseAt (colsG g) fr fc tr tc s i g[i] = if fr ≤ i ∧ (i : Int) ≤ tr then (eraseRowF g[i] (if (i : Int) = fr then fc else 0) (if (i : Int) = tr then tc else colsG g) s).1 else g[i] := rfl
        generalize g[i] = r at *
        obtain ⟨O, hO⟩ : ∃ O, eraseTo (colsG g) fr fc tr tc s g g.length = O := ⟨_, rfl⟩
        rw [hO] at ht hlt e
        generalize eraseAt (colsG g) fr fc tr tc s i r = x at *
        by_cases q3 : fr ≤ (i : Int)
        rotate_left
        · have q1 : ((i : Int) = fr) = False := eq_false (by omega)
          have q2 : ((i : Int) = tr) = False := eq_false (by omega)
          rw [if_neg (by omega)] at hA
          subst hA
          rcases Nat.eq_zero_or_pos i with z | z
          · have z' : (i = 0) = True := eq_true z
            have e' : rowsC (O.take (i + 1)) = rowC x := by rw [e, z]; simp [rowsC]
            have e'' : rowsC (O.take 1) = rowC x := by rw [← e', z]
            simp -implicitDefEqProofs [rgerS, hO, and_assoc, eraseSpec, grightSpec, placeSpec, stySpec, h, w1, hd, hr, hs, hw, q1, q2, q3, rowV, styV, z']
            repeat (first | refine And.intro (by decide +kernel) ?_ | refine And.intro (by omega) ?_)
            exact Next.mk (i + 1) h (by omega) (Weak.ren [some 0, some 1, some 2, some 4] (baseOK.nil hh) (by simp) (by simp [rgerS, hO, e'', z]) (by simp [rgerS]))
          · have z' : ¬ i = 0 := by omega
            simp -implicitDefEqProofs [rgerS, hO, and_assoc, eraseSpec, grightSpec, placeSpec, stySpec, h, w1, hd, hr, hs, hw, q1, q2, q3, rowV, styV, z']
            repeat (first | refine And.intro (by decide +kernel) ?_ | refine And.intro (by omega) ?_)
            exact Next.mk (i + 1) h (by omega) (Weak.ren [some 0, some 1, some 2, some 3] (baseOK.nil hh) (by simp) (by simp [rgerS, hO, e]) (by simp [rgerS]))
        by_cases q4 : (i : Int) ≤ tr
        rotate_left
        · have q1 : ((i : Int) = fr) = False := eq_false (by omega)
          have q2 : ((i : Int) = tr) = False := eq_false (by omega)
          rw [if_neg (by omega)] at hA
          subst hA
          rcases Nat.eq_zero_or_pos i with z | z
          · have z' : (i = 0) = True := eq_true z
            have e' : rowsC (O.take (i + 1)) = rowC x := by rw [e, z]; simp [rowsC]
            have e'' : rowsC (O.take 1) = rowC x := by rw [← e', z]
            simp -implicitDefEqProofs [rgerS, hO, and_assoc, eraseSpec, grightSpec, placeSpec, stySpec, h, w1, hd, hr, hs, hw, q1, q2, q3, q4, rowV, styV, z']
            repeat (first | refine And.intro (by decide +kernel) ?_ | refine And.intro (by omega) ?_)
            exact Next.mk (i + 1) h (by omega) (Weak.ren [some 0, some 1, some 2, some 4] (baseOK.nil hh) (by simp) (by simp [rgerS, hO, e'', z]) (by simp [rgerS]))
          · have z' : ¬ i = 0 := by omega
            simp -implicitDefEqProofs [rgerS, hO, and_assoc, eraseSpec, grightSpec, placeSpec, stySpec, h, w1, hd, hr, hs, hw, q1, q2, q3, q4, rowV, styV, z']
            repeat (first | refine And.intro (by decide +kernel) ?_ | refine And.intro (by omega) ?_)
            exact Next.mk (i + 1) h (by omega) (Weak.ren [some 0, some 1, some 2, some 3] (baseOK.nil hh) (by simp) (by simp [rgerS, hO, e]) (by simp [rgerS]))
        rw [if_pos ⟨q3, q4⟩] at hA
        by_cases q1 : (i : Int) = fr <;> by_cases q2 : (i : Int) = tr
        · rw [if_pos q1, if_pos q2] at hA
          have q1' : ((i : Int) = fr) = True := eq_true q1
          have q2' : ((i : Int) = tr) = True := eq_true q2
          rcases Nat.eq_zero_or_pos i with z | z
          · have z' : (i = 0) = True := eq_true z
            have e' : rowsC (O.take (i + 1)) = rowC x := by rw [e, z]; simp [rowsC]
            have e'' : rowsC (O.take 1) = rowC x := by rw [← e', z]
            simp -implicitDefEqProofs [rgerS, hO, and_assoc, eraseSpec, grightSpec, placeSpec, stySpec, h, w1, hd, hr, hs, hw, q1', q2', q3, q4, ← hA, rowV, styV, z']
            repeat (first | refine And.intro (by decide +kernel) ?_ | refine And.intro (by omega) ?_)
            exact Next.mk (i + 1) h (by omega) (Weak.ren [some 0, some 1, some 2, some 4] (baseOK.nil hh) (by simp) (by simp [rgerS, hO, e'', z]) (by simp [rgerS]))
          · have z' : ¬ i = 0 := by omega
            simp -implicitDefEqProofs [rgerS, hO, and_assoc, eraseSpec, grightSpec, placeSpec, stySpec, h, w1, hd, hr, hs, hw, q1', q2', q3, q4, ← hA, rowV, styV, z']
            repeat (first | refine And.intro (by decide +kernel) ?_ | refine And.intro (by omega) ?_)
            exact Next.mk (i + 1) h (by omega) (Weak.ren [some 0, some 1, some 2, some 3] (baseOK.nil hh) (by simp) (by simp [rgerS, hO, e]) (by simp [rgerS]))
        · rw [if_pos q1, if_neg q2] at hA
          have q1' : ((i : Int) = fr) = True := eq_true q1
          have q2' : ((i : Int) = tr) = False := eq_false q2
          rcases Nat.eq_zero_or_pos i with z | z
          · have z' : (i = 0) = True := eq_true z
            have e' : rowsC (O.take (i + 1)) = rowC x := by rw [e, z]; simp [rowsC]
            have e'' : rowsC (O.take 1) = rowC x := by rw [← e', z]
            simp -implicitDefEqProofs [rgerS, hO, and_assoc, eraseSpec, grightSpec, placeSpec, stySpec, h, w1, hd, hr, hs, hw, q1', q2', q3, q4, ← hA, rowV, styV, z']
            repeat (first | refine And.intro (by decide +kernel) ?_ | refine And.intro (by omega) ?_)
            exact Next.mk (i + 1) h (by omega) (Weak.ren [some 0, some 1, some 2, some 4] (baseOK.nil hh) (by simp) (by simp [rgerS, hO, e'', z]) (by simp [rgerS]))
          · have z' : ¬ i = 0 := by omega
            simp -implicitDefEqProofs [rgerS, hO, and_assoc, eraseSpec, grightSpec, placeSpec, stySpec, h, w1, hd, hr, hs, hw, q1', q2', q3, q4, ← hA, rowV, styV, z']
            repeat (first | refine And.intro (by decide +kernel) ?_ | refine And.intro (by omega) ?_)
            exact Next.mk (i + 1) h (by omega) (Weak.ren [some 0, some 1, some 2, some 3] (baseOK.nil hh) (by simp) (by simp [rgerS, hO, e]) (by simp [rgerS]))
        · rw [if_neg q1, if_pos q2] at hA
          have q1' : ((i : Int) = fr) = False := eq_false q1
          have q2' : ((i : Int) = tr) = True := eq_true q2
          rcases Nat.eq_zero_or_pos i with z | z
          · have z' : (i = 0) = True := eq_true z
            have e' : rowsC (O.take (i + 1)) = rowC x := by rw [e, z]; simp [rowsC]
            have e'' : rowsC (O.take 1) = rowC x := by rw [← e', z]
            simp -implicitDefEqProofs [rgerS, hO, and_assoc, eraseSpec, grightSpec, placeSpec, stySpec, h, w1, hd, hr, hs, hw, q1', q2', q3, q4, ← hA, rowV, styV, z']
            repeat (first | refine And.intro (by decide +kernel) ?_ | refine And.intro (by omega) ?_)
            exact Next.mk (i + 1) h (by omega) (Weak.ren [some 0, some 1, some 2, some 4] (baseOK.nil hh) (by simp) (by simp [rgerS, hO, e'', z]) (by simp [rgerS]))
          · have z' : ¬ i = 0 := by omega
            simp -implicitDefEqProofs [rgerS, hO, and_assoc, eraseSpec, grightSpec, placeSpec, stySpec, h, w1, hd, hr, hs, hw, q1', q2', q3, q4, ← hA, rowV, styV, z']
            repeat (first | refine And.intro (by decide +kernel) ?_ | refine And.intro (by omega) ?_)
            exact Next.mk (i + 1) h (by omega) (Weak.ren [some 0, some 1, some 2, some 3] (baseOK.nil hh) (by simp) (by simp [rgerS, hO, e]) (by simp [rgerS]))
        · rw [if_neg q1, if_neg q2] at hA
          have q1' : ((i : Int) = fr) = False := eq_false q1
          have q2' : ((i : Int) = tr) = False := eq_false q2
          rcases Nat.eq_zero_or_pos i with z | z
          · have z' : (i = 0) = True := eq_true z
            have e' : rowsC (O.take (i + 1)) = rowC x := by rw [e, z]; simp [rowsC]
            have e'' : rowsC (O.take 1) = rowC x := by rw [← e', z]
            simp -implicitDefEqProofs [rgerS, hO, and_assoc, eraseSpec, grightSpec, placeSpec, stySpec, h, w1, hd, hr, hs, hw, q1', q2', q3, q4, ← hA, rowV, styV, z']
            repeat (first | refine And.intro (by decide +kernel) ?_ | refine And.intro (by omega) ?_)
            exact Next.mk (i + 1) h (by omega) (Weak.ren [some 0, some 1, some 2, some 4] (baseOK.nil hh) (by simp) (by simp [rgerS, hO, e'', z]) (by simp [rgerS]))
          · have z' : ¬ i = 0 := by omega
            simp -implicitDefEqProofs [rgerS, hO, and_assoc, eraseSpec, grightSpec, placeSpec, stySpec, h, w1, hd, hr, hs, hw, q1', q2', q3, q4, ← hA, rowV, styV, z']
            repeat (first | refine And.intro (by decide +kernel) ?_ | refine And.intro (by omega) ?_)
            exact Next.mk (i + 1) h (by omega) (Weak.ren [some 0, some 1, some 2, some 3] (baseOK.nil hh) (by simp) (by simp [rgerS, hO, e]) (by simp [rgerS]))
      · obtain rfl : i = g.length := by omega
        simp -implicitDefEqProofs [rgerS, and_assoc, eraseSpec, grightSpec, placeSpec, stySpec]
        exact Leaves.mk (Weak.keep (by simp [rgerS]))
    have l0 : ¬ g.length = 0 := fun q => gne (List.eq_nil_of_length_eq_zero q)
    simp -implicitDefEqProofs [rgerS, and_assoc, eraseSpec, grightSpec, placeSpec, stySpec, l0, rowsV]
    have hL := eraseTo_len (colsG g) fr fc tr tc s g g.length
    exact ⟨hL.symm, List.take_of_length_le (by omega)⟩
end Fen

namespace Fen
open Go Go.Proofs

def rturnSpec : Spec := { pre := fun args => ∃ (g : List Rw) (t b n : Int) (s : Sty) (up : Bool), args = [rowsV g, .c (.int .i64 t), .c (.int .i64 b), .c (.int .i64 n), styV s, .c (.bool up)] ∧ RowsOK g ∧ s.ok, res := fun args => match args with
  | [.c (.sl _ cs), .c (.int _ t), .c (.int _ b), .c (.int _ n), .agg s, .c (.bool up)] => .many [.val (rowsV (turnF up (rowsOf cs) t b n (stOf s)).1), .val (rowsV (turnF up (rowsOf cs) t b n (stOf s)).2.1), .val (.c (.int .i64 (turnF up (rowsOf cs) t b n (stOf s)).2.2))]
  | _ => .many [] }
def G_rturn : Specs := [(37, grightSpec), (38, stySpec), (39, gblanksSpec)]
@[simp] theorem G_rturn_live : Specs.live G_rturn = false := rfl
@[simp] theorem G_rturn_37 : G_rturn.find 37 = some grightSpec := rfl
@[simp] theorem G_rturn_38 : G_rturn.find 38 = some stySpec := rfl
@[simp] theorem G_rturn_39 : G_rturn.find 39 = some gblanksSpec := rfl
theorem G_rturn_ok (gl : Gl) : SpecsOK Tryd.prog gl G_rturn := .cons (gright_sound gl) (.cons (rsty_sound gl) (.cons (rgblank_sound gl) (.nil _ _)))
set_option maxHeartbeats 4000000 in
set_option maxRecDepth 10000 in
theorem rturn_sound (gl : Gl) : Sound Tryd.prog gl 14 rturnSpec := by
  refine sound_fn (N := Tryd.f14.ntmps) (rs := Tryd.f14.results.toList) mixed tok (G_rturn_ok gl) Tryd.func14 rfl rfl rfl rfl rfl ?_ ?_ ?_
  · rintro args ⟨g,t,b,n,s,up,rfl,hg,hs⟩; simp [rowsV,styV,rowsOf_C,stOf_C, Tryd.f14]
  · rintro args ⟨g,t,b,n,s,up,rfl,hg,hs⟩; simp [rowsV,styV,rowsOf_C,stOf_C, rturnSpec, Tryd.f14]
  · rintro args ⟨g,t,b,n,s,up,rfl,hg,hs⟩ bs hgl hh hro
    have hE : Env.OK ⟨Tryd.prog, T, G_rturn, bs⟩ := ⟨tok, by rw [hgl]; exact G_rturn_ok gl⟩
    simp only [rturnSpec, rowsV,styV,rowsOf_C,stOf_C]
    unfold turnF
    have eg : ∃ g' : List Rw, g.length = g'.length ∧ g = g' ∧ RowsOK g' := ⟨g, rfl, rfl, hg⟩
    rcases gridF_or g with h0 | h0
    rotate_left
    · simp [and_assoc, rturnSpec, gblanksSpec, grightSpec, stySpec, Tryd.f14, h0, eg, rowsV]
    by_cases h1 : t < 0
    · simp [and_assoc, rturnSpec, gblanksSpec, grightSpec, stySpec, Tryd.f14, h0, eg, h1, rowsV]
    by_cases h2 : b < t
    · simp [and_assoc, rturnSpec, gblanksSpec, grightSpec, stySpec, Tryd.f14, h0, eg, h1, h2, rowsV]
    by_cases h3 : (g.length : Int) ≤ b
    · simp [and_assoc, rturnSpec, gblanksSpec, grightSpec, stySpec, Tryd.f14, h0, eg, h1, h2, h3, rowsV]
    by_cases h4 : n < 0
    · simp [and_assoc, rturnSpec, gblanksSpec, grightSpec, stySpec, Tryd.f14, h0, eg, h1, h2, h3, h4, rowsV]
    rcases Decidable.em (styF s = 0) with h5 | h5
    rotate_left
    · simp [and_assoc, rturnSpec, gblanksSpec, grightSpec, stySpec, Tryd.f14, h0, eg, hs, h1, h2, h3, h4, h5, rowsV, styV]
    obtain ⟨_, l40, _⟩ := gridF_ok h0
    obtain ⟨c2, c80, gne⟩ := colsG_ok h0
    obtain ⟨r0, hr0⟩ : ∃ r0 : Rw, (rowsC g).head?.getD C.nilf = .sl (colsG g) (celsC r0.cells) := by
      match g, gne with
      | r :: g, _ => exact ⟨r, rfl⟩
    have gl0 : 0 < g.length := List.length_pos_iff.2 gne
    obtain ⟨t, rfl⟩ : ∃ k : Nat, t = k := ⟨t.toNat, by omega⟩
    obtain ⟨b, rfl⟩ : ∃ k : Nat, b = k := ⟨b.toNat, by omega⟩
    obtain ⟨q, hq⟩ : ∃ q, b + 1 = q := ⟨_, rfl⟩
    obtain ⟨d, hd⟩ : ∃ d, q - t = d := ⟨_, rfl⟩
    have w0 : IntKind.i64.wrap ((b : Int) - t) = (b : Int) - t := wrap64 _ (by omega) (by omega)
    have w1 : IntKind.i64.wrap ((b : Int) - t + 1) = (d : Int) := by rw [wrap64 _ (by omega) (by omega)]; omega
    have w1' : IntKind.i64.wrap ((b : Int) + 1) = (q : Int) := by rw [wrap64 _ (by omega) (by omega)]; omega
    obtain ⟨m, hm1, hm2, hm3⟩ : ∃ m : Nat, min n.toNat d = m ∧ (if (d : Int) < n then (d : Int) else n) = m ∧ m ≤ d := by
      refine ⟨min n.toNat d, rfl, ?_, by omega⟩
      split <;> omega
    obtain ⟨p, hp⟩ : ∃ p, t + m = p := ⟨_, rfl⟩
    obtain ⟨k, hk⟩ : ∃ k, q - m = k := ⟨_, rfl⟩
    have w2 : IntKind.i64.wrap ((t : Int) + m) = (p : Int) := by rw [wrap64 _ (by omega) (by omega)]; omega
    have w3 : IntKind.i64.wrap ((q : Int) - m) = (k : Int) := by rw [wrap64 _ (by omega) (by omega)]; omega
    have hrl : (regionF g t q).length = d := by simp [regionF]; omega
    have s1 := rowsC_take g t
    have s3 : List.take ((g.length - q) * 2) (List.drop (q * 2) (rowsC g)) = rowsC (g.drop q) := by rw [rowsC_drop, rowsC_take, List.take_of_length_le (by simp)]
    have eB : ∃ w : Nat, (colsG g : Int) = w ∧ ∃ x : Nat, (m : Int) = x ∧ 2 ≤ w ∧ w ≤ 80 ∧ x ≤ 40 := ⟨colsG g, rfl, m, rfl, c2, c80, by omega⟩
    cases up with
    | true =>
      have s2 : List.take ((q - p) * 2) (List.drop (p * 2) (rowsC g)) = rowsC ((regionF g t q).drop m) := by
        rw [rowsC_drop, rowsC_take, regionF, List.drop_take, List.drop_drop, hp, show q - t - m = q - p by omega]
      have s4 : List.take ((p - t) * 2) (List.drop (t * 2) (rowsC g)) = rowsC ((regionF g t q).take m) := by
        rw [rowsC_drop, rowsC_take, regionF, List.take_take, show min m (q - t) = p - t by omega]
      have hlay : rowsC (g.take t) ++ (rowsC ((regionF g t q).drop m) ++ (rowsC (List.replicate m (blankRow (colsG g) s)) ++ rowsC (g.drop q))) = rowsC (layF g t ((regionF g t q).drop m ++ List.replicate m (blankRow (colsG g) s))) := by
        simp only [← rowsC_app, layF]
        congr 1
        simp only [List.length_append, List.length_drop, List.length_replicate, hrl, List.append_assoc]
        rw [show t + (d - m + m) = q by omega]
      have hL : (layF g t ((regionF g t q).drop m ++ List.replicate m (blankRow (colsG g) s))).length = g.length := layF_len (by simp [hrl]; omega)
      simp -implicitDefEqProofs [hL, hrl, and_assoc, rturnSpec, gblanksSpec, grightSpec, stySpec, Tryd.f14, h0, eg, hs, h1, h2, h3, h4, h5, w0, w1, w1', w2, hm1, hm2, hr0, gl0, hq, hd, eB, s1, s2, s3, s4, hlay, rowsV, styV, isF, wentF]
      repeat (first | refine And.intro (by decide +kernel) ?_ | refine And.intro (by omega) ?_)
      omega
    | false =>
      have s2 : List.take ((k - t) * 2) (List.drop (t * 2) (rowsC g)) = rowsC ((regionF g t q).take (d - m)) := by
        rw [rowsC_drop, rowsC_take, regionF, List.take_take, show min (d - m) (q - t) = k - t by omega]
      have s4 : List.take ((q - k) * 2) (List.drop (k * 2) (rowsC g)) = rowsC ((regionF g t q).drop (d - m)) := by
        rw [rowsC_drop, rowsC_take, regionF, List.drop_take, List.drop_drop, show t + (d - m) = k by omega, show q - t - (d - m) = q - k by omega]
      have hlay : rowsC (g.take t) ++ (rowsC (List.replicate m (blankRow (colsG g) s)) ++ (rowsC ((regionF g t q).take (d - m)) ++ rowsC (g.drop q))) = rowsC (layF g t (List.replicate m (blankRow (colsG g) s) ++ (regionF g t q).take (d - m))) := by
        simp only [← rowsC_app, layF]
        congr 1
        simp only [List.length_append, List.length_take, List.length_replicate, hrl, List.append_assoc]
        rw [show t + (m + min (d - m) d) = q by omega]
      have hL : (layF g t (List.replicate m (blankRow (colsG g) s) ++ (regionF g t q).take (d - m))).length = g.length := layF_len (by simp [hrl]; omega)
      simp -implicitDefEqProofs [hL, and_assoc, rturnSpec, gblanksSpec, grightSpec, stySpec, Tryd.f14, h0, eg, hs, h1, h2, h3, h4, h5, w0, w1, w1', w3, hm1, hm2, hr0, gl0, hq, hd, eB, hrl, s1, s2, s3, s4, hlay, rowsV, styV, isF, wentF]
      repeat (first | refine And.intro (by decide +kernel) ?_ | refine And.intro (by omega) ?_)
      omega
end Fen
