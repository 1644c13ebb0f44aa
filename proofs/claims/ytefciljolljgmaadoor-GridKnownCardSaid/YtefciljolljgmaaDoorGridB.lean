/- A part of the proof; no statement is proved here: GGridH, GGridI, GGridJ, GGridK, GGridT. -/
import Derived.Test.YtefciljolljgmaaDoorGridA
import Derived.Test.YtefciljolljgmaaDoorRowD

set_option linter.unusedVariables false
set_option linter.unusedSimpArgs false

namespace Fen
open Go Go.Proofs

/-! ### facts that the laws need -/
theorem chain_all : ∀ (l : List Cel) (a : Cel), chainF a l = true → ∀ c ∈ l, cellF c = 0
  | [], _, _, c, hc => by simp at hc
  | x :: l, a, h, c, hc => by
    simp only [chainF, Bool.and_eq_true, Bool.not_eq_true'] at h
    rcases List.mem_cons.1 hc with rfl | hc
    · exact ((offF_iff _ _).1 h.1).1
    · exact chain_all l x h.2 c hc
theorem sty_okF {s : Sty} (h : styF s = 0) : s.ok := by
  unfold styF at h
  split at h
  · cases h
  · rename_i q; exact ⟨by omega, by omega⟩
theorem cell_okF {c : Cel} (h : cellF c = 0) : c.ok := sty_okF (cell_sty h)
theorem row_okF {r : Rw} (h : rowF r = 0) : r.ok := fun c hc => cell_okF (chain_all _ _ (row_len h).2.2 c hc)
theorem rowF_of {l : List Cel} {w : Bool} (h2 : 2 ≤ l.length) (h8 : l.length ≤ 80) (h : VL l) : rowF ⟨l, w⟩ = 0 := by unfold rowF; rw [if_pos ⟨h2, h8, h⟩]
theorem draft_okr (c : Int) (B : List Int) (w : Bool) : (draftF c B w).ok := row_okF (draft_ok c B w)
theorem sign_okr (a b : Int) : (signF a b).ok := cell_okF (cellF_sign a b)
theorem style_okr (b : Int) : (styleF b).ok := sty_okF (styF_style b)
theorem row_lt {r : Rw} (h : rowF r = 0) : r.cells.length ≤ 1000 := by have := (row_len h).2.1; omega
theorem eraseRow_len (r : Rw) (x y : Int) (s : Sty) : (eraseRowF r x y s).1.cells.length ≤ 1000 := by
  unfold eraseRowF
  split
  · simp [nilR]
  · rename_i h
    have h0 : rowF r = 0 := by simpa using h
    have hr := row_lt h0
    split
    · simp [nilR]
    · split
      · simp [nilR]
      · split
        · exact hr
        · rename_i q1 q2 q3
          obtain ⟨k1, k2, k3, _⟩ := lo_hi (chain_val (row_len h0).2.2) (a := x.toNat) (b := y.toNat) (by omega) (by omega)
          show (eraseF _ _ _ _).length ≤ 1000
          rw [erase_len s (by omega) k3]; exact hr
theorem eraseRow_ok {r : Rw} {a b : Int} {s : Sty} (h : rowF r = 0) (h0 : 0 ≤ a) (h1 : a ≤ b) (h2 : b ≤ r.cells.length) (hs : styF s = 0) :
    eraseRowF r a b s = if a = b then (r, 0) else (⟨eraseF r.cells (loF r.cells a.toNat) (hiF r.cells b.toNat) s, r.wrapped && decide (hiF r.cells b.toNat < r.cells.length)⟩, 0) := by
  unfold eraseRowF
  rw [if_neg (by simp [h]), if_neg (by omega), if_neg (by simp [hs])]

/-! ### the law's helpers -/
def shortR (r : Rw) : Rw := ⟨r.cells.take 90, r.wrapped⟩
def shortG (g : List Rw) : List Rw := (g.take 50).map shortR
theorem shortR_ok {r : Rw} (h : r.ok) : (shortR r).ok := fun c hc => h c (List.mem_of_mem_take hc)
theorem shortG_ok {g : List Rw} (h : RowsOK g) : RowsOK (shortG g) := fun r hr => by
  simp only [shortG, List.mem_map] at hr
  obtain ⟨x, hx, rfl⟩ := hr
  exact shortR_ok (h x (List.mem_of_mem_take hx))
theorem shortG_fin (g : List Rw) : RowsFin (shortG g) := by
  refine ⟨by simp [shortG]; omega, fun r hr => ?_⟩
  simp only [shortG, List.mem_map] at hr
  obtain ⟨x, hx, rfl⟩ := hr
  simp [shortR]; omega
theorem map_step {α β : Type} (f : α → β) {g : List α} {i : Nat} (h : i < g.length) : (g.map f).take (i + 1) = (g.map f).take i ++ [f g[i]] := by
  rw [List.take_succ_eq_append_getElem (by simpa using h)]; simp
def gshortSpec : Spec := { pre := fun args => ∃ g : List Rw, args = [rowsV g], res := fun args => match args with
  | [.c (.sl _ cs)] => .one (.val (rowsV (shortG (rowsOf cs))))
  | _ => .many [] }
def gshortS (g : List Rw) (i : Nat) : St :=
  ⟨33, [(0, .val (.sl g.length (rowsC g))), (3, if i = 0 then .nil else .ref 0 0), (4, .val (.int .i64 i))], if i = 0 then [] else [.sl 27 0 true 2 i (rowsC ((g.map shortR).take i))]⟩
def G_gshort : Specs := []
@[simp] theorem G_gshort_live : Specs.live G_gshort = false := rfl
theorem G_gshort_ok (gl : Gl) : SpecsOK Tryd.prog gl G_gshort := .nil _ _
set_option maxRecDepth 10000 in
theorem gshort_sound (gl : Gl) : Sound Tryd.prog gl 28 gshortSpec := by
  refine sound_fn (N := Tryd.f28.ntmps) (rs := Tryd.f28.results.toList) mixed tok (G_gshort_ok gl) Tryd.func28 rfl rfl rfl rfl rfl ?_ ?_ ?_
  · rintro args ⟨g,rfl⟩; simp [rowsV,rowsOf_C, Tryd.f28]
  · rintro args ⟨g,rfl⟩; simp [rowsV,rowsOf_C, gshortSpec, Tryd.f28]
  · rintro args ⟨g,rfl⟩ bs hgl hh hro
    have hE : Env.OK ⟨Tryd.prog, T, G_gshort, bs⟩ := ⟨tok, by rw [hgl]; exact G_gshort_ok gl⟩
    simp only [gshortSpec, rowsV,rowsOf_C]
    simp [and_assoc, gshortSpec, Tryd.f28]
    refine AWP.rounds (fun i => i ≤ g.length ∧ i ≤ 50) (gshortS g) (fun i => 50 - i) 0 (by simp) ?_ ?_
    · refine Weak.keep ?_
      simp [gshortS]
    · rintro i ⟨hi, h50⟩
      refine wpc_ok hE mixed _ _ _ ?_
      by_cases h : i < g.length ∧ i < 50
      · obtain ⟨h1, h2⟩ := h
        have h2' : (i : Int) < 50 := by omega
        have w1 : IntKind.i64.wrap ((i : Int) + 1) = ((i + 1 : Nat) : Int) := by rw [wrap64 _ (by omega) (by omega)]; omega
        have hd := rowsC_at h1
        have hs := map_step shortR h1
        have e : rowsC ((g.map shortR).take (i + 1)) = rowsC ((g.map shortR).take i) ++ rowC (shortR g[i]) := by rw [hs, rowsC_app]; simp [rowsC]
        generalize g[i] = r at *
        have em : (if 90 < (r.cells.length : Int) then (90 : Int) else r.cells.length) = ((min 90 r.cells.length : Nat) : Int) := by split <;> omega
        have tk : List.take (min 90 r.cells.length * 12) (celsC r.cells) = celsC (r.cells.take 90) := by rw [celsC_take]; congr 1; rw [← List.take_take]; simp
        have hrw : rowC (shortR r) = [C.sl (min 90 r.cells.length) (celsC (r.cells.take 90)), C.bool r.wrapped] := by simp [shortR, rowC]
        rw [hrw] at e
        have hm : min 90 r.cells.length ≤ r.cells.length := Nat.min_le_right _ _
        rcases Nat.eq_zero_or_pos i with z | z
        · have z' : (i = 0) = True := eq_true z
          have e' : rowsC ((g.map shortR).take 1) = [C.sl (min 90 r.cells.length) (celsC (r.cells.take 90)), C.bool r.wrapped] := by rw [z] at e; simpa [rowsC] using e
          simp -implicitDefEqProofs [gshortS, h1, h2', w1, hd, em, tk, z', rowC]
          exact ⟨hm, Next.mk (i + 1) ⟨h1, h2⟩ (by omega) (Weak.ren [some 1] (baseOK.nil hh) (by simp) (by simp [gshortS, z, e']) (by simp [gshortS]))⟩
        · have z' : ¬ i = 0 := by omega
          simp -implicitDefEqProofs [gshortS, h1, h2', w1, hd, em, tk, z', rowC]
          exact ⟨hm, ⟨by omega, by omega⟩, Next.mk (i + 1) ⟨h1, h2⟩ (by omega) (Weak.ren [some 0] (baseOK.nil hh) (by simp) (by simp [gshortS, e]) (by simp [gshortS]))⟩
      · have h' : ¬ (i < g.length ∧ (i : Int) < 50) := by omega
        have e : (g.map shortR).take i = shortG g := by
          unfold shortG
          rw [← List.map_take]
          congr 1
          rcases Nat.lt_or_ge i 50 with c | c
          · rw [List.take_of_length_le (by omega), List.take_of_length_le (by omega)]
          · rw [show i = 50 by omega]
        have hl : (shortG g).length = i := by rw [← e]; simp; omega
        rcases Nat.eq_zero_or_pos i with z | z
        · have z' : (i = 0) = True := eq_true z
          have e0 : shortG g = [] := List.eq_nil_of_length_eq_zero (by omega)
          simp [gshortS, h', e0, z', rowsV]
        · have z' : ¬ i = 0 := by omega
          simp [gshortS, h', z', e, hl, rowsV]

/-- a grid's draft: columns, and a draft for each row -/
structure Dr where
  k : Int
  B : List Int
  w : Bool
def drC (d : Dr) : List C := [.int .u8 d.k, .sl d.B.length (ints .u8 d.B), .bool d.w]
def Dr.ok (d : Dr) : Prop := 0 ≤ d.k ∧ d.k < 256 ∧ Bytes d.B
@[simp] theorem drC_len (d : Dr) : (drC d).length = 3 := rfl
theorem drs_at : ∀ (l : List Dr) (i : Nat) (h : i < l.length), List.take 3 (List.drop (i * 3) (l.flatMap drC)) = drC l[i]
  | d :: l, 0, _ => by simp [List.take_left' (drC_len d)]
  | d :: l, i + 1, h => by
    rw [List.flatMap_cons, List.drop_append, List.drop_of_length_le (by simp; omega), List.nil_append, drC_len, show (i + 1) * 3 - 3 = i * 3 by omega]
    simpa using drs_at l i (by simpa using h)
theorem drs_len (l : List Dr) : (l.flatMap drC).length = l.length * 3 := by
  induction l with
  | nil => rfl
  | cons d l ih => rw [List.flatMap_cons, List.length_append, ih]; simp; omega
/-- how many rows -/
def manyG (L : List Dr) : Nat := max 1 (min L.length 12)
def rowG (c : Int) (L : List Dr) (i : Nat) : Rw := draftF c (L.getD i ⟨0, [], false⟩).B (L.getD i ⟨0, [], false⟩).w
def gridD (c : Int) (L : List Dr) : List Rw := (List.range (manyG L)).map (rowG c L)
def drsOf : List C → List Dr
  | .int _ k :: .sl _ b :: .bool w :: l => ⟨k, b.map toI, w⟩ :: drsOf l
  | _ => []
theorem drsOf_C : ∀ l : List Dr, drsOf (l.flatMap drC) = l
  | [] => rfl
  | d :: l => by rw [List.flatMap_cons]; simp only [drC, List.cons_append, List.nil_append, drsOf]; rw [drsOf_C l]; simp [ints, Function.comp_def]
def dgridSpec : Spec := { pre := fun args => ∃ (c : Int) (L : List Dr), args = [.agg [.int .u8 c, .sl L.length (L.flatMap drC)]] ∧ 0 ≤ c ∧ c < 256 ∧ ∀ d ∈ L, d.ok, res := fun args => match args with
  | [.agg [.int _ c, .sl _ cs]] => .one (.val (rowsV (gridD c (drsOf cs))))
  | _ => .many [] }
theorem dr_zero : [C.int .u8 0, C.sl 0 [], C.bool false] = drC ⟨0, [], false⟩ := rfl
theorem drC_set (d : Dr) (c : Int) : C.int .u8 c :: List.drop 1 (drC d) = [C.int .u8 c, .sl d.B.length (ints .u8 d.B), .bool d.w] := rfl
def dgridS (c : Int) (L : List Dr) (i : Nat) : St :=
  ⟨35, [(1, .ptr 0 0 0), (3, if i = 0 then .nil else .ref 1 0), (4, .val (.int .i64 i))], .box 24 [.val (.int .u8 c), .val (.sl L.length (L.flatMap drC))] :: if i = 0 then [] else [.sl 27 0 true 2 i (rowsC ((gridD c L).take i))]⟩
def G_dgrid : Specs := [(27, draftSpec)]
@[simp] theorem G_dgrid_live : Specs.live G_dgrid = false := rfl
@[simp] theorem G_dgrid_27 : G_dgrid.find 27 = some draftSpec := rfl
theorem G_dgrid_ok (gl : Gl) : SpecsOK Tryd.prog gl G_dgrid := .cons (draft_sound gl) (.nil _ _)
set_option maxRecDepth 10000 in
theorem dgrid_sound (gl : Gl) : Sound Tryd.prog gl 20 dgridSpec := by
  refine sound_fn (N := Tryd.f20.ntmps) (rs := Tryd.f20.results.toList) mixed tok (G_dgrid_ok gl) Tryd.func20 rfl rfl rfl rfl rfl ?_ ?_ ?_
  · rintro args ⟨c,L,rfl,h0,h1,hL⟩; simp [drsOf_C, Tryd.f20]
  · rintro args ⟨c,L,rfl,h0,h1,hL⟩; simp [drsOf_C, dgridSpec, Tryd.f20]
  · rintro args ⟨c,L,rfl,h0,h1,hL⟩ bs hgl hh hro
    have hE : Env.OK ⟨Tryd.prog, T, G_dgrid, bs⟩ := ⟨tok, by rw [hgl]; exact G_dgrid_ok gl⟩
    simp only [dgridSpec, drsOf_C]
    have hm1 : 1 ≤ manyG L ∧ manyG L ≤ 12 := by unfold manyG; omega
    have hlen : (gridD c L).length = manyG L := by simp [gridD]
    have em : (if 12 < (L.length : Int) then (12 : Int) else L.length) = ((min 12 L.length : Nat) : Int) := by split <;> omega
    have em2 : (if 1 < ((min 12 L.length : Nat) : Int) then ((min 12 L.length : Nat) : Int) else 1) = (manyG L : Int) := by unfold manyG; split <;> omega
    simp [and_assoc, dgridSpec, draftSpec, Tryd.f20]
    refine AWP.rounds (fun i => i ≤ manyG L) (dgridS c L) (fun i => manyG L - i) 0 (by simp) ?_ ?_
    · refine Weak.keep ?_
      simp [dgridS]
    · intro i hi
      refine wpc_ok hE mixed _ _ _ ?_
      rcases Nat.lt_or_ge i (manyG L) with h | h
      · have w1 : IntKind.i64.wrap ((i : Int) + 1) = ((i + 1 : Nat) : Int) := by rw [wrap64 _ (by omega) (by omega)]; omega
        have hlt : ((i : Int) < manyG L) = True := eq_true (by omega)
        have hs := map_step (rowG c L) (g := List.range (manyG L)) (i := i) (by simpa using h)
        rw [List.getElem_range] at hs
        have e : rowsC ((gridD c L).take (i + 1)) = rowsC ((gridD c L).take i) ++ rowC (rowG c L i) := by
          unfold gridD; rw [hs, rowsC_app]; simp [rowsC]
        obtain ⟨x, hx⟩ : ∃ x, rowG c L i = x := ⟨_, rfl⟩
        rw [hx] at e
        obtain ⟨O, hO⟩ : ∃ O, gridD c L = O := ⟨_, rfl⟩
        rw [hO] at e hlen
        have hdl := drs_len L
        by_cases hl : i < L.length
        · have ht := drs_at L i hl
          have hd := hL _ (List.getElem_mem hl)
          have hg : L.getD i ⟨0, [], false⟩ = L[i] := by simp [hl]
          unfold rowG at hx
          rw [hg] at hx
          generalize L[i] = d at *
          obtain ⟨k, B, w⟩ := d
          obtain ⟨_, _, hB⟩ := hd
          simp only [drC] at ht hx hB
          have eB : ∃ x : List Int, B.length = x.length ∧ B = x ∧ Bytes x := ⟨B, rfl, rfl, hB⟩
          have l1 : 3 ≤ L.length * 3 - i * 3 := by omega
          have l2 : min 3 (L.length * 3 - i * 3) = 3 := by omega
          rcases Nat.eq_zero_or_pos i with z | z
          · have z' : (i = 0) = True := eq_true z
            have e' : rowsC (O.take 1) = rowC x := by rw [z] at e; simpa [rowsC] using e
            simp -implicitDefEqProofs [-Bool.exists_bool, dgridS, hO, and_assoc, draftSpec, em, em2, w1, hlt, hl, hdl, ht, l1, l2, h0, h1, eB, hx, z']
            exact Next.mk (i + 1) h (by omega) (Weak.ren [some 0, some 2] (baseOK.nil hh) (by simp) (by simp [dgridS, hO, z, e']) (by simp [dgridS]))
          · have z' : ¬ i = 0 := by omega
            simp -implicitDefEqProofs [-Bool.exists_bool, dgridS, hO, and_assoc, draftSpec, em, em2, w1, hlt, hl, hdl, ht, l1, l2, h0, h1, eB, hx, z']
            exact ⟨by omega, by omega, Next.mk (i + 1) h (by omega) (Weak.ren [some 0, some 1] (baseOK.nil hh) (by simp) (by simp [dgridS, hO, e]) (by simp [dgridS]))⟩
        · have hg : L.getD i ⟨0, [], false⟩ = ⟨0, [], false⟩ := by simp [show L.length ≤ i by omega]
          unfold rowG at hx
          rw [hg] at hx
          have eB : ∃ x : List Int, 0 = x.length ∧ x = [] ∧ Bytes x := ⟨[], rfl, rfl, fun q hq => by simp at hq⟩
          rcases Nat.eq_zero_or_pos i with z | z
          · have z' : (i = 0) = True := eq_true z
            have e' : rowsC (O.take 1) = rowC x := by rw [z] at e; simpa [rowsC] using e
            simp -implicitDefEqProofs [-Bool.exists_bool, dgridS, hO, and_assoc, draftSpec, em, em2, w1, hlt, hl, h0, h1, eB, hx, z']
            exact Next.mk (i + 1) h (by omega) (Weak.ren [some 0, some 2] (baseOK.nil hh) (by simp) (by simp [dgridS, hO, z, e']) (by simp [dgridS]))
          · have z' : ¬ i = 0 := by omega
            simp -implicitDefEqProofs [-Bool.exists_bool, dgridS, hO, and_assoc, draftSpec, em, em2, w1, hlt, hl, h0, h1, eB, hx, z']
            exact ⟨by omega, by omega, Next.mk (i + 1) h (by omega) (Weak.ren [some 0, some 1] (baseOK.nil hh) (by simp) (by simp [dgridS, hO, e]) (by simp [dgridS]))⟩
      · have hlt : ((i : Int) < manyG L) = False := eq_false (by omega)
        obtain rfl : i = manyG L := by omega
        have z' : ¬ manyG L = 0 := by omega
        have hT : (gridD c L).take (manyG L) = gridD c L := List.take_of_length_le (by omega)
        simp -implicitDefEqProofs [-Bool.exists_bool, dgridS, and_assoc, draftSpec, em, em2, z', hT, rowsV, hlen]

def copySpec : Spec := { pre := fun args => ∃ g : List Rw, args = [rowsV g] ∧ RowsFin g, res := fun args => match args with
  | [.c (.sl _ cs)] => .one (.val (rowsV (rowsOf cs)))
  | _ => .many [] }
def copyS (g : List Rw) (i : Nat) : St :=
  ⟨28, [(0, .val (.sl g.length (rowsC g))), (3, if i = 0 then .nil else .ref 0 0), (4, .val (.int .i64 i))], if i = 0 then [] else [.sl 27 0 true 2 i (rowsC (g.take i))]⟩
def G_copyg : Specs := []
@[simp] theorem G_copyg_live : Specs.live G_copyg = false := rfl
theorem G_copyg_ok (gl : Gl) : SpecsOK Tryd.prog gl G_copyg := .nil _ _
set_option maxRecDepth 10000 in
theorem copyg_sound (gl : Gl) : Sound Tryd.prog gl 21 copySpec := by
  refine sound_fn (N := Tryd.f21.ntmps) (rs := Tryd.f21.results.toList) mixed tok (G_copyg_ok gl) Tryd.func21 rfl rfl rfl rfl rfl ?_ ?_ ?_
  · rintro args ⟨g,rfl,hg1,hg2⟩; simp [rowsV,rowsOf_C, Tryd.f21]
  · rintro args ⟨g,rfl,hg1,hg2⟩; simp [rowsV,rowsOf_C, copySpec, Tryd.f21]
  · rintro args ⟨g,rfl,hg1,hg2⟩ bs hgl hh hro
    have hE : Env.OK ⟨Tryd.prog, T, G_copyg, bs⟩ := ⟨tok, by rw [hgl]; exact G_copyg_ok gl⟩
    simp only [copySpec, rowsV,rowsOf_C]
    simp [and_assoc, copySpec, Tryd.f21]
    refine AWP.rounds (fun i => i ≤ g.length) (copyS g) (fun i => g.length - i) 0 (by simp) ?_ ?_
    · refine Weak.keep ?_
      simp [copyS]
    · intro i hi
      refine wpc_ok hE mixed _ _ _ ?_
      rcases Nat.lt_or_ge i g.length with h | h
      · have w1 : IntKind.i64.wrap ((i : Int) + 1) = ((i + 1 : Nat) : Int) := by rw [wrap64 _ (by omega) (by omega)]; omega
        have hd := rowsC_at h
        have hl := hg2 _ (List.getElem_mem h)
        have e : rowsC (g.take (i + 1)) = rowsC (g.take i) ++ rowC g[i] := by rw [List.take_succ_eq_append_getElem h, rowsC_app]; simp [rowsC]
        generalize g[i] = r at *
        have hrw : [C.sl r.cells.length (celsC r.cells), C.bool r.wrapped] = rowC r := rfl
        have f1 : r.cells.length * 96 ≤ 140737488355328 := by omega
        have f2 : r.cells.length ≤ 9223372036854775807 := by omega
        have p1 : 1 < 2 + (g.length - (i + 1)) * 2 := by omega
        rcases Nat.eq_zero_or_pos i with z | z
        · have z' : (i = 0) = True := eq_true z
          have e' : rowsC (g.take 1) = rowC r := by rw [z] at e; simpa [rowsC] using e
          simp -implicitDefEqProofs [copyS, h, w1, hd, f1, f2, p1, z', hrw]
          exact ⟨by omega, rfl, Next.mk (i + 1) h (by omega) (Weak.ren [some 1] (baseOK.nil hh) (by simp) (by simp [copyS, z, e']) (by simp [copyS]))⟩
        · have z' : ¬ i = 0 := by omega
          simp -implicitDefEqProofs [copyS, h, w1, hd, f1, f2, p1, z', hrw]
          exact ⟨by omega, ⟨by omega, by omega⟩, rfl, Next.mk (i + 1) h (by omega) (Weak.ren [some 0] (baseOK.nil hh) (by simp) (by simp [copyS, e]) (by simp [copyS]))⟩
      · obtain rfl : i = g.length := by omega
        rcases Nat.eq_zero_or_pos g.length with z | z
        · have e0 : g = [] := List.eq_nil_of_length_eq_zero z
          subst e0
          simp [copyS, rowsV]
        · have z' : ¬ g.length = 0 := by omega
          simp [copyS, z', rowsV]

def bothG (c : Int) (L : List Dr) (r : Rw) (a : Int) : List Rw := (gridD c L).set (a % (gridD c L).length).toNat (shortR r)
def bothSpec : Spec := { pre := fun args => ∃ (c : Int) (L : List Dr) (r : Rw) (a : Int), args = [.agg [.int .u8 c, .sl L.length (L.flatMap drC)], rowV r, .c (.int .u8 a)] ∧ 0 ≤ c ∧ c < 256 ∧ (∀ d ∈ L, d.ok) ∧ 0 ≤ a ∧ a < 256, res := fun args => match args with
  | [.agg [.int _ c, .sl _ cs], .agg r, .c (.int _ a)] => .one (.val (.agg [.sl (gridD c (drsOf cs)).length (rowsC (gridD c (drsOf cs))), .sl (gridD c (drsOf cs)).length (rowsC (bothG c (drsOf cs) (rowOf r) a))]))
  | _ => .many [] }
def G_both : Specs := [(20, dgridSpec), (28, gshortSpec)]
@[simp] theorem G_both_live : Specs.live G_both = false := rfl
@[simp] theorem G_both_20 : G_both.find 20 = some dgridSpec := rfl
@[simp] theorem G_both_28 : G_both.find 28 = some gshortSpec := rfl
theorem G_both_ok (gl : Gl) : SpecsOK Tryd.prog gl G_both := .cons (dgrid_sound gl) (.cons (gshort_sound gl) (.nil _ _))
set_option maxRecDepth 10000 in
theorem both_sound (gl : Gl) : Sound Tryd.prog gl 11 bothSpec := by
  refine sound_fn (N := Tryd.f11.ntmps) (rs := Tryd.f11.results.toList) mixed tok (G_both_ok gl) Tryd.func11 rfl rfl rfl rfl rfl ?_ ?_ ?_
  · rintro args ⟨c,L,r,a,rfl,h0,h1,hL,h2,h3⟩; simp [rowV,drsOf_C,rowOf_C, Tryd.f11]
  · rintro args ⟨c,L,r,a,rfl,h0,h1,hL,h2,h3⟩; simp [rowV,drsOf_C,rowOf_C, bothSpec, Tryd.f11]
  · rintro args ⟨c,L,r,a,rfl,h0,h1,hL,h2,h3⟩ bs hgl hh hro
    have hE : Env.OK ⟨Tryd.prog, T, G_both, bs⟩ := ⟨tok, by rw [hgl]; exact G_both_ok gl⟩
    simp only [bothSpec, rowV,drsOf_C,rowOf_C]
    have hm1 : 1 ≤ manyG L ∧ manyG L ≤ 12 := by unfold manyG; omega
    have hlen : (gridD c L).length = manyG L := by simp [gridD]
    have eL : ∃ x : List Dr, L.length = x.length ∧ L.flatMap drC = x.flatMap drC ∧ ∀ d ∈ x, d.ok := ⟨L, rfl, rfl, hL⟩
    unfold bothG
    obtain ⟨G, hG⟩ : ∃ G, gridD c L = G := ⟨_, rfl⟩
    rw [hG] at hlen
    rw [hG]
    have wa : IntKind.i64.wrap a = a := wrap64 _ (by omega) (by omega)
    obtain ⟨j, hj, hj2, hjl⟩ : ∃ j : Nat, a.tmod G.length = j ∧ (a % G.length).toNat = j ∧ j < G.length := by
      have e : a.tmod G.length = a % G.length := Int.tmod_eq_emod_of_nonneg h2
      have q1 := Int.emod_nonneg a (show (G.length : Int) ≠ 0 by omega)
      have q2 := Int.emod_lt_of_pos a (show 0 < (G.length : Int) by omega)
      exact ⟨(a % G.length).toNat, by omega, rfl, by omega⟩
    have n0 : ¬ G = [] := fun q => by rw [q] at hjl; simp at hjl
    have hs := rowsC_set hjl (shortR r)
    have es : shortG [r] = [shortR r] := rfl
    have eR : rowsC [r] = rowC r := by simp [rowsC]
    have eO : rowsOf (rowC r) = [r] := by rw [← eR, rowsOf_C]
    have eG : ∃ g, rowC r = rowsC g ∧ 1 = g.length := ⟨[r], eR.symm, rfl⟩
    have eS : rowsC [shortR r] = rowC (shortR r) := by simp [rowsC]
    simp -implicitDefEqProofs [-Bool.exists_bool, and_assoc, bothSpec, dgridSpec, gshortSpec, Tryd.f11, h0, h1, eL, drsOf_C, hG, wa, hj, hj2, hjl, n0, hs, eO, eG, es, eS, rowV]
    exact ⟨by omega, by omega, by omega, by decide +kernel⟩
end Fen

namespace Fen
open Go Go.Proofs

/-! ### grids written as letters -/
def letG (b : UInt8) : Cel := if b = 66 then ⟨32, 0, 0, 0, ⟨1, 0, 0, 0, 0, 0, 0, 0⟩⟩ else if b = 46 then ⟨32, 0, 0, 0, sty0⟩ else ⟨b.toNat, 0, 0, 0, sty0⟩
def lineG (s : List UInt8) : Rw := ⟨s.map letG, false⟩
def ofG (l : List (List UInt8)) : List Rw := l.map lineG
theorem letG_of (b : UInt8) : celC (letG b) = if (b.toNat : Int) = 66 then [.int .i64 32, .int .i64 0, .int .i64 0, .int .i64 0, .int .i64 1, .int .i64 0, .int .i64 0, .int .i64 0, .int .i64 0, .int .i64 0, .int .i64 0, .int .i64 0] else if (b.toNat : Int) = 46 then [.int .i64 32, .int .i64 0, .int .i64 0, .int .i64 0, .int .i64 0, .int .i64 0, .int .i64 0, .int .i64 0, .int .i64 0, .int .i64 0, .int .i64 0, .int .i64 0] else celC ⟨b.toNat, 0, 0, 0, sty0⟩ := by
  have k : ∀ n : Nat, n < 256 → ((b.toNat : Int) = n ↔ b = UInt8.ofNat n) := fun n hn => ⟨fun q => by
    have q2 : b.toNat = n := by omega
    rw [← q2]; simp, fun q => by subst q; simp; omega⟩
  have k1 : (b.toNat : Int) = 66 ↔ b = 66 := k 66 (by decide)
  have k2 : (b.toNat : Int) = 46 ↔ b = 46 := k 46 (by decide)
  unfold letG
  by_cases c : b = 66
  · rw [if_pos c, if_pos (k1.2 c)]; rfl
  · rw [if_neg c, if_neg (fun q => c (k1.1 q))]
    by_cases d : b = 46
    · rw [if_pos d, if_pos (k2.2 d)]; rfl
    · rw [if_neg d, if_neg (fun q => d (k2.1 q))]
theorem xs_sty : (List.map X.val (styC sty0)).tail = [X.val (.int .i64 0), X.val (.int .i64 0), X.val (.int .i64 0), X.val (.int .i64 0), X.val (.int .i64 0), X.val (.int .i64 0), X.val (.int .i64 0)] := rfl
theorem xs_cel (n : Int) : (List.map X.val (celC ⟨n, 0, 0, 0, sty0⟩)).tail = [X.val (.int .i64 0), X.val (.int .i64 0), X.val (.int .i64 0), X.val (.int .i64 0), X.val (.int .i64 0), X.val (.int .i64 0), X.val (.int .i64 0), X.val (.int .i64 0), X.val (.int .i64 0), X.val (.int .i64 0), X.val (.int .i64 0)] := rfl
def strsOf : List C → List (List UInt8)
  | .str s :: l => s :: strsOf l
  | _ => []
theorem strsOf_C : ∀ l : List (List UInt8), strsOf (l.map C.str) = l
  | [] => rfl
  | s :: l => by simp only [List.map_cons, strsOf]; rw [strsOf_C l]
def gofSpec : Spec := { pre := fun args => ∃ l : List (List UInt8), args = [.c (.sl l.length (l.map C.str))] ∧ l.length ≤ 100 ∧ ∀ s ∈ l, s.length ≤ 100, res := fun args => match args with
  | [.c (.sl _ cs)] => .one (.val (rowsV (ofG (strsOf cs))))
  | _ => .many [] }
def gofS1 (l : List (List UInt8)) (i : Nat) : St :=
  ⟨58, [(0, .val (.sl l.length (l.map C.str))), (3, if i = 0 then .nil else .ref 0 0), (4, .val (.int .i64 i))], if i = 0 then [] else [.sl 27 0 true 2 i (rowsC ((ofG l).take i))]⟩
def gofS2 (l : List (List UInt8)) (i : Nat) (s : List UInt8) (k : Nat) : St :=
  ⟨58, [(0, .val (.sl l.length (l.map C.str))), (3, if i = 0 then .nil else .ref 0 0), (4, .val (.int .i64 i)), (5, if k = 0 then .nil else .ref (if i = 0 then 0 else 1) 0), (6, .val (.int .i64 k))],
    (if i = 0 then [] else [.sl 27 0 true 2 i (rowsC ((ofG l).take i))]) ++ if k = 0 then [] else [.sl 67 0 true 12 k (celsC ((s.map letG).take k))]⟩
def G_gof : Specs := []
@[simp] theorem G_gof_live : Specs.live G_gof = false := rfl
theorem G_gof_ok (gl : Gl) : SpecsOK Tryd.prog gl G_gof := .nil _ _
set_option maxHeartbeats 4000000 in
set_option maxRecDepth 10000 in
theorem gof_sound (gl : Gl) : Sound Tryd.prog gl 33 gofSpec := by
  refine sound_fn (N := Tryd.f33.ntmps) (rs := Tryd.f33.results.toList) mixed tok (G_gof_ok gl) Tryd.func33 rfl rfl rfl rfl rfl ?_ ?_ ?_
  · rintro args ⟨l,rfl,hl,hs⟩; simp [strsOf_C, Tryd.f33]
  · rintro args ⟨l,rfl,hl,hs⟩; simp [strsOf_C, gofSpec, Tryd.f33]
  · rintro args ⟨l,rfl,hl,hs⟩ bs hgl hh hro
    have hE : Env.OK ⟨Tryd.prog, T, G_gof, bs⟩ := ⟨tok, by rw [hgl]; exact G_gof_ok gl⟩
    simp only [gofSpec, strsOf_C]
    simp [and_assoc, gofSpec, Tryd.f33]
    refine AWP.rounds (fun i => i ≤ l.length) (gofS1 l) (fun i => l.length - i) 0 (by simp) ?_ ?_
    · refine Weak.keep ?_
      simp [gofS1]
    · intro i hi
      refine wpc_ok hE mixed _ _ _ ?_
      rcases Nat.lt_or_ge i l.length with h | h
      · have w1 : IntKind.i64.wrap ((i : Int) + 1) = ((i + 1 : Nat) : Int) := by rw [wrap64 _ (by omega) (by omega)]; omega
        have hsl := hs _ (List.getElem_mem h)
        have hm := map_step lineG h
        have e : rowsC ((ofG l).take (i + 1)) = rowsC ((ofG l).take i) ++ rowC (lineG l[i]) := by unfold ofG; rw [hm, rowsC_app]; simp [rowsC]
        have hat : (l.map C.str).drop i = C.str l[i] :: (l.map C.str).drop (i + 1) := by rw [List.drop_eq_getElem_cons (by simpa using h)]; simp
        obtain ⟨s, hse⟩ : ∃ s, l[i] = s := ⟨_, rfl⟩
        rw [hse] at hsl e hat
        rcases Nat.eq_zero_or_pos i with z | z
        · have z' : (i = 0) = True := eq_true z
          simp -implicitDefEqProofs [gofS1, h, z']
          refine AWP.leaves 2 (gofS2 l i s s.length) (AWP.rounds (fun k => k ≤ s.length) (gofS2 l i s) (fun k => s.length - k) 0 (by simp) ?_ ?_) ?_
          · exact Weak.ren [] (baseOK.nil hh) (by simp) (by simp [gofS2, z']) (by simp [gofS2, z'])
          · intro k hk
            refine wpc_ok hE mixed _ _ _ ?_
            rcases Nat.lt_or_ge k s.length with g | g
            · have wk : IntKind.i64.wrap ((k : Int) + 1) = ((k + 1 : Nat) : Int) := by rw [wrap64 _ (by omega) (by omega)]; omega
              have hc := map_step letG g
              have ec : celsC ((s.map letG).take (k + 1)) = celsC ((s.map letG).take k) ++ celC (letG s[k]) := by rw [hc, celsC_app, celsC_one]
              obtain ⟨b, hb⟩ : ∃ b, s[k] = b := ⟨_, rfl⟩
              rw [hb, letG_of] at ec
              have wb : IntKind.i64.wrap (b.toNat : Int) = (b.toNat : Int) := wrap64 _ (by omega) (by have := b.toNat_lt; omega)
              rcases Nat.eq_zero_or_pos k with y | y
              · have y' : (k = 0) = True := eq_true y
                by_cases c1 : (b.toNat : Int) = 66
                · have c1' : ((b.toNat : Int) = 66) = True := eq_true c1
                  have c2' : ((b.toNat : Int) = 46) = False := eq_false (by omega)
                  rw [if_pos c1] at ec
                  have ec' := ec
                  rw [y, List.take_zero, celsC_nil, List.nil_append, Nat.zero_add] at ec'
                  simp -implicitDefEqProofs [gofS2, z', y', h, g, hat, hb, wk, wb, c1', c2', xs_sty, xs_cel]
                  repeat (first | refine And.intro (by decide +kernel) ?_ | refine And.intro (by omega) ?_)
                  exact Next.mk (k + 1) g (by omega) (Weak.ren [some 1] (baseOK.nil hh) (by simp) (by simp [gofS2, z', y, ec']) (by simp [gofS2, z']))
                by_cases c2 : (b.toNat : Int) = 46
                · have c1' : ((b.toNat : Int) = 66) = False := eq_false c1
                  have c2' : ((b.toNat : Int) = 46) = True := eq_true c2
                  rw [if_neg c1, if_pos c2] at ec
                  have ec' := ec
                  rw [y, List.take_zero, celsC_nil, List.nil_append, Nat.zero_add] at ec'
                  simp -implicitDefEqProofs [gofS2, z', y', h, g, hat, hb, wk, wb, c1', c2', xs_sty, xs_cel]
                  repeat (first | refine And.intro (by decide +kernel) ?_ | refine And.intro (by omega) ?_)
                  exact Next.mk (k + 1) g (by omega) (Weak.ren [some 1] (baseOK.nil hh) (by simp) (by simp [gofS2, z', y, ec']) (by simp [gofS2, z']))
                · have c1' : ((b.toNat : Int) = 66) = False := eq_false c1
                  have c2' : ((b.toNat : Int) = 46) = False := eq_false c2
                  rw [if_neg c1, if_neg c2] at ec
                  have ec' := ec
                  rw [y, List.take_zero, celsC_nil, List.nil_append, Nat.zero_add] at ec'
                  simp -implicitDefEqProofs [gofS2, z', y', h, g, hat, hb, wk, wb, c1', c2', xs_sty, xs_cel]
                  repeat (first | refine And.intro (by decide +kernel) ?_ | refine And.intro (by omega) ?_)
                  exact Next.mk (k + 1) g (by omega) (Weak.ren [some 1] (baseOK.nil hh) (by simp) (by simp [gofS2, z', y, ec']) (by simp [gofS2, z']))
              · have y' : (k = 0) = False := eq_false (by omega)
                by_cases c1 : (b.toNat : Int) = 66
                · have c1' : ((b.toNat : Int) = 66) = True := eq_true c1
                  have c2' : ((b.toNat : Int) = 46) = False := eq_false (by omega)
                  rw [if_pos c1] at ec
                  simp -implicitDefEqProofs [gofS2, z', y', h, g, hat, hb, wk, wb, c1', c2', xs_sty, xs_cel]
                  repeat (first | refine And.intro (by decide +kernel) ?_ | refine And.intro (by omega) ?_)
                  exact Next.mk (k + 1) g (by omega) (Weak.ren [some 0] (baseOK.nil hh) (by simp) (by simp [gofS2, z', ec]) (by simp [gofS2, z']))
                by_cases c2 : (b.toNat : Int) = 46
                · have c1' : ((b.toNat : Int) = 66) = False := eq_false c1
                  have c2' : ((b.toNat : Int) = 46) = True := eq_true c2
                  rw [if_neg c1, if_pos c2] at ec
                  simp -implicitDefEqProofs [gofS2, z', y', h, g, hat, hb, wk, wb, c1', c2', xs_sty, xs_cel]
                  repeat (first | refine And.intro (by decide +kernel) ?_ | refine And.intro (by omega) ?_)
                  exact Next.mk (k + 1) g (by omega) (Weak.ren [some 0] (baseOK.nil hh) (by simp) (by simp [gofS2, z', ec]) (by simp [gofS2, z']))
                · have c1' : ((b.toNat : Int) = 66) = False := eq_false c1
                  have c2' : ((b.toNat : Int) = 46) = False := eq_false c2
                  rw [if_neg c1, if_neg c2] at ec
                  simp -implicitDefEqProofs [gofS2, z', y', h, g, hat, hb, wk, wb, c1', c2', xs_sty, xs_cel]
                  repeat (first | refine And.intro (by decide +kernel) ?_ | refine And.intro (by omega) ?_)
                  exact Next.mk (k + 1) g (by omega) (Weak.ren [some 0] (baseOK.nil hh) (by simp) (by simp [gofS2, z', ec]) (by simp [gofS2, z']))
            · obtain rfl : k = s.length := by omega
              simp -implicitDefEqProofs [gofS2, z', h, hat]
              exact Leaves.mk (Weak.keep (by simp [gofS2, z']))
          have hT : (s.map letG).take s.length = s.map letG := List.take_of_length_le (by simp)
          rcases Nat.eq_zero_or_pos s.length with y | y
          · have y' : (s.length = 0) = True := eq_true y
            have s0 : s = [] := List.eq_nil_of_length_eq_zero y
            have er : rowC (lineG s) = [C.sl s.length (celsC (s.map letG)), C.bool false] := by simp [rowC, lineG]
            rw [er] at e
            rw [s0] at e
            have e' := e
            rw [z, List.take_zero, rowsC_nil, List.nil_append, Nat.zero_add] at e'
            simp -implicitDefEqProofs [gofS2, z', y', w1, hT]
            repeat (first | refine And.intro (by decide +kernel) ?_ | refine And.intro (by omega) ?_)
            exact Next.mk (i + 1) h (by omega) (Weak.ren [some 0] (baseOK.nil hh) (by simp) (by simp [gofS1, z, e']) (by simp [gofS1]))
          · have y' : (s.length = 0) = False := eq_false (by omega)
            have er : rowC (lineG s) = [C.sl s.length (celsC (s.map letG)), C.bool false] := by simp [rowC, lineG]
            rw [er] at e
            have e' := e
            rw [z, List.take_zero, rowsC_nil, List.nil_append, Nat.zero_add] at e'
            simp -implicitDefEqProofs [gofS2, z', y', w1, hT]
            repeat (first | refine And.intro (by decide +kernel) ?_ | refine And.intro (by omega) ?_)
            exact Next.mk (i + 1) h (by omega) (Weak.ren [some 1] (baseOK.nil hh) (by simp) (by simp [gofS1, z, e']) (by simp [gofS1]))
        · have z' : (i = 0) = False := eq_false (by omega)
          simp -implicitDefEqProofs [gofS1, h, z']
          refine AWP.leaves 2 (gofS2 l i s s.length) (AWP.rounds (fun k => k ≤ s.length) (gofS2 l i s) (fun k => s.length - k) 0 (by simp) ?_ ?_) ?_
          · exact Weak.ren [some 0] (baseOK.nil hh) (by simp) (by simp [gofS2, z']) (by simp [gofS2, z'])
          · intro k hk
            refine wpc_ok hE mixed _ _ _ ?_
            rcases Nat.lt_or_ge k s.length with g | g
            · have wk : IntKind.i64.wrap ((k : Int) + 1) = ((k + 1 : Nat) : Int) := by rw [wrap64 _ (by omega) (by omega)]; omega
              have hc := map_step letG g
              have ec : celsC ((s.map letG).take (k + 1)) = celsC ((s.map letG).take k) ++ celC (letG s[k]) := by rw [hc, celsC_app, celsC_one]
              obtain ⟨b, hb⟩ : ∃ b, s[k] = b := ⟨_, rfl⟩
              rw [hb, letG_of] at ec
              have wb : IntKind.i64.wrap (b.toNat : Int) = (b.toNat : Int) := wrap64 _ (by omega) (by have := b.toNat_lt; omega)
              rcases Nat.eq_zero_or_pos k with y | y
              · have y' : (k = 0) = True := eq_true y
                by_cases c1 : (b.toNat : Int) = 66
                · have c1' : ((b.toNat : Int) = 66) = True := eq_true c1
                  have c2' : ((b.toNat : Int) = 46) = False := eq_false (by omega)
                  rw [if_pos c1] at ec
                  have ec' := ec
                  rw [y, List.take_zero, celsC_nil, List.nil_append, Nat.zero_add] at ec'
                  simp -implicitDefEqProofs [gofS2, z', y', h, g, hat, hb, wk, wb, c1', c2', xs_sty, xs_cel]
                  repeat (first | refine And.intro (by decide +kernel) ?_ | refine And.intro (by omega) ?_)
                  exact Next.mk (k + 1) g (by omega) (Weak.ren [some 0, some 2] (baseOK.nil hh) (by simp) (by simp [gofS2, z', y, ec']) (by simp [gofS2, z']))
                by_cases c2 : (b.toNat : Int) = 46
                · have c1' : ((b.toNat : Int) = 66) = False := eq_false c1
                  have c2' : ((b.toNat : Int) = 46) = True := eq_true c2
                  rw [if_neg c1, if_pos c2] at ec
                  have ec' := ec
                  rw [y, List.take_zero, celsC_nil, List.nil_append, Nat.zero_add] at ec'
                  simp -implicitDefEqProofs [gofS2, z', y', h, g, hat, hb, wk, wb, c1', c2', xs_sty, xs_cel]
                  repeat (first | refine And.intro (by decide +kernel) ?_ | refine And.intro (by omega) ?_)
                  exact Next.mk (k + 1) g (by omega) (Weak.ren [some 0, some 2] (baseOK.nil hh) (by simp) (by simp [gofS2, z', y, ec']) (by simp [gofS2, z']))
                · have c1' : ((b.toNat : Int) = 66) = False := eq_false c1
                  have c2' : ((b.toNat : Int) = 46) = False := eq_false c2
                  rw [if_neg c1, if_neg c2] at ec
                  have ec' := ec
                  rw [y, List.take_zero, celsC_nil, List.nil_append, Nat.zero_add] at ec'
                  simp -implicitDefEqProofs [gofS2, z', y', h, g, hat, hb, wk, wb, c1', c2', xs_sty, xs_cel]
                  repeat (first | refine And.intro (by decide +kernel) ?_ | refine And.intro (by omega) ?_)
                  exact Next.mk (k + 1) g (by omega) (Weak.ren [some 0, some 2] (baseOK.nil hh) (by simp) (by simp [gofS2, z', y, ec']) (by simp [gofS2, z']))
              · have y' : (k = 0) = False := eq_false (by omega)
                by_cases c1 : (b.toNat : Int) = 66
                · have c1' : ((b.toNat : Int) = 66) = True := eq_true c1
                  have c2' : ((b.toNat : Int) = 46) = False := eq_false (by omega)
                  rw [if_pos c1] at ec
                  simp -implicitDefEqProofs [gofS2, z', y', h, g, hat, hb, wk, wb, c1', c2', xs_sty, xs_cel]
                  repeat (first | refine And.intro (by decide +kernel) ?_ | refine And.intro (by omega) ?_)
                  exact Next.mk (k + 1) g (by omega) (Weak.ren [some 0, some 1] (baseOK.nil hh) (by simp) (by simp [gofS2, z', ec]) (by simp [gofS2, z']))
                by_cases c2 : (b.toNat : Int) = 46
                · have c1' : ((b.toNat : Int) = 66) = False := eq_false c1
                  have c2' : ((b.toNat : Int) = 46) = True := eq_true c2
                  rw [if_neg c1, if_pos c2] at ec
                  simp -implicitDefEqProofs [gofS2, z', y', h, g, hat, hb, wk, wb, c1', c2', xs_sty, xs_cel]
                  repeat (first | refine And.intro (by decide +kernel) ?_ | refine And.intro (by omega) ?_)
                  exact Next.mk (k + 1) g (by omega) (Weak.ren [some 0, some 1] (baseOK.nil hh) (by simp) (by simp [gofS2, z', ec]) (by simp [gofS2, z']))
                · have c1' : ((b.toNat : Int) = 66) = False := eq_false c1
                  have c2' : ((b.toNat : Int) = 46) = False := eq_false c2
                  rw [if_neg c1, if_neg c2] at ec
                  simp -implicitDefEqProofs [gofS2, z', y', h, g, hat, hb, wk, wb, c1', c2', xs_sty, xs_cel]
                  repeat (first | refine And.intro (by decide +kernel) ?_ | refine And.intro (by omega) ?_)
                  exact Next.mk (k + 1) g (by omega) (Weak.ren [some 0, some 1] (baseOK.nil hh) (by simp) (by simp [gofS2, z', ec]) (by simp [gofS2, z']))
            · obtain rfl : k = s.length := by omega
              simp -implicitDefEqProofs [gofS2, z', h, hat]
              exact Leaves.mk (Weak.keep (by simp [gofS2, z']))
          have hT : (s.map letG).take s.length = s.map letG := List.take_of_length_le (by simp)
          rcases Nat.eq_zero_or_pos s.length with y | y
          · have y' : (s.length = 0) = True := eq_true y
            have s0 : s = [] := List.eq_nil_of_length_eq_zero y
            have er : rowC (lineG s) = [C.sl s.length (celsC (s.map letG)), C.bool false] := by simp [rowC, lineG]
            rw [er] at e
            rw [s0] at e
            simp -implicitDefEqProofs [gofS2, z', y', w1, hT]
            repeat (first | refine And.intro (by decide +kernel) ?_ | refine And.intro (by omega) ?_)
            exact Next.mk (i + 1) h (by omega) (Weak.ren [some 0] (baseOK.nil hh) (by simp) (by simp [gofS1, e]) (by simp [gofS1]))
          · have y' : (s.length = 0) = False := eq_false (by omega)
            have er : rowC (lineG s) = [C.sl s.length (celsC (s.map letG)), C.bool false] := by simp [rowC, lineG]
            rw [er] at e
            simp -implicitDefEqProofs [gofS2, z', y', w1, hT]
            repeat (first | refine And.intro (by decide +kernel) ?_ | refine And.intro (by omega) ?_)
            exact Next.mk (i + 1) h (by omega) (Weak.ren [some 0] (baseOK.nil hh) (by simp) (by simp [gofS1, e]) (by simp [gofS1]))
      · obtain rfl : i = l.length := by omega
        have hT : (ofG l).take l.length = ofG l := List.take_of_length_le (by simp [ofG])
        have hL : (ofG l).length = l.length := by simp [ofG]
        rcases Nat.eq_zero_or_pos l.length with z | z
        · have e0 : l = [] := List.eq_nil_of_length_eq_zero z
          subst e0
          simp [gofS1, rowsV, ofG]
        · have z' : ¬ l.length = 0 := by omega
          simp [gofS1, z', hT, hL, rowsV]

def gisSpec : Spec := { pre := fun args => ∃ (g : List Rw) (e : Int) (l : List (List UInt8)), args = [rowsV g, .c (.int .i64 e), .c (.sl l.length (l.map C.str))] ∧ RowsFin g ∧ l.length ≤ 100 ∧ ∀ s ∈ l, s.length ≤ 100, res := fun args => match args with
  | [.c (.sl _ cs), .c (.int _ e), .c (.sl _ l)] => .one (.val (.c (.bool (decide (e = 0) && decide (rowsOf cs = ofG (strsOf l))))))
  | _ => .many [] }
def G_gis : Specs := [(33, gofSpec), (16, samesSpec)]
@[simp] theorem G_gis_live : Specs.live G_gis = false := rfl
@[simp] theorem G_gis_33 : G_gis.find 33 = some gofSpec := rfl
@[simp] theorem G_gis_16 : G_gis.find 16 = some samesSpec := rfl
theorem G_gis_ok (gl : Gl) : SpecsOK Tryd.prog gl G_gis := .cons (gof_sound gl) (.cons (sames_sound gl) (.nil _ _))
set_option maxRecDepth 10000 in
theorem gis_sound (gl : Gl) : Sound Tryd.prog gl 42 gisSpec := by
  refine sound_fn (N := Tryd.f42.ntmps) (rs := Tryd.f42.results.toList) mixed tok (G_gis_ok gl) Tryd.func42 rfl rfl rfl rfl rfl ?_ ?_ ?_
  · rintro args ⟨g,e,l,rfl,hg,hl,hs⟩; simp [rowsV,rowsOf_C,strsOf_C, Tryd.f42]
  · rintro args ⟨g,e,l,rfl,hg,hl,hs⟩; simp [rowsV,rowsOf_C,strsOf_C, gisSpec, Tryd.f42]
  · rintro args ⟨g,e,l,rfl,hg,hl,hs⟩ bs hgl hh hro
    have hE : Env.OK ⟨Tryd.prog, T, G_gis, bs⟩ := ⟨tok, by rw [hgl]; exact G_gis_ok gl⟩
    simp only [gisSpec, rowsV,rowsOf_C,strsOf_C]
    have el : ∃ x : List (List UInt8), l.length = x.length ∧ l.map C.str = x.map C.str ∧ x.length ≤ 100 ∧ ∀ s ∈ x, s.length ≤ 100 := ⟨l, rfl, rfl, hl, hs⟩
    have eg : ∃ x : List Rw, g.length = x.length ∧ g = x ∧ RowsFin x := ⟨g, rfl, rfl, hg⟩
    by_cases h : e = 0
    · simp [and_assoc, gisSpec, gofSpec, samesSpec, Tryd.f42, h, el, eg, strsOf_C, rowsV]
      done
    · simp [and_assoc, gisSpec, gofSpec, samesSpec, Tryd.f42, h, el, eg, strsOf_C, rowsV]
      done
end Fen

namespace Fen
open Go Go.Proofs

/-! ### the chapter's examples -/
def b1 : Sty := ⟨1, 0, 0, 0, 0, 0, 0, 0⟩
def exG : List Rw := ofG [[97, 98], [99, 100], [101, 102]]
theorem gx0 : gridF exG = 0 := by decide +kernel
theorem gx1 : turnF true exG 0 1 1 b1 = (ofG [[99, 100], [66, 66], [101, 102]], ofG [[97, 98]], 0) := by decide +kernel
theorem gx2 : turnF false exG 1 2 5 b1 = (ofG [[97, 98], [66, 66], [66, 66]], ofG [[99, 100], [101, 102]], 0) := by decide +kernel
theorem gx3 : eraseGF exG 0 1 2 1 b1 = (ofG [[97, 66], [66, 66], [66, 102]], 0) := by decide +kernel
theorem gx4 : eraseGF exG 1 0 3 0 sty0 = (ofG [[97, 98], [46, 46], [46, 46]], 0) := by decide +kernel
theorem gx5 : eraseGF exG 1 1 1 0 b1 = ([], 2) := by decide +kernel
theorem gx6 : turnF true exG 2 1 1 b1 = ([], [], 2) := by decide +kernel
theorem gx7 : turnF true exG 0 3 1 b1 = ([], [], 2) := by decide +kernel
theorem gx8 : setGF exG 3 (lineG [97, 98]) = ([], 2) := by decide +kernel
theorem exG_C : rowsC (ofG [[97, 98], [99, 100], [101, 102]]) = rowsC exG := rfl
theorem letG_ok (b : UInt8) : (letG b).ok := by
  unfold letG
  split
  · exact ⟨by decide, by decide⟩
  · split
    · exact ⟨by decide, by decide⟩
    · show -9223372036854775808 ≤ (0 : Int) ∧ (0 : Int) ≤ 9223372036854775807
      omega
theorem ofG_ok (l : List (List UInt8)) : RowsOK (ofG l) := fun r hr c hc => by
  simp only [ofG, List.mem_map] at hr
  obtain ⟨s, _, rfl⟩ := hr
  simp only [lineG, List.mem_map] at hc
  obtain ⟨b, _, rfl⟩ := hc
  exact letG_ok b
theorem ofG_fin {l : List (List UInt8)} (hl : l.length ≤ 100) (hs : ∀ s ∈ l, s.length ≤ 100) : RowsFin (ofG l) := by
  refine ⟨by simp [ofG]; omega, fun r hr => ?_⟩
  simp only [ofG, List.mem_map] at hr
  obtain ⟨s, h, rfl⟩ := hr
  have := hs s h
  simp [lineG]; omega
theorem b1_ok : b1.ok := ⟨by decide, by decide⟩
theorem sty0_ok : sty0.ok := ⟨by decide, by decide⟩
theorem b1_C : C.int .i64 1 :: (styC sty0).tail = styC b1 := rfl
theorem b1_C2 : [C.int .i64 1, C.int .i64 0, C.int .i64 0, C.int .i64 0, C.int .i64 0, C.int .i64 0, C.int .i64 0, C.int .i64 0] = styC b1 := rfl
def gworksSpec : Spec := { pre := fun args => args = [], res := fun _ => .one (.val (.c (.bool true))) }
def G_gworks : Specs := [(33, gofSpec), (13, gupSpec), (15, gdownSpec), (18, geraseSpec), (29, gsetSpec), (23, gridckSpec), (42, gisSpec)]
@[simp] theorem G_gworks_live : Specs.live G_gworks = false := rfl
@[simp] theorem G_gworks_33 : G_gworks.find 33 = some gofSpec := rfl
@[simp] theorem G_gworks_13 : G_gworks.find 13 = some gupSpec := rfl
@[simp] theorem G_gworks_15 : G_gworks.find 15 = some gdownSpec := rfl
@[simp] theorem G_gworks_18 : G_gworks.find 18 = some geraseSpec := rfl
@[simp] theorem G_gworks_29 : G_gworks.find 29 = some gsetSpec := rfl
@[simp] theorem G_gworks_23 : G_gworks.find 23 = some gridckSpec := rfl
@[simp] theorem G_gworks_42 : G_gworks.find 42 = some gisSpec := rfl
theorem G_gworks_ok : SpecsOK Tryd.prog glW G_gworks := .cons (gof_sound glW) (.cons gup_sound (.cons gdown_sound (.cons gerase_sound (.cons gset_sound (.cons gridck_sound (.cons (gis_sound glW) (.nil _ _)))))))
set_option maxHeartbeats 8000000 in
set_option maxRecDepth 10000 in
theorem gworks_sound : Sound Tryd.prog glW 17 gworksSpec := by
  refine sound_fn (N := Tryd.f17.ntmps) (rs := Tryd.f17.results.toList) mixed tok G_gworks_ok Tryd.func17 rfl rfl rfl rfl rfl ?_ ?_ ?_
  · rintro args rfl; simp [Tryd.f17]
  · rintro args rfl; simp [gworksSpec, Tryd.f17]
  · rintro args rfl bs hgl hh hro
    have hE : Env.OK ⟨Tryd.prog, T, G_gworks, bs⟩ := ⟨tok, by rw [hgl]; exact G_gworks_ok⟩
    have e0 := gx0
    have e1 := gx1
    have e2 := gx2
    have e3 := gx3
    have e4 := gx4
    have e5 := gx5
    have e6 := gx6
    have e7 := gx7
    have e8 := gx8
    have hL : exG.length = 3 := rfl
    have ok0 : RowsOK exG := ofG_ok _
    have eg : ∃ x : List Rw, 3 = x.length ∧ exG = x ∧ RowsOK x := ⟨exG, rfl, rfl, ok0⟩
    have hO : ofG [[97, 98], [99, 100], [101, 102]] = exG := rfl
    have hR : List.take 2 (rowsC exG) = rowC (lineG [97, 98]) := rfl
    have hl0 : (lineG [97, 98]).ok := ofG_ok [[97, 98]] _ (by simp [ofG])
    obtain ⟨G, hG⟩ : ∃ G, exG = G := ⟨_, rfl⟩
    rw [hG] at e0 e1 e2 e3 e4 e5 e6 e7 e8 hL ok0 eg hO hR
    simp -implicitDefEqProofs [and_assoc, gworksSpec, gdownSpec, geraseSpec, gisSpec, gofSpec, gridckSpec, gsetSpec, gupSpec, Tryd.f17, turn2Spec, strsOf, hO, hL, eg, e0, e1, e2, e3, e4, e5, e6, e7, e8, hR, rowsV, styV, b1_C, b1_C2, b1_ok, sty0_ok]
    exact ⟨⟨[[97, 98], [99, 100], [101, 102]], rfl, rfl, by decide, by simp⟩, ⟨G, hL.symm, rfl, ok0, hl0⟩, ⟨_, rfl, rfl, [[99, 100], [66, 66], [101, 102]], rfl, rfl, ofG_fin (by decide) (by simp), by decide, by simp⟩, ⟨_, rfl, rfl, [[97, 98]], rfl, rfl, ofG_fin (by decide) (by simp), by decide, by simp⟩, ⟨_, rfl, rfl, [[97, 98], [66, 66], [66, 66]], rfl, rfl, ofG_fin (by decide) (by simp), by decide, by simp⟩, ⟨_, rfl, rfl, [[99, 100], [101, 102]], rfl, rfl, ofG_fin (by decide) (by simp), by decide, by simp⟩, ⟨_, rfl, rfl, [[97, 66], [66, 66], [66, 102]], rfl, rfl, ofG_fin (by decide) (by simp), by decide, by simp⟩, ⟨_, rfl, rfl, [[97, 98], [46, 46], [46, 46]], rfl, rfl, ofG_fin (by decide) (by simp), by decide, by simp⟩⟩
end Fen

namespace Fen
open Go Go.Proofs

/-! ### what is needed of the drafts and of what the operations return -/
theorem rowsFin_of {p : List Rw} (hl : p.length ≤ 1000) (h : ∀ r ∈ p, r.cells.length ≤ 1000) : RowsFin p := ⟨by omega, h⟩
theorem grid_row {c : Int} {L : List Dr} : ∀ r ∈ gridD c L, rowF r = 0 := fun r hr => by
  simp only [gridD, List.mem_map] at hr
  obtain ⟨i, _, rfl⟩ := hr
  exact draft_ok _ _ _
theorem grid_len (c : Int) (L : List Dr) : (gridD c L).length = manyG L := by simp [gridD]
theorem many_le (L : List Dr) : 1 ≤ manyG L ∧ manyG L ≤ 12 := by unfold manyG; omega
theorem grid_rok (c : Int) (L : List Dr) : RowsOK (gridD c L) := fun r hr => row_okF (grid_row r hr)
theorem grid_fin (c : Int) (L : List Dr) : RowsFin (gridD c L) := rowsFin_of (by have := many_le L; rw [grid_len]; omega) fun r hr => row_lt (grid_row r hr)
theorem both_len (c : Int) (L : List Dr) (r : Rw) (a : Int) : (bothG c L r a).length = (gridD c L).length := by simp [bothG]
theorem shortR_len (r : Rw) : (shortR r).cells.length ≤ 1000 := by simp [shortR]; omega
theorem both_rok {c : Int} {L : List Dr} {r : Rw} {a : Int} (h : r.ok) : RowsOK (bothG c L r a) := fun x hx => by
  rcases List.mem_or_eq_of_mem_set hx with q | rfl
  · exact grid_rok c L x q
  · exact shortR_ok h
theorem both_fin (c : Int) (L : List Dr) (r : Rw) (a : Int) : RowsFin (bothG c L r a) := rowsFin_of (by have := many_le L; rw [both_len, grid_len]; omega) fun x hx => by
  rcases List.mem_or_eq_of_mem_set hx with q | rfl
  · exact (grid_fin c L).2 x q
  · exact shortR_len r
theorem nil_fin : RowsFin [] := ⟨by simp, fun r hr => by simp at hr⟩
theorem blankRow_len {w : Nat} {s : Sty} (h : w ≤ 80) : (blankRow w s).cells.length ≤ 1000 := by simp [blankRow]; omega
theorem new_fin (c r : Int) (s : Sty) : RowsFin (newGF c r s).1 := by
  unfold newGF
  split
  · exact nil_fin
  · split
    · exact nil_fin
    · refine rowsFin_of (by simp; omega) fun x hx => ?_
      rw [List.eq_of_mem_replicate hx]
      exact blankRow_len (by omega)
theorem valid_fin {g : List Rw} (h : gridF g = 0) : g.length ≤ 40 ∧ ∀ r ∈ g, r.cells.length ≤ 1000 := by
  obtain ⟨_, h1, h2⟩ := gridF_ok h
  exact ⟨h1, fun r hr => row_lt (okRows_RowsOK h2 r hr).1⟩
theorem set_fin (g : List Rw) (i : Int) (r : Rw) : RowsFin (setGF g i r).1 := by
  unfold setGF
  split
  · exact nil_fin
  · rename_i h
    obtain ⟨h1, h2⟩ := valid_fin (by simpa using h)
    split
    · exact nil_fin
    · split
      · exact nil_fin
      · rename_i hr
        split
        · exact nil_fin
        · refine rowsFin_of (by simp; omega) fun x hx => ?_
          rcases List.mem_or_eq_of_mem_set hx with q | rfl
          · exact h2 x q
          · exact row_lt (by simpa using hr)
theorem turn_fin (up : Bool) (g : List Rw) (t b n : Int) (s : Sty) : RowsFin (turnF up g t b n s).1 ∧ RowsFin (turnF up g t b n s).2.1 := by
  unfold turnF
  split
  · exact ⟨nil_fin, nil_fin⟩
  · rename_i h
    have h0 : gridF g = 0 := by simpa using h
    obtain ⟨h1, h2⟩ := valid_fin h0
    obtain ⟨_, c80, _⟩ := colsG_ok h0
    split
    · exact ⟨nil_fin, nil_fin⟩
    · split
      · exact ⟨nil_fin, nil_fin⟩
      · have hl : (regionF g t.toNat (b.toNat + 1)).length ≤ 40 := by simp [regionF]; omega
        have hm : min n.toNat (b.toNat + 1 - t.toNat) ≤ 40 := by omega
        have hr : ∀ x ∈ regionF g t.toNat (b.toNat + 1), x.cells.length ≤ 1000 := fun x hx => h2 x (List.mem_of_mem_drop (List.mem_of_mem_take hx))
        have hb := blankRow_len (s := s) c80
        generalize regionF g t.toNat (b.toNat + 1) = L at *
        generalize min n.toNat (b.toNat + 1 - t.toNat) = m at *
        have hi : (isF up L m (blankRow (colsG g) s)).length ≤ 80 ∧ ∀ x ∈ isF up L m (blankRow (colsG g) s), x.cells.length ≤ 1000 := by
          cases up
          · simp only [isF, Bool.false_eq_true, if_false]
            refine ⟨by simp; omega, fun x hx => ?_⟩
            rcases List.mem_append.1 hx with q | q
            · rw [List.eq_of_mem_replicate q]; exact hb
            · exact hr x (List.mem_of_mem_take q)
          · simp only [isF, if_true]
            refine ⟨by simp; omega, fun x hx => ?_⟩
            rcases List.mem_append.1 hx with q | q
            · exact hr x (List.mem_of_mem_drop q)
            · rw [List.eq_of_mem_replicate q]; exact hb
        refine ⟨rowsFin_of (by simp [layF]; omega) fun x hx => ?_, ?_⟩
        · simp only [layF, List.mem_append] at hx
          rcases hx with (q | q) | q
          · exact h2 x (List.mem_of_mem_take q)
          · exact hi.2 x q
          · exact h2 x (List.mem_of_mem_drop q)
        · cases up
          · exact rowsFin_of (by simp [wentF]; omega) fun x hx => hr x (List.mem_of_mem_drop (by simpa [wentF] using hx))
          · exact rowsFin_of (by simp [wentF]; omega) fun x hx => hr x (List.mem_of_mem_take (by simpa [wentF] using hx))
theorem eraseAt_len {w : Nat} {fr fc tr tc : Int} {s : Sty} {k : Nat} {r : Rw} (h : r.cells.length ≤ 1000) : (eraseAt w fr fc tr tc s k r).cells.length ≤ 1000 := by
  unfold eraseAt
  split
  · exact eraseRow_len _ _ _ _
  · exact h
theorem erase_fin (g : List Rw) (fr fc tr tc : Int) (s : Sty) : RowsFin (eraseGF g fr fc tr tc s).1 := by
  unfold eraseGF
  split
  · exact nil_fin
  · rename_i h
    obtain ⟨h1, h2⟩ := valid_fin (by simpa using h)
    split
    · exact nil_fin
    · split
      · exact nil_fin
      · refine rowsFin_of (by simp only [eraseTo_len]; omega) fun x hx => ?_
        simp only [eraseTo, List.mem_mapIdx] at hx
        obtain ⟨i, hi, rfl⟩ := hx
        first
          | exact eraseAt_len (h2 _ (List.getElem_mem hi))
          | (split <;> first | exact eraseAt_len (h2 _ (List.getElem_mem hi)) | exact h2 _ (List.getElem_mem hi))
theorem wuF (n : Int) : IntKind.u64.wrap n = n % 18446744073709551616 := by simp [IntKind.wrap, IntKind.signed, IntKind.bits]
theorem remF_ (n m : Int) (hm : 0 < m) (h2 : m ≤ 1000000) : ∃ k, (n % 18446744073709551616).tmod m = k ∧ 0 ≤ k ∧ k < m ∧ IntKind.i64.wrap k = k := by
  have e : (n % 18446744073709551616).tmod m = n % 18446744073709551616 % m := Int.tmod_eq_emod_of_nonneg (by omega)
  have h3 := Int.emod_nonneg (n % 18446744073709551616) (show m ≠ 0 by omega)
  have h4 := Int.emod_lt_of_pos (n % 18446744073709551616) hm
  exact ⟨_, e, h3, h4, wrap64 _ (by omega) (by omega)⟩
/-! arrays of rows, cells, styles -/
section
variable (a b : Rw) (c d : Cel) (s t : Sty) (x y : C) (l : List C)
@[simp] theorem row_d4 : List.drop 4 (rowC a ++ x :: y :: l) = l := rfl
@[simp] theorem row_d4r : List.drop 4 (rowC a ++ (rowC b ++ l)) = l := rfl
@[simp] theorem row_t4 : List.take 4 (rowC a ++ (rowC b ++ l)) = rowC a ++ rowC b := rfl
@[simp] theorem row_t4x : List.take 4 (rowC a ++ x :: y :: l) = rowC a ++ [x, y] := rfl
@[simp] theorem row_d6 : List.drop 6 (rowC a ++ (rowC b ++ x :: y :: l)) = l := rfl
@[simp] theorem cel_d24 : List.drop 24 (celC c ++ l) = l.drop 12 := rfl
@[simp] theorem cel_d12z : List.drop 12 (celC c) = [] := rfl
@[simp] theorem sty_d16 : List.drop 16 (styC s ++ l) = l.drop 8 := rfl
@[simp] theorem sty_d8z : List.drop 8 (styC s ++ l) = l := rfl
@[simp] theorem sty_d8' : List.drop 8 (styC s) = [] := rfl
end
theorem exF {p : List Rw} (h : RowsFin p) : ∃ x : List Rw, p.length = x.length ∧ p = x ∧ RowsFin x := ⟨p, rfl, rfl, h⟩
theorem exO {p : List Rw} (h : RowsOK p) : ∃ x : List Rw, p.length = x.length ∧ p = x ∧ RowsOK x := ⟨p, rfl, rfl, h⟩
end Fen

namespace Fen
open Go Go.Proofs

theorem rowsC_flatMap (l : List Rw) : l.flatMap rowC = rowsC l := by
  induction l with
  | nil => rfl
  | cons c l ih => rw [List.flatMap_cons, ih]; rfl
theorem arg_rows {A : V} (h : TypedV T 34 A) : ∃ l : List Rw, A = rowsV l ∧ RowsOK l := by
  obtain ⟨l, rfl, hl, ql⟩ := arg_slice_of (Q := fun r : Rw => r.ok) (en := rowC) T_34 (fun d p h => by
    obtain ⟨r, rfl, hr, _⟩ := typed_row h
    exact ⟨r, rfl, hr⟩) h
  exact ⟨l, by rw [rowsC_flatMap]; rfl, ql⟩
theorem typed_dr {d : Nat} {p : List C} (h : Typed T d 73 p) : ∃ x : Dr, p = drC x ∧ x.ok := by
  obtain ⟨c, B, w, rfl, h0, h1, hB⟩ := typed_draft h
  exact ⟨⟨c, B, w⟩, rfl, h0, h1, hB⟩
theorem arg_gdraft {A : V} (h : TypedV T 24 A) : ∃ (c : Int) (L : List Dr), A = .agg [.int .u8 c, .sl L.length (L.flatMap drC)] ∧ 0 ≤ c ∧ c < 256 ∧ ∀ d ∈ L, d.ok := by
  obtain ⟨d, ks, rfl, hk0⟩ := arg_agg T_24 rfl h
  obtain ⟨d', parts, rfl, hk⟩ := typed_struct T_24 hk0
  match parts, hk with
  | [p0, p1], ⟨h0, h1, _⟩ =>
    obtain ⟨c, rfl, q0, q1⟩ := typed_u8 h0
    obtain ⟨L, rfl, hl, ql⟩ := typed_slice_of (en := drC) T_22 (fun d p h => typed_dr h) h1
    exact ⟨c, L, rfl, q0, q1, ql⟩
theorem arg_i64x3 {A : V} (h : TypedV T 28 A) : ∃ a b c : Int, A = .agg [.int .i64 a, .int .i64 b, .int .i64 c] := by
  obtain ⟨d, ks, rfl, hk0⟩ := arg_agg T_28 rfl h
  obtain ⟨d', parts, rfl, hl, hk⟩ := typed_array T_28 hk0
  match parts, hl with
  | [p0, p1, p2], _ =>
    obtain ⟨a, rfl, _⟩ := typed_i64 (hk p0 (by simp))
    obtain ⟨b, rfl, _⟩ := typed_i64 (hk p1 (by simp))
    obtain ⟨c, rfl, _⟩ := typed_i64 (hk p2 (by simp))
    exact ⟨a, b, c, rfl⟩
theorem typed_place {d : Nat} {p : List C} (h : Typed T d 48 p) : ∃ a b : Int, p = [.int .i64 a, .int .i64 b] := by
  obtain ⟨d', parts, rfl, hk⟩ := typed_struct T_48 h
  match parts, hk with
  | [p0, p1], ⟨h0, h1, _⟩ =>
    obtain ⟨a, rfl, _⟩ := typed_i64 h0
    obtain ⟨b, rfl, _⟩ := typed_i64 h1
    exact ⟨a, b, rfl⟩
theorem arg_places {A : V} (h : TypedV T 49 A) : ∃ a b c e : Int, A = .agg [.int .i64 a, .int .i64 b, .int .i64 c, .int .i64 e] := by
  obtain ⟨d, ks, rfl, hk0⟩ := arg_agg T_49 rfl h
  obtain ⟨d', parts, rfl, hl, hk⟩ := typed_array T_49 hk0
  match parts, hl with
  | [p0, p1], _ =>
    obtain ⟨a, b, rfl⟩ := typed_place (hk p0 (by simp))
    obtain ⟨c, e, rfl⟩ := typed_place (hk p1 (by simp))
    exact ⟨a, b, c, e, rfl⟩
end Fen
