/- A part of the proof; no statement is proved here: FReflLf, FReflX, FReflLs, FGridT, FReflRa, FReflLa. -/
import Derived.Test.YtjolofoocpeinaaDoorReflF
import Derived.Test.YtjolofoocpeinaaDoorCoreF
import Derived.Test.YtjolofoocpeinaaDoorGridA

set_option linter.unusedVariables false
set_option linter.unusedSimpArgs false

namespace Fen
open Go Go.Proofs
theorem u8_tmod {a : Int} (h0 : 0 ≤ a) (m : Int) : a.tmod m = a % m := Int.tmod_eq_emod_of_nonneg h0
theorem headGV {w n : Nat} {g : List Rw} (h : GV w n g) : ∃ r0 : Rw, (∀ d, (rowsC g).head?.getD d = .sl w (celsC r0.cells)) ∧ 0 < g.length := by
 have h1 := h.ne
 match g, h1, h with
 | r :: g, _, h => exact ⟨r, fun d => by rw [← (h.rows r (List.mem_cons_self ..)).2]; rfl, by simp⟩
theorem altF_ok {w n K N : Nat} {g : List Rw} (v : GV w n g) (hK : 2 ≤ K ∧ K ≤ 80) (hN : 1 ≤ N ∧ N ≤ 40) : altF g K N = (altG g K N, 0) := by
 have z : sizeOK K N = true := by simp [sizeOK]; omega
 unfold altF; rw [if_neg (by simp [v.valid]), if_neg (by simp [z])]; simp
theorem row_at {w n : Nat} {g : List Rw} (v : GV w n g) {i : Nat} (h : i < n) : ∃ r : Rw, r.cells.length = w ∧ g.getD i ⟨[], false⟩ = r ∧ List.drop (i * 2) (rowsC g) = C.sl w (celsC r.cells) :: C.bool r.wrapped :: rowsC (g.drop (i + 1)) := by
 have h1 := v.len
 have hl : i < g.length := by omega
 have h2 := (v.rows _ (List.getElem_mem hl)).2
 refine ⟨g[i], h2, by simp [List.getD_eq_getElem?_getD, hl], ?_⟩
 rw [rowsC_at hl, ← h2]; rfl
end Fen

namespace Fen
open Go Go.Proofs
end Fen

namespace Fen
open Go Go.Proofs
theorem HV.ok {w n : Nat} {h : Hd} (v : HV w n h) : HdOK h := ⟨fun r hr => row_okF (v.past r hr).1, v.grid.rok⟩
theorem HV.fin {w n : Nat} {h : Hd} (v : HV w n h) : HdFin h := ⟨rowsFin_of (by have := v.pl; omega) fun r hr => row_lt (v.past r hr).1, v.grid.fin⟩
end Fen

namespace Fen
open Go Go.Proofs
theorem typed_dr {d : Nat} {p : List C} (h : Typed T d 91 p) : ∃ x : Dr, p = drC x ∧ x.ok := by
 obtain ⟨c, B, w, rfl, h0, h1, hB⟩ := typed_draft h
 exact ⟨⟨c, B, w⟩, rfl, h0, h1, hB⟩
theorem arg_gdraft {A : V} (h : TypedV T 62 A) : ∃ (c : Int) (L : List Dr), A = .agg [.int .u8 c, .sl L.length (L.flatMap drC)] ∧ 0 ≤ c ∧ c < 256 ∧ ∀ d ∈ L, d.ok := by
 obtain ⟨d, ks, rfl, hk0⟩ := arg_agg T_62 rfl h
 obtain ⟨d', parts, rfl, hk⟩ := typed_struct T_62 hk0
 match parts, hk with
 | [p0, p1], ⟨h0, h1, _⟩ =>
   obtain ⟨c, rfl, q0, q1⟩ := typed_u8 h0
   obtain ⟨L, rfl, hl, ql⟩ := typed_slice_of (en := drC) T_22 (fun d p h => typed_dr h) h1
   exact ⟨c, L, rfl, q0, q1, ql⟩
end Fen

namespace Fen
open Go Go.Proofs
def raltSpec : Spec := { pre := fun args => ∃ (g : List Rw) (K N : Nat), args = [rowsV g, .c (.int .i64 K), .c (.int .i64 N)] ∧ gridF g = 0 ∧ 2 ≤ K ∧ K ≤ 80 ∧ 1 ≤ N ∧ N ≤ 40, res := fun args => match args with
 | [.c (.sl _ cs), .c (.int _ a), .c (.int _ b)] => .one (.val (rowsV (altG (rowsOf cs) a.toNat b.toNat)))
 | _ => .many [] }
def raS1 (g : List Rw) (K N i : Nat) : St :=
 ⟨89, [(0, .val (.sl g.length (rowsC g))), (1, .val (.int .i64 K)), (2, .val (.int .i64 N)), (7, .ref 0 0), (8, .val (.int .i64 i))], [.sl 30 0 true 2 i (rowsC ((altG g K N).take i))]⟩
def raS2 (g : List Rw) (K N i : Nat) (x : List Cel) (k : Nat) : St :=
 ⟨89, [(0, .val (.sl g.length (rowsC g))), (1, .val (.int .i64 K)), (2, .val (.int .i64 N)), (7, .ref 0 0), (8, .val (.int .i64 i)), (9, .ptr 1 0 0), (10, .val (.int .i64 k))],
   [.sl 30 0 true 2 i (rowsC ((altG g K N).take i)), .box 30 [.ref 2 0, .val (.bool false)], .sl 77 0 true 12 k (celsC (x.take k))]⟩
def G_ralt : Specs := [(54, (nilsOf plainSpec))]
@[simp] theorem G_ralt_live : Specs.live G_ralt = false := rfl
@[simp] theorem G_ralt_nils : Specs.nils G_ralt = true := rfl
@[simp] theorem G_ralt_54 : G_ralt.find 54 = some (nilsOf plainSpec) := rfl
theorem G_ralt_ok (gl : Gl) : SpecsOK Tryd.prog gl G_ralt := .cons (rplain_sound gl).nils (.nil _ _)
set_option maxHeartbeats 4000000 in
set_option maxRecDepth 10000 in
theorem ralt_sound (gl : Gl) : Sound Tryd.prog gl 27 raltSpec := by
 refine sound_fn (N := Tryd.f27.ntmps) (rs := Tryd.f27.results.toList) mixed tok (G_ralt_ok gl) Tryd.func27 rfl rfl rfl rfl rfl ?_ ?_ ?_
 · rintro args ⟨g,K,N,rfl,hv,hK1,hK2,hN1,hN2⟩; simp [rowsV,rowsOf_C, Tryd.f27]
 · rintro args ⟨g,K,N,rfl,hv,hK1,hK2,hN1,hN2⟩; simp [rowsV,rowsOf_C, raltSpec, Tryd.f27]
 · rintro args ⟨g,K,N,rfl,hv,hK1,hK2,hN1,hN2⟩ bs hgl hh hro
   have hE : Env.OK ⟨Tryd.prog, T, G_ralt, bs⟩ := ⟨tok, by rw [hgl]; exact G_ralt_ok gl⟩
   simp only [raltSpec, rowsV,rowsOf_C]
   have v := GV.of hv
   have hAl : (altG g K N).length = N := by simp [altG]
   have bl : (⟨32, 0, 0, 0, sty0⟩ : Cel) = blankF sty0 := rfl
   have wK : IntKind.i64.wrap ((K : Int) - 1) = ((K - 1 : Nat) : Int) := by rw [wrap64 _ (by omega) (by omega)]; omega
   simp [and_assoc, raltSpec, plainSpec, Tryd.f27]
   refine AWP.rounds (fun i => i ≤ N) (raS1 g K N) (fun i => N - i) 0 (by omega) (Weak.ren [none] (baseOK.nil hh) (by simp) (by simp [raS1, rowsC]) (by simp [raS1])) ?_
   intro i hi
   refine wpc_ok hE mixed _ _ _ ?_
   rcases Nat.lt_or_ge i N with h | h
   · have i' : ((i : Int) < N) = True := eq_true (by omega)
     have wi : IntKind.i64.wrap ((i : Int) + 1) = (i : Int) + 1 := wrap64 _ (by omega) (by omega)
     have ht : (altG g K N).take (i + 1) = (altG g K N).take i ++ [altR g K i] := by
       rw [List.take_succ_eq_append_getElem (by omega)]; simp [altG]
     have er : rowsC ((altG g K N).take (i + 1)) = rowsC ((altG g K N).take i) ++ rowC (altR g K i) := by rw [ht, rowsC_app]; simp [rowsC]
     have hxl : (altR g K i).cells.length = K := by simp [altR]
     have hxk : ∀ k, (hk : k < K) → (altR g K i).cells[k]'(by omega) = altK (g.getD i ⟨[], false⟩).cells K k := fun k hk => by simp [altR]
     have hxw : (altR g K i).wrapped = ((g.getD i ⟨[], false⟩).wrapped && decide ((g.getD i ⟨[], false⟩).cells.length = K)) := rfl
     simp -implicitDefEqProofs [raS1, i']
     refine AWP.leaves 2 (raS2 g K N i (altR g K i).cells K) (AWP.rounds (fun k => k ≤ K) (raS2 g K N i (altR g K i).cells) (fun k => K - k) 0 (by omega) (Weak.trans (Weak.mkEmpty 1 0 77 12 (by decide) rfl rfl) (Weak.heap (by simp [raS2]) (by simp [raS2]))) ?_) ?_
     · intro k hk
       refine wpc_ok hE mixed _ _ _ ?_
       rcases Nat.lt_or_ge k K with c | c
       · have k' : ((k : Int) < K) = True := eq_true (by omega)
         have wk : IntKind.i64.wrap ((k : Int) + 1) = (k : Int) + 1 := wrap64 _ (by omega) (by omega)
         have hz := hxk k c
         have htk : celsC ((altR g K i).cells.take (k + 1)) = celsC ((altR g K i).cells.take k) ++ celC ((altR g K i).cells[k]'(by omega)) := by
           rw [List.take_succ_eq_append_getElem (by omega), celsC_app, celsC_one]
         rw [hz] at htk
         unfold altK at htk
         have hkK : ((k : Int) = ((K - 1 : Nat) : Int)) = (k + 1 = K) := by simp only [eq_iff_iff]; omega
         have x3 : ∀ (x : Cel) h, (celC x)[3]'h = C.int .i64 x.wide := fun _ _ => rfl
         have bw : (blankF sty0).wide = 0 := rfl
         by_cases hg : i < g.length
         · have g' : ((i : Int) < g.length) = True := eq_true (by omega)
           obtain ⟨r, hrl, hr, hd⟩ := row_at v (i := i) hg
           rw [hr] at htk
           by_cases hc : k < r.cells.length
           · have c' : ((k : Int) < (colsG g : Nat)) = True := eq_true (by omega)
             have hcd := celsC_at hc
             rw [cat_eq hc, List.getD_eq_getElem?_getD, List.getElem?_eq_getElem hc, Option.getD_some] at htk
             generalize r.cells[k] = x at *
             by_cases w1 : x.wide = 1
             · have w1' : (x.wide = 1) = True := eq_true w1
               by_cases w2 : k + 1 = K
               · have w2' : (k + 1 = K) = True := eq_true w2
                 rw [if_pos ⟨w1, w2⟩] at htk
                 simp -implicitDefEqProofs [raS2, and_assoc, plainSpec, k', wk, bl, bw, x3, wK, hkK, g', hd, c', hcd, w1', w2']
                 exact ⟨by omega, by omega, Next.mk (k + 1) c (by omega) (Weak.ren [some 0, some 1, some 2] (baseOK.nil hh) (by simp) (by simp [htk]) (by simp))⟩
               · have w2' : (k + 1 = K) = False := eq_false w2
                 rw [if_neg (fun q => w2 q.2)] at htk
                 simp -implicitDefEqProofs [raS2, and_assoc, plainSpec, k', wk, bl, bw, x3, wK, hkK, g', hd, c', hcd, w1', w2']
                 exact ⟨by omega, by omega, Next.mk (k + 1) c (by omega) (Weak.ren [some 0, some 1, some 2] (baseOK.nil hh) (by simp) (by simp [htk]) (by simp))⟩
             · have w1' : (x.wide = 1) = False := eq_false w1
               rw [if_neg (fun q => w1 q.1)] at htk
               simp -implicitDefEqProofs [raS2, and_assoc, plainSpec, k', wk, bl, bw, x3, wK, hkK, g', hd, c', hcd, w1']
               exact ⟨by omega, by omega, Next.mk (k + 1) c (by omega) (Weak.ren [some 0, some 1, some 2] (baseOK.nil hh) (by simp) (by simp [htk]) (by simp))⟩
           · have c' : ((k : Int) < (colsG g : Nat)) = False := eq_false (by omega)
             rw [cat_out (by omega), List.getD_eq_getElem?_getD, List.getElem?_eq_none (by omega), Option.getD_none, if_neg (by simp [cel0])] at htk
             simp -implicitDefEqProofs [raS2, and_assoc, plainSpec, k', wk, bl, bw, x3, wK, hkK, g', hd, c']
             exact ⟨by omega, by omega, Next.mk (k + 1) c (by omega) (Weak.ren [some 0, some 1, some 2] (baseOK.nil hh) (by simp) (by simp [htk]) (by simp))⟩
         · have g' : ((i : Int) < g.length) = False := eq_false (by omega)
           have ho : ∀ d : C, (rowsC g)[i * 2]?.getD d = d := fun d => by rw [List.getElem?_eq_none (by simp; omega)]; rfl
           rw [show g.getD i ⟨[], false⟩ = ⟨[], false⟩ by simp [List.getD_eq_getElem?_getD, show g.length ≤ i by omega], cat_out (by simp), List.getD_nil, if_neg (by simp [cel0])] at htk
           simp -implicitDefEqProofs [raS2, and_assoc, plainSpec, k', wk, bl, bw, x3, wK, hkK, g', ho]
           exact ⟨by omega, by omega, Next.mk (k + 1) c (by omega) (Weak.ren [some 0, some 1, some 2] (baseOK.nil hh) (by simp) (by simp [htk]) (by simp))⟩
       · obtain rfl : k = K := by omega
         simp -implicitDefEqProofs [raS2]
         exact Leaves.mk (Weak.heap rfl (by simp))
     · have hT : (altR g K i).cells.take K = (altR g K i).cells := List.take_of_length_le (by omega)
       have hrow : rowC (altR g K i) = [C.sl K (celsC (altR g K i).cells), C.bool (altR g K i).wrapped] := by simp [rowC, hxl]
       rw [hrow, hxw] at er
       by_cases hg : i < g.length
       · have g' : ((i : Int) < g.length) = True := eq_true (by omega)
         obtain ⟨r, hrl, hr, hd⟩ := row_at v (i := i) hg
         rw [hr] at er
         have ew : (r.wrapped && decide (r.cells.length = K)) = (decide (((colsG g : Nat) : Int) = (K : Int)) && r.wrapped) := by
           rw [hrl, Bool.and_comm]; congr 1; rw [Bool.eq_iff_iff]; simp only [decide_eq_true_eq]; omega
         rw [ew] at er
         simp -implicitDefEqProofs [raS2, hT, g', hd, wi]
         exact ⟨⟨by omega, by omega⟩, Next.mk (i + 1) h (by omega) (Weak.ren [some 0] (baseOK.nil hh) (by simp) (by simp [er]) (by simp))⟩
       · have g' : ((i : Int) < g.length) = False := eq_false (by omega)
         have ho : ∀ d : C, (rowsC g)[i * 2]?.getD d = d := fun d => by rw [List.getElem?_eq_none (by simp; omega)]; rfl
         have ho2 : ∀ d : C, (rowsC g)[i * 2 + 1]?.getD d = d := fun d => by rw [List.getElem?_eq_none (by simp; omega)]; rfl
         rw [show g.getD i ⟨[], false⟩ = ⟨[], false⟩ by simp [List.getD_eq_getElem?_getD, show g.length ≤ i by omega]] at er
         simp only [Bool.false_and] at er
         simp -implicitDefEqProofs [raS2, hT, g', wi, ho, ho2]
         exact ⟨⟨by omega, by omega⟩, Next.mk (i + 1) h (by omega) (Weak.ren [some 0] (baseOK.nil hh) (by simp) (by simp [er]) (by simp))⟩
   · obtain rfl : i = N := by omega
     have hT : (altG g K i).take i = altG g K i := List.take_of_length_le (by omega)
     simp -implicitDefEqProofs [raS1, hT, rowsV, hAl]
end Fen

namespace Fen
open Go Go.Proofs
theorem set_ok {g : List Rw} {i : Nat} {r : Rw} (h : RowsOK g) (hr : r.ok) : RowsOK (g.set i r) := fun x hx => by
 rcases List.mem_or_eq_of_mem_set hx with q | q
 · exact h x q
 · subst q; exact hr
def lawAltsSpec : Spec := { pre := fun args => ∃ (c : Int) (L : List Dr) (r : Rw) (q a b : Int), args = [.agg [.int .u8 c, .sl L.length (L.flatMap drC)], rowV r, .c (.int .u8 q), .agg [.int .i64 a, .int .i64 b]] ∧ 0 ≤ c ∧ c < 256 ∧ (∀ d ∈ L, d.ok) ∧ r.ok ∧ 0 ≤ q ∧ q < 256 ∧ I64 a ∧ I64 b, res := fun _ => .one (.val (.c (.bool true))) }
def alS1 (n w : Nat) (G : List Rw) (LL : List C) (a b s1 s2 : Int) (i : Nat) : St :=
 ⟨112, [(7, .ptr 0 0 0), (9, .val (.sl n (rowsC G))), (11, .ptr 1 0 0), (56, .agg LL), (57, .val (.int .i64 i))], [.box 51 [.val (.int .i64 a), .val (.int .i64 b)], .box 51 [.val (.int .i64 s1), .val (.int .i64 s2)]]⟩
def alS2 (n w : Nat) (G : List Rw) (LL : List C) (a b s1 s2 : Int) (i : Nat) (X : List Rw) (SS : List C) (j : Nat) : St :=
 ⟨112, [(7, .ptr 0 0 0), (9, .val (.sl n (rowsC G))), (11, .ptr 1 0 0), (56, .agg LL), (57, .val (.int .i64 i)), (13, .val (.sl n (rowsC X))), (70, .agg SS), (71, .val (.int .i64 j))], [.box 51 [.val (.int .i64 a), .val (.int .i64 b)], .box 51 [.val (.int .i64 s1), .val (.int .i64 s2)]]⟩
def G_lawAlts : Specs := [(18, lworks9Spec), (24, dgridSpec), (25, altSpec2), (26, grightSpec), (20, sizeSpec2), (27, raltSpec), (28, samesSpec)]
@[simp] theorem G_lawAlts_live : Specs.live G_lawAlts = false := rfl
@[simp] theorem G_lawAlts_nils : Specs.nils G_lawAlts = false := rfl
@[simp] theorem G_lawAlts_18 : G_lawAlts.find 18 = some lworks9Spec := rfl
@[simp] theorem G_lawAlts_24 : G_lawAlts.find 24 = some dgridSpec := rfl
@[simp] theorem G_lawAlts_25 : G_lawAlts.find 25 = some altSpec2 := rfl
@[simp] theorem G_lawAlts_26 : G_lawAlts.find 26 = some grightSpec := rfl
@[simp] theorem G_lawAlts_20 : G_lawAlts.find 20 = some sizeSpec2 := rfl
@[simp] theorem G_lawAlts_27 : G_lawAlts.find 27 = some raltSpec := rfl
@[simp] theorem G_lawAlts_28 : G_lawAlts.find 28 = some samesSpec := rfl
theorem G_lawAlts_ok : SpecsOK Tryd.prog glW G_lawAlts := .cons works9_sound (.cons (dgrid_sound glW) (.cons alt_sound (.cons (gright_sound glW) (.cons (rsizeok_sound glW) (.cons (ralt_sound glW) (.cons (sames_sound glW) (.nil _ _)))))))
set_option maxHeartbeats 8000000 in
set_option maxRecDepth 10000 in
theorem lawAlts_sound : Sound Tryd.prog glW 5 lawAltsSpec := by
 refine sound_fn (N := Tryd.f5.ntmps) (rs := Tryd.f5.results.toList) mixed tok G_lawAlts_ok Tryd.func5 rfl rfl rfl rfl rfl ?_ ?_ ?_
 · rintro args ⟨c,L,r,q,a,b,rfl,h0,h1,hL,hr,q0,q1,⟨a0,a1⟩,⟨b0,b1⟩⟩; simp [rowV, Tryd.f5]
 · rintro args ⟨c,L,r,q,a,b,rfl,h0,h1,hL,hr,q0,q1,⟨a0,a1⟩,⟨b0,b1⟩⟩; simp [rowV, lawAltsSpec, Tryd.f5]
 · rintro args ⟨c,L,r,q,a,b,rfl,h0,h1,hL,hr,q0,q1,⟨a0,a1⟩,⟨b0,b1⟩⟩ bs hgl hh hro
   have hE : Env.OK ⟨Tryd.prog, T, G_lawAlts, bs⟩ := ⟨tok, by rw [hgl]; exact G_lawAlts_ok⟩
   simp only [lawAltsSpec, rowV]
   have eL : ∃ x : List Dr, L.length = x.length ∧ L.flatMap drC = x.flatMap drC ∧ ∀ d ∈ x, d.ok := ⟨L, rfl, rfl, hL⟩
   have v := GV.grid c L
   obtain ⟨w, hw⟩ : ∃ w, 2 + c.toNat % 79 = w := ⟨_, rfl⟩
   obtain ⟨n, hn⟩ : ∃ n, manyG L = n := ⟨_, rfl⟩
   rw [hw, hn] at v
   obtain ⟨G, hD⟩ : ∃ D, gridD c L = D := ⟨_, rfl⟩
   rw [hD] at v
   have gn := v.len
   have n1 := v.n1
   have n40 := v.n40
   have wq : IntKind.i64.wrap q = q := wrap64 _ (by omega) (by omega)
   have eq := u8_tmod q0 (n : Int)
   have m1 := Int.emod_nonneg q (show (n : Int) ≠ 0 by omega)
   have m2 := Int.emod_lt_of_pos q (show (0 : Int) < (n : Int) by omega)
   have wq2 : IntKind.i64.wrap (q % (n : Int)) = (((q % (n : Int)).toNat : Nat) : Int) := by rw [wrap64 _ (by omega) (by omega)]; omega
   obtain ⟨k, hk⟩ : ∃ k, (q % (n : Int)).toNat = k := ⟨_, rfl⟩
   rw [hk] at wq2
   have nz : ¬ n = 0 := by omega
   obtain ⟨p, hp⟩ : ∃ p, min r.cells.length 90 = p := ⟨_, rfl⟩
   have hmin : (if 90 < (r.cells.length : Int) then (90 : Int) else (r.cells.length : Int)) = (p : Int) := by split <;> omega
   have htk : List.take (p * 12) (celsC r.cells) = celsC (r.cells.take p) := celsC_take _ _
   have hkn : k < G.length := by omega
   have hset := rowsC_set hkn ⟨r.cells.take p, r.wrapped⟩
   have hpl : (r.cells.take p).length = p := by simp; omega
   simp only [rowC, hpl, List.cons_append, List.nil_append] at hset
   have okB : RowsOK (G.set k ⟨r.cells.take p, r.wrapped⟩) := set_ok v.rok fun c hc => hr c (List.mem_of_mem_take hc)
   have bn : (G.set k ⟨r.cells.take p, r.wrapped⟩).length = n := by simp [gn]
   generalize G.set k ⟨r.cells.take p, r.wrapped⟩ = B at *
   obtain ⟨s1, hs1⟩ : ∃ s, IntKind.i64.wrap (IntKind.i64.wrap ((IntKind.u64.wrap a).tmod 84) - 1) = s := ⟨_, rfl⟩
   obtain ⟨s2, hs2⟩ : ∃ s, IntKind.i64.wrap (IntKind.i64.wrap ((IntKind.u64.wrap b).tmod 43) - 1) = s := ⟨_, rfl⟩
   simp -implicitDefEqProofs [-Bool.exists_bool, and_assoc, lawAltsSpec, altSpec2, dgridSpec, grightSpec, lworks9Spec, raltSpec, samesSpec, sizeSpec2, Tryd.f5, h0, h1, eL, drsOf_C, hD, rowC, rowsV, gn, wq, eq, wq2, nz, hmin, htk, hk, hset, hs1, hs2]
   refine ⟨by omega, by omega, by omega, by omega, by omega, by omega, by rfl, ?_⟩
   obtain ⟨LL, hLL⟩ : ∃ LL, [C.sl n (rowsC G), C.sl n (rowsC B)] = LL := ⟨_, rfl⟩
   obtain ⟨SS, hSS⟩ : ∃ SS, [C.int IntKind.i64 a, C.int .i64 b, C.int .i64 s1, C.int .i64 s2, C.int .i64 w, C.int .i64 s2] = SS := ⟨_, rfl⟩
   refine AWP.leaves 0 (alS1 n w G LL a b s1 s2 2) (AWP.rounds (fun i => i ≤ 2) (alS1 n w G LL a b s1 s2) (fun i => 2 - i) 0 (by omega) (Weak.ren [some 2, some 4] (baseOK.nil hh) (by simp) (by simp) (by simp [alS1, hLL])) ?_) ?_
   · intro i hi
     refine wpc_ok hE mixed _ _ _ ?_
     rcases Nat.lt_or_ge i 2 with h | h
     · have i' : ((i : Int) < 2) = True := eq_true (by omega)
       have wi : IntKind.i64.wrap ((i : Int) + 1) = (i : Int) + 1 := wrap64 _ (by omega) (by omega)
       have hl2 : LL.length = 2 := by rw [← hLL]; rfl
       obtain ⟨X, hX, okX⟩ : ∃ X : List Rw, (∀ hl : i < LL.length, LL[i] = C.sl n (rowsC X)) ∧ RowsOK X ∧ X.length = n := by
         rcases (show i = 0 ∨ i = 1 by omega) with rfl | rfl
         · exact ⟨G, fun hl => by subst hLL; rfl, v.rok, gn⟩
         · exact ⟨B, fun hl => by subst hLL; rfl, okB, bn⟩
       obtain ⟨r0, hg0, hgl⟩ := headGV v
       have hXi : LL[i]?.getD C.nilf = C.sl n (rowsC X) := by rw [List.getElem?_eq_getElem (by omega), hX (by omega)]; rfl
       simp -implicitDefEqProofs [alS1, i', hl2, hg0, hXi]
       refine ⟨h, by omega, hgl, by rfl, ?_⟩
       refine AWP.rounds (fun j => j ≤ 3) (alS2 n w G LL a b s1 s2 i X SS) (fun j => 3 - j) 0 (by omega) (Weak.heap (by simp) (by simp [alS2, hSS])) ?_
       intro j hj
       refine wpc_ok hE mixed _ _ _ ?_
       have oX := okX.1
       have xn := okX.2
       have xX : ∃ x : List Rw, n = x.length ∧ X = x ∧ RowsOK x := ⟨X, xn.symm, rfl, oX⟩
       rcases Nat.lt_or_ge j 3 with g | g
       · have j' : ((j : Int) < 3) = True := eq_true (by omega)
         have wj : IntKind.i64.wrap ((j : Int) + 1) = (j : Int) + 1 := wrap64 _ (by omega) (by omega)
         have hsl : SS.length = 6 := by rw [← hSS]; rfl
         obtain ⟨x, y, hxy⟩ : ∃ x y : Int, List.take 2 (List.drop (j * 2) SS) = [C.int .i64 x, C.int .i64 y] := by
           rcases (show j = 0 ∨ j = 1 ∨ j = 2 by omega) with rfl | rfl | rfl
           · exact ⟨a, b, by rw [← hSS]; rfl⟩
           · exact ⟨s1, s2, by rw [← hSS]; rfl⟩
           · exact ⟨w, s2, by rw [← hSS]; rfl⟩
         have nF : ∃ x : List Rw, 0 = x.length ∧ [] = rowsC x ∧ RowsFin x := ⟨[], rfl, rfl, by simp, by simp⟩
         by_cases gX : gridF X = 0
         · cases z : sizeOK x y
           · have e : altF X x y = ([], 2) := by unfold altF; rw [if_neg (by simp [gX]), if_pos z]
             simp -implicitDefEqProofs [alS2, and_assoc, altSpec2, dgridSpec, grightSpec, lworks9Spec, raltSpec, samesSpec, sizeSpec2, j', wj, hsl, hxy, rowsOf_C, rowsV, gX, z, e]
             exact ⟨by omega, ⟨X, xn.symm, rfl, oX⟩, ⟨[], rfl, rfl, ⟨[], rfl, rfl⟩, by simp, by simp⟩, Next.mk (j + 1) (by omega) (by omega) (Weak.ren [some 0, some 1] (baseOK.nil hh) (by simp) (by simp) (by simp))⟩
           · have zz := z
             simp only [sizeOK, Bool.and_eq_true, decide_eq_true_eq] at zz
             obtain ⟨⟨⟨z1, z2⟩, z3⟩, z4⟩ := zz
             obtain ⟨K, rfl⟩ : ∃ K : Nat, x = K := ⟨x.toNat, by omega⟩
             obtain ⟨N, rfl⟩ : ∃ N : Nat, y = N := ⟨y.toNat, by omega⟩
             have vX := GV.of gX
             have e := altF_ok vX (K := K) (N := N) (by omega) (by omega)
             have fX := (vX.alt (cols := K) (rows := N) (by omega) (by omega)).fin
             simp -implicitDefEqProofs [alS2, and_assoc, altSpec2, dgridSpec, grightSpec, lworks9Spec, raltSpec, samesSpec, sizeSpec2, j', wj, hsl, hxy, rowsOf_C, rowsV, gX, z, e]
             exact ⟨by omega, ⟨X, xn.symm, rfl, oX⟩, ⟨X, xn.symm, rfl, K, rfl, N, rfl, gX, by omega, by omega, by omega, by omega⟩, ⟨_, rfl, rfl, fX⟩, Next.mk (j + 1) (by omega) (by omega) (Weak.ren [some 0, some 1] (baseOK.nil hh) (by simp) (by simp) (by simp))⟩
         · have e : altF X x y = ([], 230) := by unfold altF; rw [if_pos gX]
           simp -implicitDefEqProofs [alS2, and_assoc, altSpec2, dgridSpec, grightSpec, lworks9Spec, raltSpec, samesSpec, sizeSpec2, j', wj, hsl, hxy, rowsOf_C, rowsV, gX, e]
           exact ⟨by omega, ⟨X, xn.symm, rfl, oX⟩, ⟨[], rfl, rfl, ⟨[], rfl, rfl⟩, by simp, by simp⟩, Next.mk (j + 1) (by omega) (by omega) (Weak.ren [some 0, some 1] (baseOK.nil hh) (by simp) (by simp) (by simp))⟩
       · obtain rfl : j = 3 := by omega
         simp -implicitDefEqProofs [alS2, wi]
         exact Next.mk (i + 1) (by omega) (by omega) (Weak.heap rfl (by simp))
     · obtain rfl : i = 2 := by omega
       simp -implicitDefEqProofs [alS1]
       exact Leaves.mk (Weak.heap rfl (by simp))
   · simp -implicitDefEqProofs [alS1, and_assoc, altSpec2, dgridSpec, grightSpec, lworks9Spec, raltSpec, samesSpec, sizeSpec2]
end Fen
