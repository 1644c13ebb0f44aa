/- A part of the proof; no statement is proved here: FGridT, FReflLf. -/
import Derived.Test.YtjolofoocpeinaaDoorGridA
import Derived.Test.YtjolofoocpeinaaDoorReflF

set_option linter.unusedVariables false
set_option linter.unusedSimpArgs false

namespace Fen
open Go Go.Proofs
theorem typed_dr {d : Nat} {p : List C} (h : Typed T d 91 p) : ∃ x : Dr, p = drC x ∧ x.ok := by
 obtain ⟨c, B, w, rfl, h0, h1, hB⟩ := typed_draft h
 exact ⟨⟨c, B, w⟩, rfl, h0, h1, hB⟩
theorem arg_gdraft {A : V} (h : TypedV T 62 A) : ∃ (c : Int) (L : List Dr), A = .agg [.int .u8 c, .sl L.length (L.flatMap drC)] ∧ 0 ≤ c ∧ c < 256 ∧ ∀ d ∈ L, d.ok := by
 obtain ⟨d, ks, rfl, hk0⟩ := arg_agg T_62 rfl h
 obtain ⟨d', parts, rfl, hk⟩ := typed_struct T_62 hk0
 match parts, hk with
 | [p0, p1], ⟨h0, h1, _⟩ =>
   obtain ⟨c, rfl, q0, q1⟩ := typed_u8 h0
   obtain ⟨L, rfl, hl, ql⟩ := typed_slice_of (en := drC) T_22 (fun d p h => typed_dr h) h1
   exact ⟨c, L, rfl, q0, q1, ql⟩
end Fen

namespace Fen
open Go Go.Proofs
theorem u8_tmod {a : Int} (h0 : 0 ≤ a) (m : Int) : a.tmod m = a % m := Int.tmod_eq_emod_of_nonneg h0
theorem headGV {w n : Nat} {g : List Rw} (h : GV w n g) : ∃ r0 : Rw, (∀ d, (rowsC g).head?.getD d = .sl w (celsC r0.cells)) ∧ 0 < g.length := by
 have h1 := h.ne
 match g, h1, h with
 | r :: g, _, h => exact ⟨r, fun d => by rw [← (h.rows r (List.mem_cons_self ..)).2]; rfl, by simp⟩
theorem altF_ok {w n K N : Nat} {g : List Rw} (v : GV w n g) (hK : 2 ≤ K ∧ K ≤ 80) (hN : 1 ≤ N ∧ N ≤ 40) : altF g K N = (altG g K N, 0) := by
 have z : sizeOK K N = true := by simp [sizeOK]; omega
 unfold altF; rw [if_neg (by simp [v.valid]), if_neg (by simp [z])]; simp
def lawFillsSpec : Spec := { pre := fun args => ∃ (c : Int) (L : List Dr) (a b : Int), args = [.agg [.int .u8 c, .sl L.length (L.flatMap drC)], .agg [.int .u8 a, .int .u8 b]] ∧ 0 ≤ c ∧ c < 256 ∧ (∀ d ∈ L, d.ok) ∧ 0 ≤ a ∧ a < 256 ∧ 0 ≤ b ∧ b < 256, res := fun _ => .one (.val (.c (.bool true))) }
def fiS (G Y : List Rw) (K N n i : Nat) : St :=
 ⟨169, [(5, .val (.sl n (rowsC G))), (6, .val (.int .i64 K)), (7, .val (.int .i64 N)), (10, .val (.sl n (rowsC Y))), (12, .val (.int .i64 i))], []⟩
def fiS2 (G Y : List Rw) (K N n i k : Nat) : St :=
 ⟨169, [(5, .val (.sl n (rowsC G))), (6, .val (.int .i64 K)), (7, .val (.int .i64 N)), (10, .val (.sl n (rowsC Y))), (12, .val (.int .i64 i)), (13, .val (.int .i64 k))], []⟩
theorem row_at {w n : Nat} {g : List Rw} (v : GV w n g) {i : Nat} (h : i < n) : ∃ r : Rw, r.cells.length = w ∧ g.getD i ⟨[], false⟩ = r ∧ List.drop (i * 2) (rowsC g) = C.sl w (celsC r.cells) :: C.bool r.wrapped :: rowsC (g.drop (i + 1)) := by
 have h1 := v.len
 have hl : i < g.length := by omega
 have h2 := (v.rows _ (List.getElem_mem hl)).2
 refine ⟨g[i], h2, by simp [List.getD_eq_getElem?_getD, hl], ?_⟩
 rw [rowsC_at hl, ← h2]; rfl
def G_lawFills : Specs := [(18, lworks9Spec), (24, dgridSpec), (25, altSpec2), (33, gridckSpec), (28, samesSpec)]
@[simp] theorem G_lawFills_live : Specs.live G_lawFills = false := rfl
@[simp] theorem G_lawFills_nils : Specs.nils G_lawFills = false := rfl
@[simp] theorem G_lawFills_18 : G_lawFills.find 18 = some lworks9Spec := rfl
@[simp] theorem G_lawFills_24 : G_lawFills.find 24 = some dgridSpec := rfl
@[simp] theorem G_lawFills_25 : G_lawFills.find 25 = some altSpec2 := rfl
@[simp] theorem G_lawFills_33 : G_lawFills.find 33 = some gridckSpec := rfl
@[simp] theorem G_lawFills_28 : G_lawFills.find 28 = some samesSpec := rfl
theorem G_lawFills_ok : SpecsOK Tryd.prog glW G_lawFills := .cons works9_sound (.cons (dgrid_sound glW) (.cons alt_sound (.cons gridck_sound (.cons (sames_sound glW) (.nil _ _)))))
set_option maxHeartbeats 8000000 in
set_option maxRecDepth 10000 in
theorem lawFills_sound : Sound Tryd.prog glW 8 lawFillsSpec := by
 refine sound_fn (N := Tryd.f8.ntmps) (rs := Tryd.f8.results.toList) mixed tok G_lawFills_ok Tryd.func8 rfl rfl rfl rfl rfl ?_ ?_ ?_
 · rintro args ⟨c,L,a,b,rfl,h0,h1,hL,a0,a1,b0,b1⟩; simp [Tryd.f8]
 · rintro args ⟨c,L,a,b,rfl,h0,h1,hL,a0,a1,b0,b1⟩; simp [lawFillsSpec, Tryd.f8]
 · rintro args ⟨c,L,a,b,rfl,h0,h1,hL,a0,a1,b0,b1⟩ bs hgl hh hro
   have hE : Env.OK ⟨Tryd.prog, T, G_lawFills, bs⟩ := ⟨tok, by rw [hgl]; exact G_lawFills_ok⟩
   have eL : ∃ x : List Dr, L.length = x.length ∧ L.flatMap drC = x.flatMap drC ∧ ∀ d ∈ x, d.ok := ⟨L, rfl, rfl, hL⟩
   have hV := GV.grid c L
   obtain ⟨w, hw⟩ : ∃ w, 2 + c.toNat % 79 = w := ⟨_, rfl⟩
   obtain ⟨n, hn⟩ : ∃ n, manyG L = n := ⟨_, rfl⟩
   rw [hw, hn] at hV
   obtain ⟨G, hD⟩ : ∃ D, gridD c L = D := ⟨_, rfl⟩
   rw [hD] at hV
   obtain ⟨K, hK⟩ : ∃ K, 2 + a.toNat % 79 = K := ⟨_, rfl⟩
   obtain ⟨N, hN⟩ : ∃ N, 1 + b.toNat % 40 = N := ⟨_, rfl⟩
   have wa1 : IntKind.i64.wrap a = a := wrap64 _ (by omega) (by omega)
   have wa2 : IntKind.i64.wrap (a % 79) = a % 79 := wrap64 _ (by omega) (by omega)
   have wa3 : IntKind.i64.wrap (2 + a % 79) = (K : Int) := by rw [wrap64 _ (by omega) (by omega)]; omega
   have wb1 : IntKind.i64.wrap b = b := wrap64 _ (by omega) (by omega)
   have wb2 : IntKind.i64.wrap (b % 40) = b % 40 := wrap64 _ (by omega) (by omega)
   have wb3 : IntKind.i64.wrap (1 + b % 40) = (N : Int) := by rw [wrap64 _ (by omega) (by omega)]; omega
   have ea := u8_tmod a0 79
   have eb := u8_tmod b0 40
   have hK2 : 2 ≤ K ∧ K ≤ 80 := by omega
   have hN2 : 1 ≤ N ∧ N ≤ 40 := by omega
   have hw2 := hV.w2
   have hn2 : 1 ≤ n ∧ n ≤ 40 := ⟨hV.n1, hV.n40⟩
   have vX := hV.alt hK2 hN2
   have vY := vX.alt hw2 hn2
   have e1 := altF_ok hV hK2 hN2
   have e2 := altF_ok vX hw2 hn2
   have e3 := altF_ok hV hw2 hn2
   rw [alt_self hV] at e3
   have hf := fun i k hi hk => fills hV (cols := K) (rows := N) (i := i) (k := k) hi hk
   generalize altG G K N = X at *
   generalize altG X w n = Y at *
   obtain ⟨r0, hg0, hgl⟩ := headGV hV
   obtain ⟨r1, hg1, hgl1⟩ := headGV vX
   have gn := hV.len
   have xn := vX.len
   have yn := vY.len
   have gv := vX.valid
   have gv2 := vY.valid
   have xG : ∃ x : List Rw, n = x.length ∧ G = x ∧ RowsOK x := ⟨G, gn.symm, rfl, hV.rok⟩
   have xX : ∃ x : List Rw, N = x.length ∧ X = x ∧ RowsOK x := ⟨X, xn.symm, rfl, vX.rok⟩
   have xY : ∃ x : List Rw, n = x.length ∧ Y = x ∧ RowsOK x := ⟨Y, yn.symm, rfl, vY.rok⟩
   have fG : ∃ x : List Rw, n = x.length ∧ G = x ∧ RowsFin x := ⟨G, gn.symm, rfl, hV.fin⟩
   simp -implicitDefEqProofs [-Bool.exists_bool, and_assoc, lawFillsSpec, altSpec2, dgridSpec, gridckSpec, lworks9Spec, samesSpec, Tryd.f8, h0, h1, eL, drsOf_C, hD, rowsV, ea, eb, wa1, wa2, wa3, wb1, wb2, wb3, e1, e2, e3, gn, xn, yn, hg0, hg1, xG, xX, xY, rowsOf_C, gv, gv2]
   refine ⟨by rfl, hn2.1, hN2.1, ?_⟩
   have wK : IntKind.i64.wrap ((K : Int) - 1) = ((K - 1 : Nat) : Int) := by rw [wrap64 _ (by omega) (by omega)]; omega
   refine AWP.leaves 0 (fiS G Y K N n n) (AWP.rounds (fun i => i ≤ n) (fiS G Y K N n) (fun i => n - i) 0 (by simp) ?_ ?_) ?_
   · exact Weak.ren [] (baseOK.nil hh) (by simp) (by simp) (by simp [fiS])
   · intro i hi
     refine wpc_ok hE mixed _ _ _ ?_
     rcases Nat.lt_or_ge i n with h | h
     · have i' : ((i : Int) < n) = True := eq_true (by omega)
       have wi : IntKind.i64.wrap ((i : Int) + 1) = ((i + 1 : Nat) : Int) := by rw [wrap64 _ (by omega) (by omega)]; omega
       obtain ⟨r, hrl, hr, hdG⟩ := row_at hV h
       obtain ⟨y, hyl, hy, hdY⟩ := row_at vY h
       simp -implicitDefEqProofs [fiS, i']
       refine AWP.leaves 2 (fiS2 G Y K N n i w) (AWP.rounds (fun k => k ≤ w) (fiS2 G Y K N n i) (fun k => w - k) 0 (by simp) (Weak.keep (by simp [fiS2])) ?_) ?_
       · intro k hk
         refine wpc_ok hE mixed _ _ _ ?_
         rcases Nat.lt_or_ge k w with g | g
         · have k' : ((k : Int) < w) = True := eq_true (by omega)
           have wk : IntKind.i64.wrap ((k : Int) + 1) = ((k + 1 : Nat) : Int) := by rw [wrap64 _ (by omega) (by omega)]; omega
           have hk1 : k < r.cells.length := by omega
           have hk2 : k < y.cells.length := by omega
           have hcG := celsC_at hk1
           have hcY := celsC_at hk2
           have hz := hf i k h g
           unfold wantF cellAt at hz
           rw [hr, hy, cat_eq hk1, cat_eq hk2] at hz
           have hwd : ∀ d, (celsC r.cells)[k * 12 + 3]?.getD d = .int .i64 r.cells[k].wide := fun d => by
             rw [← List.getElem?_drop, hcG]; rfl
           generalize r.cells[k] = x at *
           generalize y.cells[k] = z at *
           have fin : ∀ st, Weak bs st (fiS2 G Y K N n i (k + 1)) → Next bs (fun k => k ≤ w) (fiS2 G Y K N n i) (fun k => w - k) k st := fun st hw => Next.mk (k + 1) g (by omega) hw
           have bl : (⟨32, 0, 0, 0, sty0⟩ : Cel) = blankF sty0 := rfl
           by_cases c1 : i < N
           · by_cases c2 : k < K
             · by_cases c3 : k + 1 = K
               · by_cases c4 : x.wide = 1
                 · rw [if_neg (fun q => q.2.2 ⟨c3, c4⟩)] at hz
                   have c1' : ((i : Int) < N) = True := eq_true (by omega)
                   have c2' : ((k : Int) < K) = True := eq_true (by omega)
                   have c3' : ((k : Int) = ((K - 1 : Nat) : Int)) = True := eq_true (by omega)
                   have c4' : (x.wide = 1) = True := eq_true c4
                   simp -implicitDefEqProofs [fiS2, i', k', wk, wK, hdG, hdY, hcG, hcY, hwd, bl, c1', c2', c3', c4', hz]
                   exact ⟨by rfl, fin _ (Weak.ren [] (baseOK.nil hh) (by simp) (by simp) (by simp [fiS2]))⟩
                 · rw [if_pos ⟨c1, c2, fun q => c4 q.2⟩] at hz
                   have c1' : ((i : Int) < N) = True := eq_true (by omega)
                   have c2' : ((k : Int) < K) = True := eq_true (by omega)
                   have c3' : ((k : Int) = ((K - 1 : Nat) : Int)) = True := eq_true (by omega)
                   have c4' : (x.wide = 1) = False := eq_false c4
                   simp -implicitDefEqProofs [fiS2, i', k', wk, wK, hdG, hdY, hcG, hcY, hwd, bl, c1', c2', c3', c4', hz]
                   exact ⟨by rfl, fin _ (Weak.ren [] (baseOK.nil hh) (by simp) (by simp) (by simp [fiS2]))⟩
               · rw [if_pos ⟨c1, c2, fun q => c3 q.1⟩] at hz
                 have c1' : ((i : Int) < N) = True := eq_true (by omega)
                 have c2' : ((k : Int) < K) = True := eq_true (by omega)
                 have c3' : ((k : Int) = ((K - 1 : Nat) : Int)) = False := eq_false (by omega)
                 simp -implicitDefEqProofs [fiS2, i', k', wk, wK, hdG, hdY, hcG, hcY, hwd, bl, c1', c2', c3', hz]
                 exact ⟨by rfl, fin _ (Weak.ren [] (baseOK.nil hh) (by simp) (by simp) (by simp [fiS2]))⟩
             · rw [if_neg (fun q => c2 q.2.1)] at hz
               have c1' : ((i : Int) < N) = True := eq_true (by omega)
               have c2' : ((k : Int) < K) = False := eq_false (by omega)
               simp -implicitDefEqProofs [fiS2, i', k', wk, wK, hdG, hdY, hcG, hcY, hwd, bl, c1', c2', hz]
               exact ⟨by rfl, fin _ (Weak.ren [] (baseOK.nil hh) (by simp) (by simp) (by simp [fiS2]))⟩
           · rw [if_neg (fun q => c1 q.1)] at hz
             have c1' : ((i : Int) < N) = False := eq_false (by omega)
             simp -implicitDefEqProofs [fiS2, i', k', wk, wK, hdG, hdY, hcG, hcY, hwd, bl, c1', hz]
             exact ⟨by rfl, fin _ (Weak.ren [] (baseOK.nil hh) (by simp) (by simp) (by simp [fiS2]))⟩
         · have k' : ((k : Int) < w) = False := eq_false (by omega)
           obtain rfl : k = w := by omega
           simp -implicitDefEqProofs [fiS2, i', hdG]
           exact Leaves.mk (Weak.keep (by simp))
       · simp -implicitDefEqProofs [fiS2, wi]
         exact Next.mk (i + 1) h (by omega) (Weak.keep (by simp [fiS]))
     · have i' : ((i : Int) < n) = False := eq_false (by omega)
       obtain rfl : i = n := by omega
       simp -implicitDefEqProofs [fiS]
       exact Leaves.mk (Weak.keep (by simp))
   · simp -implicitDefEqProofs [fiS, hg0, and_assoc, altSpec2, dgridSpec, gridckSpec, lworks9Spec, samesSpec, e3, rowsOf_C, rowsV, xG, fG]
     exact ⟨hn2.1, hgl, G, rfl, rfl, gn.symm, hV.fin⟩
end Fen
