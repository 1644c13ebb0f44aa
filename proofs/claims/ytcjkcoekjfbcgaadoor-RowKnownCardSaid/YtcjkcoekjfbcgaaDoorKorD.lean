/- A part of the proof; no statement is proved here: Kora31, Kora32, Kora33, Kora34, Kora35, Kora36, Kora37, Kora38, Kora39, Kora40, Kora41, Kora42. -/
import Derived.Test.YtcjkcoekjfbcgaaDoorKorC
import Derived.OpenShut
import Derived.Below
import Derived.Deep.Slices
import Derived.ChangeOld

set_option linter.unusedVariables false
set_option linter.unusedSimpArgs false

/- Part 31: bits, as arithmetic. -/
namespace Fen
open Go Go.RowKit

theorem ofInt_toNat (n : Nat) (a : Int) (h0 : 0 ≤ a) (h1 : a < 2 ^ n) : (BitVec.ofInt n a).toNat = a.toNat := by
  rw [BitVec.toNat_ofInt]
  congr 1
  exact Int.emod_eq_of_lt h0 (by exact_mod_cast h1)

theorem and_i64 {a b : Int} (h0 : 0 ≤ a) (h1 : a < 9223372036854775808) (h2 : 0 ≤ b) (h3 : b < 9223372036854775808) : bits2 (fun _ x y => x &&& y) .i64 a b = ((a.toNat &&& b.toNat : Nat) : Int) := by
  unfold bits2
  rw [BitVec.toNat_and, ofInt_toNat _ _ h0 (by simp [IntKind.bits]; omega), ofInt_toNat _ _ h2 (by simp [IntKind.bits]; omega)]
  have : a.toNat &&& b.toNat ≤ a.toNat := Nat.and_le_left
  exact wrap64 _ (by omega) (by omega)

theorem or_i64 {a b : Int} (h0 : 0 ≤ a) (h1 : a < 4611686018427387904) (h2 : 0 ≤ b) (h3 : b < 4611686018427387904) : bits2 (fun _ x y => x ||| y) .i64 a b = ((a.toNat ||| b.toNat : Nat) : Int) := by
  unfold bits2
  rw [BitVec.toNat_or, ofInt_toNat _ _ h0 (by simp [IntKind.bits]; omega), ofInt_toNat _ _ h2 (by simp [IntKind.bits]; omega)]
  have : a.toNat ||| b.toNat < 2 ^ 62 := Nat.or_lt_two_pow (by omega) (by omega)
  exact wrap64 _ (by omega) (by omega)

@[simp] theorem wrap8 (n : Int) (h1 : 0 ≤ n) (h2 : n < 256) : IntKind.u8.wrap n = n := by
  have : IntKind.u8.wrap n = n % 256 := by simp [IntKind.wrap, IntKind.bits, IntKind.signed]
  rw [this]; omega

theorem and_u8 {a b : Int} (h0 : 0 ≤ a) (h1 : a < 256) (h2 : 0 ≤ b) (h3 : b < 256) : bits2 (fun _ x y => x &&& y) .u8 a b = ((a.toNat &&& b.toNat : Nat) : Int) := by
  unfold bits2
  rw [BitVec.toNat_and, ofInt_toNat _ _ h0 (by simp [IntKind.bits]; omega), ofInt_toNat _ _ h2 (by simp [IntKind.bits]; omega)]
  have : a.toNat &&& b.toNat ≤ a.toNat := Nat.and_le_left
  exact wrap8 _ (by omega) (by omega)

theorem or_u8 {a b : Int} (h0 : 0 ≤ a) (h1 : a < 256) (h2 : 0 ≤ b) (h3 : b < 256) : bits2 (fun _ x y => x ||| y) .u8 a b = ((a.toNat ||| b.toNat : Nat) : Int) := by
  unfold bits2
  rw [BitVec.toNat_or, ofInt_toNat _ _ h0 (by simp [IntKind.bits]; omega), ofInt_toNat _ _ h2 (by simp [IntKind.bits]; omega)]
  have : a.toNat ||| b.toNat < 2 ^ 8 := Nat.or_lt_two_pow (by omega) (by omega)
  exact wrap8 _ (by omega) (by omega)

/-- a mask of k ones -/
theorem and_mask64 {a m : Int} (k : Nat) (hm : m = 2 ^ k - 1) (hk : k < 63) (h0 : 0 ≤ a) (h1 : a < 9223372036854775808) : bits2 (fun _ x y => x &&& y) .i64 a m = a % 2 ^ k := by
  have hp : (2 : Int) ^ k ≤ 2 ^ 62 := by exact_mod_cast Nat.pow_le_pow_right (by omega) (by omega : k ≤ 62)
  have hp1 : (1 : Int) ≤ 2 ^ k := by exact_mod_cast Nat.one_le_two_pow
  rw [and_i64 h0 h1 (by omega) (by omega)]
  have : m.toNat = 2 ^ k - 1 := by rw [hm]; have : ((2 : Int) ^ k) = ((2 ^ k : Nat) : Int) := by push_cast; rfl
                                   rw [this]; omega
  rw [this, Nat.and_two_pow_sub_one_eq_mod]
  have : ((2 : Int) ^ k) = ((2 ^ k : Nat) : Int) := by push_cast; rfl
  rw [this]
  have ha : ((a.toNat : Nat) : Int) = a := Int.toNat_of_nonneg h0
  rw [Int.natCast_emod, ha]

theorem and_mask8 {a m : Int} (k : Nat) (hm : m = 2 ^ k - 1) (hk : k ≤ 8) (h0 : 0 ≤ a) (h1 : a < 256) : bits2 (fun _ x y => x &&& y) .u8 a m = a % 2 ^ k := by
  have hp : (2 : Int) ^ k ≤ 2 ^ 8 := by exact_mod_cast Nat.pow_le_pow_right (by omega) (by omega : k ≤ 8)
  have hp1 : (1 : Int) ≤ 2 ^ k := by exact_mod_cast Nat.one_le_two_pow
  rw [and_u8 h0 h1 (by omega) (by omega)]
  have : m.toNat = 2 ^ k - 1 := by rw [hm]; have : ((2 : Int) ^ k) = ((2 ^ k : Nat) : Int) := by push_cast; rfl
                                   rw [this]; omega
  rw [this, Nat.and_two_pow_sub_one_eq_mod]
  have : ((2 : Int) ^ k) = ((2 ^ k : Nat) : Int) := by push_cast; rfl
  rw [this]
  have ha : ((a.toNat : Nat) : Int) = a := Int.toNat_of_nonneg h0
  rw [Int.natCast_emod, ha]

/-- low bits laid beside high ones -/
theorem or_add (x y k : Nat) (h : y < 2 ^ k) : x * 2 ^ k ||| y = x * 2 ^ k + y := by
  rw [Nat.mul_comm]
  exact (Nat.two_pow_add_eq_or_of_lt h x).symm

theorem or_add64 {a b : Int} (k : Nat) (h0 : 0 ≤ a) (h1 : a * 2 ^ k < 4611686018427387904) (h2 : 0 ≤ b) (h3 : b < 2 ^ k) (h4 : b < 4611686018427387904) : bits2 (fun _ x y => x ||| y) .i64 (a * 2 ^ k) b = a * 2 ^ k + b := by
  have hp1 : (0 : Int) ≤ 2 ^ k := by have : (1 : Int) ≤ 2 ^ k := by exact_mod_cast Nat.one_le_two_pow
                                     omega
  rw [or_i64 (Int.mul_nonneg h0 hp1) h1 h2 h4]
  obtain ⟨x, rfl⟩ := Int.eq_ofNat_of_zero_le h0
  obtain ⟨y, rfl⟩ := Int.eq_ofNat_of_zero_le h2
  have e : ((x : Int) * 2 ^ k).toNat = x * 2 ^ k := by
    have : ((x : Int) * 2 ^ k) = ((x * 2 ^ k : Nat) : Int) := by push_cast; rfl
    rw [this]; rfl
  rw [e, Int.toNat_natCast, or_add _ _ _ (by exact_mod_cast h3)]
  push_cast; rfl

theorem or_add8 {a b : Int} (k : Nat) (h0 : 0 ≤ a) (h1 : a * 2 ^ k < 256) (h2 : 0 ≤ b) (h3 : b < 2 ^ k) (h4 : b < 256) : bits2 (fun _ x y => x ||| y) .u8 (a * 2 ^ k) b = a * 2 ^ k + b := by
  have hp1 : (0 : Int) ≤ 2 ^ k := by have : (1 : Int) ≤ 2 ^ k := by exact_mod_cast Nat.one_le_two_pow
                                     omega
  rw [or_u8 (Int.mul_nonneg h0 hp1) h1 h2 h4]
  obtain ⟨x, rfl⟩ := Int.eq_ofNat_of_zero_le h0
  obtain ⟨y, rfl⟩ := Int.eq_ofNat_of_zero_le h2
  have e : ((x : Int) * 2 ^ k).toNat = x * 2 ^ k := by
    have : ((x : Int) * 2 ^ k) = ((x * 2 ^ k : Nat) : Int) := by push_cast; rfl
    rw [this]; rfl
  rw [e, Int.toNat_natCast, or_add _ _ _ (by exact_mod_cast h3)]
  push_cast; rfl

end Fen

/- Part 32: a contract on the private heap, from a function's body. -/
namespace Fen
open Go Go.RowKit

def argsX : Nat → List X → List (Nat × X)
  | _, [] => []
  | k, x :: xs => (k, x) :: argsX (k + 1) xs
attribute [simp] argsX

theorem argsX_ok {g : Gh} {h : List Blk} : ∀ (xs : List X) (vs : List Value) (k : Nat) (f : Nat → Value), (∀ j u, vs[j]? = some u → f (k + j) = u) → RelXs g h xs vs → ∀ t, RelX g h (lk (argsX k xs) t) (f t)
  | [], vs, k, f, hf, r, t => by simp [argsX, lk, RelX]
  | x :: xs, vs, k, f, hf, r, t => by
    simp only [RelXs] at r
    obtain ⟨u, us, rfl, h1, h2⟩ := r
    simp only [argsX, lk]
    split
    · rename_i e
      subst e
      have := hf 0 u (by simp)
      rw [Nat.add_zero] at this
      rw [this]; exact h1
    · exact argsX_ok xs us (k + 1) f (fun j v hj => by have := hf (j + 1) v (by simpa using hj); rw [← this]; congr 1; omega) h2 t

/-- what a call hands back -/
def packX : List X → X
  | [x] => x
  | xs => .tup xs
@[simp] theorem packX_one (x : X) : packX [x] = x := rfl
@[simp] theorem packX_nil : packX [] = .tup [] := rfl
@[simp] theorem packX_two (x y : X) (l : List X) : packX (x :: y :: l) = .tup (x :: y :: l) := rfl

/-- the base of a call on the heap that it is handed -/
def baseH (g : Gh) (h : List Blk) (w : World) (gl : Gl) : Base :=
  { w0 := w, own := fun k => ∃ i, i < h.length ∧ g.ex i = true ∧ (g.ad i).1 = k, g0 := g, h0 := h, gl := gl, ro := none }

theorem HeapOK.inner {bs : Base} {g : Gh} {h : List Blk} {w : World} (H : HeapOK bs g h w) : HeapOK (baseH g h w bs.gl) g h w :=
  ⟨H.stable, H.blk, H.inj, fun i hi he => .inr ⟨i, hi, he, rfl⟩, rfl, rfl, rfl, Nat.le_refl _, fun _ _ _ => rfl, fun _ _ _ _ => rfl, H.gl, H.marks⟩

theorem HeapOK.outer {bs : Base} {g g' : Gh} {h h' : List Blk} {w w' : World} (H : HeapOK bs g h w) (K : HeapOK (baseH g h w bs.gl) g' h' w') : HeapOK bs g' h' w' := by
  have hne : ∀ k, k < bs.w0.heap.size → ¬ bs.own k → ¬ (baseH g h w bs.gl).own k := fun k hk ho ⟨i, hi, he, e⟩ => by
    rcases H.loc i hi he with q | q
    · omega
    · exact ho (e ▸ q)
  refine ⟨K.stable, K.blk, K.inj, fun i hi he => ?_, K.os.trans H.os, K.tape.trans H.tape, K.output.trans H.output, Nat.le_trans H.size K.size, fun k hk ho => ?_, fun b o hb ho => ?_, K.gl, K.marks⟩
  · rcases K.loc i hi he with q | ⟨j, hj, hje, e⟩
    · exact .inl (Nat.le_trans H.size q)
    · rw [← e]; exact H.loc j hj hje
  · exact (K.frame k (Nat.lt_of_lt_of_le hk H.size) (hne k hk ho)).trans (H.frame k hk ho)
  · exact (K.stab b o (Nat.lt_of_lt_of_le hb H.size) (hne b hb ho)).trans (H.stab b o hb ho)

/-- how a body may end that works on the heap that it is handed -/
def retH (T : TT) (rs : List ResultVar) (bs : Base) (R : X → List Blk → Prop) (st : St) : Prop :=
  match ressX T st rs with
  | some (p, ys) => p ∧ ∃ x h', R x h' ∧ Weak bs ⟨1, [(0, packX ys)], st.h⟩ ⟨1, [(0, x)], h'⟩
  | none => False

def endsH (T : TT) (rs : List ResultVar) (bs : Base) (R : X → List Blk → Prop) : Exit → St → Prop
  | .normal, st | .ret, st => retH T rs bs R st
  | _, _ => False

def rhK (bs : Base) (R : X → List Blk → Prop) (h : List Blk) : Option (Prop × List X) → Prop
  | some (p, ys) => p ∧ ∃ x h', R x h' ∧ Weak bs ⟨1, [(0, packX ys)], h⟩ ⟨1, [(0, x)], h'⟩
  | none => False
@[simp] theorem retH_eq (T : TT) (rs : List ResultVar) (bs : Base) (R : X → List Blk → Prop) (st : St) : retH T rs bs R st = rhK bs R st.h (ressX T st rs) := rfl
/-- the end of such a body: what it hands back, and the heap: the state says it, as it stands or weaker -/
def RetTo (bs : Base) (R : X → List Blk → Prop) (h : List Blk) (x : X) : Prop := ∃ y h', R y h' ∧ Weak bs ⟨1, [(0, x)], h⟩ ⟨1, [(0, y)], h'⟩
@[simp] theorem rhK_some (bs : Base) (R : X → List Blk → Prop) (h : List Blk) (p : Prop) (ys : List X) : rhK bs R h (some (p, ys)) = (p ∧ RetTo bs R h (packX ys)) := rfl
@[simp] theorem endsH_normal (T : TT) (rs : List ResultVar) (bs : Base) (R : X → List Blk → Prop) (st : St) : endsH T rs bs R .normal st = retH T rs bs R st := rfl
@[simp] theorem endsH_ret (T : TT) (rs : List ResultVar) (bs : Base) (R : X → List Blk → Prop) (st : St) : endsH T rs bs R .ret st = retH T rs bs R st := rfl
@[congr] theorem RetTo_congr {bs : Base} {R : X → List Blk → Prop} {h h' : List Blk} {x x' : X} (e : h = h') (e2 : x = x') : RetTo bs R h x = RetTo bs R h' x' := by rw [e, e2]

theorem RetTo.same {bs : Base} {R : X → List Blk → Prop} {h : List Blk} {x : X} (hr : R x h) : RetTo bs R h x := ⟨x, h, hr, Weak.refl _ _⟩
theorem RetTo.ren {bs : Base} {R : X → List Blk → Prop} {h : List Blk} {x : X} (ids : List (Option Nat)) (y : X) (h' : List Blk) (hr : R y h') (h0 : baseOK bs h h' ids) (nd : (ids.filterMap id).Nodup) (hb : renBs h h' ids h' ids) (hx : renX h h' ids y x) : RetTo bs R h x :=
  ⟨y, h', hr, Weak.ren ids h0 nd hb ⟨by simpa [lk] using hx, trivial⟩⟩

def packV : List Value → Value
  | [u] => u
  | us => .tuple us.toArray

theorem packX_ok {g : Gh} {h : List Blk} : ∀ {ys : List X} {us : List Value}, RelXs g h ys us → RelX g h (packX ys) (packV us)
  | [], us, r => by simp only [RelXs] at r; subst r; simp only [packX, RelX]; exact ⟨[], rfl, by simp [RelXs]⟩
  | [y], us, r => by
    simp only [RelXs] at r
    obtain ⟨u, us, rfl, h1, rfl⟩ := r
    exact h1
  | y :: z :: l, us, r => by
    have hr := r
    simp only [RelXs] at r
    obtain ⟨u, us, rfl, h1, u2, us2, rfl, h2, h3⟩ := r
    simp only [packX, RelX]
    exact ⟨_, rfl, hr⟩

section
variable {P : Program} {T : TT}

/-- A CONTRACT ON THE HEAP, from the body. -/
theorem onHeap_of {gl : Gl} (hT : TOK P T) {f : FuncId} {fn : Func} {c : Code} (hf : P.funcs[f]? = some fn) (hb : fn.body = some c) {N : Nat} (hN : fn.ntmps = N) {rs : List ResultVar} (hrs : fn.results = rs.toArray) {xs : List X} {h : List Blk} {R : X → List Blk → Prop}
    (hlen : xs.length ≤ N) (hw : ∀ bs : Base, bs.gl = gl → bs.h0 = h → bs.ro = none → AWP P bs c (endsH T rs bs R) ⟨N, argsX 0 xs, h⟩) : OnHeap P gl f xs h R := by
  intro bs0 g w vs hgl H r
  subst hgl
  have hlen2 : vs.length = xs.length := r.length
  have hsz : vs.toArray.size + (N - vs.toArray.size) = N := by simp [hlen2]; omega
  refine calls_fen.1 (callsIn_of_wp_marks (F := fen none) hf hb trivial ?_ rfl)
  rw [hN]
  have R0 : Rel (baseH g h w bs0.gl) ⟨N, argsX 0 xs, h⟩ { tmps := vs.toArray ++ Array.replicate (N - vs.toArray.size) undef, defers := [] } w := by
    refine ⟨g, Ext.refl _ _, H.inner, ⟨[], rfl, List.nodup_nil, fun m hm => by simp at hm⟩, by simpa using hsz, fun t => ?_⟩
    refine argsX_ok xs vs 0 (fun t => (vs.toArray ++ Array.replicate (N - vs.toArray.size) undef).getD t undef) (fun j u hj => ?_) r t
    have hjl := (List.getElem?_eq_some_iff.1 hj).1
    rw [Nat.zero_add, Array.getD_eq_getD_getElem?, Array.getElem?_append_left (by simpa using hjl)]
    simp [hj]
  refine wpIn_mono (hw (baseH g h w bs0.gl) rfl rfl rfl _ w R0) fun e a' w' ⟨st', q, R'⟩ => ?_
  have fin : retH T rs (baseH g h w bs0.gl) R st' → LeavesInM (fen none) 0 P fn a'.tmps (fun en w' => ∃ v x h' g', en = .returned v ∧ R x h' ∧ Ext g h g' h' ∧ HeapOK bs0 g' h' w' ∧ RelX g' h' x v) a'.defers .returning w' := fun hret => by
    obtain ⟨g1, R'⟩ := R'
    unfold retH at hret
    split at hret
    · rename_i p ys hx
      obtain ⟨hp, x, h', hR, hwk⟩ := hret
      obtain ⟨ms, hms, hnd, hmm⟩ := R'.defers
      rw [hms]
      refine leaves_marks (bs := baseH g h w bs0.gl) (fun m hm => (Array.getElem?_eq_some_iff.1 (H.marks m hm)).1) ms g1 w' hnd hmm R'.heap (fun m hm => R'.ext.marks m hm) fun ks w2 H2 hks => ?_
      have hslot : ∀ t, RelX { g1 with marks := ks } st'.h (lk st'.r t) (a'.tmps.getD t undef) := fun t => RelX.mono0 (g := g1) (h := st'.h) (g' := { g1 with marks := ks }) ⟨fun _ _ _ h => h, fun id b hb => ⟨b, hb, rfl, Nat.le_refl _, fun _ => ⟨rfl, rfl⟩⟩⟩ _ _ (R'.slot t)
      obtain ⟨us, hrun, hxs⟩ := ressX_ok hT H2 hslot hx hp
      have hmap : (fn.results.mapM (fun | .tmp t => pure (a'.tmps.getD t undef) | .cell a t => do loadVar t (← asAddr (a'.tmps.getD a undef)) : ResultVar → Sem Value)).run P w2 = .ok us.toArray w2 := by
        rw [hrs, Array.mapM_eq_mapM_toList]
        simp only [Sem.run_map]
        exact congrArg (fun r => Result.andThen r (fun a w' => Result.ok a.toArray w')) hrun
      have hres : (results fn a'.tmps).run P w2 = .ok (packV us) w2 := by
        unfold results
        rw [Sem.run_bind]
        refine (congrArg (fun r => Result.andThen r _) (show _ = Result.ok us.toArray w2 from hmap)).trans ?_
        match us with
        | [] => simp [packV]
        | [u] => simp [packV]
        | u :: u2 :: l => simp [packV]
      obtain ⟨g2, K⟩ := hwk { tmps := #[packV us], defers := [] } w2 ⟨{ g1 with marks := ks }, ⟨R'.ext.S, R'.ext.blk, hks⟩, H2, ⟨[], rfl, List.nodup_nil, fun m hm => by simp at hm⟩, rfl, fun t => by
        simp only [lk]
        split
        · rename_i e; subst e; exact packX_ok hxs
        · simp [RelX]⟩
      have hx0 := K.slot 0
      simp only [lk, if_true] at hx0
      exact ⟨_, hres, _, x, h', g2, rfl, hR, K.ext, H.outer K.heap, hx0⟩
    · exact hret.elim
  cases e with
  | normal => exact fin q
  | ret => exact fin q
  | _ => exact q.elim

/-- a function's contract on the heap -/
theorem sound_heap {G : Specs} {gl : Gl} (hm : P.follows .mixedOrders = true) (hT : TOK P T) (hG : SpecsOK P gl G) {f : FuncId} {fn : Func} {c : Code} (hf : P.funcs[f]? = some fn) (hb : fn.body = some c) (hn : (fn.name == "runtime.NumGoroutine") = false) {s : Spec} {hs : HS} (hh : s.hp = some hs) {N : Nat} (hN : fn.ntmps = N) {rs : List ResultVar} (hrs : fn.results = rs.toArray)
    (hlen : ∀ xs h, (hs.eff xs h).1 → xs.length ≤ N)
    (hw : ∀ xs h, (hs.eff xs h).1 → ∀ bs : Base, bs.gl = gl → bs.h0 = h → bs.ro = none → wpc ⟨P, T, G, bs⟩ c (endsH T rs bs fun x h' => x = (hcEff hs xs h).x ∧ h' = (hcEff hs xs h).h) ⟨N, argsX 0 xs, h⟩) : Sound P gl f s := by
  refine ⟨enters_of hf (by simp [hb]) hn, fun hno => (by rw [hh] at hno; cases hno), fun hs' e xs h hp => ?_⟩
  rw [hh] at e; cases e
  exact onHeap_of hT hf hb hN hrs (hlen xs h hp) fun bs h1 h2 h3 => wpc_ok (E := ⟨P, T, G, bs⟩) ⟨hT, by rw [h1]; exact hG⟩ hm c _ _ (hw xs h hp bs h1 h2 h3)

end
end Fen

/- Part 33: the record of a loop over a function, in the private heap; a call of yield. -/
namespace Fen
open Go Go.RowKit

section
variable {bs : Base} {g : Gh} {h : List Blk} {w : World}

theorem stab_none {l : Nat} (H : HeapOK bs g h w) {r : Loop} (hl : w.heap[l]? = some (.loop r)) : ∀ o, g.S l o = none := fun o => by
  rcases hq : g.S l o with _ | v
  · rfl
  · have := H.stable l o v hq
    simp [World.cell?, hl] at this

theorem Ext.recd (g : Gh) {h : List Blk} {id : Nat} {b b' : Blk} (hb : h[id]? = some b) (h1 : b.isBox = b'.isBox) (h2 : b.ver = b'.ver) : Ext g h g (h.set id b') :=
  ⟨fun _ _ _ h => h, fun i k hi => by
    by_cases ci : i = id
    · subst ci
      rw [hb] at hi; cases hi
      exact ⟨b', get_set_eq (lt_of_get hb), h1, Nat.le_of_eq h2, fun _ => ⟨rfl, rfl⟩⟩
    · exact ⟨k, by rw [get_set_ne ci]; exact hi, rfl, Nat.le_refl _, fun _ => ⟨rfl, rfl⟩⟩, fun _ h => h⟩

/-- a loop's record turns, wherever it is known: or no more is said of it -/
theorem HeapOK.putLoop (H : HeapOK bs g h w) {id : Nat} {b b' : Blk} {r r' : Loop} (hb : h[id]? = some b) (hk : b = .hid ∨ b = .obj r) (hex : g.ex id = true) (hl : w.heap[(g.ad id).1]? = some (.loop r)) (hb' : b' = .hid ∨ b' = .obj r') :
    HeapOK bs g (h.set id b') (w.putObj (g.ad id).1 (.loop r')) := by
  have hlt := lt_of_get hb
  have hS := stab_none H hl
  have hll : (g.ad id).1 < w.heap.size := (Array.getElem?_eq_some_iff.1 hl).1
  have E : Ext g h g (h.set id b') := Ext.recd g hb (by rcases hk with rfl | rfl <;> rcases hb' with rfl | rfl <;> rfl) (by rcases hk with rfl | rfl <;> rcases hb' with rfl | rfl <;> rfl)
  refine ⟨fun bb o v hv => ?_, fun i x hi => ?_, fun i j hi hj => H.inj i j (by simpa using hi) (by simpa using hj), fun i hi => H.loc i (by simpa using hi), H.os, H.tape, H.output, by simpa using H.size, fun k hk' ho => ?_, H.stab, H.gl, fun m hm => ?_⟩
  · have hne : bb ≠ (g.ad id).1 := fun e => by subst e; have := (hS o).symm.trans hv; cases this
    rw [cell_block (World.putObj_heap_other hne)]; exact H.stable bb o v hv
  · rcases set_get hi with ⟨rfl, _, rfl⟩ | ⟨hne, hi'⟩
    · rcases hb' with rfl | rfl
      · intro _; simpa using hll
      · exact ⟨hex, hS, World.putObj_heap_same hll⟩
    · exact (H.blk i x hi').mono E rfl rfl rfl fun hei _ => ⟨World.putObj_heap_other fun e => hne (H.inj i id (lt_of_get hi') hlt hei hex e), fun _ => rfl⟩
  · refine (World.putObj_heap_other fun e => ?_).trans (H.frame k hk' ho)
    subst e
    rcases H.loc id hlt hex with q | q
    · omega
    · exact ho q
  · refine (World.putObj_heap_other fun e => ?_).trans (H.marks m hm)
    have := H.marks m hm
    rw [e, hl] at this; cases this

/-- the base of a round's body: the record's block is not its own -/
def baseR (g : Gh) (h : List Blk) (id : Nat) (w : World) (gl : Gl) : Base :=
  { w0 := w, own := fun k => ∃ i, i < h.length ∧ i ≠ id ∧ g.ex i = true ∧ (g.ad i).1 = k, g0 := { g with ex := fun i => if i = id then false else g.ex i }, h0 := h, gl := gl, ro := some (g.ad id).1 }

theorem HeapOK.round (H : HeapOK bs g h w) {id : Nat} (hb : h[id]? = some .hid) : HeapOK (baseR g h id w bs.gl) { g with ex := fun i => if i = id then false else g.ex i } h w := by
  refine ⟨H.stable, fun i x hi => ?_, fun i j hi hj hei hej e => ?_, fun i hi he => ?_, rfl, rfl, rfl, Nat.le_refl _, fun _ _ _ => rfl, fun _ _ _ _ => rfl, H.gl, H.marks⟩
  · by_cases c : i = id
    · subst c
      rw [hb] at hi; cases hi
      intro he; simp at he
    · exact (H.blk i x hi).mono0 (g' := { g with ex := fun i => if i = id then false else g.ex i }) ⟨fun _ _ _ h => h, fun id b hb => ⟨b, hb, rfl, Nat.le_refl _, fun _ => ⟨rfl, rfl⟩⟩⟩ rfl rfl (by simp [c]) fun _ _ => ⟨rfl, fun _ => rfl⟩
  · simp only at hei hej
    split at hei
    · cases hei
    · split at hej
      · cases hej
      · exact H.inj i j hi hj hei hej e
  · simp only at he
    split at he
    · cases he
    · rename_i c; exact .inr ⟨i, hi, c, he, rfl⟩

/-- behind a round's body: the record's block lies as it lay -/
theorem HeapOK.roundEnd (H : HeapOK bs g h w) {id : Nat} (hb : h[id]? = some .hid) (hex : g.ex id = true) {r : Loop} (hl : w.heap[(g.ad id).1]? = some (.loop r)) {g2 : Gh} {h2 : List Blk} {w2 : World}
    (K : HeapOK (baseR g h id w bs.gl) g2 h2 w2) (E : Ext { g with ex := fun i => if i = id then false else g.ex i } h g2 h2) (hb2 : h2[id]? = some .hid) :
    ∃ g3, g3.ex id = true ∧ g3.ad id = g.ad id ∧ w2.heap[(g.ad id).1]? = some (.loop r) ∧ Ext g h g3 h2 ∧ HeapOK bs g3 h2 w2 := by
  have hlt := lt_of_get hb
  have hll : (g.ad id).1 < w.heap.size := (Array.getElem?_eq_some_iff.1 hl).1
  have hno : ¬ (baseR g h id w bs.gl).own (g.ad id).1 := fun ⟨i, hi, hne, he, e⟩ => hne (H.inj i id hi hlt he hex e)
  have hl2 : w2.heap[(g.ad id).1]? = some (.loop r) := (K.frame _ hll hno).trans hl
  obtain ⟨b', e1, _, _, e2⟩ := E.blk id _ hb
  rw [hb2] at e1; cases e1
  have had : g2.ad id = g.ad id := (e2 rfl).1
  let g3 : Gh := { g2 with ex := fun i => if i = id then true else g2.ex i }
  have E3 : Ext0 g2 h2 g3 h2 := ⟨fun _ _ _ h => h, fun id b hb => ⟨b, hb, rfl, Nat.le_refl _, fun _ => ⟨rfl, rfl⟩⟩⟩
  have hother : ∀ i, i < h2.length → i ≠ id → g2.ex i = true → (g2.ad i).1 ≠ (g.ad id).1 := fun i hi _ he e => by
    rcases K.loc i hi he with q | q
    · rw [e] at q
      have : w.heap.size ≤ (g.ad id).1 := q
      omega
    · rw [e] at q; exact hno q
  have K3 : HeapOK (baseH g h w bs.gl) g3 h2 w2 := by
    refine ⟨K.stable, fun i x hi => ?_, fun i j hi hj hei hej e => ?_, fun i hi he => ?_, K.os, K.tape, K.output, K.size, fun k hk ho => ?_, fun b o hb' ho => ?_, K.gl, K.marks⟩
    · by_cases c : i = id
      · subst c
        rw [hb2] at hi; cases hi
        intro _
        show (g2.ad i).1 < _
        rw [had]
        exact (Array.getElem?_eq_some_iff.1 hl2).1
      · exact (K.blk i x hi).mono0 E3 rfl rfl (by simp [g3, c]) fun _ _ => ⟨rfl, fun _ => rfl⟩
    · by_cases ci : i = id <;> by_cases cj : j = id
      · omega
      · have : g2.ex j = true := by simpa [g3, cj] using hej
        have e' : (g2.ad i).1 = (g2.ad j).1 := e
        rw [ci, had] at e'
        exact absurd e'.symm (hother j hj cj this)
      · have : g2.ex i = true := by simpa [g3, ci] using hei
        have e' : (g2.ad i).1 = (g2.ad j).1 := e
        rw [cj, had] at e'
        exact absurd e' (hother i hi ci this)
      · exact K.inj i j hi hj (by simpa [g3, ci] using hei) (by simpa [g3, cj] using hej) e
    · by_cases c : i = id
      · subst c
        right
        exact ⟨i, hlt, hex, by show _ = (g2.ad i).1; rw [had]⟩
      · rcases K.loc i hi (by simpa [g3, c] using he) with q | ⟨j, hj, _, hje, e⟩
        · exact .inl q
        · exact .inr ⟨j, hj, hje, e⟩
    · exact K.frame k hk fun ⟨i, hi, _, he, e⟩ => ho ⟨i, hi, he, e⟩
    · exact K.stab b o hb' fun ⟨i, hi, _, he, e⟩ => ho ⟨i, hi, he, e⟩
  exact ⟨g3, by simp [g3], had, hl2, ⟨E.S, fun i x hx => E.blk i x hx, E.marks⟩, H.outer K3⟩

end
end Fen

/- Part 34: iterators, and loops over them. -/
namespace Fen
open Go Go.RowKit

/-- WHAT A CALL OF yield DOES: the n-th row of arguments at a heap of which I n speaks leads to one of which I (n + 1) speaks, or there are to be no more. -/
def YOK (P : Program) (bs : Base) (id : Nat) (seq : List (List V)) (I : Nat → List Blk → Prop) (Ix : List Blk → Prop) : Prop :=
  ∀ bs2 : Base, bs2.gl = bs.gl → ∀ n args h g w vs, seq[n]? = some args → I n h → Ext bs.g0 bs.h0 g h → HeapOK bs2 g h w → RepAs g.S args vs →
    YieldAt (fen none) 0 P (g.ad id).1 vs.toArray w fun en w' => ∃ b h' g', en = .returned (.bool b) ∧ Ext g h g' h' ∧ HeapOK bs2 g' h' w' ∧ (b = true → I (n + 1) h') ∧ (b = false → Ix h')

def endsI (I : Nat → List Blk → Prop) (Ix : List Blk → Prop) (n : Nat) : Exit → St → Prop
  | .normal, st | .ret, st => I n st.h ∨ Ix st.h
  | _, _ => False
@[simp] theorem endsI_normal (I : Nat → List Blk → Prop) (Ix : List Blk → Prop) (n : Nat) (st : St) : endsI I Ix n .normal st = (I n st.h ∨ Ix st.h) := rfl
@[simp] theorem endsI_ret (I : Nat → List Blk → Prop) (Ix : List Blk → Prop) (n : Nat) (st : St) : endsI I Ix n .ret st = (I n st.h ∨ Ix st.h) := rfl

mutual
/-- what a value names of the heap lies in its first n blocks -/
def refsX (n : Nat) : X → Prop
  | .ref id _ => id < n
  | .view id _ _ _ => id < n
  | .ptr id _ _ => id < n
  | .yld id => id < n
  | .mp id => id < n
  | .tup xs => refsXs n xs
  | .recd xs => refsXs n xs
  | .clos _ xs => refsXs n xs
  | .ifb _ x => refsX n x
  | _ => True
def refsXs (n : Nat) : List X → Prop
  | [] => True
  | x :: xs => refsX n x ∧ refsXs n xs
end
def refsB (n : Nat) : Blk → Prop
  | .box _ cells => refsXs n cells
  | .slx _ _ _ _ cells => refsXs n cells
  | _ => True
/-- a heap that names none but its own blocks -/
def ClosedH (h : List Blk) : Prop := ∀ (id : Nat) (b : Blk), h[id]? = some b → refsB h.length b
def allB (n : Nat) : List Blk → Prop
  | [] => True
  | b :: l => refsB n b ∧ allB n l
theorem allB_at {n : Nat} : ∀ {l : List Blk}, allB n l → ∀ (id : Nat) (b : Blk), l[id]? = some b → refsB n b
  | [], _, id, b, e => by simp at e
  | x :: l, h, 0, b, e => by simp at e; subst e; exact h.1
  | x :: l, h, id + 1, b, e => allB_at h.2 id b (by simpa using e)
theorem ClosedH.of {h : List Blk} (k : allB h.length h) : ClosedH h := fun id b e => allB_at k id b e
theorem ClosedH.set_obj {h : List Blk} (k : ClosedH h) (i : Nat) (r : Loop) : ClosedH (h.set i (.obj r)) := fun id b e => by
  rw [List.length_set]
  by_cases c : id = i
  · subst c
    rw [List.getElem?_set] at e
    simp only [if_true] at e
    split at e
    · cases e; trivial
    · cases e
  · rw [List.getElem?_set_ne (Ne.symm c)] at e
    exact k id b e

/-- AN ITERATOR: whatever its yield does, it hands on these rows of arguments, in this order, and no more behind a 'no'. -/
def IterOK (P : Program) (gl : Gl) (k : FuncId) (caps : List C) (seq : List (List V)) : Prop :=
  Enters P k ∧ ∃ fn c, P.funcs[k]? = some fn ∧ fn.body = some c ∧ fn.results = #[] ∧ caps.length + 1 ≤ fn.ntmps ∧
    ∀ (bs : Base) (id : Nat) (I : Nat → List Blk → Prop) (Ix : List Blk → Prop), bs.gl = gl → bs.ro = none → YOK P bs id seq I Ix → (∀ n h, I n h → (∃ q, h[id]? = some (.obj q)) ∧ ClosedH h ∧ bs.h0.length ≤ h.length) → I 0 bs.h0 →
      AWP P bs c (endsI I Ix seq.length) ⟨fn.ntmps, argsX 0 (.yld id :: caps.map C.x), bs.h0⟩

section
variable {P : Program} {bs : Base}


theorem RepAs.rel {g : Gh} {h : List Blk} : ∀ {as : List V} {vs : List Value}, RepAs g.S as vs → RelXs g h (as.map V.x) vs
  | [], _, r => by simp only [RepAs] at r; subst r; simp [RelXs]
  | a :: as, _, r => by
    obtain ⟨u, us, rfl, h1, h2⟩ := r
    simp only [List.map_cons, RelXs]
    exact ⟨u, us, rfl, repA_x h1 g h rfl, h2.rel⟩

/-- a call of yield, as an operation -/
theorem OpW.yield {ops : Array Oper} {dst : Option Tmp} {ty : TypeId} {pos : String} {af : Array Edge} {st : St} {K : St → Prop} {id : Nat} {seq : List (List V)} {I : Nat → List Blk → Prop} {Ix : List Blk → Prop} (hy : YOK P bs id seq I Ix) {y : Operand} {as : Array Operand} {ts : Array TypeId}
    (n : Nat) (args : List V) (hev : evO bs.gl st.r y = .yld id) (hI : I n st.h) (hq : ∃ q, st.h[id]? = some (.obj q)) (hseq : seq[n]? = some args) (hargs : toVs st.h (as.toList.map (evO bs.gl st.r)) = some (args, st.h)) (hpl : (as.toList.map (evO bs.gl st.r)).all plainX = true)
    (hd : dstOK st.n dst) (h1 : ∀ h', I (n + 1) h' → K (st.put dst (.val (.bool true)) h')) (h2 : ∀ h', Ix h' → K (st.put dst (.val (.bool false)) h')) : OpW P bs ops ⟨dst, .call { callee := .value y, args := as, argTypes := ts }, ty, pos, af, none⟩ st K := by
  intro a w Q ⟨g, R⟩
  rw [if_pos (by simp [Region.wanted])]
  have hv := R.ev y
  rw [hev] at hv
  simp only [RelX] at hv
  obtain ⟨b, hb, _, _, hv⟩ := hv
  obtain ⟨q, hq⟩ := hq
  rw [hb] at hq; cases hq
  have hv := hv rfl
  have hrs : RelXs g st.h (as.toList.map (evO bs.gl st.r)) (as.toList.map a.eval) := relXs_map fun x _ => R.ev x
  obtain ⟨as', has⟩ := toVs_plain hpl
  have e0 : as' = args := by have := has st.h; rw [hargs] at this; cases this; rfl
  subst e0
  obtain ⟨S', E, H', ra⟩ := toVs_ok R.heap hrs (has st.h)
  have hcall := hy bs rfl n as' st.h { g with S := S' } w (as.toList.map a.eval) hseq hI (R.ext.trans E) H' ra
  obtain ⟨fn, tmps, assign, body, hrun, hround⟩ := hcall
  have hrun' : (execOp a.eval ⟨dst, .call { callee := .value y, args := as, argTypes := ts }, ty, pos, af, none⟩).run P w = .ok (.round (g.ad id).1 fn tmps assign body) w := by
    have hm : (as.toList.map a.eval).toArray = as.map a.eval := by apply Array.ext'; simp
    rw [hm] at hrun
    simp only [execOp, resolve, hv, Deferred.ofValue, invoke, Sem.run_bind, Sem.run_pure, Result.andThen_ok, Array.append_empty, Array.empty_append]
    exact hrun
  refine ⟨fun _ _ => trivial, ?_⟩
  rw [semAt_of hrun' (by simp), Oper.uponIn_round]
  refine ⟨fun h => (by simp [fen, Fence.wide] at h), RoundIn.mono (F := fen bs.ro) (R := fun en w' => ∃ b h' g', en = .returned (.bool b) ∧ Ext { g with S := S' } st.h g' h' ∧ HeapOK bs g' h' w' ∧ (b = true → I (n + 1) h') ∧ (b = false → Ix h')) hround ?_⟩
  rintro en w' ⟨bb, h', g', rfl, E2, H2, k1, k2⟩
  have hd' : ∀ t, dst = some t → t < st.n := fun t ht => by rw [ht] at hd; exact hd
  have A : After bs g st.h ⟨True, .val (.bool bb), .write, h'⟩ (.bool bb) w' := ⟨g', E.trans E2, H2, rel_bool.2 rfl⟩
  have R2 := R.put A dst hd'
  cases bb with
  | true => exact ⟨_, h1 h' (k1 rfl), R2⟩
  | false => exact ⟨_, h2 h' (k2 rfl), R2⟩

/-- the slots that a round's arguments fill -/
def setR : List Tmp → List X → List (Nat × X) → List (Nat × X)
  | p :: ps, x :: xs, r => setR ps xs ((p, x) :: r)
  | _, _, r => r
attribute [simp] setR

theorem setR_ok {g : Gh} {h : List Blk} {N : Nat} : ∀ (ps : List Tmp) (xs : List X) (vs : List Value) (r : List (Nat × X)) (tmps : Array Value), (∀ p, p ∈ ps → p < N) → ps.length = xs.length → RelXs g h xs vs → tmps.size = N → (∀ t, RelX g h (lk r t) (tmps.getD t undef)) →
    ((ps.zip vs).foldl (fun t (p : Tmp × Value) => t.setIfInBounds p.1 p.2) tmps).size = N ∧ ∀ t, RelX g h (lk (setR ps xs r) t) (((ps.zip vs).foldl (fun t (p : Tmp × Value) => t.setIfInBounds p.1 p.2) tmps).getD t undef)
  | [], xs, vs, r, tmps, _, hl, hr, hs, h0 => by
    cases xs with
    | nil => simp only [setR, List.zip_nil_left, List.foldl_nil]; exact ⟨hs, h0⟩
    | cons x xs => simp at hl
  | p :: ps, [], vs, r, tmps, _, hl, hr, hs, h0 => by simp at hl
  | p :: ps, x :: xs, vs, r, tmps, hp, hl, hr, hs, h0 => by
    simp only [RelXs] at hr
    obtain ⟨u, us, rfl, h1, h2⟩ := hr
    simp only [setR, List.zip_cons_cons, List.foldl_cons]
    refine setR_ok ps xs us _ _ (fun q hq => hp q (List.mem_cons_of_mem _ hq)) (by simpa using hl) h2 (by simpa using hs) fun t => ?_
    simp only [lk]
    split
    · rename_i e; subst e
      have : p < tmps.size := by rw [hs]; exact hp p (List.mem_cons_self ..)
      rw [show (tmps.setIfInBounds p u).getD p undef = u from by simp [this]]; exact h1
    · rename_i e
      rw [show (tmps.setIfInBounds p u).getD t undef = tmps.getD t undef from by simp [Array.getD_eq_getD_getElem?, Array.getElem?_setIfInBounds, e]]
      exact h0 t

/-- how a round may end -/
def roundQ {α : Type} (bs : Base) (inv : Nat → α → Prop) (HC : α → List Blk) (J : Code → List Blk → Prop) (n : Nat) : Exit → St → Prop
  | .normal, st => ∃ y, inv (n + 1) y ∧ Weak bs ⟨st.n, [], st.h⟩ ⟨st.n, [], HC y⟩
  | .ret, st => ∃ h', J .ret h' ∧ Weak bs ⟨st.n, [], st.h⟩ ⟨st.n, [], h'⟩
  | .exit i, st => ∃ h', J (.exit i) h' ∧ Weak bs ⟨st.n, [], st.h⟩ ⟨st.n, [], h'⟩
  | .goto i, st => ∃ h', J (.goto i) h' ∧ Weak bs ⟨st.n, [], st.h⟩ ⟨st.n, [], h'⟩
  | _, _ => False

end
end Fen

/- Part 35: 'for .. := range f': the rule. -/
namespace Fen
open Go Go.RowKit

theorem set_back {α : Type} {l : List α} {i : Nat} {x y : α} (h : l[i]? = some x) : (l.set i y).set i x = l := by
  apply List.ext_getElem?
  intro j
  rw [List.getElem?_set]
  split
  · rename_i e; subst e
    have := lt_of_get h
    rw [if_pos (by simpa using this), h]
  · rename_i e
    rw [List.getElem?_set, if_neg e]

theorem Ext0.gh {g g' : Gh} {h : List Blk} (h1 : g'.S = g.S) (h2 : g'.ad = g.ad) (h3 : g'.hd = g.hd) : Ext0 g h g' h :=
  ⟨fun _ _ _ h => by rw [h1]; exact h, fun id b hb => ⟨b, hb, rfl, Nat.le_refl _, fun _ => ⟨by rw [h2], by rw [h3]⟩⟩⟩

section
variable {P : Program} {bs : Base}

/-- the record's turn between the assignments and the body -/
theorem Rel.rebase {g : Gh} {h : List Blk} {id : Nat} {w0 w : World} {gl : Gl} {st : St} {a : Act} {r r' : Loop} (R : Rel (baseR g h id w0 gl) st a w) (hl : w0.heap[(g.ad id).1]? = some (.loop r)) (hno : ¬ (baseR g h id w0 gl).own (g.ad id).1) :
    w.heap[(g.ad id).1]? = some (.loop r) ∧ Rel (baseR g h id (w0.putObj (g.ad id).1 (.loop r')) gl) st a (w.putObj (g.ad id).1 (.loop r')) := by
  obtain ⟨g1, R⟩ := R
  have H := R.heap
  have hll : (g.ad id).1 < w0.heap.size := (Array.getElem?_eq_some_iff.1 hl).1
  have hlw : w.heap[(g.ad id).1]? = some (.loop r) := (H.frame _ hll hno).trans hl
  have hS := stab_none H hlw
  have hlt : (g.ad id).1 < w.heap.size := (Array.getElem?_eq_some_iff.1 hlw).1
  have hne : ∀ j, j < st.h.length → g1.ex j = true → (g1.ad j).1 ≠ (g.ad id).1 := fun j hj he e => by
    rcases H.loc j hj he with q | q
    · rw [e] at q
      have q' : w0.heap.size ≤ (g.ad id).1 := q
      omega
    · rw [e] at q; exact hno q
  refine ⟨hlw, g1, R.ext, ⟨fun b o v hv => ?_, fun i x hi => ?_, H.inj, fun i hi he => ?_, H.os, H.tape, H.output, ?_, fun k hk ho => ?_, fun b o hb ho => H.stab b o (by simpa [baseR] using hb) ho, H.gl, fun m hm => ?_⟩, ?_, R.size, R.slot⟩
  · have hb : b ≠ (g.ad id).1 := fun e => by subst e; have := (hS o).symm.trans hv; cases this
    rw [cell_block (World.putObj_heap_other hb)]; exact H.stable b o v hv
  · exact (H.blk i x hi).mono (Ext.refl _ _) rfl rfl rfl fun he _ => ⟨World.putObj_heap_other (hne i (lt_of_get hi) he), fun _ => rfl⟩
  · rcases H.loc i hi he with q | q
    · exact .inl (by simpa [baseR] using q)
    · exact .inr q
  · have := H.size
    simpa [baseR] using this
  · by_cases c : k = (g.ad id).1
    · subst c
      rw [World.putObj_heap_same hlt]
      exact (World.putObj_heap_same hll).symm
    · rw [World.putObj_heap_other c]
      exact (H.frame k (by simpa [baseR] using hk) ho).trans (World.putObj_heap_other c).symm
  · refine (World.putObj_heap_other fun e => ?_).trans (H.marks m hm)
    have := H.marks m hm
    rw [e, hlw] at this; cases this
  · obtain ⟨ms, h1, h2, h3⟩ := R.defers
    exact ⟨ms, h1, h2, fun m hm => ⟨(h3 m hm).1, by have := (h3 m hm).2; simpa [baseR] using this⟩⟩

/-- WHAT A CALL OF yield DOES, out of the loop's body. -/
theorem YOK.of {α : Type} {seq : List (List V)} {inv : Nat → α → Prop} {HC : α → List Blk} {J : Code → List Blk → Prop} {id N : Nat} {fn : FuncId} {tmps : Array Value} {ps : Array Tmp} {assign body : Code} {df : Nat} {r0 : List (Nat × X)}
    (rec : LoopState → Option Code → Loop) (hrec : rec = fun s p => { state := s, pending := p, fn := fn, tmps := tmps, params := ps, assign := assign, body := body, defers := df })
    (hps : ∀ p, p ∈ ps.toList → p < N) (hsz : tmps.size = N) (hlen : ∀ args, args ∈ seq → args.length = ps.size)
    (hHC : ∀ n y, inv n y → (HC y)[id]? = some .hid) (hJ : ∀ c h', J c h' → h'[id]? = some .hid)
    (hslot : ∀ t, RelX bs.g0 bs.h0 (lk r0 t) (tmps.getD t undef))
    (round : ∀ n y args, inv n y → seq[n]? = some args → ∀ bs' : Base, bs'.gl = bs.gl → bs'.h0 = HC y → AWP P bs' assign (thenA (fun st' => ∀ bs' : Base, bs'.gl = bs.gl → bs'.h0 = HC y → AWP P bs' body (roundQ bs' inv HC J n) st') (fun _ _ => False)) ⟨N, setR ps.toList (args.map V.x) r0, HC y⟩) :
    YOK P bs id seq (fun n h => ∃ y, inv n y ∧ h = (HC y).set id (.obj (rec .ready none))) (fun h => ∃ c h', J c h' ∧ h = h'.set id (.obj (rec .done (some c)))) := by
  rintro bs2 hg2 n args h g2 w2 vs hseq ⟨y, hy, rfl⟩ E2 H2 ra
  have hid := hHC n y hy
  have hset : ((HC y).set id (.obj (rec .ready none)))[id]? = some (.obj (rec .ready none)) := get_set_eq (lt_of_get hid)
  obtain ⟨hex, _, hl⟩ := H2.blk id _ hset
  have hvl : vs.length = args.length := ra.length
  have hal : args.length = ps.size := hlen args (List.mem_of_getElem? hseq)
  have hy' := run_yield (P := P) (args := vs.toArray) hl (by rw [hrec]; simp [hvl, hal])
  rw [hrec] at hy'
  refine ⟨fn, _, assign, body, hy', roundIn_of_wpIn (F := fen none) trivial ?_⟩
  -- the heap that the body sees
  have H0 : HeapOK bs2 g2 (HC y) w2 := by
    have := H2.putLoop (b' := .hid) (r' := rec .ready none) hset (.inr rfl) hex hl (.inl rfl)
    rw [set_back hid] at this
    have e : w2.putObj (g2.ad id).1 (.loop (rec .ready none)) = w2 := by
      unfold World.putObj
      congr 1
      apply Array.ext_getElem?
      intro i
      rw [Array.getElem?_setIfInBounds]
      split
      · rename_i e; subst e
        have := (Array.getElem?_eq_some_iff.1 hl).1
        rw [if_pos this, hl]
      · rfl
    rw [e] at this; exact this
  have Eh : Ext g2 ((HC y).set id (.obj (rec .ready none))) g2 (HC y) := by
    have := Ext.recd g2 (b' := .hid) hset rfl rfl
    rw [set_back hid] at this; exact this
  have hno : ¬ (baseR g2 (HC y) id w2 bs2.gl).own (g2.ad id).1 := fun ⟨i, hi, hne, he, e⟩ => hne (H0.inj i id hi (lt_of_get hid) he hex e)
  have Hr := H0.round hid
  have R0 : Rel (baseR g2 (HC y) id w2 bs2.gl) ⟨N, setR ps.toList (args.map V.x) r0, HC y⟩ { tmps := (ps.zip vs.toArray).foldl (fun tmps (t, a) => tmps.setIfInBounds t a) tmps, defers := [] } w2 := by
    have hs0 : ∀ t, RelX g2 (HC y) (lk r0 t) (tmps.getD t undef) := fun t => RelX.mono (E2.trans Eh) _ _ (hslot t)
    have hfold : (ps.zip vs.toArray).foldl (fun tmps (t, a) => tmps.setIfInBounds t a) tmps = (ps.toList.zip vs).foldl (fun t (p : Tmp × Value) => t.setIfInBounds p.1 p.2) tmps := by
      rw [← Array.foldl_toList, Array.toList_zip]
    obtain ⟨k1, k2⟩ := setR_ok ps.toList (args.map V.x) vs r0 tmps hps (by simp [hal]) (RepAs.rel (g := g2) (h := HC y) ra) hsz hs0
    rw [hfold]
    exact ⟨_, Ext.refl _ _, Hr, ⟨[], rfl, List.nodup_nil, fun m hm => by simp at hm⟩, k1, fun t => RelX.mono0 (Ext0.gh (g := g2) (h := HC y) (g' := { g2 with ex := fun i => if i = id then false else g2.ex i }) rfl rfl rfl) _ _ (k2 t)⟩
  have ha := round n y args hy hseq (baseR g2 (HC y) id w2 bs2.gl) hg2 rfl _ w2 R0
  refine wpIn_mono (F := (fen none).inRound (g2.ad id).1) ha ?_
  rintro e a3 w3 ⟨st3, q3, R3⟩
  cases e with
  | normal =>
    have hl' : w2.heap[(g2.ad id).1]? = some (.loop (rec .ready none)) := hl
    obtain ⟨hl3, R4⟩ := R3.rebase (r' := rec .busy none) hl' hno
    have hbeg := run_beginRound (P := P) hl3 (by rw [hrec])
    have erec : { rec .ready none with state := .busy } = rec .busy none := by rw [hrec]
    rw [erec] at hbeg
    refine ⟨_, hbeg, ?_⟩
    have hb := q3 (baseR g2 (HC y) id (w2.putObj (g2.ad id).1 (.loop (rec .busy none))) bs2.gl) hg2 rfl a3 _ R4
    have Hb : HeapOK bs2 g2 (HC y) (w2.putObj (g2.ad id).1 (.loop (rec .busy none))) := by
      have := H2.putLoop (b' := .hid) (r' := rec .busy none) hset (.inr rfl) hex hl (.inl rfl)
      rw [set_back hid] at this; exact this
    have hlb : (w2.putObj (g2.ad id).1 (.loop (rec .busy none))).heap[(g2.ad id).1]? = some (.loop (rec .busy none)) := World.putObj_heap_same (Array.getElem?_eq_some_iff.1 hl).1
    -- a round's end
    have fin : ∀ (st5 : St) (a5 : Act) (w5 : World) (h5 : List Blk) (jump : Option Code), Rel (baseR g2 (HC y) id (w2.putObj (g2.ad id).1 (.loop (rec .busy none))) bs2.gl) st5 a5 w5 → Weak (baseR g2 (HC y) id (w2.putObj (g2.ad id).1 (.loop (rec .busy none))) bs2.gl) ⟨st5.n, [], st5.h⟩ ⟨st5.n, [], h5⟩ → h5[id]? = some .hid →
        ∃ v w', (Instr.endRound (g2.ad id).1 jump).run P w5 = .ok v w' ∧ v = .bool jump.isNone ∧ ∃ g', Ext g2 ((HC y).set id (.obj (rec .ready none))) g' (h5.set id (.obj (rec (if jump.isNone then .ready else .done) jump))) ∧ HeapOK bs2 g' (h5.set id (.obj (rec (if jump.isNone then .ready else .done) jump))) w' := fun st5 a5 w5 h5 jump R5 hwk h5id => by
      obtain ⟨g5, R5⟩ := R5
      obtain ⟨g6, R6⟩ := hwk a5 w5 ⟨g5, R5.ext, R5.heap, R5.defers, R5.size, fun t => by simp [lk, RelX]⟩
      obtain ⟨g3, hex3, had3, hl5, E3, H3⟩ := Hb.roundEnd hid hex hlb R6.heap R6.ext h5id
      have hend := run_endRound (P := P) jump hl5
      have erec2 : { rec .busy none with state := if jump.isNone then .ready else .done, pending := jump } = rec (if jump.isNone then .ready else .done) jump := by rw [hrec]
      rw [erec2] at hend
      refine ⟨_, _, hend, rfl, g3, ?_, ?_⟩
      · exact Eh.trans (E3.trans (Ext.recd g3 h5id rfl rfl))
      · have := H3.putLoop (b' := .obj (rec (if jump.isNone then .ready else .done) jump)) (r' := rec (if jump.isNone then .ready else .done) jump) h5id (.inl rfl) hex3 (by rw [had3]; exact hl5) (.inr rfl)
        rw [had3] at this; exact this
    refine wpIn_mono (F := (fen none).inRound (g2.ad id).1) hb ?_
    rintro e a5 w5 ⟨st5, q5, R5⟩
    have jumped : ∀ c : Code, (∃ h', J c h' ∧ Weak (baseR g2 (HC y) id (w2.putObj (g2.ad id).1 (.loop (rec .busy none))) bs2.gl) ⟨st5.n, [], st5.h⟩ ⟨st5.n, [], h'⟩) →
        ∃ v w', (Instr.endRound (g2.ad id).1 (some c)).run P w5 = .ok v w' ∧ ∃ b h' g', Ending.returned v = .returned (.bool b) ∧ Ext g2 ((HC y).set id (.obj (rec .ready none))) g' h' ∧ HeapOK bs2 g' h' w' ∧ (b = true → ∃ y, inv (n + 1) y ∧ h' = (HC y).set id (.obj (rec .ready none))) ∧ (b = false → ∃ c h'', J c h'' ∧ h' = h''.set id (.obj (rec .done (some c)))) := fun c ⟨h5, hj, hwk⟩ => by
      obtain ⟨v, w', h1, rfl, g', h2, h3⟩ := fin st5 a5 w5 h5 (some c) R5 hwk (hJ c h5 hj)
      exact ⟨_, w', h1, false, _, g', rfl, h2, h3, (fun h => by cases h), fun _ => ⟨c, h5, hj, rfl⟩⟩
    cases e with
    | normal =>
      obtain ⟨y', hy2, hwk⟩ := q5
      obtain ⟨v, w', h1, rfl, g', h2, h3⟩ := fin st5 a5 w5 (HC y') none R5 hwk (hHC _ y' hy2)
      exact ⟨_, w', h1, true, _, g', rfl, h2, h3, fun _ => ⟨y', hy2, rfl⟩, fun h => by cases h⟩
    | ret => exact jumped .ret q5
    | exit i => exact jumped (.exit i) q5
    | goto i => exact jumped (.goto i) q5
    | panic ch => exact q5.elim
    | outgrown => exact q5.elim
  | _ => exact q3.elim

end
end Fen

/- Part 36: 'for .. := range f': the rule. -/
namespace Fen
open Go Go.RowKit

section
variable {P : Program} {bs : Base}

/-- the record is laid, and the block for the rounds' deferred calls ahead of it -/
theorem HeapOK.enterLoop {g : Gh} {h : List Blk} {w : World} (H : HeapOK bs g h w) (r : Loop) :
    ∃ g1, Ext g h g1 (h ++ [.obj r]) ∧ HeapOK bs g1 (h ++ [.obj r]) ((w.alloc (.deferred (some []))).alloc (.loop r)) ∧ g1.ad h.length = (w.heap.size + 1, 0) ∧ w.heap.size ∈ g1.marks := by
  have hb1 : ∀ k, k < w.heap.size → ((w.alloc (.deferred (some []))).alloc (.loop r)).heap[k]? = w.heap[k]? := fun k hk =>
    (Below.heap_alloc _ _ _ (by simp; omega)).trans (Below.heap_alloc _ _ _ hk)
  have hl : ((w.alloc (.deferred (some []))).alloc (.loop r)).heap[w.heap.size + 1]? = some (.loop r) := by
    have := World.alloc_heap_new (w.alloc (.deferred (some []))) (.loop r); rwa [World.size_alloc] at this
  have hm : ((w.alloc (.deferred (some []))).alloc (.loop r)).heap[w.heap.size]? = some (.deferred (some [])) :=
    (Below.heap_alloc _ _ _ (by simp)).trans (World.alloc_heap_new w _)
  obtain ⟨E1, H1⟩ := H.world (w' := (w.alloc (.deferred (some []))).alloc (.loop r)) g.S rfl rfl rfl (by simp; omega) hb1 (fun _ _ _ => rfl) (fun b o v hv => by
    have := H.stable b o v hv
    rw [cell_block (hb1 b (cell_lt this))]; exact this)
  let gm : Gh := { g with marks := w.heap.size :: g.marks }
  have Em : Ext g h gm h := ⟨fun _ _ _ h => h, fun id b hb => ⟨b, hb, rfl, Nat.le_refl _, fun _ => ⟨rfl, rfl⟩⟩, fun m hm => List.mem_cons_of_mem _ hm⟩
  have Hm : HeapOK bs gm h ((w.alloc (.deferred (some []))).alloc (.loop r)) :=
    ⟨H1.stable, fun i b hb => (H1.blk i b hb).mono0 (g' := gm) (Ext0.gh rfl rfl rfl) rfl rfl rfl fun _ _ => ⟨rfl, fun _ => rfl⟩, H1.inj, H1.loc, H1.os, H1.tape, H1.output, H1.size, H1.frame, H1.stab, H1.gl, fun m hm' => by
      rcases List.mem_cons.1 hm' with rfl | hm'
      · exact hm
      · exact H1.marks m hm'⟩
  have hS := stab_none Hm hl
  refine ⟨gm.push h.length (w.heap.size + 1, 0) undef true, Em.trans (Ext.push gm h _ _ _ _), Hm.push (.obj r) (w.heap.size + 1, 0) undef true ?_ (fun _ => ⟨fun i hi he => ?_, .inl ?_⟩), by simp [Gh.push], by simp [Gh.push, gm]⟩
  · refine ⟨by simp [Gh.push], fun o => ?_, ?_⟩
    · simp only [Gh.push, if_true]; exact hS o
    · simp only [Gh.push, if_true]; exact hl
  · have := blk_lt H hi he
    simp only [gm]
    omega
  · have := H.size; simp only; omega

/-- A LOOP OVER AN ITERATOR. id: the record's place in the private heap (the next block's); HC: the heaps between rounds, the record hidden. -/
theorem AWP.rangeFunc {Q : Exit → St → Prop} {st : St} (hro : bs.ro = none) {f : Operand} {ps : Array Tmp} {assign body : Code} {k : FuncId} {caps : List C} {seq : List (List V)}
    (hf : evO bs.gl st.r f = .val (.fn k caps)) (hit : IterOK P bs.gl k caps seq) (hps : ∀ p, p ∈ ps.toList → p < st.n) (hlen : ∀ args, args ∈ seq → args.length = ps.size)
    {α : Type} (inv : Nat → α → Prop) (HC : α → List Blk) (J : Code → List Blk → Prop) (y0 : α) (h0 : inv 0 y0) (hw0 : HC y0 = st.h ++ [.hid])
    (hHC : ∀ n y, inv n y → (HC y)[st.h.length]? = some .hid) (hJ : ∀ c h', J c h' → h'[st.h.length]? = some .hid)
    (round : ∀ n y args, inv n y → seq[n]? = some args → ∀ bs' : Base, bs'.gl = bs.gl → bs'.h0 = HC y → AWP P bs' assign (thenA (fun st' => ∀ bs' : Base, bs'.gl = bs.gl → bs'.h0 = HC y → AWP P bs' body (roundQ bs' inv HC J n) st') (fun _ _ => False)) ⟨st.n, setR ps.toList (args.map V.x) st.r, HC y⟩)
    (done : ∀ y, inv seq.length y → Q .normal ⟨st.n, st.r, HC y⟩) (stop : ∀ c h', J c h' → AWP P bs c Q ⟨st.n, st.r, h'⟩) (hcl : ∀ n y, inv n y → ClosedH (HC y)) : AWP P bs (.rangeFunc f ps assign body) Q st := by
  intro a w ⟨g, R⟩
  have hstop : ∀ c h', J c h' → ∀ a w, Rel bs ⟨st.n, st.r, h'⟩ a w → c.wpIn (fen none) 0 P (fun e a' w' => ∃ st', Q e st' ∧ Rel bs st' a' w') a w := fun c h' hj a w R => by
    have := stop c h' hj a w R; rw [hro] at this; exact this
  rw [hro]
  refine wpIn_rangeFunc fun fn hfn => ?_
  obtain ⟨rec, hrec⟩ : ∃ rec : LoopState → Option Code → Loop, rec = fun s p => { state := s, pending := p, fn := fn, tmps := a.tmps, params := ps, assign := assign, body := body, defers := w.heap.size } := ⟨_, rfl⟩
  obtain ⟨g1, E1, H1, had1, hmk⟩ := R.heap.enterLoop (rec .ready none)
  have hv := R.ev f
  rw [hf] at hv
  simp only [RelX, RepV] at hv
  obtain ⟨cvs, hv, hcv⟩ := hv
  obtain ⟨hent, fi, ci, hfi, hbi, hri, hni, hbody⟩ := hit
  refine ⟨w.heap.size + 1, [{ target := .collected w.heap.size, args := #[] }], (w.alloc (.deferred (some []))).alloc (.loop (rec .ready none)), { target := .fn (.func k) cvs.toArray, args := #[.func (.yield (w.heap.size + 1)) #[] #[]] },
    (w.alloc (.deferred (some []))).alloc (.loop (rec .ready none)), k, #[.func (.yield (w.heap.size + 1)) #[] #[]] ++ cvs.toArray, (w.alloc (.deferred (some []))).alloc (.loop (rec .ready none)), ?_, ?_, fun _ _ => trivial, ?_, fun h => (by simp [fen, Fence.wide] at h), ?_⟩
  · rw [hrec]; exact run_enterLoop_outer _ _ _ _ _
  · simp only [resolve, hv]
    simp [go_sem, Deferred.ofValue]
  · simp only [invoke]
    exact hent _ _
  have hid : (st.h ++ [Blk.obj (rec .ready none)])[st.h.length]? = some (.obj (rec .ready none)) := by simp
  have hI0 : (HC y0).set st.h.length (.obj (rec .ready none)) = st.h ++ [.obj (rec .ready none)] := by rw [hw0]; simp
  have hbs : (baseH g1 (st.h ++ [.obj (rec .ready none)]) ((w.alloc (.deferred (some []))).alloc (.loop (rec .ready none))) bs.gl).gl = bs.gl := rfl
  have hY : YOK P (baseH g1 (st.h ++ [.obj (rec .ready none)]) ((w.alloc (.deferred (some []))).alloc (.loop (rec .ready none))) bs.gl) st.h.length seq _ _ := YOK.of (inv := inv) (HC := HC) (J := J) (N := st.n) (r0 := st.r) rec hrec hps R.size hlen hHC hJ (fun t => RelX.mono E1 _ _ (R.slot t)) round
  have hawp := hbody (baseH g1 (st.h ++ [.obj (rec .ready none)]) ((w.alloc (.deferred (some []))).alloc (.loop (rec .ready none))) bs.gl) st.h.length _ _ rfl rfl hY
    (fun n h ⟨y, hy, e⟩ => ⟨⟨rec .ready none, by rw [e]; exact get_set_eq (lt_of_get (hHC n y hy))⟩, by rw [e]; exact (hcl n y hy).set_obj _ _, by rw [e]; have := lt_of_get (hHC n y hy); simp [baseH]; omega⟩) ⟨y0, h0, hI0.symm⟩
  refine callsIn_of_wp_marks (F := fen none) (n := 0) hfi hbi trivial ?_ rfl
  have hcl : cvs.length = caps.length := hcv.length
  have hsz : (#[Value.func (.yield (w.heap.size + 1)) #[] #[]] ++ cvs.toArray).size + (fi.ntmps - (#[Value.func (.yield (w.heap.size + 1)) #[] #[]] ++ cvs.toArray).size) = fi.ntmps := by simp [hcl]; omega
  have Ri : Rel (baseH g1 (st.h ++ [.obj (rec .ready none)]) ((w.alloc (.deferred (some []))).alloc (.loop (rec .ready none))) bs.gl) ⟨fi.ntmps, argsX 0 (.yld st.h.length :: caps.map C.x), st.h ++ [.obj (rec .ready none)]⟩
      { tmps := #[Value.func (.yield (w.heap.size + 1)) #[] #[]] ++ cvs.toArray ++ Array.replicate (fi.ntmps - (#[Value.func (.yield (w.heap.size + 1)) #[] #[]] ++ cvs.toArray).size) undef, defers := [] } ((w.alloc (.deferred (some []))).alloc (.loop (rec .ready none))) := by
    refine ⟨g1, Ext.refl _ _, H1.inner, ⟨[], rfl, List.nodup_nil, fun m hm => by simp at hm⟩, by rw [Array.size_append, Array.size_replicate]; exact hsz, fun t => ?_⟩
    refine argsX_ok (.yld st.h.length :: caps.map C.x) (Value.func (.yield (w.heap.size + 1)) #[] #[] :: cvs) 0 (fun t => (#[Value.func (.yield (w.heap.size + 1)) #[] #[]] ++ cvs.toArray ++ Array.replicate (fi.ntmps - (#[Value.func (.yield (w.heap.size + 1)) #[] #[]] ++ cvs.toArray).size) undef).getD t undef) (fun j u hj => ?_) ?_ t
    · have hjl := (List.getElem?_eq_some_iff.1 hj).1
      rw [Nat.zero_add, Array.getD_eq_getD_getElem?, Array.getElem?_append_left (by simp at hjl ⊢; omega)]
      have e : #[Value.func (.yield (w.heap.size + 1)) #[] #[]] ++ cvs.toArray = (Value.func (.yield (w.heap.size + 1)) #[] #[] :: cvs).toArray := by simp
      rw [e, List.getElem?_toArray, hj]; rfl
    · simp only [RelXs]
      refine ⟨_, _, rfl, ?_, RelXs.of_cx (RepL.mono E1.S _ _ hcv)⟩
      simp only [RelX]
      exact ⟨_, hid, rfl, ⟨_, rfl⟩, fun _ => by rw [had1]⟩
  refine wpIn_mono (F := fen none) (hawp _ _ Ri) ?_
  rintro e ai wi ⟨sti, qi, Ri'⟩
  have fin : ((∃ y, inv seq.length y ∧ sti.h = (HC y).set st.h.length (.obj (rec .ready none))) ∨ ∃ c h', J c h' ∧ sti.h = h'.set st.h.length (.obj (rec .done (some c)))) →
      LeavesInM (fen none) 0 P fi ai.tmps (rangePost (fen none) 0 P (w.heap.size + 1) (fun e a' w' => ∃ st', Q e st' ∧ Rel bs st' a' w') { a with defers := [{ target := .collected w.heap.size, args := #[] }] ++ a.defers }) ai.defers .returning wi := fun hq => by
    obtain ⟨gi, Ri'⟩ := Ri'
    obtain ⟨ms, hms, hnd, hmm⟩ := Ri'.defers
    rw [hms]
    refine leaves_marks (bs := baseH g1 (st.h ++ [.obj (rec .ready none)]) ((w.alloc (.deferred (some []))).alloc (.loop (rec .ready none))) bs.gl) (fun m hm => (Array.getElem?_eq_some_iff.1 (H1.marks m hm)).1) ms gi wi hnd hmm Ri'.heap (fun m hm => Ri'.ext.marks m hm) fun ks w2 H2 hks => ?_
    refine ⟨.tuple #[], by unfold results; rw [hri]; simp, ?_⟩
    have Hb := H1.outer H2
    have Eb : Ext g1 (st.h ++ [.obj (rec .ready none)]) { gi with marks := ks } sti.h := ⟨Ri'.ext.S, Ri'.ext.blk, hks⟩
    -- what is left behind the loop
    have back : ∀ (h5 : List Blk) (r : Loop), h5[st.h.length]? = some .hid → sti.h = h5.set st.h.length (.obj r) → r.state ≠ .busy →
        ∃ w4, (Instr.endLoop (w.heap.size + 1)).run P w2 = .ok r.pending w4 ∧ Rel bs ⟨st.n, st.r, h5⟩ { a with defers := [{ target := .collected w.heap.size, args := #[] }] ++ a.defers } w4 := fun h5 r h5id e5 hst => by
      have hset : sti.h[st.h.length]? = some (.obj r) := by rw [e5]; exact get_set_eq (lt_of_get h5id)
      obtain ⟨hex, _, hl⟩ := Hb.blk _ _ hset
      obtain ⟨b', q1, _, _, q2⟩ := Eb.blk _ _ hid
      rw [hset] at q1; cases q1
      have had : gi.ad st.h.length = (w.heap.size + 1, 0) := ((q2 rfl).1).trans had1
      have hl' : w2.heap[w.heap.size + 1]? = some (.loop r) := by have := hl; simp only [had] at this; exact this
      have hend := run_endLoop (P := P) hl' hst
      have Hc := Hb.putLoop (b' := .hid) (r' := { r with state := .exhausted }) hset (.inr rfl) hex hl (.inl rfl)
      have e6 : sti.h.set st.h.length .hid = h5 := by rw [e5]; exact set_back h5id
      rw [e6] at Hc
      simp only [had] at Hc
      have E6 : Ext { gi with marks := ks } sti.h { gi with marks := ks } h5 := by have := Ext.recd { gi with marks := ks } (b' := .hid) hset rfl rfl; rw [e6] at this; exact this
      have Eall := (E1.trans Eb).trans E6
      refine ⟨_, hend, { gi with marks := ks }, R.ext.trans Eall, Hc, ?_, R.size, fun t => RelX.mono Eall _ _ (R.slot t)⟩
      obtain ⟨ms', k1, k2, k3⟩ := R.defers
      refine ⟨w.heap.size :: ms', by simp [k1], List.nodup_cons.2 ⟨fun hm => ?_, k2⟩, fun m hm => ?_⟩
      · have := (Array.getElem?_eq_some_iff.1 (R.heap.marks _ (k3 _ hm).1)).1
        omega
      · rcases List.mem_cons.1 hm with rfl | hm
        · exact ⟨(Eb.trans E6).marks _ hmk, R.heap.size⟩
        · exact ⟨Eall.marks _ (k3 m hm).1, (k3 m hm).2⟩
    rcases hq with ⟨y, hy, e⟩ | ⟨c, h', hj, e⟩
    · obtain ⟨w4, k1, k2⟩ := back (HC y) _ (hHC _ y hy) e (by rw [hrec]; simp)
      have : (rec .ready none).pending = none := by rw [hrec]
      rw [this] at k1
      exact ⟨none, w4, k1, _, done y hy, k2⟩
    · obtain ⟨w4, k1, k2⟩ := back h' _ (hJ c h' hj) e (by rw [hrec]; simp)
      have : (rec .done (some c)).pending = some c := by rw [hrec]
      rw [this] at k1
      exact ⟨some c, w4, k1, hstop c h' hj _ _ k2⟩
  cases e with
  | normal => exact fin qi
  | ret => exact fin qi
  | _ => exact qi.elim

end
end Fen

/- Part 37: states made weaker, the heap as it is. -/
namespace Fen
open Go Go.RowKit

def keepX : X → X → Prop
  | .dead, _ => True
  | .val c, .nil => c = .sl 0 []
  | .val c, .ex _ n cs => c = .sl n cs
  | .val c, .fptr cs => c = .ptr cs
  | x, y => x = y

def keepR (r : List (Nat × X)) : List (Nat × X) → Prop
  | [] => True
  | (k, x) :: l => keepX x (lk r k) ∧ keepR r l

theorem keepX_ok {g : Gh} {h : List Blk} {x y : X} {v : Value} (q : keepX x y) (r : RelX g h y v) : RelX g h x v := by
  unfold keepX at q
  split at q
  · simp [RelX]
  · subst q; simp only [RelX] at r ⊢; subst r; simp [RepV]
  · subst q; exact rep_ex r
  · subst q; simp only [RelX] at r ⊢; simp only [RepV]; exact r
  · subst q; exact r

theorem keepR_ok {g : Gh} {h : List Blk} {r : List (Nat × X)} {f : Nat → Value} (hs : ∀ t, RelX g h (lk r t) (f t)) : ∀ {r' : List (Nat × X)}, keepR r r' → ∀ t, RelX g h (lk r' t) (f t)
  | [], _, t => by simp [lk, RelX]
  | (k, x) :: l, hr, t => by
    simp only [keepR] at hr
    simp only [lk]
    split
    · rename_i e; subst e; exact keepX_ok hr.1 (hs k)
    · exact keepR_ok hs hr.2 t

theorem Weak.keep {bs : Base} {n : Nat} {h : List Blk} {r r' : List (Nat × X)} (hr : keepR r r') : Weak bs ⟨n, r, h⟩ ⟨n, r', h⟩ := by
  rintro a w ⟨g, R⟩
  exact ⟨g, R.ext, R.heap, R.defers, R.size, keepR_ok R.slot hr⟩

theorem Weak.heap {bs : Base} {n : Nat} {h h' : List Blk} {r r' : List (Nat × X)} (e : h = h') (hr : keepR r r') : Weak bs ⟨n, r, h⟩ ⟨n, r', h'⟩ := e ▸ Weak.keep hr

theorem roundQ_next {α : Type} {bs : Base} {inv : Nat → α → Prop} {HC : α → List Blk} {J : Code → List Blk → Prop} {n N : Nat} {r : List (Nat × X)} {h : List Blk} (y : α) (h1 : inv (n + 1) y) (h2 : h = HC y) : roundQ bs inv HC J n .normal ⟨N, r, h⟩ := ⟨y, h1, Weak.heap h2 trivial⟩

section
variable (x y : X) (c c' : C) (cs : List C) (sz N k : Nat) (r l : List (Nat × X)) (i j v w : Nat)
@[simp] theorem keepX_dead : keepX .dead x = True := by simp [keepX]
@[simp] theorem keepX_self : keepX x x = True := by cases x <;> simp [keepX]
@[simp] theorem keepX_val : keepX (.val c) (.val c') = (c = c') := by simp [keepX]
@[simp] theorem keepX_valnil : keepX (.val c) .nil = (c = .sl 0 []) := by simp [keepX]
@[simp] theorem keepX_valex : keepX (.val c) (.ex sz N cs) = (c = .sl N cs) := by simp [keepX]
@[simp] theorem keepX_valfptr : keepX (.val c) (.fptr cs) = (c = .ptr cs) := by simp [keepX]
@[simp] theorem strip_yld : strip (.yld i) = (true, .yld i) := rfl
@[simp] theorem strip_mp : strip (.mp i) = (true, .mp i) := rfl
@[simp] theorem opCall_yld (G : Specs) (gd : Bool) (h : List Blk) (args : List X) : opCall G gd h (.yld i) args = none := rfl
@[simp] theorem opCall_mp (G : Specs) (gd : Bool) (h : List Blk) (args : List X) : opCall G gd h (.mp i) args = none := rfl
@[simp] theorem exE_none (p : Prop) : exE p none = none := rfl
@[simp] theorem keepR_nil : keepR r [] = True := rfl
@[simp] theorem keepR_cons : keepR r ((k, x) :: l) = (keepX x (lk r k) ∧ keepR r l) := rfl
end

/-- a guarded operation that opG does not know -/
theorem OpW.guarded {P : Program} {bs : Base} {ops : Array Oper} {o : Oper} {st : St} {K : St → Prop} {gq : Nat × Bool} {c : Bool} (hg : o.guard = some gq) (hc : guardC ops st.r gq = some c) (hd : dstOK st.n o.dst)
    (h1 : c = true → OpW P bs ops { o with guard := none } st K) (h2 : c = false → K (st.put o.dst (.ifb false .dead) st.h)) : OpW P bs ops o st K := by
  intro a w Q R
  have R' := R
  obtain ⟨g, R⟩ := R
  obtain ⟨j, b⟩ := gq
  have hw := guard_ok R.slot hc
  have hwant : Region.wanted o (yielded ops a.tmps) = c := by simp only [Region.wanted, hg]; exact hw
  rw [hwant]
  cases c with
  | true =>
    have := h1 rfl a w Q R'
    rw [if_pos (by simp [Region.wanted])] at this
    exact this
  | false =>
    refine ⟨_, h2 rfl, ?_⟩
    have hd' : ∀ t, o.dst = some t → t < st.n := fun t ht => by rw [ht] at hd; exact hd
    exact RelG.put R (e := ⟨True, .ifb false .dead, .pure, st.h⟩) (v := undef) ⟨g, Ext.refl _ _, R.heap, by simp only [RelX]; exact ⟨fun h => (by cases h), fun _ => rfl⟩⟩ o.dst hd'

end Fen

/- Part 38: loops of a known number of rounds, unrolled; cuts. -/
namespace Fen
open Go Go.RowKit

/-- at most n rounds, one behind the other -/
def unr (E : Env) (c : Code) (Q : Exit → St → Prop) : Nat → St → Prop
  | 0, _ => False
  | n + 1, st => wpc E c (thenA (unr E c Q n) Q) st

@[simp] theorem unr_succ (E : Env) (c : Code) (Q : Exit → St → Prop) (n : Nat) (st : St) : unr E c Q (n + 1) st = wpc E c (thenA (unr E c Q n) Q) st := by
  rw [unr]
@[congr] theorem unr_congr {E : Env} {c : Code} {Q : Exit → St → Prop} {n : Nat} {st st' : St} (h : st = st') : unr E c Q n st = unr E c Q n st' := by rw [h]

theorem AWP.unroll {E : Env} (hE : E.OK) (hm : E.P.follows .mixedOrders = true) {c : Code} {Q : Exit → St → Prop} {st : St} (n : Nat) (h : unr E c Q n st) : AWP E.P E.bs (.loop c) Q st :=
  AWP.loop (unr E c Q) (n := n) (fun n st hI => by
    cases n with
    | zero => exact hI.elim
    | succ n =>
      refine (wpc_ok hE hm c _ st hI).mono fun e st' q => ?_
      cases e with
      | normal => exact ⟨n, Nat.lt_succ_self n, fun a w R => ⟨st', q, R⟩⟩
      | _ => exact q) h

/-- a place where ways meet: a state of a known form, which the present one is no weaker than -/
def Mid {α : Type} (bs : Base) (inv : α → Prop) (S : α → St) (st : St) : Prop := ∃ y, inv y ∧ Weak bs st (S y)
theorem Mid.mk {α : Type} {bs : Base} {inv : α → Prop} {S : α → St} {st : St} (y : α) (h : inv y) (hw : Weak bs st (S y)) : Mid bs inv S st := ⟨y, h, hw⟩
@[congr] theorem Mid_congr {α : Type} {bs : Base} {inv : α → Prop} {S : α → St} {st st' : St} (h : st = st') : Mid bs inv S st = Mid bs inv S st' := by rw [h]

theorem AWP.mid {E : Env} (hE : E.OK) (hm : E.P.follows .mixedOrders = true) {α : Type} {x y : Code} {Q : Exit → St → Prop} {st : St} (inv : α → Prop) (S : α → St) (h : wpc E x (thenA (Mid E.bs inv S) Q) st) (k : ∀ z, inv z → wpc E y Q (S z)) : AWP E.P E.bs (.seq x y) Q st :=
  AWP.seq ((wpc_ok hE hm x _ st h).mono fun e st' q => by
    cases e with
    | normal =>
      obtain ⟨z, h1, h2⟩ := q
      exact AWP.weaken h2 (wpc_ok hE hm y Q _ (k z h1))
    | _ => exact q)

/-- a piece of code that is to be cut -/
theorem wpc_awp {E : Env} (hE : E.OK) (hm : E.P.follows .mixedOrders = true) {c : Code} {Q : Exit → St → Prop} {st : St} (h : wpc E c Q st) : AWP E.P E.bs c Q st := wpc_ok hE hm c Q st h

theorem sound_awp {P : Program} {T : TT} {gl : Gl} (hT : TOK P T) {f : FuncId} {fn : Func} {c : Code} (hf : P.funcs[f]? = some fn) (hb : fn.body = some c) (hn : (fn.name == "runtime.NumGoroutine") = false) {s : Spec} (hnh : s.hp = none) {N : Nat} (hN : fn.ntmps = N) {rs : List ResultVar} (hrs : fn.results = rs.toArray)
    (hlen : ∀ args, s.pre args → args.length ≤ N) (hshape : ∀ args, s.pre args → match s.res args with | .one _ => rs.length = 1 | .many cs => rs.length = cs.length ∧ rs.length ≠ 1)
    (h : ∀ args, s.pre args → ∀ bs : Base, bs.gl = gl → bs.h0 = [] → bs.ro = none → AWP P bs c (endsA T rs (s.res args)) ⟨N, argsR 0 args, []⟩) : Sound P gl f s :=
  sound_of hT hf hb hn hnh hN hrs hlen hshape fun args hp w S => h args hp _ rfl rfl rfl

end Fen

/-! the bridge to the given statements: arguments as values, the whole law as one call -/
namespace Fen
open Go Go.RowKit

/-- what stands in memory as the call begins -/
def atW (w : World) : Stab := fun b o => w.cell? ⟨b, o, none⟩

theorem calls_true {P : Program} {gl : Gl} {f : FuncId} {s : Spec} (H : Sound P gl f s) (hh : s.hp = none) {args : List V} {vs : List Value} {w : World} (hp : s.pre args)
    (hr : s.res args = .one (.val (.c (.bool true)))) (hgl : GlOK gl (atW w)) (ra : RepAs (atW w) args vs) :
    Calls P f vs.toArray w fun e w' => e = .returned (.bool true) ∧ Below w.heap.size w w' := by
  refine (H.2.1 hh args hp (atW w) w vs (fun _ _ _ h => h) hgl ra).mono fun e w' ⟨v, S', he, hb, _, _, hv⟩ => ?_
  rw [hr] at hv
  obtain ⟨ob, h1, _⟩ := hv
  simp only [RepA, RepV] at h1
  exact ⟨by rw [he, h1], hb⟩

theorem GlOK.nil (S : Stab) : GlOK [] S := fun k cs h => by simp at h

theorem wf_has {k : IntKind} {n : Int} (h : (Lit.int k n).wf = true) : k.min ≤ n ∧ n ≤ k.max := by
  simpa [Lit.wf] using h

theorem repL_ints {S : Stab} {k : IntKind} : ∀ (l : List Int), RepL S (ints k l) (l.map (Value.int k))
  | [] => by simp [ints, RepL]
  | x :: l => by
    simp only [ints, List.map_cons, RepL]
    exact ⟨_, _, rfl, by simp [RepV], repL_ints l⟩

/-- a slice of whole numbers that came in -/
theorem rep_ints {k : IntKind} {w : World} {a : Option Addr} {len cap : Nat} {zs : List Int} (hs : ∀ x, a = some x → x.spot = none)
    (h : (a = none ∧ len = 0 ∧ cap = 0 ∧ zs = []) ∨
      ∃ x, a = some x ∧ len ≤ cap ∧ cap ≤ maxLen ∧ zs.length = cap ∧ (∀ i, i < zs.length → w.cell? (x.add i) = some (.int k (zs.getD i 0))) ∧ ∀ n ∈ zs, (Lit.int k n).wf = true) :
    RepA (atW w) (.c (.sl (zs.take len).length (ints k (zs.take len)))) (.slice a len cap) ∧ (zs.take len).length ≤ maxLen ∧ ∀ n ∈ zs.take len, k.min ≤ n ∧ n ≤ k.max := by
  rcases h with ⟨rfl, rfl, rfl, rfl⟩ | ⟨x, rfl, h1, h2, h3, h4, h5⟩
  · simp [RepA, RepV, ints]
  · have hl : (zs.take len).length = len := by simp; omega
    obtain ⟨b, off, spot⟩ := x
    obtain rfl : spot = none := hs _ rfl
    refine ⟨?_, by omega, fun n hn => wf_has (h5 n (List.mem_of_mem_take hn))⟩
    simp only [RepA, RepV]
    right
    refine ⟨b, off, cap, (zs.take len).map (Value.int k), by rw [hl], by omega, h2, fun j u hj => ?_, repL_ints _⟩
    rw [List.getElem?_map, List.getElem?_take] at hj
    split at hj
    · rename_i hjl
      have hlt : j < zs.length := by omega
      rw [List.getElem?_eq_getElem hlt] at hj
      simp only [Option.map_some, Option.some.injEq] at hj
      have := h4 j hlt
      rw [Go.WideShapes.add_plain] at this
      simp only [atW, this]
      rw [List.getD_eq_getElem?_getD, List.getElem?_eq_getElem hlt]
      simp [hj]
    · simp at hj

/-- the address of a slice that came in names a whole cell -/
theorem okWide_spot {P : Program} {W : World} {r : Reach} {base t e : Nat} {a : Option Addr} {len cap : Nat} (ht : P.underlying t = some (.slice e)) (h : Value.okWide P W r base t (.slice a len cap)) :
    ∀ x, a = some x → x.spot = none := by
  rintro x rfl
  simp only [Value.okWide, ht, Cell.okWide, Cell.ok, World.has] at h
  exact h.2.2.2.1
theorem rep_str {S : Stab} (a : ByteArray) : RepA S (.c (.str a.data.toList)) (.string a) := by
  simp [RepA, RepV]
theorem has_i64 {n : Int} (h : (Lit.int .i64 n).wf = true) : -9223372036854775808 ≤ n ∧ n ≤ 9223372036854775807 := by
  have := wf_has h; simp [IntKind.min, IntKind.max, IntKind.signed, IntKind.bits] at this; omega
theorem has_u8 {n : Int} (h : (Lit.int .u8 n).wf = true) : 0 ≤ n ∧ n < 256 := by
  have := wf_has h; simp [IntKind.min, IntKind.max, IntKind.signed, IntKind.bits] at this; omega
theorem has_u16 {n : Int} (h : (Lit.int .u16 n).wf = true) : 0 ≤ n ∧ n < 65536 := by
  have := wf_has h; simp [IntKind.min, IntKind.max, IntKind.signed, IntKind.bits] at this; omega
theorem in_i64 {l : List Int} (h : ∀ n ∈ l, IntKind.i64.min ≤ n ∧ n ≤ IntKind.i64.max) : ∀ n ∈ l, -9223372036854775808 ≤ n ∧ n ≤ 9223372036854775807 := fun n hn => by
  have := h n hn; simp [IntKind.min, IntKind.max, IntKind.signed, IntKind.bits] at this; omega
theorem in_u8 {l : List Int} (h : ∀ n ∈ l, IntKind.u8.min ≤ n ∧ n ≤ IntKind.u8.max) : ∀ n ∈ l, 0 ≤ n ∧ n < 256 := fun n hn => by
  have := h n hn; simp [IntKind.min, IntKind.max, IntKind.signed, IntKind.bits] at this; omega
end Fen

/- Part 40: two turns of the private heap that calls by hand bring about: a record's first cell is written; a row's bytes become a text's. -/
namespace Fen
open Go Go.RowKit

theorem setCell_row {w : World} {k : Nat} {va vb v : Value} {ty : TypeId} (hk : w.heap[k]? = some (.cells #[va, vb] ty (0, 0))) : w.setCell ⟨k, 0, none⟩ v = w.setRow k #[v, vb] := by
  unfold World.setCell World.setRow
  congr 1
  apply Array.ext_getElem?
  intro i
  simp only [Array.getElem?_modify]
  split
  · rename_i e; subst e; rw [hk]; rfl
  · rfl

/-- a record of two cells: what the first one is to hold is written -/
theorem HeapOK.first {bs : Base} {g : Gh} {h : List Blk} {w : World} (H : HeapOK bs g h w) {id : Nat} {ty : TypeId} {a a' b : X} (hb : h[id]? = some (.box ty [a, b])) {v : Value}
    (hv : RelX g (h.set id (.box ty [a', b])) a' v) :
    Ext g h g (h.set id (.box ty [a', b])) ∧ HeapOK bs g (h.set id (.box ty [a', b])) (w.setCell ⟨(g.ad id).1, 0, none⟩ v) := by
  have hk := H.blk id _ hb
  simp only [BlkOK] at hk
  obtain ⟨hex, ha, hS, cs, hcur, hr⟩ := hk
  simp only [RelXs] at hr
  obtain ⟨va, us, e1, r1, vb, us', rfl, r2, rfl⟩ := hr
  obtain rfl : cs = #[va, vb] := by apply Array.ext'; simpa using e1
  rw [setCell_row hcur]
  have E : Ext g h g (h.set id (.box ty [a', b])) := ⟨fun _ _ _ h => h, fun i k hi => by
    by_cases ci : i = id
    · subst ci
      rw [hb] at hi; cases hi
      exact ⟨_, get_set_eq (lt_of_get hb), rfl, Nat.le_refl _, fun _ => ⟨rfl, rfl⟩⟩
    · exact ⟨k, by rw [get_set_ne ci]; exact hi, rfl, Nat.le_refl _, fun _ => ⟨rfl, rfl⟩⟩, fun _ h => h⟩
  refine H.modify (b' := .box ty [a', b]) hb hex rfl rfl hcur (fun o u hu => by rw [hS] at hu; cases hu) ?_
  refine ⟨hex, ha, hS, _, setRow_heap w _ _ _ ty _ hcur, ?_⟩
  simp only [RelXs]
  exact ⟨v, [vb], rfl, hv, vb, [], rfl, RelX.mono E _ _ r2, rfl⟩

theorem freeze_other (w : World) (k n b : Nat) (h : b ≠ k) : (w.freeze ⟨k, 0, none⟩ n).heap[b]? = w.heap[b]? := by
  unfold World.freeze
  split
  · rfl
  · simp only [Array.getElem?_modify]
    rw [if_neg (fun e => h e.symm)]

theorem freeze_cell (w : World) (k n b o : Nat) : (w.freeze ⟨k, 0, none⟩ n).cell? ⟨b, o, none⟩ = w.cell? ⟨b, o, none⟩ := by
  unfold World.freeze
  split
  · rfl
  · simp only [World.cell?, Array.getElem?_modify]
    by_cases e : k = b
    · subst e
      rw [if_pos rfl]
      cases w.heap[k]? with
      | none => rfl
      | some x => cases x <;> rfl
    · rw [if_neg e]

/-- a slice's row becomes a text's bytes: it is nobody's to write any more -/
theorem HeapOK.shut {bs : Base} {g : Gh} {h : List Blk} {w : World} (H : HeapOK bs g h w) {j : Nat} {ty : TypeId} {v sz n m : Nat} {p : Bool} {cs : List C} (hb : h[j]? = some (.sl ty v p sz n cs)) (hex : g.ex j = true) :
    ∃ g', Ext g h g' (h.set j (.sl ty (v + 1) false sz 0 [])) ∧ HeapOK bs g' (h.set j (.sl ty (v + 1) false sz 0 [])) (w.freeze ⟨(g.ad j).1, 0, none⟩ m) := by
  have hk := H.blk j _ hb
  have hsz : 0 < sz := hk.1
  have hsame : ∀ {α : Type} (f : World → α), (∀ (w : World) (x : Array Obj), f { w with heap := x } = f w) → f (w.freeze ⟨(g.ad j).1, 0, none⟩ m) = f w := fun f hf => by
    unfold World.freeze; split
    · rfl
    · exact hf _ _
  have hsize : w.heap.size ≤ (w.freeze ⟨(g.ad j).1, 0, none⟩ m).heap.size := by
    unfold World.freeze; split <;> simp
  obtain ⟨E, H'⟩ := H.renew (w' := w.freeze ⟨(g.ad j).1, 0, none⟩ m) (b' := .sl ty (v + 1) false sz 0 []) hb rfl rfl (Nat.lt_succ_self _) (0, 0) (.slice none 0 0) false
    (hsame World.os fun _ _ => rfl) (hsame World.tape fun _ _ => rfl) (hsame World.output fun _ _ => rfl) hsize (fun k _ hx => freeze_other _ _ _ _ (hx hex))
    (fun b o u hu => (freeze_cell _ _ _ _ _).trans (H.stable b o u hu)) (by
      simp only [BlkOK]
      exact ⟨hsz, by simp, .inl ⟨by simp [Gh.upd, Gh.push], rfl, by simp [Gh.upd, Gh.push]⟩⟩) (fun e => by cases e)
  exact ⟨_, E, H'⟩
end Fen

/- Part 41: operations by hand: one that leaves the heap as it is; a slice of a whole array. -/
namespace Fen
open Go Go.RowKit

theorem OpW.at {P : Program} {bs : Base} {ops : Array Oper} {o : Oper} {st : St} {K : St → Prop} (hg : o.guard = none) (hd : dstOK st.n o.dst) (x : X)
    (hrun : ∀ g a w, RelG bs st a w g → ∃ v, (execOp a.eval o).run P w = .ok (.value v) w ∧ RelX g st.h x v) (hk : K (st.put o.dst x st.h)) : OpW P bs ops o st K := by
  intro a w Q ⟨g, R⟩
  rw [if_pos (by simp [Region.wanted, hg])]
  obtain ⟨v, h1, h2⟩ := hrun g a w R
  refine ⟨fun _ _ => trivial, ?_⟩
  rw [semAt_of h1 (by simp), Oper.uponIn_value]
  have hd' : ∀ t, o.dst = some t → t < st.n := fun t ht => by rw [ht] at hd; exact hd
  have A : After bs g st.h ⟨True, x, .pure, st.h⟩ v w := ⟨g, Ext.refl _ _, R.heap, h2⟩
  exact ⟨_, hk, R.put A o.dst hd'⟩

theorem OpW.arr {P : Program} {T : TT} {bs : Base} {ops : Array Oper} {dst : Option Tmp} {ty : TypeId} {pos : String} {af : Array Edge} {st : St} {K : St → Prop} (hT : TOK P T) {t n e : Nat} {ti ei : TI} (ht : T t = some ti) (hk : ti.k = .array n e) (he : T e = some ei)
    {x : Operand} {cs : List C} (hx : evO bs.gl st.r x = .fptr cs) (hl : cs.length = n * ei.size) (hn : n ≤ maxLen) (hd : dstOK st.n dst) (hK : K (st.put dst (.val (.sl n cs)) st.h)) :
    OpW P bs ops ⟨dst, .slice t x none none none, ty, pos, af, none⟩ st K := by
  refine OpW.at rfl hd (.val (.sl n cs)) (fun g a w R => ?_) hK
  have hv := R.ev x
  rw [hx] at hv
  simp only [RelX] at hv
  obtain ⟨b, o, vs, hv, hS, hr⟩ := hv
  obtain ⟨d, i, z, hdd, hi, hf, _⟩ := hT.get ht
  rw [hk] at hf
  simp only [TK.fits] at hf
  subst hf
  refine ⟨.slice (some ⟨b, o, none⟩) n n, ?_, ?_⟩
  · simp [execOp, Instr.sliceAt, run_underlying hdd, hv, Instr.sureAddr, Instr.sliceBounds, hT.sizeOf he]
    intro _; rfl
  · simp only [RelX, RepV]
    exact .inr ⟨b, o, n, vs, rfl, Nat.le_refl _, hn, hS, hr⟩
@[simp] theorem slT_arr (T : TT) (h : List Blk) (x : X) (lo hi mx : Option X) (n e sz b : Nat) (zs : List X) : slT T h x lo hi mx (some ⟨.array n e, sz, b, zs⟩) = none := rfl
end Fen

/- Part 42: arguments of whatever types, read as data: what they are as cells of the layer, and that these fit the types. -/
namespace Fen
open Go Go.RowKit

def All2 {α β : Type} (R : α → β → Prop) : List α → List β → Prop
  | [], [] => True
  | a :: as, b :: bs => R a b ∧ All2 R as bs
  | _, _ => False

/-- cells that fit a type -/
def typedStep (R : Nat → List C → Prop) : Option TI → List C → Prop
  | some ⟨.int k, _, _, _⟩, cs => ∃ n, cs = [.int k n] ∧ k.min ≤ n ∧ n ≤ k.max
  | some ⟨.bool, _, _, _⟩, cs => ∃ b, cs = [.bool b]
  | some ⟨.str, _, _, _⟩, cs => ∃ l : List UInt8, cs = [.str l] ∧ l.length ≤ maxLen
  | some ⟨.slice e, _, _, _⟩, cs => ∃ parts : List (List C), cs = [.sl parts.length parts.flatten] ∧ parts.length ≤ maxLen ∧ ∀ p ∈ parts, R e p
  | some ⟨.struct fs, _, _, _⟩, cs => ∃ parts : List (List C), cs = parts.flatten ∧ All2 (fun (f : Nat × Nat) p => R f.2 p) fs parts
  | some ⟨.array n e, _, _, _⟩, cs => ∃ parts : List (List C), cs = parts.flatten ∧ parts.length = n ∧ ∀ p ∈ parts, R e p
  | _, _ => False
def Typed (T : TT) : Nat → Nat → List C → Prop
  | 0, _, _ => False
  | d + 1, t, cs => typedStep (Typed T d) (T t) cs

def szT (T : TT) (t : Nat) : Nat := match T t with | some ti => ti.size | none => 0

/-- where the fields end, if they lie one behind the other -/
def endsAt (sz : Nat → Nat) : Nat → List (Nat × Nat) → Option Nat
  | o, [] => some o
  | o, (p, u) :: fs => if p = o then endsAt sz (o + sz u) fs else none

/-- the types that are served -/
def supStep (T : TT) (K : Nat → Bool) : Option TI → Bool
  | some ⟨.int _, n, _, _⟩ | some ⟨.bool, n, _, _⟩ | some ⟨.str, n, _, _⟩ => n == 1
  | some ⟨.slice e, n, _, _⟩ => n == 1 && K e && decide (0 < szT T e)
  | some ⟨.struct fs, n, _, _⟩ => fs.all (fun f => K f.2) && endsAt (szT T) 0 fs == some n
  | some ⟨.array m e, n, _, _⟩ => K e && n == m * szT T e
  | _ => false
def sup (T : TT) : Nat → Nat → Bool
  | 0, _ => false
  | d + 1, t => supStep T (sup T d) (T t)

section
variable {P : Program} {T : TT} {w : World} {H : Type} {enc : TypeId × Value → H} {base : Nat} {held : Bool}

theorem szT_eq {t : Nat} {ti : TI} (h : T t = some ti) : szT T t = ti.size := by simp [szT, h]
theorem cellsOf_szT (hT : TOK P T) {t : Nat} {ti : TI} (h : T t = some ti) : P.cellsOf t = szT T t := (cellsOf_eq hT h).trans (szT_eq h).symm

theorem sup_row {d t : Nat} (h : sup T d t = true) : ∃ ti, T t = some ti := by
  cases d with
  | zero => simp [sup] at h
  | succ d =>
    simp only [sup] at h
    cases q : T t with
    | none => rw [q] at h; simp [supStep] at h
    | some ti => exact ⟨ti, rfl⟩

theorem fields_typed (hT : TOK P T) {S : Stab} {R : Nat → List C → Prop} {cs : List Value} : ∀ (fs : List (Nat × Nat)) (o n : Nat), endsAt (szT T) o fs = some n → cs.length = n →
    (∀ f ∈ fs, ∃ ks, RepL S ks ((cs.drop f.1).take (szT T f.2)) ∧ R f.2 ks) → ∃ parts : List (List C), RepL S parts.flatten (cs.drop o) ∧ All2 (fun (f : Nat × Nat) p => R f.2 p) fs parts
  | [], o, n, he, hl, _ => by
    simp only [endsAt, Option.some.injEq] at he
    subst he
    refine ⟨[], ?_, trivial⟩
    rw [List.drop_of_length_le (by omega)]
    simp [RepL]
  | (p, u) :: fs, o, n, he, hl, hf => by
    simp only [endsAt] at he
    split at he
    · rename_i hp
      subst hp
      obtain ⟨ks, r1, t1⟩ := hf _ (List.mem_cons_self ..)
      obtain ⟨parts, r2, t2⟩ := fields_typed hT fs _ n he hl (fun f hm => hf f (List.mem_cons_of_mem _ hm))
      refine ⟨ks :: parts, ?_, t1, t2⟩
      have e : cs.drop p = (cs.drop p).take (szT T u) ++ cs.drop (p + szT T u) := by rw [← List.drop_drop]; exact (List.take_append_drop _ _).symm
      rw [e, List.flatten_cons]
      exact r1.append r2
    · cases he

theorem items_typed {S : Stab} {R : List C → Prop} {cs : List Value} {c : Nat} : ∀ (m j : Nat), cs.length = (j + m) * c →
    (∀ i, i < j + m → ∃ ks, RepL S ks ((cs.drop (i * c)).take c) ∧ R ks) → ∃ parts : List (List C), RepL S parts.flatten (cs.drop (j * c)) ∧ parts.length = m ∧ ∀ p ∈ parts, R p
  | 0, j, hl, _ => by
    refine ⟨[], ?_, rfl, fun p h => by cases h⟩
    rw [List.drop_of_length_le (by rw [hl]; exact Nat.le_refl _)]
    simp [RepL]
  | m + 1, j, hl, hf => by
    obtain ⟨ks, r1, t1⟩ := hf j (by omega)
    obtain ⟨parts, r2, hlen, t2⟩ := items_typed m (j + 1) (by rw [hl]; congr 1; omega) (fun i hi => hf i (by omega))
    refine ⟨ks :: parts, ?_, by simp [hlen], fun p hp => ?_⟩
    · have e : cs.drop (j * c) = (cs.drop (j * c)).take c ++ cs.drop ((j + 1) * c) := by
        rw [Nat.add_mul, Nat.one_mul, ← List.drop_drop]; exact (List.take_append_drop _ _).symm
      rw [e, List.flatten_cons]
      exact r1.append r2
    · rcases List.mem_cons.1 hp with rfl | hp
      · exact t1
      · exact t2 p hp

theorem repL_one' {S : Stab} {c : C} {v : Value} : RepL S [c] [v] ↔ RepV S c v := by
  simp only [RepL]
  constructor
  · rintro ⟨u, us, h, h1, h2⟩
    simp only [List.cons.injEq] at h
    obtain ⟨rfl, rfl⟩ := h
    exact h1
  · intro h; exact ⟨v, [], rfl, h, rfl⟩

/-- memory read as data, as cells that fit the type -/
theorem typed_of_trod (hT : TOK P T) : ∀ (fuel D : Nat) (t : Nat) (cs : List Value) (x : DataW H × List MemPlace), sup T D t = true →
    DataW.trod enc P w 0 (fun _ => true) held fuel t cs = some x → ∃ ks, RepL (atW w) ks cs ∧ Typed T fuel t ks
  | 0, _, _, _, _, _, h => by simp [DataW.trod] at h
  | fuel + 1, 0, _, _, _, hs, _ => by simp [sup] at hs
  | fuel + 1, D + 1, t, cs, x, hs, h => by
    simp only [sup] at hs
    simp only [Typed]
    obtain ⟨⟨k, n, b, z⟩, hq⟩ := sup_row (d := D + 1) (T := T) (t := t) (by simpa only [sup] using hs)
    rw [hq] at hs ⊢
    cases k with
    | int k =>
      obtain ⟨m, rfl, _, hw⟩ := DataW.trod_int (hT.int hq) h
      have := wf_has hw
      exact ⟨[.int k m], repL_one'.2 (by simp [RepV]), m, rfl, this.1, this.2⟩
    | bool =>
      obtain ⟨m, rfl, _⟩ := DataW.trod_bool (hT.bool hq) h
      exact ⟨[.bool m], repL_one'.2 (by simp [RepV]), m, rfl⟩
    | str =>
      obtain ⟨s, rfl, _, hl⟩ := DataW.trod_string (hT.str hq) h
      exact ⟨[.str s.data.toList], repL_one'.2 (by simp [RepV]), _, rfl, by simpa [bytes_size] using hl⟩
    | slice e =>
      simp only [supStep, Bool.and_eq_true, decide_eq_true_eq] at hs
      obtain ⟨⟨_, hse⟩, hpos⟩ := hs
      obtain ⟨ei, hei⟩ := sup_row hse
      have hc := cellsOf_szT hT hei
      rcases DataW.trod_slice (hT.slice hq) h with ⟨rfl, _⟩ | ⟨a, len, cap, elems, rest, n', hn', rfl, _, _, hl, hm, hlen, hel, hsp, _⟩
      · exact ⟨[.sl 0 []], repL_one'.2 (by simp [RepV]), [], rfl, by simp, fun p hp => by cases hp⟩
      · obtain rfl : n' = fuel := by omega
        obtain ⟨hrl, hre⟩ := hsp rfl
        rw [hc] at hel hre
        rcases Nat.eq_zero_or_pos cap with h0 | h0
        · obtain rfl : len = 0 := by omega
          subst h0
          exact ⟨[.sl 0 []], repL_one'.2 (by simp [RepV]), [], rfl, by simp, fun p hp => by cases hp⟩
        · -- the address names whole cells
          obtain ⟨c0, hc0⟩ : ∃ c0, w.cells? 0 (a.add (0 * szT T e)) (szT T e) = some c0 := by
            rcases Nat.eq_zero_or_pos len with h1 | h1
            · have h2 := hre 0 (by omega)
              rw [List.getElem?_eq_getElem (by omega)] at h2
              obtain ⟨c0, q, _⟩ := Option.bind_eq_some_iff.1 h2
              exact ⟨c0, by simpa [h1] using q⟩
            · have h2 := hel 0 h1
              rw [List.getElem?_eq_getElem (by omega)] at h2
              obtain ⟨c0, q, _⟩ := Option.bind_eq_some_iff.1 h2
              exact ⟨c0, q⟩
          obtain ⟨b0, o0, sp⟩ := a
          have hsp : sp = none := by
            obtain ⟨_, hl0, hat⟩ := World.cells?_some hc0
            have h1 := hat 0 (by omega)
            rw [List.getElem?_eq_getElem (by omega)] at h1
            cases sp with
            | none => rfl
            | some sp =>
              exfalso
              unfold World.cell? at h1
              simp [Addr.add] at h1
              split at h1 <;> simp at h1
          subst hsp
          have key : ∀ k, k ≤ len → ∃ (parts : List (List C)) (vs : List Value), parts.length = k ∧ vs.length = k * szT T e ∧ RepL (atW w) parts.flatten vs ∧ (∀ j u, vs[j]? = some u → atW w b0 (o0 + j) = some u) ∧ ∀ p ∈ parts, Typed T n' e p := fun k => by
            induction k with
            | zero => exact fun _ => ⟨[], [], rfl, by simp, by simp [RepL], fun j u h => by simp at h, fun p hp => by cases hp⟩
            | succ k ih =>
              intro hk
              obtain ⟨parts, vs, q1, q2, q3, q4, q5⟩ := ih (by omega)
              have h2 := hel k (by omega)
              rw [List.getElem?_eq_getElem (by omega)] at h2
              obtain ⟨cs', hcs, htr⟩ := Option.bind_eq_some_iff.1 h2
              obtain ⟨_, hl', hat⟩ := World.cells?_some hcs
              obtain ⟨ks, r1, t1⟩ := typed_of_trod hT n' D e cs' _ hse htr
              refine ⟨parts ++ [ks], vs ++ cs', by simp [q1], by simp [q2, hl', Nat.add_mul], by simpa using q3.append r1, fun j u hj => ?_, fun p hp => ?_⟩
              · rcases Nat.lt_or_ge j vs.length with c | c
                · rw [List.getElem?_append_left c] at hj; exact q4 j u hj
                · rw [List.getElem?_append_right c] at hj
                  have hjl := (List.getElem?_eq_some_iff.1 hj).1
                  have := hat (j - vs.length) (by omega)
                  rw [hj] at this
                  simp only [Go.WideShapes.add_plain] at this
                  unfold atW
                  rw [← this]
                  congr 2
                  omega
              · rcases List.mem_append.1 hp with hp | hp
                · exact q5 p hp
                · simp at hp; subst hp; exact t1
          obtain ⟨parts, vs, q1, q2, q3, q4, q5⟩ := key len (Nat.le_refl _)
          refine ⟨[.sl parts.length parts.flatten], repL_one'.2 ?_, parts, rfl, by omega, q5⟩
          simp only [RepV]
          exact .inr ⟨b0, o0, cap, vs, by rw [q1], by omega, hm, q4, q3⟩
    | struct fs =>
      simp only [supStep, Bool.and_eq_true, List.all_eq_true, beq_iff_eq] at hs
      obtain ⟨hsf, hends⟩ := hs
      obtain ⟨d, i, zz, hu, _, hf, _⟩ := hT.get hq
      simp only [TK.fits] at hf
      obtain ⟨fields, rfl, hm⟩ := hf
      obtain ⟨xs, n1, hn1, _, hlen, hxl, hg⟩ := DataW.trod_struct hu h
      obtain rfl : n1 = fuel := by omega
      rw [cellsOf_eq hT hq] at hlen
      obtain ⟨parts, r, t2⟩ := fields_typed hT (S := atW w) (R := Typed T n1) fs 0 n hends hlen (fun f hfm => by
        rw [← hm] at hfm
        obtain ⟨fd, hfd, rfl⟩ := List.mem_map.1 hfm
        obtain ⟨j, hj⟩ := List.getElem?_of_mem hfd
        have hj' : fields[j]? = some fd := by simpa using hj
        have hsu := hsf (fd.offset, fd.type) (by rw [← hm]; exact hfm)
        obtain ⟨ui, hui⟩ := sup_row hsu
        have h1 := hg j fd hj'
        have hjl : j < xs.length := by rw [hxl]; exact (Array.getElem?_eq_some_iff.1 hj').1
        rw [List.getElem?_eq_getElem hjl, cellsOf_szT hT hui] at h1
        exact typed_of_trod hT n1 D fd.type _ _ hsu h1)
      exact ⟨parts.flatten, by simpa using r, parts, rfl, t2⟩
    | array m e =>
      simp only [supStep, Bool.and_eq_true, beq_iff_eq] at hs
      obtain ⟨hse, hn⟩ := hs
      obtain ⟨ei, hei⟩ := sup_row hse
      have hc := cellsOf_szT hT hei
      obtain ⟨xs, n1, hn1, _, hlen, hxl, hg⟩ := DataW.trod_array (hT.array hq) h
      obtain rfl : n1 = fuel := by omega
      rw [cellsOf_eq hT hq, hn] at hlen
      rw [hc] at hg
      obtain ⟨parts, r, hpl, t2⟩ := items_typed (S := atW w) (R := Typed T n1 e) (cs := cs) (c := szT T e) m 0 (by simpa using hlen) (fun i hi => by
        have h1 := hg i (by omega)
        rw [List.getElem?_eq_getElem (by omega)] at h1
        exact typed_of_trod hT n1 D e _ _ hse h1)
      exact ⟨parts.flatten, by simpa using r, parts, rfl, hpl, t2⟩
    | other => simp [supStep] at hs
end
end Fen
