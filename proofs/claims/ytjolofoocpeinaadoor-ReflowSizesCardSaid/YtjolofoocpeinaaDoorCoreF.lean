/- A part of the proof; no statement is proved here: Kora51, Kora52, Kora53, Kora54, Kora55, Kora56, Kora57, Kora58, Kora59. -/
import Derived.Test.YtjolofoocpeinaaDoorCoreE
import Derived.MapKept

set_option linter.unusedVariables false
set_option linter.unusedSimpArgs false

/- Part 51: blocks in the heap's middle that nothing names any more are taken out, and what lies behind them moves up. -/
namespace Fen
open Go Go.RowKit
def shN (n m i : Nat) : Nat := if i < n then i else i + m
mutual
def shX (n m : Nat) : X → X
  | .tup xs => .tup (shXs n m xs)
  | .recd xs => .recd (shXs n m xs)
  | .clos f xs => .clos f (shXs n m xs)
  | .ifb c x => .ifb c (shX n m x)
  | .ref i v => .ref (shN n m i) v
  | .view i v o k => .view (shN n m i) v o k
  | .ptr i v o => .ptr (shN n m i) v o
  | .yld i => .yld (shN n m i)
  | .mp i => .mp (shN n m i)
  | .dead => .dead
  | .val c => .val c
  | .agg cs => .agg cs
  | .nil => .nil
  | .ex s k cs => .ex s k cs
  | .fptr cs => .fptr cs
def shXs (n m : Nat) : List X → List X
  | [] => []
  | x :: xs => shX n m x :: shXs n m xs
end
def shB (n m : Nat) : Blk → Blk
  | .box ty xs => .box ty (shXs n m xs)
  | .slx ty v sz k xs => .slx ty v sz k (shXs n m xs)
  | b => b
theorem shB_ver (n m : Nat) (b : Blk) : (shB n m b).ver = b.ver := by cases b <;> rfl
theorem shB_isBox (n m : Nat) (b : Blk) : (shB n m b).isBox = b.isBox := by cases b <;> rfl
theorem shXs_len (n m : Nat) : ∀ xs : List X, (shXs n m xs).length = xs.length
  | [] => by simp [shXs]
  | x :: xs => by simp [shXs, shXs_len n m xs]
theorem shN_lt {n m i : Nat} (h : i < n) : shN n m i = i := by simp [shN, h]
theorem shN_inj {n m i j : Nat} (h : shN n m i = shN n m j) : i = j := by
  unfold shN at h; split at h <;> split at h <;> omega
mutual
theorem shX_closed {n m : Nat} : ∀ x : X, refsX n x → shX n m x = x
  | .tup xs, h => by simp only [refsX] at h; simp only [shX]; rw [shXs_closed xs h]
  | .recd xs, h => by simp only [refsX] at h; simp only [shX]; rw [shXs_closed xs h]
  | .clos f xs, h => by simp only [refsX] at h; simp only [shX]; rw [shXs_closed xs h]
  | .ifb c x, h => by simp only [refsX] at h; simp only [shX]; rw [shX_closed x h]
  | .ref i v, h => by simp only [refsX] at h; simp only [shX]; rw [shN_lt h]
  | .view i v o k, h => by simp only [refsX] at h; simp only [shX]; rw [shN_lt h]
  | .ptr i v o, h => by simp only [refsX] at h; simp only [shX]; rw [shN_lt h]
  | .yld i, h => by simp only [refsX] at h; simp only [shX]; rw [shN_lt h]
  | .mp i, h => by simp only [refsX] at h; simp only [shX]; rw [shN_lt h]
  | .dead, _ => by simp only [shX]
  | .val c, _ => by simp only [shX]
  | .agg cs, _ => by simp only [shX]
  | .nil, _ => by simp only [shX]
  | .ex s k cs, _ => by simp only [shX]
  | .fptr cs, _ => by simp only [shX]
theorem shXs_closed {n m : Nat} : ∀ xs : List X, refsXs n xs → shXs n m xs = xs
  | [], _ => by simp only [shXs]
  | x :: xs, h => by simp only [refsXs] at h; simp only [shXs]; rw [shX_closed x h.1, shXs_closed xs h.2]
end
theorem shB_closed {n m : Nat} {b : Blk} (h : refsB n b) : shB n m b = b := by
  cases b with
  | box ty xs => simp only [refsB_box] at h; simp only [shB]; rw [shXs_closed xs h]
  | slx ty v sz k xs => simp only [refsB_slx] at h; simp only [shB]; rw [shXs_closed xs h]
  | _ => rfl
theorem map_closed {m : Nat} {h : List Blk} (hc : ClosedH h) : h.map (shB h.length m) = h := by
  refine List.ext_getElem? fun i => ?_
  rw [List.getElem?_map]
  cases e : h[i]? with
  | none => rfl
  | some b => simp [shB_closed (hc i b e)]
def shG (n m : Nat) (g : Gh) : Gh where
  S := g.S
  ad i := g.ad (shN n m i)
  hd i := g.hd (shN n m i)
  ex i := g.ex (shN n m i)
  marks := g.marks
/-- a heap, and the same with blocks put into its middle -/
def ShH (n m : Nat) (s t : List Blk) : Prop := (∀ i, s[shN n m i]? = (t[i]?).map (shB n m)) ∧ (∀ i, i < t.length → shN n m i < s.length)
theorem ShH.mk {T mid post : List Blk} {n m : Nat} (hn : T.length = n) (hm : mid.length = m) : ShH n m (T.map (shB n m) ++ mid ++ post.map (shB n m)) (T ++ post) := by
  subst hn hm
  refine ⟨fun i => ?_, fun i hi => ?_⟩
  · unfold shN
    split
    · rename_i c
      rw [List.append_assoc, List.getElem?_append_left (by simpa using c), List.getElem?_append_left c, List.getElem?_map]
    · rename_i c
      rw [List.getElem?_append_right (by simp; omega), List.getElem?_append_right (by omega), List.getElem?_map]
      congr 2
      simp
      omega
  · unfold shN
    simp at hi ⊢
    split <;> omega
mutual
theorem shX_ok {n m : Nat} {g : Gh} {s t : List Blk} (H : ShH n m s t) : ∀ (x : X) (v : Value), RelX g s (shX n m x) v → RelX (shG n m g) t x v
  | .dead, _, _ => by simp only [RelX]
  | .val _, _, r => by simp only [shX, RelX] at r ⊢; exact r
  | .agg _, _, r => by simp only [shX, RelX] at r ⊢; exact r
  | .nil, _, r => by simp only [shX, RelX] at r ⊢; exact r
  | .ex _ _ _, _, r => by simp only [shX, RelX] at r ⊢; exact r
  | .fptr _, _, r => by simp only [shX, RelX] at r ⊢; exact r
  | .recd xs, _, r => by
    simp only [shX, RelX] at r ⊢
    obtain ⟨vs, rfl, r, ho⟩ := r
    exact ⟨vs, rfl, shXs_ok H xs vs r, ho⟩
  | .tup xs, _, r => by
    simp only [shX, RelX] at r ⊢
    obtain ⟨vs, rfl, r⟩ := r
    exact ⟨vs, rfl, shXs_ok H xs vs r⟩
  | .clos f xs, _, r => by
    simp only [shX, RelX] at r ⊢
    obtain ⟨vs, rfl, r⟩ := r
    exact ⟨vs, rfl, shXs_ok H xs vs r⟩
  | .ifb c x, v, r => by
    simp only [shX, RelX] at r ⊢
    exact ⟨fun hc => shX_ok H x v (r.1 hc), r.2⟩
  | .ref id ver, _, r => by
    simp only [shX, RelX] at r ⊢
    rw [H.1] at r
    obtain ⟨b, hb, r⟩ := r
    cases e : t[id]? with
    | none => simp [e] at hb
    | some b' =>
      simp only [e, Option.map_some] at hb; cases hb
      rw [shB_ver, shB_isBox] at r
      exact ⟨b', rfl, r⟩
  | .view id ver off n, _, r => by
    simp only [shX, RelX] at r ⊢
    rw [H.1] at r
    obtain ⟨b, hb, r⟩ := r
    cases e : t[id]? with
    | none => simp [e] at hb
    | some b' =>
      simp only [e, Option.map_some] at hb; cases hb
      rw [shB_ver, shB_isBox] at r
      exact ⟨b', rfl, r⟩
  | .ptr id ver off, _, r => by
    simp only [shX, RelX] at r ⊢
    rw [H.1] at r
    obtain ⟨b, hb, r⟩ := r
    cases e : t[id]? with
    | none => simp [e] at hb
    | some b' =>
      simp only [e, Option.map_some] at hb; cases hb
      rw [shB_ver] at r
      exact ⟨b', rfl, r⟩
  | .yld id, _, r => by
    simp only [shX, RelX] at r ⊢
    rw [H.1] at r
    obtain ⟨b, hb, r⟩ := r
    cases e : t[id]? with
    | none => simp [e] at hb
    | some b' =>
      simp only [e, Option.map_some] at hb; cases hb
      rw [shB_ver, shB_isBox] at r
      exact ⟨b', rfl, r⟩
  | .mp id, _, r => by
    simp only [shX, RelX] at r ⊢
    rw [H.1] at r
    obtain ⟨b, hb, r⟩ := r
    cases e : t[id]? with
    | none => simp [e] at hb
    | some b' =>
      simp only [e, Option.map_some] at hb; cases hb
      rw [shB_ver, shB_isBox] at r
      exact ⟨b', rfl, r⟩
theorem shXs_ok {n m : Nat} {g : Gh} {s t : List Blk} (H : ShH n m s t) : ∀ (xs : List X) (vs : List Value), RelXs g s (shXs n m xs) vs → RelXs (shG n m g) t xs vs
  | [], _, r => by simp only [shXs, RelXs] at r ⊢; exact r
  | x :: xs, _, r => by
    simp only [shXs, RelXs] at r ⊢
    obtain ⟨u, us, rfl, h1, h2⟩ := r
    exact ⟨u, us, rfl, shX_ok H x u h1, shXs_ok H xs us h2⟩
end

def shR (n m : Nat) (r : List (Nat × X)) : List (Nat × X) := r.map fun p => (p.1, shX n m p.2)
theorem lk_shR (n m : Nat) : ∀ (r : List (Nat × X)) (t : Nat), lk (shR n m r) t = shX n m (lk r t)
  | [], t => by simp [shR, lk, shX]
  | (k, x) :: l, t => by
    have := lk_shR n m l t
    simp only [shR, List.map_cons, lk] at this ⊢
    split
    · rfl
    · exact this
/-- BLOCKS IN THE MIDDLE ARE TAKEN OUT -/
theorem Weak.mid {bs : Base} {N n m : Nat} {s t : List Blk} {r : List (Nat × X)} (H : ShH n m s t) (hl : bs.h0.length ≤ n) : Weak bs ⟨N, shR n m r, s⟩ ⟨N, r, t⟩ := by
  rintro a w ⟨g, R⟩
  refine ⟨shG n m g, ⟨R.ext.S, fun id b hb => ?_, R.ext.marks⟩, ?_, R.defers, R.size, fun t' => shX_ok H _ _ (by rw [← lk_shR]; exact R.slot t')⟩
  · obtain ⟨b', h1, h2⟩ := R.ext.blk id b hb
    have hi : shN n m id = id := shN_lt (Nat.lt_of_lt_of_le (lt_of_get hb) hl)
    have k := H.1 id
    rw [hi] at k
    rw [h1] at k
    cases e : t[id]? with
    | none => simp [e] at k
    | some b2 =>
      simp only [e, Option.map_some] at k; cases k
      rw [shB_ver, shB_isBox] at h2
      refine ⟨b2, rfl, h2.1, h2.2.1, fun q => ?_⟩
      have := h2.2.2 q
      simpa [shG, hi] using this
  · have K := R.heap
    refine ⟨K.stable, fun id b hb => ?_, fun i j hi hj h1 h2 he => shN_inj (K.inj _ _ (H.2 i hi) (H.2 j hj) h1 h2 he), fun i hi h1 => K.loc _ (H.2 i hi) h1, K.os, K.tape, K.output, K.size, K.frame, K.stab, K.gl, K.marks⟩
    have hB := K.blk (shN n m id) (shB n m b) (by rw [H.1, hb]; rfl)
    cases b with
    | box ty cells =>
      obtain ⟨h1, h2, h3, cs, h4, h5⟩ := hB
      exact ⟨h1, h2, h3, cs, h4, shXs_ok H _ _ h5⟩
    | sl => exact hB
    | slx ty v sz k cells =>
      obtain ⟨h1, h2, h3⟩ := hB
      rw [shXs_len] at h2
      refine ⟨h1, h2, ?_⟩
      rcases h3 with h3 | ⟨a1, a2, cap, cur, a3, a4, a5, a6, a7, a8, a9⟩
      · exact .inl h3
      · exact .inr ⟨a1, a2, cap, cur, a3, a4, a5, a6, a7, shXs_ok H _ _ a8, a9⟩
    | obj => exact hB
    | mp => exact hB
    | sb => exact hB
    | gone => exact hB
    | hid => exact hB
theorem RetTo.mid {bs : Base} {R : X → List Blk → Prop} {s : List Blk} {x : X} {n m : Nat} (y : X) (t : List Blk) (H : ShH n m s t) (hl : bs.h0.length ≤ n) (e : x = shX n m y) (hr : R y t) : RetTo bs R s x :=
  ⟨y, t, hr, by subst e; exact Weak.mid (r := [(0, y)]) H hl⟩
theorem RetTo.drop {bs : Base} {R : X → List Blk → Prop} {h ex : List Blk} {x : X} (hc : ClosedH h) (hl : bs.h0.length ≤ h.length) (hx : refsX h.length x) (hr : R x h) : RetTo bs R (h ++ ex) x :=
  ⟨x, h, hr, Weak.drop hc hl ⟨by simp [lk], trivial⟩ ⟨hx, trivial⟩⟩
mutual
theorem refsX_mono {n m : Nat} (h : n ≤ m) : ∀ x : X, refsX n x → refsX m x
  | .tup xs, k => by simp only [refsX] at k ⊢; exact refsXs_mono h xs k
  | .recd xs, k => by simp only [refsX] at k ⊢; exact refsXs_mono h xs k
  | .clos f xs, k => by simp only [refsX] at k ⊢; exact refsXs_mono h xs k
  | .ifb c x, k => by simp only [refsX] at k ⊢; exact refsX_mono h x k
  | .ref i v, k => by simp only [refsX] at k ⊢; omega
  | .view i v o q, k => by simp only [refsX] at k ⊢; omega
  | .ptr i v o, k => by simp only [refsX] at k ⊢; omega
  | .yld i, k => by simp only [refsX] at k ⊢; omega
  | .mp i, k => by simp only [refsX] at k ⊢; omega
  | .dead, _ => by simp
  | .val c, _ => by simp
  | .agg cs, _ => by simp
  | .nil, _ => by simp
  | .ex s k cs, _ => by simp
  | .fptr cs, _ => by simp
theorem refsXs_mono {n m : Nat} (h : n ≤ m) : ∀ xs : List X, refsXs n xs → refsXs m xs
  | [], _ => by simp
  | x :: xs, k => by simp only [refsXs] at k ⊢; exact ⟨refsX_mono h x k.1, refsXs_mono h xs k.2⟩
end
theorem ClosedH.set {h : List Blk} (hc : ClosedH h) (i : Nat) {b : Blk} (k : refsB h.length b) : ClosedH (h.set i b) := fun id c e => by
  rw [List.length_set]
  rw [List.getElem?_set] at e
  split at e
  · split at e
    · cases e; exact k
    · cases e
  · exact hc id c e
end Fen

/- Part 52: a record built with its nil parts nil. -/
namespace Fen
open Go Go.RowKit
section
variable {P : Program} {T : TT} {bs : Base} {ops : Array Oper} {dst : Option Tmp} {ty : TypeId} {pos : String} {af : Array Edge} {st : St} {K : St → Prop}
def effK (st : St) (dst : Option Tmp) (K : St → Prop) : Option Eff → Prop
  | some e => e.pre ∧ K (st.put dst e.x e.h)
  | none => False
@[simp] theorem effK_some (e : Eff) : effK st dst K (some e) = (e.pre ∧ K (st.put dst e.x e.h)) := rfl
@[congr] theorem effK_congr {e e' : Option Eff} (h : e = e') : effK st dst K e = effK st dst K e' := by rw [h]
end
end Fen

/- Part 53: a slice built as one's own; []byte(x) of a slice of bytes of one's own. -/
namespace Fen
open Go Go.RowKit
section
variable {P : Program} {T : TT} {bs : Base} {ops : Array Oper} {dst : Option Tmp} {ty : TypeId} {pos : String} {af : Array Edge} {st : St} {K : St → Prop}
end
end Fen

/- Part 54: a cell of a slice of live cells comes to hold its slice's value. -/
namespace Fen
open Go Go.RowKit
section
variable {bs : Base} {g : Gh} {h : List Blk} {w : World}
theorem HeapOK.reslx (H : HeapOK bs g h w) {id : Nat} {ty : TypeId} {v sz n : Nat} {xs ys : List X} (hb : h[id]? = some (.slx ty v sz n xs)) (hln : ys.length = xs.length) (hr : ∀ vs, RelXs g h xs vs → RelXs g h ys vs) :
    Ext g h g (h.set id (.slx ty v sz n ys)) ∧ HeapOK bs g (h.set id (.slx ty v sz n ys)) w := by
  have E : Ext g h g (h.set id (.slx ty v sz n ys)) := Ext.recd g hb rfl rfl
  refine ⟨E, ⟨H.stable, fun i k hi => ?_, fun i j hi hj => H.inj i j (by simpa using hi) (by simpa using hj), fun i hi => H.loc i (by simpa using hi), H.os, H.tape, H.output, H.size, H.frame, H.stab, H.gl, H.marks⟩⟩
  rcases set_get hi with ⟨rfl, _, rfl⟩ | ⟨hne, hi'⟩
  · have k := H.blk _ _ hb
    simp only [BlkOK] at k ⊢
    obtain ⟨k0, kl, k⟩ := k
    refine ⟨k0, hln.trans kl, ?_⟩
    rcases k with k | ⟨he, ha, cap, cur, h1, h2, h3, h4, h5, h6, h7⟩
    · exact .inl k
    · exact .inr ⟨he, ha, cap, cur, h1, h2, h3, h4, h5, RelXs.mono E _ _ (hr _ h6), h7⟩
  · exact (H.blk i k hi').mono E rfl rfl rfl fun _ _ => ⟨rfl, fun _ => rfl⟩
theorem Weak.solidX {n : Nat} {r : List (Nat × X)} (i j k : Nat) {ty ty' : TypeId} {v0 sz0 n0 : Nat} {xs : List X} {ver sz m : Nat} {p : Bool} {cs : List C} (hb : h[i]? = some (.slx ty v0 sz0 n0 xs)) (hk : xs[k]? = some (.ref j ver)) (hj : h[j]? = some (.sl ty' ver p sz m cs)) :
    Weak bs ⟨n, r, h⟩ ⟨n, r, (h.set j (.sl ty' ver false sz m cs)).set i (.slx ty v0 sz0 n0 (xs.set k (.val (.sl m cs))))⟩ := by
  intro a w ⟨g, R⟩
  have H := R.heap
  have hne : i ≠ j := by rintro rfl; rw [hj] at hb; cases hb
  have k0 := H.blk i _ hb
  simp only [BlkOK] at k0
  obtain ⟨z0, zl, k0⟩ := k0
  rcases k0 with ⟨_, hn0, _⟩ | ⟨_, _, _, cur, _, _, _, _, _, k5, _⟩
  · have := (List.getElem?_eq_some_iff.1 hk).1
    rw [zl, hn0] at this
    omega
  obtain ⟨u, _, hu⟩ := k5.at hk
  have e : toV1 h (.ref j ver) = some (.c (.sl m cs), h.set j (.sl ty' ver false sz m cs)) := by simp only [toV1, hj, if_true]
  obtain ⟨S', E, H', hrep⟩ := toV1_ok H hu e
  have hb1 : (h.set j (.sl ty' ver false sz m cs))[i]? = some (.slx ty v0 sz0 n0 xs) := by rw [get_set_ne hne]; exact hb
  have hu0 : u = g.hd j := by
    simp only [RelX] at hu
    obtain ⟨b, h1, _, _, _, h2⟩ := hu
    rw [hj] at h1; cases h1
    exact h2 rfl
  obtain ⟨E2, H2⟩ := H'.reslx (ys := xs.set k (.val (.sl m cs))) hb1 (by simp) fun vs hvs => by
    obtain ⟨v, hv, hv2⟩ := hvs.at hk
    have hv0 : v = g.hd j := by
      simp only [RelX] at hv2
      obtain ⟨b, h1, _, _, _, h2⟩ := hv2
      rw [get_set_eq (lt_of_get hj)] at h1; cases h1
      exact h2 rfl
    have q := RelXs.set (.val (.sl m cs)) v (by simp only [RelX]; rw [hv0, ← hu0]; exact hrep) k hvs
    have : vs.set k v = vs := by
      refine List.ext_getElem? fun t => ?_
      rw [List.getElem?_set]
      split
      · rename_i c
        subst c
        rw [hv]
        simp [(List.getElem?_eq_some_iff.1 hv).1]
      · rfl
    rwa [this] at q
  exact ⟨_, (R.ext.trans E).trans E2, H2, R.defers, R.size, fun t => RelX.mono E2 _ _ (RelX.mono E _ _ (R.slot t))⟩
end
end Fen

/- Part 55: a slice literal of values as a block of one's own. -/
namespace Fen
open Go Go.RowKit
section
variable {bs : Base} {g : Gh} {h : List Blk} {w : World}
end
section
variable {P : Program} {T : TT} {bs : Base} {ops : Array Oper} {dst : Option Tmp} {ty : TypeId} {pos : String} {af : Array Edge} {st : St} {K : St → Prop}
end
end Fen

/- Part 56: maps of numbers: made, filled with new keys, looked up. -/
namespace Fen
open Go Go.RowKit
section
variable {P : Program} {T : TT} {bs : Base} {ops : Array Oper} {dst : Option Tmp} {ty : TypeId} {pos : String} {af : Array Edge} {st : St} {K : St → Prop}
variable {g : Gh} {h : List Blk} {w : World}
end
section
variable (T : TT) (G : Specs) (gd : Bool) (ev : Operand → X) (h : List Blk) (t : Nat)
@[simp] theorem opX_makeMap (r : Option Operand) : opX T G gd ev h (.makeMap t r) = none := rfl
@[simp] theorem opX_mapUpdate (m k x : Operand) : opX T G gd ev h (.mapUpdate t m k x) = none := rfl
@[simp] theorem opX_lookup (m k : Operand) (b : Bool) : opX T G gd ev h (.lookup t m k b) = none := rfl
@[simp] theorem strip_mapnil : strip (constX (Value.map none)) = (true, .dead) := rfl
end
end Fen

/- Part 57: []byte(s) as memory of one's own: made, its length, written, and frozen. -/
namespace Fen
open Go Go.RowKit
section
variable {P : Program} {T : TT} {bs : Base} {ops : Array Oper} {dst : Option Tmp} {ty : TypeId} {pos : String} {af : Array Edge} {st : St} {K : St → Prop}
variable {g : Gh} {h : List Blk} {w : World}
end
section
variable (h : List Blk) (id off : Nat)
@[simp] theorem slOf_mp : slOf h (.mp id) = none := rfl
@[simp] theorem lenX_mp : lenX h (.mp id) = none := rfl
@[simp] theorem iaS_mp (n : Int) (ti : TI) : iaS h n (.mp id) (some ti) = none := rfl
@[simp] theorem stP_sb (x : X) (v o e n : Nat) (ti : TI) (cs : List C) : stP h x id v o (some ti) (some (.sb e n cs)) = none := rfl
@[simp] theorem lnY_none2 : lnY h none none = none := rfl
end
end Fen

/- Part 58: yield, with blocks of the iterator's own behind the caller's heap. -/
namespace Fen
open Go Go.RowKit
/-- boxes of plain values -/
def plainBoxes : List Blk → Prop
  | [] => True
  | .box _ cells :: l => (∀ x ∈ cells, ∃ c, x = .val c) ∧ plainBoxes l
  | _ :: _ => False
@[simp] theorem plainBoxes_nil : plainBoxes [] = True := rfl
@[simp] theorem plainBoxes_box (ty : TypeId) (cells : List X) (l : List Blk) : plainBoxes (.box ty cells :: l) = ((∀ x ∈ cells, ∃ c, x = .val c) ∧ plainBoxes l) := rfl
theorem plainBoxes_at : ∀ {l : List Blk}, plainBoxes l → ∀ (i : Nat) (b : Blk), l[i]? = some b → ∃ ty cells, b = .box ty cells ∧ ∀ x ∈ cells, ∃ c, x = .val c
  | [], _, i, b, e => by simp at e
  | .box ty cells :: l, h, 0, b, e => by simp at e; subst e; exact ⟨ty, cells, rfl, h.1⟩
  | .box ty cells :: l, h, i + 1, b, e => plainBoxes_at h.2 i b (by simpa using e)
/-- slots when the caller's heap has grown from m blocks to m' -/
def mvX (m m' : Nat) : X → X
  | .ptr id v off => if m ≤ id then .ptr (id - m + m') v off else .ptr id v off
  | x => x
def mvR (m m' : Nat) : List (Nat × X) → List (Nat × X)
  | [] => []
  | (t, x) :: l => (t, mvX m m' x) :: mvR m m' l
/-- a slot names the caller's heap, or a box behind it -/
def okS (m e : Nat) : X → Prop
  | .ptr id v _ => id < m ∨ (id < m + e ∧ v = 0)
  | x => refsX m x
def okR (m e : Nat) : List (Nat × X) → Prop
  | [] => True
  | (_, x) :: l => okS m e x ∧ okR m e l
theorem mvR_at (m m' : Nat) : ∀ (r : List (Nat × X)) (t : Nat), lk (mvR m m' r) t = mvX m m' (lk r t)
  | [], t => rfl
  | (k, x) :: l, t => by
    simp only [mvR, lk]
    split
    · rfl
    · exact mvR_at m m' l t
theorem okR_at {m e : Nat} : ∀ {r : List (Nat × X)}, okR m e r → ∀ t, okS m e (lk r t)
  | [], _, t => by simp [lk, okS, refsX]
  | (k, x) :: l, h, t => by
    simp only [lk]
    split
    · exact h.1
    · exact okR_at h.2 t
theorem HeapOK.cutH {bs : Base} {g : Gh} {h ex : List Blk} {w : World} (H : HeapOK bs g (h ++ ex) w) (hc : ClosedH h) : HeapOK bs g h w := by
  have at_ : ∀ {id : Nat} {b : Blk}, h[id]? = some b → (h ++ ex)[id]? = some b := fun {id b} e => by rw [List.getElem?_append_left (lt_of_get e)]; exact e
  refine ⟨H.stable, fun id b hb => ?_, fun i j hi hj => H.inj i j (Nat.lt_of_lt_of_le hi (by simp)) (Nat.lt_of_lt_of_le hj (by simp)), fun i hi => H.loc i (Nat.lt_of_lt_of_le hi (by simp)), H.os, H.tape, H.output, H.size, H.frame, H.stab, H.gl, H.marks⟩
  have hB := H.blk id b (at_ hb)
  have hk := hc id b hb
  cases b with
  | box ty cells =>
    obtain ⟨h1, h2, h3, cs, h4, h5⟩ := hB
    exact ⟨h1, h2, h3, cs, h4, RelXs.cut _ _ hk h5⟩
  | sl => exact hB
  | slx ty v sz n cells =>
    obtain ⟨h1, h2, h3⟩ := hB
    refine ⟨h1, h2, ?_⟩
    rcases h3 with h3 | ⟨a1, a2, cap, cur, a3, a4, a5, a6, a7, a8, a9⟩
    · exact .inl h3
    · exact .inr ⟨a1, a2, cap, cur, a3, a4, a5, a6, a7, RelXs.cut _ _ hk a8, a9⟩
  | obj => exact hB
  | gone => exact hB
  | hid => exact hB
  | mp => exact hB
  | sb => exact hB
theorem RelXs.vals {S : Stab} : ∀ {xs : List X} {vs : List Value} (g g' : Gh) (h h' : List Blk), (∀ b o v, g.S b o = some v → g'.S b o = some v) → (∀ x ∈ xs, ∃ c, x = .val c) → RelXs g h xs vs → RelXs g' h' xs vs
  | [], vs, g, g', h, h', _, _, r => by simpa only [RelXs] using r
  | x :: xs, vs, g, g', h, h', E, hx, r => by
    obtain ⟨c, rfl⟩ := hx _ (List.mem_cons_self ..)
    obtain ⟨u, us, rfl, h1, h2⟩ := r
    refine ⟨u, us, rfl, ?_, RelXs.vals (S := S) g g' h h' E (fun y hy => hx y (List.mem_cons_of_mem _ hy)) h2⟩
    simp only [RelX] at h1 ⊢
    exact RepV.mono E _ _ h1
section
variable {P : Program} {bs : Base}
/-- a call of yield: the boxes behind the caller's heap stay as they are -/
theorem OpW.yieldK {ops : Array Oper} {dst : Option Tmp} {ty : TypeId} {pos : String} {af : Array Edge} {n0 : Nat} {r : List (Nat × X)} {h ex : List Blk} {K : St → Prop} {id : Nat} {seq : List (List V)} {I : Nat → List Blk → Prop} {Ix : List Blk → Prop} (hy : YOK P bs id seq I Ix) {y : Operand} {as : Array Operand} {ts : Array TypeId}
    (n : Nat) (args : List V) (hev : evO bs.gl r y = .yld id) (hI : I n h) (hq : ∃ q, h[id]? = some (.obj q)) (hcl : ClosedH h) (hln : bs.h0.length ≤ h.length) (hbx : plainBoxes ex) (hr : okR h.length ex.length r)
    (hseq : seq[n]? = some args) (hargs : toVs (h ++ ex) (as.toList.map (evO bs.gl r)) = some (args, h ++ ex)) (hpl : (as.toList.map (evO bs.gl r)).all plainX = true)
    (hd : dstOK n0 dst) (h1 : ∀ h', I (n + 1) h' → h.length ≤ h'.length → K ((⟨n0, mvR h.length h'.length r, h' ++ ex⟩ : St).put dst (.val (.bool true)) (h' ++ ex)))
    (h2 : ∀ h', Ix h' → K ((⟨n0, [], h'⟩ : St).put dst (.val (.bool false)) h')) : OpW P bs ops ⟨dst, .call { callee := .value y, args := as, argTypes := ts }, ty, pos, af, none⟩ ⟨n0, r, h ++ ex⟩ K := by
  intro a w Q ⟨g, R⟩
  rw [if_pos (by simp [Region.wanted])]
  have hv := R.ev y
  rw [show evO bs.gl (⟨n0, r, h ++ ex⟩ : St).r y = .yld id from hev] at hv
  simp only [RelX] at hv
  obtain ⟨b, hb, _, _, hv⟩ := hv
  obtain ⟨q, hq⟩ := hq
  rw [List.getElem?_append_left (lt_of_get hq), hq] at hb; cases hb
  have hv := hv rfl
  have hrs : RelXs g (h ++ ex) (as.toList.map (evO bs.gl r)) (as.toList.map a.eval) := relXs_map fun x _ => R.ev x
  obtain ⟨as', has⟩ := toVs_plain hpl
  have e0 : as' = args := by have := has (h ++ ex); rw [hargs] at this; cases this; rfl
  subst e0
  obtain ⟨S', E, H', ra⟩ := toVs_ok R.heap hrs (has (h ++ ex))
  obtain ⟨g1, hg1⟩ : ∃ g1 : Gh, { g with S := S' } = g1 := ⟨_, rfl⟩
  have had : g1.ad = g.ad := by rw [← hg1]
  rw [hg1] at E H'
  have ra : RepAs g1.S as' (as.toList.map a.eval) := by rw [← hg1]; exact ra
  have Hh := H'.cutH hcl
  have hlt : ∀ {i : Nat} {b : Blk}, bs.h0[i]? = some b → i < h.length := fun e => Nat.lt_of_lt_of_le (lt_of_get e) hln
  have E1 : Ext bs.g0 bs.h0 g1 h := by
    have k := R.ext.trans E
    refine ⟨k.S, fun i b hb => ?_, k.marks⟩
    obtain ⟨b', q1, q2⟩ := k.blk i b hb
    rw [List.getElem?_append_left (hlt hb)] at q1
    exact ⟨b', q1, q2⟩
  have hcall := hy (baseH g1 h w bs.gl) rfl n as' h g1 w (as.toList.map a.eval) hseq hI E1 Hh.inner ra
  obtain ⟨fn, tmps, assign, body, hrun, hround⟩ := hcall
  rw [had] at hrun hround
  have hrun' : (execOp a.eval ⟨dst, .call { callee := .value y, args := as, argTypes := ts }, ty, pos, af, none⟩).run P w = .ok (.round (g.ad id).1 fn tmps assign body) w := by
    have hm : (as.toList.map a.eval).toArray = as.map a.eval := by apply Array.ext'; simp
    rw [hm] at hrun
    simp only [execOp, resolve, hv, Deferred.ofValue, invoke, Sem.run_bind, Sem.run_pure, Result.andThen_ok, Array.append_empty, Array.empty_append]
    exact hrun
  refine ⟨fun _ _ => trivial, ?_⟩
  rw [semAt_of hrun' (by simp), Oper.uponIn_round]
  refine ⟨fun h => (by simp [fen, Fence.wide] at h), RoundIn.mono (F := fen bs.ro) (R := fun en w' => ∃ b h' g', en = .returned (.bool b) ∧ Ext g1 h g' h' ∧ HeapOK (baseH g1 h w bs.gl) g' h' w' ∧ (b = true → I (n + 1) h') ∧ (b = false → Ix h')) hround ?_⟩
  rintro en w' ⟨bb, h', g', rfl, E2, H2, k1, k2⟩
  have hd' : ∀ t, dst = some t → t < n0 := fun t ht => by rw [ht] at hd; exact hd
  have Ho := Hh.outer H2
  have hle : h.length ≤ h'.length := by
    rcases Nat.lt_or_ge h'.length h.length with c | c
    · exfalso
      obtain ⟨b', q1, _⟩ := E2.blk h'.length h[h'.length] (List.getElem?_eq_getElem c)
      simp at q1
    · exact c
  -- the ghost of the longer heap
  obtain ⟨g2, hg2⟩ : ∃ g2 : Gh, g2 = { g' with ad := fun i => if i < h'.length then g'.ad i else g1.ad (i - h'.length + h.length), hd := fun i => if i < h'.length then g'.hd i else g1.hd (i - h'.length + h.length), ex := fun i => if i < h'.length then g'.ex i else g1.ex (i - h'.length + h.length) } := ⟨_, rfl⟩
  have gS : g2.S = g'.S := by rw [hg2]
  have gM : g2.marks = g'.marks := by rw [hg2]
  have adl : ∀ i, i < h'.length → g2.ad i = g'.ad i := fun i hi => by rw [hg2]; simp [hi]
  have hdl : ∀ i, i < h'.length → g2.hd i = g'.hd i := fun i hi => by rw [hg2]; simp [hi]
  have exl : ∀ i, i < h'.length → g2.ex i = g'.ex i := fun i hi => by rw [hg2]; simp [hi]
  have adr : ∀ i, g2.ad (h'.length + i) = g1.ad (h.length + i) := fun i => by rw [hg2]; simp only; rw [if_neg (by omega), show h'.length + i - h'.length + h.length = h.length + i by omega]
  have exr : ∀ i, g2.ex (h'.length + i) = g1.ex (h.length + i) := fun i => by rw [hg2]; simp only; rw [if_neg (by omega), show h'.length + i - h'.length + h.length = h.length + i by omega]
  -- the boxes behind
  have hbox : ∀ i b, ex[i]? = some b → ∃ ty cells cs, b = .box ty cells ∧ (∀ x ∈ cells, ∃ c, x = .val c) ∧ g1.ex (h.length + i) = true ∧ (g1.ad (h.length + i)).2 = 0 ∧ (∀ o, g1.S (g1.ad (h.length + i)).1 o = none) ∧
      w.heap[(g1.ad (h.length + i)).1]? = some (.cells cs ty (0, 0)) ∧ RelXs g1 (h ++ ex) cells cs.toList := fun i b hb => by
    obtain ⟨ty, cells, rfl, hc⟩ := plainBoxes_at hbx i b hb
    have := H'.blk (h.length + i) _ (by rw [List.getElem?_append_right (by omega), Nat.add_sub_cancel_left]; exact hb)
    obtain ⟨a1, a2, a3, cs, a4, a5⟩ := this
    exact ⟨ty, cells, cs, rfl, hc, a1, a2, a3, a4, a5⟩
  have hout : ∀ i b, ex[i]? = some b → (g1.ad (h.length + i)).1 < w.heap.size ∧ ¬ (baseH g1 h w bs.gl).own (g1.ad (h.length + i)).1 := fun i b hb => by
    obtain ⟨ty, cells, cs, _, _, a1, _, _, a4, _⟩ := hbox i b hb
    refine ⟨(Array.getElem?_eq_some_iff.1 a4).1, ?_⟩
    rintro ⟨j, hj, hje, e⟩
    have := H'.inj j (h.length + i) (by simp; omega) (by have := lt_of_get hb; simp; omega) hje a1 e
    omega
  have X0 : Ext0 g' h' g2 (h' ++ ex) := ⟨fun b o v hv => by rw [gS]; exact hv, fun i b hb => ⟨b, by rw [List.getElem?_append_left (lt_of_get hb)]; exact hb, rfl, Nat.le_refl _, fun _ => ⟨adl i (lt_of_get hb), hdl i (lt_of_get hb)⟩⟩⟩
  have HH : HeapOK bs g2 (h' ++ ex) w' := by
    refine ⟨fun b o v hv => Ho.stable b o v (by rw [← gS]; exact hv), fun i b hb => ?_, fun i j hi hj hei hej e => ?_, fun i hi he => ?_, Ho.os, Ho.tape, Ho.output, Ho.size, Ho.frame, fun b o h1 h2 => by rw [gS]; exact Ho.stab b o h1 h2, fun k cs hk => by rw [gS]; exact Ho.gl k cs hk, fun m hm => Ho.marks m (by rw [← gM]; exact hm)⟩
    · rcases Nat.lt_or_ge i h'.length with c | c
      · rw [List.getElem?_append_left c] at hb
        exact (Ho.blk i b hb).mono0 X0 (adl i c) (hdl i c) (exl i c) fun _ _ => ⟨rfl, fun o => by rw [gS]⟩
      · obtain ⟨j, rfl⟩ : ∃ j, i = h'.length + j := ⟨i - h'.length, by omega⟩
        rw [List.getElem?_append_right c, Nat.add_sub_cancel_left] at hb
        obtain ⟨ty, cells, cs, rfl, hc, a1, a2, a3, a4, a5⟩ := hbox j b hb
        obtain ⟨o1, o2⟩ := hout j _ hb
        refine ⟨by rw [exr]; exact a1, by rw [adr]; exact a2, fun o => ?_, cs, ?_, ?_⟩
        · rw [adr, gS, H2.stab _ o o1 o2]; exact a3 o
        · rw [adr, H2.frame _ o1 o2]; exact a4
        · exact RelXs.vals (S := g1.S) g1 g2 _ _ (fun b o v hv => by rw [gS]; exact E2.S b o v hv) hc a5
    · rcases Nat.lt_or_ge i h'.length with c | c <;> rcases Nat.lt_or_ge j h'.length with d | d
      · rw [adl i c, adl j d] at e
        rw [exl i c] at hei
        rw [exl j d] at hej
        exact Ho.inj i j c d hei hej e
      · exfalso
        obtain ⟨j', rfl⟩ : ∃ j', j = h'.length + j' := ⟨j - h'.length, by omega⟩
        simp only [List.length_append] at hj
        have hb := List.getElem?_eq_getElem (l := ex) (i := j') (by omega)
        obtain ⟨o1, o2⟩ := hout j' _ hb
        rw [adl i c, adr] at e
        rw [exl i c] at hei
        rcases H2.loc i c hei with q | q
        · have q' : w.heap.size ≤ (g'.ad i).1 := q
          omega
        · rw [e] at q; exact o2 q
      · exfalso
        obtain ⟨i', rfl⟩ : ∃ i', i = h'.length + i' := ⟨i - h'.length, by omega⟩
        simp only [List.length_append] at hi
        have hb := List.getElem?_eq_getElem (l := ex) (i := i') (by omega)
        obtain ⟨o1, o2⟩ := hout i' _ hb
        rw [adl j d, adr] at e
        rw [exl j d] at hej
        rcases H2.loc j d hej with q | q
        · have q' : w.heap.size ≤ (g'.ad j).1 := q
          omega
        · rw [← e] at q; exact o2 q
      · obtain ⟨i', rfl⟩ : ∃ i', i = h'.length + i' := ⟨i - h'.length, by omega⟩
        obtain ⟨j', rfl⟩ : ∃ j', j = h'.length + j' := ⟨j - h'.length, by omega⟩
        simp only [List.length_append] at hi hj
        rw [adr, adr] at e
        rw [exr] at hei hej
        have := H'.inj (h.length + i') (h.length + j') (by simp; omega) (by simp; omega) hei hej e
        omega
    · rcases Nat.lt_or_ge i h'.length with c | c
      · rw [adl i c]; exact Ho.loc i c (by rw [← exl i c]; exact he)
      · obtain ⟨i', rfl⟩ : ∃ i', i = h'.length + i' := ⟨i - h'.length, by omega⟩
        simp only [List.length_append] at hi
        rw [adr]
        exact H'.loc (h.length + i') (by simp; omega) (by rw [← exr]; exact he)
  have EX : Ext g1 h g2 (h' ++ ex) := by
    refine ⟨fun b o v hv => by rw [gS]; exact E2.S b o v hv, fun i b hb => ?_, fun m hm => by rw [gM]; exact E2.marks m hm⟩
    obtain ⟨b', q1, q2, q3, q4⟩ := E2.blk i b hb
    have hi : i < h'.length := lt_of_get q1
    exact ⟨b', by rw [List.getElem?_append_left hi]; exact q1, q2, q3, fun e => ⟨(adl i hi).trans (q4 e).1, (hdl i hi).trans (q4 e).2⟩⟩
  have R1 : ∀ t, RelX g1 (h ++ ex) (lk r t) (a.tmps.getD t undef) := fun t => RelX.mono E _ _ (R.slot t)
  have hm := R.defers
  have R2 : RelG bs ⟨n0, mvR h.length h'.length r, h' ++ ex⟩ a w' g2 := by
    refine ⟨E1.trans EX, HH, defers_mono (fun m hm => ?_) R.defers, R.size, fun t => ?_⟩
    · rw [gM]; exact E2.marks m (E.marks m hm)
    · rw [mvR_at]
      have hs := okR_at hr t
      have hx := R1 t
      generalize lk r t = x at hs hx
      have low : refsX h.length x → RelX g2 (h' ++ ex) x (a.tmps.getD t undef) := fun q => RelX.mono EX _ _ (RelX.cut x _ q hx)
      cases x with
      | ptr i v off =>
        simp only [mvX]
        split
        · rename_i c
          simp only [okS] at hs
          obtain ⟨j, rfl⟩ : ∃ j, i = h.length + j := ⟨i - h.length, by omega⟩
          rcases hs with hs | ⟨hs, rfl⟩
          · omega
          have hb := List.getElem?_eq_getElem (l := ex) (i := j) (by omega)
          obtain ⟨ty, cells, cs, hbe, _⟩ := hbox j _ hb
          simp only [RelX] at hx ⊢
          obtain ⟨b, q1, q2, q3, q4⟩ := hx
          rw [List.getElem?_append_right (by omega), Nat.add_sub_cancel_left, hb] at q1
          cases q1
          refine ⟨ex[j], ?_, q2, q3, fun e => ?_⟩
          · rw [Nat.add_sub_cancel_left, Nat.add_comm, List.getElem?_append_right (by omega), Nat.add_sub_cancel_left, hb]
          · rw [Nat.add_sub_cancel_left, Nat.add_comm, adr]; exact q4 e
        · rename_i c
          refine low ?_
          simp only [okS] at hs
          simp only [refsX]
          omega
      | _ => exact low hs
  have A : After bs g2 (h' ++ ex) ⟨True, .val (.bool bb), .write, h' ++ ex⟩ (.bool bb) w' := ⟨g2, Ext.refl _ _, HH, rel_bool.2 rfl⟩
  have R3 := R2.put A dst hd'
  have R4 : RelG bs ⟨n0, [], h'⟩ a w' g' := ⟨E1.trans E2, Ho, defers_mono (fun m hm => E2.marks m (E.marks m hm)) R.defers, R.size, fun t => by simp [lk, RelX]⟩
  have A4 : After bs g' h' ⟨True, .val (.bool bb), .write, h'⟩ (.bool bb) w' := ⟨g', Ext.refl _ _, Ho, rel_bool.2 rfl⟩
  have R5 := R4.put A4 dst hd'
  cases bb with
  | true => exact ⟨_, h1 h' (k1 rfl) hle, R3⟩
  | false => exact ⟨_, h2 h' (k2 rfl), R5⟩
end
section
variable (m m' e : Nat) (t : Nat) (x : X) (l : List (Nat × X)) (id v off : Nat)
@[simp] theorem mvR_nil : mvR m m' [] = [] := rfl
@[simp] theorem mvR_cons : mvR m m' ((t, x) :: l) = (t, mvX m m' x) :: mvR m m' l := rfl
@[simp] theorem okR_nil : okR m e [] = True := rfl
@[simp] theorem okR_cons : okR m e ((t, x) :: l) = (okS m e x ∧ okR m e l) := rfl
@[simp] theorem mvX_ptr : mvX m m' (.ptr id v off) = if m ≤ id then .ptr (id - m + m') v off else .ptr id v off := rfl
@[simp] theorem mvX_val (c : C) : mvX m m' (.val c) = .val c := rfl
@[simp] theorem mvX_dead : mvX m m' .dead = .dead := rfl
@[simp] theorem mvX_nil : mvX m m' .nil = .nil := rfl
@[simp] theorem mvX_yld : mvX m m' (.yld id) = .yld id := rfl
@[simp] theorem mvX_fptr (cs : List C) : mvX m m' (.fptr cs) = .fptr cs := rfl
@[simp] theorem mvX_agg (cs : List C) : mvX m m' (.agg cs) = .agg cs := rfl
@[simp] theorem mvX_tup (xs : List X) : mvX m m' (.tup xs) = .tup xs := rfl
@[simp] theorem okS_ptr : okS m e (.ptr id v off) = (id < m ∨ (id < m + e ∧ v = 0)) := rfl
@[simp] theorem okS_val (c : C) : okS m e (.val c) = True := by simp [okS, refsX]
@[simp] theorem okS_dead : okS m e .dead = True := by simp [okS, refsX]
@[simp] theorem okS_nil : okS m e .nil = True := by simp [okS, refsX]
@[simp] theorem okS_yld : okS m e (.yld id) = (id < m) := by simp [okS, refsX]
@[simp] theorem okS_fptr (cs : List C) : okS m e (.fptr cs) = True := by simp [okS, refsX]
@[simp] theorem okS_agg (cs : List C) : okS m e (.agg cs) = True := by simp [okS, refsX]
end
/-- where a piece of code ends, its state may be weakened -/
def Fades (bs : Base) (Q2 : Exit → St → Prop) (e : Exit) (st : St) : Prop := ∃ S, Q2 e S ∧ Weak bs st S
theorem Fades.mk {bs : Base} {Q2 : Exit → St → Prop} {e : Exit} {st : St} (S : St) (q : Q2 e S) (hw : Weak bs st S) : Fades bs Q2 e st := ⟨S, q, hw⟩
@[congr] theorem Fades_congr {bs : Base} {Q2 : Exit → St → Prop} {e : Exit} {st st' : St} (h : st = st') : Fades bs Q2 e st = Fades bs Q2 e st' := by rw [h]
theorem AWP.fades {P : Program} {bs : Base} {c : Code} {Q : Exit → St → Prop} {st : St} (h : AWP P bs c (Fades bs Q) st) : AWP P bs c Q st :=
  fun a w R => wpIn_mono (h a w R) fun e a' w' ⟨_, ⟨S, q, hw⟩, r⟩ => ⟨S, q, hw _ _ r⟩
/-- a nil slice in a box is an empty slice of one's own -/
theorem Weak.mkEmpty {bs : Base} {n : Nat} {r : List (Nat × X)} {h : List Blk} (j k : Nat) {ty : TypeId} (e : TypeId) (sz : Nat) {xs : List X} (hs : 0 < sz) (hb : h[j]? = some (.box ty xs)) (hk : xs[k]? = some .nil) :
    Weak bs ⟨n, r, h⟩ ⟨n, r, h.set j (.box ty (xs.set k (.ref h.length 0))) ++ [.sl e 0 true sz 0 []]⟩ := by
  intro a w ⟨g, R⟩
  have H := R.heap
  have hlt := lt_of_get hb
  have H1 := H.push (.sl e 0 true sz 0 []) (0, 0) (.slice none 0 0) false (by
    simp only [BlkOK, Gh.push, if_true]
    exact ⟨hs, by simp, .inl ⟨⟨none, rfl⟩, rfl, rfl⟩⟩) (fun q => by cases q)
  have E1 := Ext.push g h (.sl e 0 true sz 0 []) (0, 0) (.slice none 0 0) false
  have hb1 : (h ++ [Blk.sl e 0 true sz 0 []])[j]? = some (.box ty xs) := by rw [List.getElem?_append_left hlt]; exact hb
  have hn : (h ++ [Blk.sl e 0 true sz 0 []])[h.length]? = some (.sl e 0 true sz 0 []) := by simp
  obtain ⟨E2, H2⟩ := H1.rebox (ys := xs.set k (.ref h.length 0)) hb1 fun vs hvs => by
    obtain ⟨v, hv, hv2⟩ := hvs.at hk
    have hv0 : v = .slice none 0 0 := by simpa only [RelX] using hv2
    have q := RelXs.set (.ref h.length 0) v (by
      simp only [RelX]
      exact ⟨_, hn, rfl, Nat.le_refl _, ⟨_, _, _, hv0⟩, fun _ => by rw [hv0]; simp [Gh.push]⟩) k hvs
    have : vs.set k v = vs := by
      refine List.ext_getElem? fun t => ?_
      rw [List.getElem?_set]
      split
      · rename_i c
        subst c
        rw [hv]
        simp [(List.getElem?_eq_some_iff.1 hv).1]
      · rfl
    rwa [this] at q
  have es : (h ++ [Blk.sl e 0 true sz 0 []]).set j (.box ty (xs.set k (.ref h.length 0))) = h.set j (.box ty (xs.set k (.ref h.length 0))) ++ [.sl e 0 true sz 0 []] := by rw [List.set_append_left _ _ hlt]
  rw [es] at E2 H2
  exact ⟨_, (R.ext.trans E1).trans E2, H2, defers_mono (fun m hm => E2.marks m (E1.marks m hm)) R.defers, R.size, fun t => RelX.mono E2 _ _ (RelX.mono E1 _ _ (R.slot t))⟩
end Fen

/- Part 59: a struct of which parts lie on the private heap, loaded as such. -/
namespace Fen
open Go Go.RowKit
section
variable {P : Program} {T : TT} {bs : Base} {ops : Array Oper} {dst : Option Tmp} {ty : TypeId} {pos : String} {af : Array Edge} {st : St} {K : St → Prop}
theorem OpW.loadL (hT : TOK P T) {t : Nat} {x : Operand} {p : Prop} {y : X} (he : recL T st.h t (evO bs.gl st.r x) = some (p, y)) (hp : p) (hd : dstOK st.n dst) (hK : K (st.put dst y st.h)) : OpW P bs ops ⟨dst, .load t x, ty, pos, af, none⟩ st K := by
  refine OpW.does rfl hd y st.h (fun g a w R => ?_) hK
  obtain ⟨ad, v, had, hrun, hx⟩ := rec_same hT R.heap (R.ev x) he hp
  refine ⟨v, w, g, ?_, Ext.refl _ _, R.heap, hx⟩
  simp only [execOp, Instr.loadAt, Instr.sureAddr, Sem.run_bind, had, asAddr, Sem.run_pure, Result.andThen_ok, hrun]
end
end Fen
