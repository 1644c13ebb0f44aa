/- A part of the proof; no statement is proved here: Kora1, Kora2, Kora3, Kora4, Kora5, Kora6, Kora7, Kora8, Kora9, Kora10. -/
import Derived.WalkKit
import Derived.Orders
import Derived.Below
import Derived.Laws.AppendOwn
import Derived.Laws.CopyRow
import Derived.OrdersIn
import Derived.TacticsIn
import Derived.ChangeKeysEq
import Derived.Laws.StructEq

set_option linter.unusedVariables false
set_option linter.unusedSimpArgs false

/- An abstract-state layer over the kit's wp: values (V), slots (X), a private heap (Blk), and what they say of an Act and a World. Part 1: definitions and how the relation is carried on. -/
namespace Fen
open Go Go.RowKit

/-- cells that never turn any more -/
abbrev Stab := Nat → Nat → Option Value

/-- what one cell holds: a number, a bool, a text, nil, a slice by value, a function -/
inductive C where
  | int (k : IntKind) (n : Int)
  | bool (b : Bool)
  | str (l : List UInt8)
  | nilf
  | nilp
  | sl (n : Nat) (cs : List C)
  | fn (f : FuncId) (caps : List C)
  | ptr (cs : List C)
  deriving Inhabited

mutual
def RepV (S : Stab) : C → Value → Prop
  | .int k n, v => v = .int k n
  | .bool b, v => v = .bool b
  | .str l, v => v = .string ⟨l.toArray⟩
  | .nilf, v => v = .nilFunc
  | .nilp, v => v = .pointer none
  | .sl n cs, v => ((∃ ad, v = .slice ad 0 0) ∧ n = 0 ∧ cs = []) ∨
      ∃ b o cap vs, v = .slice (some ⟨b, o, none⟩) n cap ∧ n ≤ cap ∧ cap ≤ maxLen ∧ (∀ j u, vs[j]? = some u → S b (o + j) = some u) ∧ RepL S cs vs
  | .fn f caps, v => ∃ vs : List Value, v = .func (.func f) #[] vs.toArray ∧ RepL S caps vs
  | .ptr cs, v => ∃ b o vs, v = .pointer (some ⟨b, o, none⟩) ∧ (∀ j u, vs[j]? = some u → S b (o + j) = some u) ∧ RepL S cs vs
def RepL (S : Stab) : List C → List Value → Prop
  | [], vs => vs = []
  | c :: cs, vs => ∃ u us, vs = u :: us ∧ RepV S c u ∧ RepL S cs us
end

/-- a value: one cell, or a struct or an array by value -/
inductive V where
  | c (c : C)
  | agg (cs : List C)
  deriving Inhabited

def RepA (S : Stab) : V → Value → Prop
  | .c c, v => RepV S c v
  | .agg cs, v => ∃ vs : List Value, v = .agg vs.toArray ∧ RepL S cs vs

/-- what a slot or a variable's cell holds -/
inductive X where
  | dead
  | val (c : C)
  | agg (cs : List C)
  | nil
  | ex (sz n : Nat) (cs : List C)
  | tup (xs : List X)
  | recd (xs : List X)
  | ref (id ver : Nat)
  | view (id ver off n : Nat)
  | ptr (id ver off : Nat)
  | fptr (cs : List C)
  | clos (f : FuncId) (caps : List X)
  | ifb (c : Bool) (x : X)
  | yld (id : Nat)
  | mp (id : Nat)
  deriving Inhabited

inductive Blk where
  | box (ty : TypeId) (cells : List X)
  | sl (ty : TypeId) (ver : Nat) (p : Bool) (sz n : Nat) (cells : List C)
  | slx (ty : TypeId) (ver : Nat) (sz n : Nat) (cells : List X)
  | obj (o : Loop)
  | mp (kk vk : IntKind) (es : List (Int × Int))
  | sb (ty : TypeId) (n : Nat) (cells : List C)
  | gone (l : List C)
  | hid
  deriving Inhabited

def Blk.ver : Blk → Nat
  | .box _ _ => 0
  | .sl ty v _ _ _ _ => v
  | .slx _ v _ _ _ => v
  | .obj _ => 0
  | .mp _ _ _ => 0
  | .sb _ _ _ => 0
  | .gone _ => 0
  | .hid => 0

def Blk.isBox : Blk → Bool
  | .sl .. => false
  | .slx .. => false
  | _ => true

/-- a slice of no elements -/
def ZeroSl (v : Value) : Prop := (∃ z, v = .slice z 0 0) ∨ ∃ b o cap, v = .slice (some ⟨b, o, none⟩) 0 cap ∧ cap ≤ maxLen

/-- ghost: stable cells, and for each block of the private heap its place, its slice header, and whether its memory is its own -/
structure Gh where
  S : Stab
  ad : Nat → Nat × Nat
  hd : Nat → Value
  ex : Nat → Bool
  marks : List Nat := []

/-- a map's entries -/
def entsOK (kk vk : IntKind) (es : List (Int × Int)) (ms : Array MapEntry) : Prop := ms.toList.map (fun e => (e.key, e.val)) = es.map fun p => (Value.int kk p.1, Value.int vk p.2)

mutual
def RelX (g : Gh) (h : List Blk) : X → Value → Prop
  | .dead, _ => True
  | .val x, v => RepV g.S x v
  | .agg cs, v => ∃ vs : List Value, v = .agg vs.toArray ∧ RepL g.S cs vs
  | .nil, v => v = .slice none 0 0
  | .ex sz n cs, v => 0 < sz ∧ cs.length = n * sz ∧ (((∃ ad, v = .slice ad 0 0) ∧ n = 0) ∨
      ∃ b o vs, v = .slice (some ⟨b, o, none⟩) n n ∧ n ≤ maxLen ∧ (∀ j u, vs[j]? = some u → g.S b (o + j) = some u) ∧ RepL g.S cs vs)
  | .tup xs, v => ∃ vs : List Value, v = .tuple vs.toArray ∧ RelXs g h xs vs
  | .recd xs, v => ∃ vs : List Value, v = .agg vs.toArray ∧ RelXs g h xs vs ∧ ∀ u ∈ vs, u.oneCell' = true
  | .ref id ver, v => ∃ b, h[id]? = some b ∧ b.isBox = false ∧ ver ≤ b.ver ∧ (∃ a n c, v = .slice a n c) ∧ (ver = b.ver → v = g.hd id)
  | .view id ver off n, v => ∃ b, h[id]? = some b ∧ b.isBox = false ∧ ver ≤ b.ver ∧ (∃ a n c, v = .slice a n c) ∧ (ver = b.ver → (ZeroSl v ∧ n = 0) ∨
      ∃ cap, v = .slice (some ⟨(g.ad id).1, (g.ad id).2 + off, none⟩) n cap ∧ n ≤ cap ∧ cap ≤ maxLen)
  | .ptr id ver off, v => ∃ b, h[id]? = some b ∧ ver ≤ b.ver ∧ (∃ a, v = .pointer (some a)) ∧ (ver = b.ver → v = .pointer (some ⟨(g.ad id).1, (g.ad id).2 + off, none⟩))
  | .fptr cs, v => ∃ b o vs, v = .pointer (some ⟨b, o, none⟩) ∧ (∀ j u, vs[j]? = some u → g.S b (o + j) = some u) ∧ RepL g.S cs vs
  | .clos f caps, v => ∃ vs : List Value, v = .func (.func f) #[] vs.toArray ∧ RelXs g h caps vs
  | .ifb c x, v => (c = true → RelX g h x v) ∧ (c = false → v = .tuple #[])
  | .yld id, v => ∃ b, h[id]? = some b ∧ b.isBox = true ∧ (∃ l, v = .func (.yield l) #[] #[]) ∧ (b.ver = 0 → v = .func (.yield (g.ad id).1) #[] #[])
  | .mp id, v => ∃ b, h[id]? = some b ∧ b.isBox = true ∧ ((∃ l, v = .map (some l)) ∨ ∃ a n c, v = .slice a n c) ∧ (b.ver = 0 → v = g.hd id)
def RelXs (g : Gh) (h : List Blk) : List X → List Value → Prop
  | [], vs => vs = []
  | x :: xs, vs => ∃ u us, vs = u :: us ∧ RelX g h x u ∧ RelXs g h xs us
end

/-- a slice block of the private heap -/
def SlOK (S : Stab) (w : World) (ty : TypeId) (p : Bool) (sz n : Nat) (cells : List C) (v : Value) (ad : Nat × Nat) (ex : Bool) : Prop :=
  0 < sz ∧ cells.length = n * sz ∧
  (((∃ z, v = .slice z 0 0) ∧ n = 0 ∧ ex = false) ∨
   (ex = true ∧ ad.2 = 0 ∧ ∃ cap cur, v = .slice (some ⟨ad.1, 0, none⟩) n cap ∧ n ≤ cap ∧ cap ≤ maxLen ∧ w.heap[ad.1]? = some (.cells cur ty (0, 0)) ∧
      cur.size = cap * sz ∧ RepL S cells (cur.toList.take (n * sz)) ∧ (∀ o, S ad.1 o ≠ none → p = false ∧ o < n * sz)) ∨
   (ex = false ∧ p = false ∧ v = .slice (some ⟨ad.1, ad.2, none⟩) n n ∧ n ≤ maxLen ∧
      ∃ vs, (∀ j u, vs[j]? = some u → S ad.1 (ad.2 + j) = some u) ∧ RepL S cells vs))

/-- a slice block of one's own whose cells may lie on the private heap themselves -/
def SlxOK (g : Gh) (h : List Blk) (w : World) (ty : TypeId) (sz n : Nat) (cells : List X) (v : Value) (ad : Nat × Nat) (ex : Bool) : Prop :=
  0 < sz ∧ cells.length = n * sz ∧
  (((∃ z, v = .slice z 0 0) ∧ n = 0 ∧ ex = false) ∨
   (ex = true ∧ ad.2 = 0 ∧ ∃ cap cur, v = .slice (some ⟨ad.1, 0, none⟩) n cap ∧ n ≤ cap ∧ cap ≤ maxLen ∧ w.heap[ad.1]? = some (.cells cur ty (0, 0)) ∧
      cur.size = cap * sz ∧ RelXs g h cells (cur.toList.take (n * sz)) ∧ (∀ o, g.S ad.1 o = none)))

def BlkOK (g : Gh) (h : List Blk) (w : World) (id : Nat) : Blk → Prop
  | .box ty cells => g.ex id = true ∧ (g.ad id).2 = 0 ∧ (∀ o, g.S (g.ad id).1 o = none) ∧
      ∃ cs, w.heap[(g.ad id).1]? = some (.cells cs ty (0, 0)) ∧ RelXs g h cells cs.toList
  | .sl ty _ p sz n cells => SlOK g.S w ty p sz n cells (g.hd id) (g.ad id) (g.ex id)
  | .slx ty _ sz n cells => SlxOK g h w ty sz n cells (g.hd id) (g.ad id) (g.ex id)
  | .obj o => g.ex id = true ∧ (∀ k, g.S (g.ad id).1 k = none) ∧ w.heap[(g.ad id).1]? = some (.loop o)
  | .mp kk vk es => g.ex id = true ∧ (∀ k, g.S (g.ad id).1 k = none) ∧ g.hd id = .map (some (g.ad id).1) ∧ ∃ ms clock, w.heap[(g.ad id).1]? = some (.map ms clock) ∧ entsOK kk vk es ms
  | .sb ty n cells => g.ex id = true ∧ (g.ad id).2 = 0 ∧ (∀ k, g.S (g.ad id).1 k = none) ∧ ∃ cap cur fz, g.hd id = .slice (some ⟨(g.ad id).1, 0, none⟩) n cap ∧ n ≤ cap ∧ cap ≤ maxLen ∧ w.heap[(g.ad id).1]? = some (.cells cur ty fz) ∧ cur.size = cap ∧ cap ≤ fz.1 ∧ cells.length = n ∧ RepL g.S cells (cur.toList.take n)
  | .gone l => (g.ex id = true → (g.ad id).1 < w.heap.size) ∧ (g.ad id).2 = 0 ∧ ∃ vs : List Value, (∀ j u, vs[j]? = some u → g.S (g.ad id).1 j = some u) ∧ RepL g.S l vs
  | .hid => g.ex id = true → (g.ad id).1 < w.heap.size

/-- from one moment to a later one -/
structure Ext (g : Gh) (h : List Blk) (g' : Gh) (h' : List Blk) : Prop where
  S : ∀ b o v, g.S b o = some v → g'.S b o = some v
  blk : ∀ id b, h[id]? = some b → ∃ b', h'[id]? = some b' ∧ b.isBox = b'.isBox ∧ b.ver ≤ b'.ver ∧ (b.ver = b'.ver → g'.ad id = g.ad id ∧ g'.hd id = g.hd id)
  marks : ∀ m, m ∈ g.marks → m ∈ g'.marks

/-- .. but for the marks -/
structure Ext0 (g : Gh) (h : List Blk) (g' : Gh) (h' : List Blk) : Prop where
  S : ∀ b o v, g.S b o = some v → g'.S b o = some v
  blk : ∀ id b, h[id]? = some b → ∃ b', h'[id]? = some b' ∧ b.isBox = b'.isBox ∧ b.ver ≤ b'.ver ∧ (b.ver = b'.ver → g'.ad id = g.ad id ∧ g'.hd id = g.hd id)

theorem Ext.weak {g h g' h'} (e : Ext g h g' h') : Ext0 g h g' h' := ⟨e.S, e.blk⟩

theorem Ext.refl (g : Gh) (h : List Blk) : Ext g h g h := ⟨fun _ _ _ h => h, fun _ b hb => ⟨b, hb, rfl, Nat.le_refl _, fun _ => ⟨rfl, rfl⟩⟩, fun _ h => h⟩

theorem Ext.trans {g h g' h' g'' h''} (a : Ext g h g' h') (b : Ext g' h' g'' h'') : Ext g h g'' h'' := by
  refine ⟨fun x o v hv => b.S x o v (a.S x o v hv), fun id k hk => ?_, fun m hm => b.marks m (a.marks m hm)⟩
  obtain ⟨k1, h1, bx1, v1, e1⟩ := a.blk id k hk
  obtain ⟨k2, h2, bx2, v2, e2⟩ := b.blk id k1 h1
  refine ⟨k2, h2, bx1.trans bx2, Nat.le_trans v1 v2, fun e => ?_⟩
  have q1 : k.ver = k1.ver := by omega
  have q2 : k1.ver = k2.ver := by omega
  exact ⟨(e2 q2).1.trans (e1 q1).1, (e2 q2).2.trans (e1 q1).2⟩

mutual
theorem RepV.mono {S S' : Stab} (hS : ∀ b o v, S b o = some v → S' b o = some v) : ∀ (x : C) (v : Value), RepV S x v → RepV S' x v
  | .int _ _, _, h => by simpa only [RepV] using h
  | .bool _, _, h => by simpa only [RepV] using h
  | .str _, _, h => by simpa only [RepV] using h
  | .nilf, _, h => by simpa only [RepV] using h
  | .nilp, _, h => by simpa only [RepV] using h
  | .sl n cs, _, h => by
    simp only [RepV] at h ⊢
    rcases h with h | ⟨b, o, cap, vs, rfl, h1, h2, h3, h4⟩
    · exact .inl h
    · exact .inr ⟨b, o, cap, vs, rfl, h1, h2, fun j u hj => hS _ _ _ (h3 j u hj), RepL.mono hS cs vs h4⟩
  | .fn f caps, _, h => by
    simp only [RepV] at h ⊢
    obtain ⟨vs, rfl, hl⟩ := h
    exact ⟨vs, rfl, RepL.mono hS caps vs hl⟩
  | .ptr cs, _, h => by
    simp only [RepV] at h ⊢
    obtain ⟨b, o, vs, rfl, h3, h4⟩ := h
    exact ⟨b, o, vs, rfl, fun j u hj => hS _ _ _ (h3 j u hj), RepL.mono hS cs vs h4⟩
theorem RepL.mono {S S' : Stab} (hS : ∀ b o v, S b o = some v → S' b o = some v) : ∀ (xs : List C) (vs : List Value), RepL S xs vs → RepL S' xs vs
  | [], _, h => by simpa only [RepL] using h
  | c :: cs, _, h => by
    simp only [RepL] at h ⊢
    obtain ⟨u, us, rfl, h1, h2⟩ := h
    exact ⟨u, us, rfl, RepV.mono hS c u h1, RepL.mono hS cs us h2⟩
end

mutual
theorem RelX.mono0 {g h g' h'} (e : Ext0 g h g' h') : ∀ (x : X) (v : Value), RelX g h x v → RelX g' h' x v
  | .dead, _, _ => by simp only [RelX]
  | .val x, v, r => by simp only [RelX] at r ⊢; exact RepV.mono e.S x v r
  | .agg cs, _, r => by
    simp only [RelX] at r ⊢
    obtain ⟨vs, rfl, hl⟩ := r
    exact ⟨vs, rfl, RepL.mono e.S cs vs hl⟩
  | .nil, _, r => by simpa only [RelX] using r
  | .ex sz n cs, _, r => by
    simp only [RelX] at r ⊢
    obtain ⟨h0, hl, r⟩ := r
    refine ⟨h0, hl, ?_⟩
    rcases r with r | ⟨b, o, vs, rfl, h1, h2, h3⟩
    · exact .inl r
    · exact .inr ⟨b, o, vs, rfl, h1, fun j u hj => e.S _ _ _ (h2 j u hj), RepL.mono e.S cs vs h3⟩
  | .recd xs, _, r => by
    simp only [RelX] at r ⊢
    obtain ⟨vs, rfl, hl, ho⟩ := r
    exact ⟨vs, rfl, RelXs.mono0 e xs vs hl, ho⟩
  | .tup xs, _, r => by
    simp only [RelX] at r ⊢
    obtain ⟨vs, rfl, hl⟩ := r
    exact ⟨vs, rfl, RelXs.mono0 e xs vs hl⟩
  | .ref id ver, _, r => by
    simp only [RelX] at r ⊢
    obtain ⟨b, hb, hx, hv, hs, hh⟩ := r
    obtain ⟨b', hb', hx', hv', he⟩ := e.blk id b hb
    refine ⟨b', hb', hx' ▸ hx, Nat.le_trans hv hv', hs, fun q => ?_⟩
    have q1 : ver = b.ver := by omega
    have q2 : b.ver = b'.ver := by omega
    rw [hh q1, (he q2).2]
  | .view id ver off n, _, r => by
    simp only [RelX] at r ⊢
    obtain ⟨b, hb, hx, hv, hs, hh⟩ := r
    obtain ⟨b', hb', hx', hv', he⟩ := e.blk id b hb
    refine ⟨b', hb', hx' ▸ hx, Nat.le_trans hv hv', hs, fun q => ?_⟩
    have q1 : ver = b.ver := by omega
    have q2 : b.ver = b'.ver := by omega
    rw [(he q2).1]
    exact hh q1
  | .ptr id ver off, _, r => by
    simp only [RelX] at r ⊢
    obtain ⟨b, hb, hv, ha, hh⟩ := r
    obtain ⟨b', hb', _, hv', he⟩ := e.blk id b hb
    refine ⟨b', hb', Nat.le_trans hv hv', ha, fun q => ?_⟩
    have q1 : ver = b.ver := by omega
    have q2 : b.ver = b'.ver := by omega
    rw [hh q1, (he q2).1]
  | .fptr cs, _, r => by
    simp only [RelX] at r ⊢
    obtain ⟨b, o, vs, rfl, h1, h2⟩ := r
    exact ⟨b, o, vs, rfl, fun j u hj => e.S _ _ _ (h1 j u hj), RepL.mono e.S cs vs h2⟩
  | .clos f caps, _, r => by
    simp only [RelX] at r ⊢
    obtain ⟨vs, rfl, hl⟩ := r
    exact ⟨vs, rfl, RelXs.mono0 e caps vs hl⟩
  | .ifb c x, v, r => by
    simp only [RelX] at r ⊢
    exact ⟨fun hc => RelX.mono0 e x v (r.1 hc), r.2⟩
  | .yld id, _, r => by
    simp only [RelX] at r ⊢
    obtain ⟨b, hb, hx, hs, hh⟩ := r
    obtain ⟨b', hb', hx', hv', he⟩ := e.blk id b hb
    refine ⟨b', hb', hx' ▸ hx, hs, fun q => ?_⟩
    have q1 : b.ver = 0 := by omega
    rw [hh q1, (he (by omega)).1]
  | .mp id, _, r => by
    simp only [RelX] at r ⊢
    obtain ⟨b, hb, hx, hs, hh⟩ := r
    obtain ⟨b', hb', hx', hv', he⟩ := e.blk id b hb
    refine ⟨b', hb', hx' ▸ hx, hs, fun q => ?_⟩
    have q1 : b.ver = 0 := by omega
    rw [hh q1, (he (by omega)).2]
theorem RelXs.mono0 {g h g' h'} (e : Ext0 g h g' h') : ∀ (xs : List X) (vs : List Value), RelXs g h xs vs → RelXs g' h' xs vs
  | [], _, r => by simpa only [RelXs] using r
  | x :: xs, _, r => by
    simp only [RelXs] at r ⊢
    obtain ⟨u, us, rfl, h1, h2⟩ := r
    exact ⟨u, us, rfl, RelX.mono0 e x u h1, RelXs.mono0 e xs us h2⟩
end

theorem RelX.mono {g h g' h'} (e : Ext g h g' h') (x : X) (v : Value) (r : RelX g h x v) : RelX g' h' x v := RelX.mono0 e.weak x v r
theorem RelXs.mono {g h g' h'} (e : Ext g h g' h') (xs : List X) (vs : List Value) (r : RelXs g h xs vs) : RelXs g' h' xs vs := RelXs.mono0 e.weak xs vs r

theorem RepL.length {S : Stab} : ∀ {xs : List C} {vs : List Value}, RepL S xs vs → vs.length = xs.length
  | [], _, h => by simp only [RepL] at h; simp [h]
  | _ :: _, _, h => by
    simp only [RepL] at h
    obtain ⟨u, us, rfl, _, h2⟩ := h
    simp [RepL.length h2]

theorem RelXs.length {g : Gh} {h : List Blk} : ∀ {xs : List X} {vs : List Value}, RelXs g h xs vs → vs.length = xs.length
  | [], _, r => by simp only [RelXs] at r; simp [r]
  | _ :: _, _, r => by
    simp only [RelXs] at r
    obtain ⟨u, us, rfl, _, h2⟩ := r
    simp [RelXs.length h2]

theorem RepL.at {S : Stab} : ∀ {xs : List C} {vs : List Value}, RepL S xs vs → ∀ {j : Nat} {x : C}, xs[j]? = some x → ∃ u, vs[j]? = some u ∧ RepV S x u
  | [], _, _, j, x, hj => by simp at hj
  | c :: cs, _, h, j, x, hj => by
    simp only [RepL] at h
    obtain ⟨u, us, rfl, h1, h2⟩ := h
    cases j with
    | zero => simp at hj; subst hj; exact ⟨u, by simp, h1⟩
    | succ j => simp at hj; obtain ⟨u', hu, hr⟩ := h2.at hj; exact ⟨u', by simpa using hu, hr⟩

theorem RelXs.at {g : Gh} {h : List Blk} : ∀ {xs : List X} {vs : List Value}, RelXs g h xs vs → ∀ {j : Nat} {x : X}, xs[j]? = some x → ∃ u, vs[j]? = some u ∧ RelX g h x u
  | [], _, _, j, x, hj => by simp at hj
  | c :: cs, _, r, j, x, hj => by
    simp only [RelXs] at r
    obtain ⟨u, us, rfl, h1, h2⟩ := r
    cases j with
    | zero => simp at hj; subst hj; exact ⟨u, by simp, h1⟩
    | succ j => simp at hj; obtain ⟨u', hu, hr⟩ := h2.at hj; exact ⟨u', by simpa using hu, hr⟩

theorem RepL.append {S : Stab} : ∀ {xs ys : List C} {us vs : List Value}, RepL S xs us → RepL S ys vs → RepL S (xs ++ ys) (us ++ vs)
  | [], _, _, _, h, k => by simp only [RepL] at h; subst h; simpa using k
  | c :: cs, _, _, _, h, k => by
    simp only [RepL] at h
    obtain ⟨u, us, rfl, h1, h2⟩ := h
    simp only [List.cons_append, RepL]
    exact ⟨u, _, rfl, h1, h2.append k⟩

theorem RepL.take {S : Stab} (n : Nat) : ∀ {xs : List C} {vs : List Value}, RepL S xs vs → RepL S (xs.take n) (vs.take n) := by
  induction n with
  | zero => intro xs vs _; simp [RepL]
  | succ n ih =>
    intro xs vs h
    cases xs with
    | nil => simp only [RepL] at h; subst h; simp [RepL]
    | cons c cs =>
      simp only [RepL] at h
      obtain ⟨u, us, rfl, h1, h2⟩ := h
      simp only [List.take_succ_cons, RepL]
      exact ⟨u, _, rfl, h1, ih h2⟩

theorem RepL.drop {S : Stab} (n : Nat) : ∀ {xs : List C} {vs : List Value}, RepL S xs vs → RepL S (xs.drop n) (vs.drop n) := by
  induction n with
  | zero => intro xs vs h; simpa using h
  | succ n ih =>
    intro xs vs h
    cases xs with
    | nil => simp only [RepL] at h; subst h; simp [RepL]
    | cons c cs =>
      simp only [RepL] at h
      obtain ⟨u, us, rfl, h1, h2⟩ := h
      simp only [List.drop_succ_cons]
      exact ih h2

theorem RepL.set {S : Stab} (x : C) (u : Value) (hx : RepV S x u) : ∀ {xs : List C} {vs : List Value} (n : Nat), RepL S xs vs → RepL S (xs.set n x) (vs.set n u)
  | [], _, n, h => by simp only [RepL] at h; subst h; simp [RepL]
  | c :: cs, _, n, h => by
    simp only [RepL] at h
    obtain ⟨u', us, rfl, h1, h2⟩ := h
    cases n with
    | zero => simp only [List.set_cons_zero, RepL]; exact ⟨u, us, rfl, hx, h2⟩
    | succ n => simp only [List.set_cons_succ, RepL]; exact ⟨u', _, rfl, h1, RepL.set x u hx n h2⟩

theorem RelXs.set {g : Gh} {h : List Blk} (x : X) (u : Value) (hx : RelX g h x u) : ∀ {xs : List X} {vs : List Value} (n : Nat), RelXs g h xs vs → RelXs g h (xs.set n x) (vs.set n u)
  | [], _, n, r => by simp only [RelXs] at r; subst r; simp [RelXs]
  | c :: cs, _, n, r => by
    simp only [RelXs] at r
    obtain ⟨u', us, rfl, h1, h2⟩ := r
    cases n with
    | zero => simp only [List.set_cons_zero, RelXs]; exact ⟨u, us, rfl, hx, h2⟩
    | succ n => simp only [List.set_cons_succ, RelXs]; exact ⟨u', _, rfl, h1, RelXs.set x u hx n h2⟩

end Fen

/- Part 2: one operation on abstract states, as a function. -/
namespace Fen
open Go Go.RowKit

inductive TK where
  | int (k : IntKind)
  | bool
  | str
  | slice (e : Nat)
  | struct (fs : List (Nat × Nat))
  | array (n e : Nat)
  | other
  deriving DecidableEq

structure TI where
  k : TK
  size : Nat
  bytes : Nat
  zero : List X

def TK.agg : TK → Bool
  | .struct _ | .array _ _ => true
  | _ => false

def TK.fits : TK → TypeDesc → Prop
  | .int k, d => d = .int k
  | .bool, d => d = .bool
  | .str, d => d = .string
  | .slice e, d => d = .slice e
  | .struct fs, d => ∃ fields, d = .struct fields ∧ fields.toList.map (fun f => (f.offset, f.type)) = fs
  | .array n e, d => d = .array n e
  | .other, d => (match d with | .struct _ | .array _ _ => False | _ => True)

abbrev TT := Nat → Option TI

/-- a variable's zero cells, as the model writes them -/
def zval : X → Value
  | .val (.int k n) => .int k n
  | .val (.bool b) => .bool b
  | .val (.str l) => .string ⟨l.toArray⟩
  | .val .nilf => .nilFunc
  | .val .nilp => .pointer none
  | _ => .slice none 0 0

def zok : X → Bool
  | .val (.int _ _) | .val (.bool _) | .val (.str _) | .val .nilf | .val .nilp | .nil => true
  | _ => false

def zC : X → C
  | .val c => c
  | _ => .sl 0 []

/-- kinds of cells that == compares one by one -/
inductive EK where
  | int (k : IntKind)
  | bool
  | str
  deriving DecidableEq

def repE : Nat → List EK → List EK
  | 0, _ => []
  | n + 1, l => l ++ repE n l

def eqKs (K : Nat → Option (List EK)) : Nat → List (Nat × Nat) → Option (List EK)
  | _, [] => some []
  | o, (p, u) :: fs =>
    if p = o then
      match K u with
      | some ks => (eqKs K (o + ks.length) fs).map (ks ++ ·)
      | none => none
    else none

def szK (n : Nat) : Option (List EK) → Option (List EK)
  | some ks => if ks.length = n then some ks else none
  | none => none

def eqStep (K : Nat → Option (List EK)) : Option TI → Option (List EK)
  | some ⟨.int k, n, _, _⟩ => szK n (some [.int k])
  | some ⟨.bool, n, _, _⟩ => szK n (some [.bool])
  | some ⟨.str, n, _, _⟩ => szK n (some [.str])
  | some ⟨.struct fs, n, _, _⟩ => szK n (eqKs K 0 fs)
  | some ⟨.array m e, n, _, _⟩ => szK n ((K e).map (repE m))
  | _ => none

/-- the kinds of the cells of a type that == compares cell by cell -/
def eqK (T : TT) : Nat → Nat → Option (List EK)
  | 0, _ => none
  | d + 1, t => eqStep (eqK T d) (T t)

def kindC : C → Option EK
  | .int k _ => some (.int k)
  | .bool _ => some .bool
  | .str _ => some .str
  | _ => none

def kindsOK (ks : List EK) (cs : List C) : Prop := cs.map kindC = ks.map some

/-- what == asks of a type besides its cells -/
def eqOK (P : Program) (t : Nat) : Bool :=
  (match P.underlying t with
    | some (.struct fs) => fs.toList.all (fun f => f.name != "_") && !P.stoodInHeld t
    | _ => true) && !P.eqGuardType P.depth t

/-- the table of types says what the program says -/
structure TOK (P : Program) (T : TT) : Prop where
  row : ∀ t ti, T t = some ti → ∃ d i z, P.underlying t = some d ∧ P.info? t = some i ∧ ti.k.fits d ∧
    i.size = ti.size ∧ i.bytes = ti.bytes ∧ i.zero = some z ∧ z.cells.toList = ti.zero.map zval ∧ ti.zero.all zok = true ∧ ti.zero.length = ti.size
  eqs : ∀ t, (eqK T 8 t).isSome = true → eqOK P t = true

/-- what a call hands back: frozen values, or slices that are the caller's own -/
inductive Comp where
  | val (v : V)
  | own (ty : TypeId) (p : Bool) (sz n : Nat) (cells : List C)

inductive RV where
  | one (c : Comp)
  | many (cs : List Comp)

/-- a contract on the private heap: what a call at these arguments, with this heap, does -/
structure HS where
  wr : Bool
  eff : List X → List Blk → Prop × X × List Blk

structure Spec where
  pre : List V → Prop
  res : List V → RV
  hp : Option HS := none
  live : Bool := false
  nils : Bool := false
  froz : Bool := false

abbrev Specs := List (FuncId × Spec)

/-- are records with parts of the private heap built as such? -/
def Specs.live : Specs → Bool
  | [] => false
  | (_, s) :: l => s.live || Specs.live l

/-- are structs built with their nil slices known as such? -/
def Specs.nils : Specs → Bool
  | [] => false
  | (_, s) :: l => s.nils || Specs.nils l

/-- are made slices values at once? -/
def Specs.froz : Specs → Bool
  | [] => false
  | (_, s) :: l => s.froz || Specs.froz l

def Specs.find (G : Specs) (f : FuncId) : Option Spec :=
  match G with
  | [] => none
  | (k, s) :: l => if k = f then some s else Specs.find l f

def C.x : C → X
  | .ptr cs => .fptr cs
  | k => .val k

def V.x : V → X
  | .c k => k.x
  | .agg ks => .agg ks

def impC (h : List Blk) : Comp → X × List Blk
  | .val v => (v.x, h)
  | .own ty p sz n cells => (.ref h.length 0, h ++ [.sl ty 0 p sz n cells])

def impCs (h : List Blk) : List Comp → List X × List Blk
  | [] => ([], h)
  | c :: cs => ((impC h c).1 :: (impCs (impC h c).2 cs).1, (impCs (impC h c).2 cs).2)

def imp (h : List Blk) : RV → X × List Blk
  | .one c => impC h c
  | .many cs => (.tup (impCs h cs).1, (impCs h cs).2)

def Comp.frz : Comp → V
  | .val v => v
  | .own _ _ _ n cells => .c (.sl n cells)

def allC : List X → Option (List C)
  | [] => some []
  | .val c :: l => (allC l).map (c :: ·)
  | _ => none

/-- the same, of all that is by value -/
def allF : List X → Option (List C)
  | [] => some []
  | .val c :: l => (allF l).map (c :: ·)
  | .nil :: l => (allF l).map (.sl 0 [] :: ·)
  | .ex _ n cs :: l => (allF l).map (.sl n cs :: ·)
  | .fptr cs :: l => (allF l).map (.ptr cs :: ·)
  | _ => none

/-- a pointer to a variable that is never written any more -/
def frzP (h : List Blk) (id off : Nat) : Option (List C) → Option (V × List Blk)
  | some l => some (.c (.ptr (l.drop off)), h.set id (.gone l))
  | none => none

def frzB (h : List Blk) (id ver off : Nat) : Option Blk → Option (V × List Blk)
  | some (.box _ cs) => if ver = 0 then frzP h id off (allF cs) else none
  | some (.gone l) => if ver = 0 then some (.c (.ptr (l.drop off)), h) else none
  | _ => none

/-- a slot's value, frozen -/
def toV1 (h : List Blk) : X → Option (V × List Blk)
  | .val c => some (.c c, h)
  | .agg cs => some (.agg cs, h)
  | .nil => some (.c (.sl 0 []), h)
  | .ex _ n cs => some (.c (.sl n cs), h)
  | .ref id ver =>
    match h[id]? with
    | some (.sl ty v _ sz n c) => if ver = v then some (.c (.sl n c), h.set id (.sl ty v false sz n c)) else none
    | _ => none
  | .view id ver off n =>
    match h[id]? with
    | some (.sl ty v _ sz m c) => if ver = v then some (.c (.sl n ((c.drop off).take (n * sz))), h.set id (.sl ty v false sz m c)) else none
    | _ => none
  | .fptr cs => some (.c (.ptr cs), h)
  | .ptr id ver off => frzB h id ver off (h[id]?)
  | _ => none

def toCs1 (h : List Blk) : List X → Option (List C × List Blk)
  | [] => some ([], h)
  | x :: xs =>
    match toV1 h x with
    | some (.c c, h') =>
      match toCs1 h' xs with
      | none => none
      | some (cs, h'') => some (c :: cs, h'')
    | _ => none

def frzF (f : FuncId) : Option (List C × List Blk) → Option (V × List Blk)
  | some (cs, h') => some (.c (.fn f cs), h')
  | none => none

def frzR : Option (List C × List Blk) → Option (V × List Blk)
  | some (cs, h') => some (.agg cs, h')
  | none => none

/-- a slice whose cells lie on the private heap, frozen with them -/
def frzX (ty : TypeId) (id v sz n : Nat) : Option (List C × List Blk) → Option (V × List Blk)
  | some (cs, h') => some (.c (.sl n cs), h'.set id (.sl ty v false sz n cs))
  | none => none

def frzY (h : List Blk) (id ver : Nat) : Option Blk → Option (V × List Blk)
  | some (.sl ty v _ sz n c) => if ver = v then some (.c (.sl n c), h.set id (.sl ty v false sz n c)) else none
  | some (.slx ty v sz n cells) => if ver = v then frzX ty id v sz n (toCs1 h cells) else none
  | _ => none

def toV (h : List Blk) : X → Option (V × List Blk)
  | .clos f xs => frzF f (toCs1 h xs)
  | .recd xs => frzR (toCs1 h xs)
  | .ref id ver => frzY h id ver (h[id]?)
  | x => toV1 h x

def toVs (h : List Blk) : List X → Option (List V × List Blk)
  | [] => some ([], h)
  | x :: xs =>
    match toV h x with
    | none => none
    | some (v, h') =>
      match toVs h' xs with
      | none => none
      | some (vs, h'') => some (v :: vs, h'')

inductive Acc where
  | pure | read | write
  deriving DecidableEq

structure Eff where
  pre : Prop
  x : X
  acc : Acc
  h : List Blk

def bits2 (f : (n : Nat) → BitVec n → BitVec n → BitVec n) (k : IntKind) (a b : Int) : Int :=
  k.wrap (f k.bits (BitVec.ofInt k.bits a) (BitVec.ofInt k.bits b)).toNat

def intBin (op : BinOp) (ka : IntKind) (a : Int) (kb : IntKind) (b : Int) : Prop × C :=
  match op with
  | .add => (ka = kb, .int ka (ka.wrap (a + b)))
  | .sub => (ka = kb, .int ka (ka.wrap (a - b)))
  | .mul => (ka = kb, .int ka (ka.wrap (a * b)))
  | .quo => (ka = kb ∧ b ≠ 0, .int ka (ka.wrap (a.tdiv b)))
  | .rem => (ka = kb ∧ b ≠ 0, .int ka (a.tmod b))
  | .and => (ka = kb, .int ka (bits2 (fun _ x y => x &&& y) ka a b))
  | .or => (ka = kb, .int ka (bits2 (fun _ x y => x ||| y) ka a b))
  | .xor => (ka = kb, .int ka (bits2 (fun _ x y => x ^^^ y) ka a b))
  | .andNot => (ka = kb, .int ka (bits2 (fun _ x y => x &&& ~~~y) ka a b))
  | .shl => (0 ≤ b, .int ka (ka.wrap (a * 2 ^ (min b.toNat ka.bits))))
  | .shr => (0 ≤ b, .int ka (a.fdiv (2 ^ (min b.toNat ka.bits))))
  | .eql => (ka = kb, .bool (a == b))
  | .neq => (ka = kb, .bool (a != b))
  | .lss => (ka = kb, .bool (a < b))
  | .leq => (ka = kb, .bool (a ≤ b))
  | .gtr => (ka = kb, .bool (a > b))
  | .geq => (ka = kb, .bool (a ≥ b))

def strBin (op : BinOp) (a b : List UInt8) : Prop × C :=
  match op with
  | .add => (a.length + b.length ≤ 9223372036854775807, .str (a ++ b))
  | .eql => (True, .bool (a == b))
  | .neq => (True, .bool !(a == b))
  | _ => (False, .bool true)

/-- == on structs and arrays of numbers, bools and texts: cell by cell -/
def cellEq : C → C → Bool
  | .int k a, .int k' b => k == k' && a == b
  | .bool a, .bool b => a == b
  | .str a, .str b => a == b
  | _, _ => false

def flatC : C → Bool
  | .int _ _ | .bool _ | .str _ => true
  | _ => false

def cellsEq : List C → List C → Bool
  | [], [] => true
  | a :: as, b :: bs => cellEq a b && cellsEq as bs
  | _, _ => false

/-- a slice's number of elements, and its cells -/
def slOf (h : List Blk) : X → Option (Nat × List C × Acc)
  | .val (.sl n cs) => some (n, cs, .pure)
  | .nil => some (0, [], .pure)
  | .ex _ n cs => some (n, cs, .pure)
  | .ref id ver =>
    match h[id]? with
    | some (.sl ty v _ _ n c) => if ver = v then some (n, c, .read) else none
    | _ => none
  | .view id ver off n =>
    match h[id]? with
    | some (.sl ty v _ sz _ c) => if ver = v then some (n, (c.drop off).take (n * sz), .read) else none
    | _ => none
  | _ => none

def byteC (b : UInt8) : C := .int .u8 b.toNat

def isByte : C → Bool
  | .int .u8 _ => true
  | _ => false

def byteOf : C → UInt8
  | .int _ n => UInt8.ofNat n.toNat
  | _ => 0

/-- the cells behind a pointer, from its place on: by value, or slot by slot -/
inductive Cs where
  | c (cs : List C)
  | x (xs : List X)

def cellsAt (h : List Blk) : X → Option (Cs × Acc)
  | .fptr cs => some (.c cs, .pure)
  | .ptr id ver off =>
    match h[id]? with
    | some (.box _ cs) =>
      if ver = 0 then
        match allC cs with
        | some l => some (.c (l.drop off), .read)
        | none => some (.x (cs.drop off), .read)
      else none
    | some (.sl ty v _ _ _ cs) => if ver = v then some (.c (cs.drop off), .read) else none
    | some (.slx ty v _ _ cs) => if ver = v then some (.x (cs.drop off), .read) else none
    | some (.gone l) => if ver = 0 then some (.c (l.drop off), .read) else none
    | _ => none
  | _ => none

/-- slots' values, as cells (frozen) -/
def toCs (h : List Blk) : List X → Option (List C × List Blk)
  | [] => some ([], h)
  | x :: xs =>
    match toV h x with
    | some (.c c, h') =>
      match toCs h' xs with
      | none => none
      | some (cs, h'') => some (c :: cs, h'')
    | _ => none

def opLoad (T : TT) (h : List Blk) (t : Nat) (p : X) : Option Eff :=
  match T t, cellsAt h p with
  | some ti, some (.c cs, acc) =>
    if ti.k.agg then some ⟨ti.size ≤ cs.length, .agg (cs.take ti.size), acc, h⟩
    else some ⟨0 < cs.length, .val (cs.headD (zC (ti.zero.headD .nil))), acc, h⟩
  | some ti, some (.x xs, acc) =>
    if ti.k.agg then
      match toCs h (xs.take ti.size) with
      | some (cs, h') => some ⟨ti.size = cs.length, .agg cs, .write, h'⟩
      | none => none
    else
      match xs with
      | x :: _ => some ⟨True, x, acc, h⟩
      | [] => none
  | _, _ => none

def setSeg {α : Type} (l : List α) (off n : Nat) (new : List α) : List α := l.take off ++ new ++ l.drop (off + n)

/-- is nothing of the private heap in it? -/
def plainX : X → Bool
  | .val _ | .agg _ | .nil | .ex _ _ _ | .fptr _ => true
  | _ => false

def partsPlain (ev : Operand → X) : List (Nat × Operand) → Bool
  | [] => true
  | (_, o) :: l => plainX (ev o) && partsPlain ev l

/-- a value as the cells that a store writes -/
def storeXs : X → Option (List X)
  | .recd xs => some xs
  | .agg cs => some (cs.map .val)
  | .tup _ | .dead | .ifb _ _ => none
  | x => some [x]

/-- the same, frozen -/
def storeCs (h : List Blk) (x : X) : Option (List C × List Blk) :=
  match toV h x with
  | some (.c c, h') => some ([c], h')
  | some (.agg cs, h') => some (cs, h')
  | none => none

def opStore (T : TT) (h : List Blk) (t : Nat) (p x : X) : Option Eff :=
  match T t, p with
  | some ti, .ptr id ver off =>
    match h[id]? with
    | some (.box ty cs) =>
      if ver = 0 then
        match storeXs x with
        | some new => some ⟨new.length = ti.size ∧ off + ti.size ≤ cs.length, .dead, .write, h.set id (.box ty (setSeg cs off ti.size new))⟩
        | none => none
      else none
    | some (.slx ty v sz n cs) =>
      if ver = v then
        match storeXs x with
        | some new => some ⟨new.length = ti.size ∧ off + ti.size ≤ cs.length, .dead, .write, h.set id (.slx ty v sz n (setSeg cs off ti.size new))⟩
        | none => none
      else none
    | some (.sl ty _ _ _ _ _) =>
      match storeCs h x with
      | some (new, h') =>
        match h'[id]? with
        | some (.sl ty v p sz n cs) =>
          if ver = v then some ⟨p = true ∧ new.length = ti.size ∧ off + ti.size ≤ cs.length, .dead, .write, h'.set id (.sl ty v p sz n (setSeg cs off ti.size new))⟩ else none
        | _ => none
      | none => none
    | _ => none
  | _, _ => none

def V.cells : V → List C
  | .c k => [k]
  | .agg ks => ks

/-- parts laid over a zero value -/
def fillC (place : Nat → Option (Nat × Nat)) (cells : List C) : List (Nat × V) → Prop × List C
  | [] => (True, cells)
  | (i, v) :: rest =>
    match place i with
    | none => (False, cells)
    | some (off, n) =>
      let r := fillC place (setSeg cells off n v.cells) rest
      (v.cells.length = n ∧ off + n ≤ cells.length ∧ r.1, r.2)

def partVs (h : List Blk) (ev : Operand → X) : List (Nat × Operand) → Option (List (Nat × V) × List Blk)
  | [] => some ([], h)
  | (i, o) :: rest =>
    match toV h (ev o) with
    | none => none
    | some (v, h') =>
      match partVs h' ev rest with
      | none => none
      | some (vs, h'') => some ((i, v) :: vs, h'')

def placesOf (T : TT) : List (Nat × Nat) → Option (List (Nat × Nat))
  | [] => some []
  | (o, t) :: fs =>
    match T t with
    | none => none
    | some ti =>
      match placesOf T fs with
      | none => none
      | some pl => some ((o, ti.size) :: pl)

def opBuild (T : TT) (ev : Operand → X) (h : List Blk) (t : Nat) (parts : List (Nat × Operand)) : Option Eff :=
  match T t, partVs h ev parts with
  | some ti, some (ps, h') =>
    match ti.k with
    | .struct fs =>
      match placesOf T fs with
      | some pl =>
        let r := fillC (fun i => pl[i]?) (ti.zero.map zC) ps
        some ⟨r.1, .agg r.2, if partsPlain ev parts then .pure else .write, h'⟩
      | none => none
    | .array _ e =>
      match T e with
      | some ei =>
        let r := fillC (fun i => some (i * ei.size, ei.size)) (ti.zero.map zC) ps
        some ⟨r.1, .agg r.2, if partsPlain ev parts then .pure else .write, h'⟩
      | none => none
    | _ => none
  | _, _ => none

/-- parts laid over a zero value, as they are -/
def fillX (place : Nat → Option (Nat × Nat)) (cells : List X) : List (Nat × X) → Prop × List X
  | [] => (True, cells)
  | (i, x) :: rest =>
    match place i, storeXs x with
    | some (off, n), some xs => (xs.length = n ∧ off + n ≤ cells.length ∧ (fillX place (setSeg cells off n xs) rest).1, (fillX place (setSeg cells off n xs) rest).2)
    | _, _ => (False, cells)

def opBuildL (T : TT) (ev : Operand → X) (h : List Blk) (t : Nat) (parts : List (Nat × Operand)) : Option Eff :=
  match T t with
  | some ⟨.struct fs, _, _, z⟩ =>
    match placesOf T fs with
    | some pl => some ⟨(fillX (fun i => pl[i]?) z (parts.map fun p => (p.1, ev p.2))).1, .recd (fillX (fun i => pl[i]?) z (parts.map fun p => (p.1, ev p.2))).2, .pure, h⟩
    | none => none
  | _ => none

def rep {α : Type} : Nat → List α → List α
  | 0, _ => []
  | n + 1, l => l ++ rep n l

def opBuildSlice (T : TT) (ev : Operand → X) (h : List Blk) (t len : Nat) (parts : List (Nat × Operand)) : Option Eff :=
  match T t with
  | some ⟨.slice e, _, _, _⟩ =>
    match T e, partVs h ev parts with
    | some ei, some (ps, h') =>
      let r := fillC (fun i => some (i * ei.size, ei.size)) (rep len (ei.zero.map zC)) ps
      some ⟨r.1 ∧ 0 < ei.size ∧ len * ei.size ≤ 16777216, .ex ei.size len r.2, if partsPlain ev parts then .pure else .write, h'⟩
    | _, _ => none
  | _ => none

/-- .. of parts that lie on the private heap -/
def opBuildSliceL (T : TT) (gd : Bool) (ev : Operand → X) (h : List Blk) (t len : Nat) (parts : List (Nat × Operand)) : Option Eff :=
  match T t with
  | some ⟨.slice e, _, _, _⟩ =>
    match T e with
    | some ei =>
      if gd then none else
      some ⟨(fillX (fun i => some (i * ei.size, ei.size)) (rep len ei.zero) (parts.map fun p => (p.1, ev p.2))).1 ∧ 0 < ei.size ∧ len * ei.size ≤ 16777216 ∧ 0 < len, .ref h.length 0, .write,
        h ++ [.slx e 0 ei.size len (fillX (fun i => some (i * ei.size, ei.size)) (rep len ei.zero) (parts.map fun p => (p.1, ev p.2))).2]⟩
    | none => none
  | _ => none

def opIndexAddr (T : TT) (h : List Blk) (t : Nat) (x : X) (i : X) : Option Eff :=
  match T t, i with
  | some ti, .val (.int _ n) =>
    match ti.k with
    | .array len e =>
      match T e with
      | some ei =>
        match x with
        | .ptr id ver off => some ⟨0 ≤ n ∧ n < len, .ptr id ver (off + n.toNat * ei.size), .pure, h⟩
        | .fptr cs => some ⟨0 ≤ n ∧ n < len, .fptr (cs.drop (n.toNat * ei.size)), .pure, h⟩
        | _ => none
      | none => none
    | .slice e =>
      match T e with
      | some ei =>
        match x with
        | .val (.sl m cs) => some ⟨0 ≤ n ∧ n < m, .fptr (cs.drop (n.toNat * ei.size)), .pure, h⟩
        | .ex _ m cs => some ⟨0 ≤ n ∧ n < m, .fptr (cs.drop (n.toNat * ei.size)), .pure, h⟩
        | .ref id ver =>
          match h[id]? with
          | some (.sl ty v _ _ m _) => if ver = v then some ⟨0 ≤ n ∧ n < m, .ptr id ver (n.toNat * ei.size), .read, h⟩ else none
          | some (.slx ty v _ m _) => if ver = v then some ⟨0 ≤ n ∧ n < m, .ptr id ver (n.toNat * ei.size), .read, h⟩ else none
          | _ => none
        | .view id ver off m =>
          match h[id]? with
          | some (.sl ty v _ _ _ _) => if ver = v then some ⟨0 ≤ n ∧ n < m, .ptr id ver (off + n.toNat * ei.size), .read, h⟩ else none
          | _ => none
        | _ => none
      | none => none
    | _ => none
  | _, _ => none

def opFieldAddr (T : TT) (h : List Blk) (t : Nat) (x : X) (f : Nat) : Option Eff :=
  match T t with
  | some ⟨.struct fs, _, _, _⟩ =>
    match fs[f]? with
    | some (off, ft) =>
      match T ft with
      | some fi =>
        match x with
        | .ptr id ver o => some ⟨0 < fi.size, .ptr id ver (o + off), .pure, h⟩
        | .fptr cs => some ⟨0 < fi.size, .fptr (cs.drop off), .pure, h⟩
        | _ => none
      | none => none
    | none => none
  | _ => none

/-- a part of a value -/
def partX (ti : TI) (cs : List C) (off : Nat) (h : List Blk) : Eff :=
  if ti.k.agg then ⟨off + ti.size ≤ cs.length, .agg ((cs.drop off).take ti.size), .pure, h⟩
  else ⟨off < cs.length, .val (cs.getD off .nilf), .pure, h⟩

def opField (T : TT) (h : List Blk) (t : Nat) (x : X) (f : Nat) : Option Eff :=
  match T t, x with
  | some ⟨.struct fs, _, _, _⟩, .agg cs =>
    match fs[f]? with
    | some (off, ft) => match T ft with | some fi => some (partX fi cs off h) | none => none
    | none => none
  | _, _ => none

def opIndex (T : TT) (h : List Blk) (t : Nat) (x i : X) : Option Eff :=
  match T t, x, i with
  | some ⟨.array len e, _, _, _⟩, .agg cs, .val (.int _ n) =>
    match T e with
    | some ei => let r := partX ei cs (n.toNat * ei.size) h; some ⟨0 ≤ n ∧ n < len ∧ r.pre, r.x, .pure, h⟩
    | none => none
  | some ⟨.str, _, _, _⟩, .val (.str l), .val (.int _ n) => some ⟨0 ≤ n ∧ n < l.length, .val (byteC (l.getD n.toNat 0)), .pure, h⟩
  | _, _, _ => none

/-- a slice expression's bounds: low, high, max -/
def bound (o : Option X) (d : Int) : Option Int :=
  match o with
  | none => some d
  | some (.val (.int _ n)) => some n
  | _ => none

def opSlice (T : TT) (h : List Blk) (t : Nat) (x : X) (lo hi mx : Option X) : Option Eff :=
  match T t with
  | some ⟨.str, _, _, _⟩ =>
    match x, mx with
    | .val (.str l), none =>
      match bound lo 0, bound hi l.length with
      | some a, some b => some ⟨0 ≤ a ∧ a ≤ b ∧ b ≤ l.length, .val (.str ((l.take b.toNat).drop a.toNat)), .pure, h⟩
      | _, _ => none
    | _, _ => none
  | some ⟨.slice e, _, _, _⟩ =>
    match T e with
    | none => none
    | some ei =>
      match mx with
      | none =>
        match x with
        | .val (.sl n cs) =>
          match bound lo 0, bound hi n with
          | some a, some b => some ⟨0 ≤ a ∧ a ≤ b ∧ b ≤ n, .val (.sl (b - a).toNat ((cs.drop (a.toNat * ei.size)).take ((b - a).toNat * ei.size))), .pure, h⟩
          | _, _ => none
        | .ex _ n cs =>
          match bound lo 0, bound hi n with
          | some a, some b => some ⟨0 ≤ a ∧ a ≤ b ∧ b ≤ n, .val (.sl (b - a).toNat ((cs.drop (a.toNat * ei.size)).take ((b - a).toNat * ei.size))), .pure, h⟩
          | _, _ => none
        | .nil =>
          match bound lo 0, bound hi 0 with
          | some a, some b => some ⟨a = 0 ∧ b = 0, .nil, .pure, h⟩
          | _, _ => none
        | .ref id ver =>
          match h[id]? with
          | some (.sl ty v _ _ n _) =>
            if ver = v then
              match bound lo 0, bound hi n with
              | some a, some b => some ⟨0 ≤ a ∧ a ≤ b ∧ b ≤ n, .view id ver (a.toNat * ei.size) (b - a).toNat, .read, h⟩
              | _, _ => none
            else none
          | _ => none
        | .view id ver off n =>
          match h[id]? with
          | some (.sl ty v _ _ _ _) =>
            if ver = v then
              match bound lo 0, bound hi n with
              | some a, some b => some ⟨0 ≤ a ∧ a ≤ b ∧ b ≤ n, .view id ver (off + a.toNat * ei.size) (b - a).toNat, .read, h⟩
              | _, _ => none
            else none
          | _ => none
        | _ => none
      | some m =>
        match toV h x with
        | some (.c (.sl n cs), h') =>
          match bound lo 0, hi, m with
          | some a, some (.val (.int _ b)), .val (.int _ c) =>
            let cs' := (cs.drop (a.toNat * ei.size)).take ((b - a).toNat * ei.size)
            some ⟨0 ≤ a ∧ a ≤ b ∧ b ≤ n ∧ c = b ∧ 0 < ei.size ∧ cs'.length = (b - a).toNat * ei.size, .ex ei.size (b - a).toNat cs', if plainX x then .pure else .write, h'⟩
          | _, _, _ => none
        | _ => none
  | _ => none

def opConvert (T : TT) (h : List Blk) (src dst : Nat) (x : X) : Option Eff :=
  match T src, T dst with
  | some si, some di =>
    match si.k, di.k, x with
    | .int _, .int k, .val (.int _ n) => some ⟨True, .val (.int k (k.wrap n)), .pure, h⟩
    | .str, .str, .val (.str l) => some ⟨True, .val (.str l), .pure, h⟩
    | .slice e, .str, x =>
      match T e, slOf h x with
      | some ⟨.int .u8, 1, _, _⟩, some (n, cs, acc) => some ⟨cs.all isByte = true ∧ cs.length = n, .val (.str (cs.map byteOf)), acc, h⟩
      | _, _ => none
    | .str, .slice e, .val (.str l) =>
      match T e with
      | some ⟨.int .u8, 1, _, _⟩ => some ⟨l.length ≤ 9223372036854775807, .val (.sl l.length (l.map byteC)), .pure, h⟩
      | _ => none
    | _, _, _ => none
  | _, _ => none

def opMakeSlice (T : TT) (gd : Bool) (h : List Blk) (t : Nat) (l c : X) : Option Eff :=
  match T t, l, c with
  | some ⟨.slice e, _, _, _⟩, .val (.int _ n), .val (.int _ m) =>
    match T e with
    | some ei =>
      if gd then none else
      some ⟨0 ≤ n ∧ n ≤ m ∧ m * ei.bytes ≤ 140737488355328 ∧ m ≤ 9223372036854775807 ∧ 0 < ei.size, .ref h.length 0, .write, h ++ [.sl e 0 true ei.size n.toNat (rep n.toNat (ei.zero.map zC))]⟩
    | none => none
  | _, _, _ => none

/-- .. of cells that may lie on the private heap -/
def opMakeSliceL (T : TT) (gd : Bool) (h : List Blk) (t : Nat) (l c : X) : Option Eff :=
  match T t, l, c with
  | some ⟨.slice e, _, _, _⟩, .val (.int _ n), .val (.int _ m) =>
    match T e with
    | some ei =>
      if gd then none else
      some ⟨0 ≤ n ∧ n ≤ m ∧ m * ei.bytes ≤ 140737488355328 ∧ m ≤ 9223372036854775807 ∧ 0 < ei.size, .ref h.length 0, .write, h ++ [.slx e 0 ei.size n.toNat (rep n.toNat ei.zero)]⟩
    | none => none
  | _, _, _ => none

/-- .. that is a value at once -/
def opMakeSliceV (T : TT) (h : List Blk) (t : Nat) (l c : X) : Option Eff :=
  match T t, l, c with
  | some ⟨.slice e, _, _, _⟩, .val (.int _ n), .val (.int _ m) =>
    match T e with
    | some ei => some ⟨0 ≤ n ∧ n ≤ m ∧ m * ei.bytes ≤ 140737488355328 ∧ m ≤ 9223372036854775807 ∧ 0 < ei.size ∧ n = m, .ex ei.size n.toNat (rep n.toNat (ei.zero.map zC)), .pure, h⟩
    | none => none
  | _, _, _ => none

/-- what an append adds: a slice's cells, or a text's bytes -/
def srcOf (h : List Blk) : X → Option (Nat × List C)
  | .val (.str l) => some (l.length, l.map byteC)
  | x => (slOf h x).map fun r => (r.1, r.2.1)

def srcType (T : TT) (u : Nat) : Bool :=
  match T u with
  | some ⟨.slice _, _, _, _⟩ | some ⟨.str, _, _, _⟩ => true
  | _ => false

/-- the same, as slots -/
def srcX (h : List Blk) : X → Option (Nat × List X)
  | .ref id ver =>
    match h[id]? with
    | some (.slx _ v _ n c) => if ver = v then some (n, c) else none
    | _ => none
  | _ => none

/-- is it one cell? -/
def cellX : X → Bool
  | .val _ | .nil | .ex _ _ _ | .ref _ _ | .view _ _ _ _ | .ptr _ _ _ | .fptr _ | .clos _ _ | .yld _ | .mp _ => true
  | _ => false

def srcY (h : List Blk) (s : X) : Option (Nat × List X) :=
  match srcOf h s with
  | some (m, new) => some (m, new.map .val)
  | none => srcX h s

/-- an append to a slice, or of a slice, whose cells may lie on the private heap -/
def apY (h : List Blk) (gd : Bool) (e : TypeId) (ei : TI) (d : X) : Option (Nat × List X) → Option Eff
  | some (m, new) =>
    if gd = true then none else
    match d with
    | .nil => some ⟨new.length = m * ei.size ∧ 0 < ei.size ∧ m * ei.bytes ≤ 140737488355328 ∧ m ≤ 9223372036854775807 ∧ new.all cellX = true, .ref h.length 0, .write, h ++ [.slx e 0 ei.size m new]⟩
    | .ref id ver =>
      match h[id]? with
      | some (.sl ty v p sz n cs) =>
        if ver = v then some ⟨p = true ∧ e = ty ∧ new.length = m * ei.size ∧ sz = ei.size ∧ (n + m) * ei.bytes ≤ 140737488355328 ∧ n + m ≤ 9223372036854775807 ∧ new.all cellX = true, .ref id (ver + 1), .write,
          h.set id (.slx ty (v + 1) sz (n + m) (cs.map .val ++ new))⟩ else none
      | some (.slx ty v sz n cs) =>
        if ver = v then some ⟨e = ty ∧ new.length = m * ei.size ∧ sz = ei.size ∧ (n + m) * ei.bytes ≤ 140737488355328 ∧ n + m ≤ 9223372036854775807 ∧ new.all cellX = true, .ref id (ver + 1), .write,
          h.set id (.slx ty (v + 1) sz (n + m) (cs ++ new))⟩ else none
      | _ => none
    | _ => none
  | none => none

def isSlx (h : List Blk) : X → Bool
  | .ref id _ => match h[id]? with | some (.slx ..) => true | _ => false
  | _ => false

def opAppendX (T : TT) (gd : Bool) (h : List Blk) (t : Nat) (d s : X) : Option Eff :=
  match T t with
  | some ⟨.slice e, _, _, _⟩ => match T e with
    | some ei => apY h gd e ei d (srcY h s)
    | none => none
  | _ => none

def opAppend (T : TT) (gd : Bool) (h : List Blk) (t : Nat) (d s : X) : Option Eff :=
  match T t with
  | some ⟨.slice e, _, _, _⟩ =>
    match T e, srcOf h s with
    | some ei, some (m, new) =>
      if gd then none else
      match d with
      | .nil => some ⟨new.length = m * ei.size ∧ 0 < ei.size ∧ m * ei.bytes ≤ 140737488355328 ∧ m ≤ 9223372036854775807, .ref h.length 0, .write, h ++ [.sl e 0 true ei.size m new]⟩
      | .ex sz n cs => some ⟨new.length = m * ei.size ∧ sz = ei.size ∧ (n + m) * ei.bytes ≤ 140737488355328 ∧ n + m ≤ 9223372036854775807, .ref h.length 0, .write, h ++ [.sl e 0 (n == 0) sz (n + m) (cs ++ new)]⟩
      | .ref id ver =>
        match h[id]? with
        | some (.sl ty v p sz n cs) =>
          if ver = v then some ⟨e = ty ∧ new.length = m * ei.size ∧ sz = ei.size ∧ (n + m) * ei.bytes ≤ 140737488355328 ∧ n + m ≤ 9223372036854775807, .ref id (ver + 1), .write,
            h.set id (.sl ty (v + 1) p sz (n + m) (cs ++ new))⟩ else none
        | _ => none
      | _ => none
    | _, _ => none
  | _ => none

/-- cells laid over a part of a slice of one's own -/
def copyB (h : List Blk) (ei : TI) (id ver off : Nat) (nd : Option Nat) (m : Nat) (new : List C) : Option Blk → Option Eff
  | some (.sl ty v p sz n cs) =>
    if ver = v then some ⟨p = true ∧ sz = ei.size ∧ new.length = m * sz ∧ off + nd.getD n * sz ≤ cs.length, .val (.int .i64 ((min m (nd.getD n) : Nat) : Int)), .write,
      h.set id (.sl ty v p sz n (setSeg cs off (min m (nd.getD n) * sz) (new.take (min m (nd.getD n) * sz))))⟩ else none
  | _ => none

def copyE (h : List Blk) (gd : Bool) (d : X) : Option TI → Option (Nat × List C) → Option Eff
  | some ei, some (m, new) =>
    if gd = true then none else
    match d with
    | .ref id ver => copyB h ei id ver 0 none m new (h[id]?)
    | .view id ver off k => copyB h ei id ver off (some k) m new (h[id]?)
    | _ => none
  | _, _ => none

def opCopy (T : TT) (gd : Bool) (h : List Blk) (t : Nat) (d s : X) : Option Eff :=
  match T t with
  | some ⟨.slice e, _, _, _⟩ => copyE h gd d (T e) (srcOf h s)
  | _ => none

def minInts (f : Int → Int → Int) (k : IntKind) (a : Int) : List X → Option Int
  | [] => some a
  | .val (.int k' b) :: l => if k = k' then minInts f k (f a b) l else none
  | _ => none

def opMinMax (f : Int → Int → Int) (h : List Blk) (xs : List X) : Option Eff :=
  match xs with
  | .val (.int k a) :: l => (minInts f k a l).map fun r => ⟨True, .val (.int k r), .pure, h⟩
  | _ => none

/-- the length of a slice whose cells lie on the private heap -/
def lenX (h : List Blk) : X → Option Nat
  | .ref id ver =>
    match h[id]? with
    | some (.slx _ v _ n _) => if ver = v then some n else none
    | _ => none
  | _ => none

def opLen (T : TT) (h : List Blk) (t : Nat) (x : X) : Option Eff :=
  match T t with
  | some ⟨.array n _, _, _, _⟩ => some ⟨True, .val (.int .i64 n), .pure, h⟩
  | some ⟨.str, _, _, _⟩ => match x with | .val (.str l) => some ⟨True, .val (.int .i64 l.length), .pure, h⟩ | _ => none
  | some ⟨.slice _, _, _, _⟩ => match slOf h x with
    | some (n, _, acc) => some ⟨True, .val (.int .i64 n), acc, h⟩
    | none => match lenX h x with
      | some n => some ⟨True, .val (.int .i64 n), .read, h⟩
      | none => none
  | _ => none

def onlyVals : RV → Bool
  | .one (.val _) => true
  | .many cs => cs.all fun c => match c with | .val _ => true | _ => false
  | _ => false

/-- a call by a contract on the private heap -/
def hcE (s : HS) (gd : Bool) (h : List Blk) (xs : List X) : Option Eff :=
  if gd && s.wr then none
  else some ⟨(s.eff xs h).1, (s.eff xs h).2.1, if s.wr then .write else .read, if s.wr then (s.eff xs h).2.2 else h⟩

def cvE (s : Spec) (gd : Bool) (h : List Blk) (xs : List X) : Option Eff :=
  match toVs h xs with
  | some (vs, h') =>
    if gd then
      match s.res vs with
      | .one c => some ⟨s.pre vs, c.frz.x, if xs.all plainX then .pure else .write, h'⟩
      | .many _ => none
    else some ⟨s.pre vs, (imp h' (s.res vs)).1, if xs.all plainX && onlyVals (s.res vs) then .pure else .write, (imp h' (s.res vs)).2⟩
  | none => none

def opCallS (s : Spec) (gd : Bool) (h : List Blk) (xs ys : List X) : Option Eff :=
  match s.hp with
  | some hs => hcE hs gd h ys
  | none => cvE s gd h xs

def opCall (G : Specs) (gd : Bool) (h : List Blk) (f : X) (args : List X) : Option Eff :=
  match f with
  | .val (.fn k caps) =>
    match G.find k with
    | some s => opCallS s gd h (args ++ caps.map .val) (args ++ caps.map C.x)
    | none => none
  | .clos k caps =>
    match G.find k with
    | some s => opCallS s gd h (args ++ caps) (args ++ caps)
    | none => none
  | _ => none

def aggT (T : TT) (t : Nat) : Prop := ∃ ti, T t = some ti ∧ ti.k.agg = true

def aggEq (T : TT) (t : Nat) (op : BinOp) (h : List Blk) (as bs : List C) (ks : List EK) : Option Eff :=
  match op with
  | .eql => some ⟨aggT T t ∧ kindsOK ks as ∧ kindsOK ks bs, .val (.bool (cellsEq as bs)), .pure, h⟩
  | .neq => some ⟨aggT T t ∧ kindsOK ks as ∧ kindsOK ks bs, .val (.bool !(cellsEq as bs)), .pure, h⟩
  | _ => none

/-- what an operation on no value hands back: it is never asked -/
def junkC : BinOp → C
  | .eql | .neq | .lss | .leq | .gtr | .geq => .bool false
  | _ => .int .i64 0

def opBin (T : TT) (h : List Blk) (op : BinOp) (t : Nat) (x y : X) : Option Eff :=
  match x, y with
  | .val (.int ka a), .val (.int kb b) => some ⟨(intBin op ka a kb b).1, .val (intBin op ka a kb b).2, .pure, h⟩
  | .val (.str a), .val (.str b) => some ⟨(strBin op a b).1, .val (strBin op a b).2, .pure, h⟩
  | .val (.bool a), .val (.bool b) =>
    match T t, op with
    | some ⟨.bool, _, _, _⟩, .eql => some ⟨True, .val (.bool (a == b)), .pure, h⟩
    | some ⟨.bool, _, _, _⟩, .neq => some ⟨True, .val (.bool !(a == b)), .pure, h⟩
    | _, _ => none
  | .agg as, .agg bs => (eqK T 8 t).bind (aggEq T t op h as bs)
  | .val .nilf, .val _ | .val _, .val .nilf => some ⟨False, .val (junkC op), .pure, h⟩
  | _, _ => none

def opF (T : TT) (G : Specs) (gd : Bool) (ev : Operand → X) (h : List Blk) : Op → Option Eff
  | .move x | .assign x => some ⟨True, ev x, .pure, h⟩
  | .extract x i => match ev x with | .tup xs => (match xs[i]? with | some y => some ⟨True, y, .pure, h⟩ | none => none) | _ => none
  | .unOp .not _ x => match ev x with | .val (.bool b) => some ⟨True, .val (.bool !b), .pure, h⟩ | _ => none
  | .unOp .neg _ x => match ev x with | .val (.int k n) => some ⟨True, .val (.int k (k.wrap (0 - n))), .pure, h⟩ | _ => none
  | .binOp op t x y _ => opBin T h op t (ev x) (ev y)
  | .convert s d x => opConvert T h s d (ev x)
  | .alloc t => match T t with | some ti => if gd then none else some ⟨True, .ptr h.length 0 0, .write, h ++ [.box t ti.zero]⟩ | none => none
  | .box t x => match storeXs (ev x) with | some xs => if gd then none else some ⟨True, .ptr h.length 0 0, .write, h ++ [.box t xs]⟩ | none => none
  | .build t parts => if (G.nils || (G.live && !partsPlain ev parts.toList)) = true then opBuildL T ev h t parts.toList else opBuild T ev h t parts.toList
  | .buildSlice t len parts => if (G.live && !partsPlain ev parts.toList) = true then opBuildSliceL T gd ev h t len parts.toList else opBuildSlice T ev h t len parts.toList
  | .load t a => opLoad T h t (ev a)
  | .store t a x => if gd then none else opStore T h t (ev a) (ev x)
  | .nilCheck x => match ev x with | .ptr i v o => some ⟨True, .ptr i v o, .pure, h⟩ | .fptr cs => some ⟨True, .fptr cs, .pure, h⟩ | _ => none
  | .makeFunc (.func f) first captured => if first.size = 0 then
      match allC (captured.toList.map ev) with
      | some cs => some ⟨True, .val (.fn f cs), .pure, h⟩
      | none => some ⟨True, .clos f (captured.toList.map ev), .pure, h⟩
      else none
  | .makeSlice t l c => if G.froz = true then opMakeSliceV T h t (ev l) (ev c) else if G.live = true then opMakeSliceL T gd h t (ev l) (ev c) else opMakeSlice T gd h t (ev l) (ev c)
  | .slice t x lo hi mx => opSlice T h t (ev x) (lo.map ev) (hi.map ev) (mx.map ev)
  | .fieldAddr t x f => opFieldAddr T h t (ev x) f
  | .field t x f => opField T h t (ev x) f
  | .indexAddr t x i => opIndexAddr T h t (ev x) (ev i)
  | .index t x i => opIndex T h t (ev x) (ev i)
  | .call { callee := .builtin .len, args, argTypes } => match args.toList, argTypes.toList with | [x], [t] => opLen T h t (ev x) | _, _ => none
  | .call { callee := .builtin .append, args, argTypes } => match args.toList, argTypes.toList with | [x, y], [t, u] => if srcType T u then (if (isSlx h (ev x) || isSlx h (ev y)) = true then opAppendX T gd h t (ev x) (ev y) else opAppend T gd h t (ev x) (ev y)) else none | _, _ => none
  | .call { callee := .builtin .copy, args, argTypes } => match args.toList, argTypes.toList with | [x, y], [t, _] => opCopy T gd h t (ev x) (ev y) | _, _ => none
  | .call { callee := .builtin .min, args, .. } => opMinMax (fun a b => if b < a then b else a) h (args.toList.map ev)
  | .call { callee := .builtin .max, args, .. } => opMinMax (fun a b => if b > a then b else a) h (args.toList.map ev)
  | .call { callee := .value f, args, .. } => opCall G gd h (ev f) (args.toList.map ev)
  | _ => none

end Fen

/- Part 3: the private heap and the world: freezing, new blocks, stores. -/
namespace Fen
open Go Go.RowKit

/-- where an activation began: the world, what of it may turn, the ghost and the private heap that it was handed, the laid variables -/
structure Base where
  w0 : World
  own : Nat → Prop
  g0 : Gh
  h0 : List Blk
  gl : List (Nat × List C)
  ro : Option Nat := none

structure HeapOK (bs : Base) (g : Gh) (h : List Blk) (w : World) : Prop where
  stable : ∀ b o v, g.S b o = some v → w.cell? ⟨b, o, none⟩ = some v
  blk : ∀ id b, h[id]? = some b → BlkOK g h w id b
  inj : ∀ i j, i < h.length → j < h.length → g.ex i = true → g.ex j = true → (g.ad i).1 = (g.ad j).1 → i = j
  loc : ∀ i, i < h.length → g.ex i = true → bs.w0.heap.size ≤ (g.ad i).1 ∨ bs.own (g.ad i).1
  os : w.os = bs.w0.os
  tape : w.tape = bs.w0.tape
  output : w.output = bs.w0.output
  size : bs.w0.heap.size ≤ w.heap.size
  frame : ∀ k, k < bs.w0.heap.size → ¬ bs.own k → w.heap[k]? = bs.w0.heap[k]?
  stab : ∀ b o, b < bs.w0.heap.size → ¬ bs.own b → g.S b o = bs.g0.S b o
  gl : ∀ k cs, (k, cs) ∈ bs.gl → ∃ vs, (∀ j u, vs[j]? = some u → g.S k j = some u) ∧ RepL g.S cs vs
  marks : ∀ m, m ∈ g.marks → w.heap[m]? = some (.deferred (some []))

theorem cell_block {w w' : World} {b o : Nat} (h : w'.heap[b]? = w.heap[b]?) : w'.cell? ⟨b, o, none⟩ = w.cell? ⟨b, o, none⟩ := by
  simp only [World.cell?, h]

theorem cell_lt {w : World} {b o : Nat} {v : Value} (h : w.cell? ⟨b, o, none⟩ = some v) : b < w.heap.size := by
  unfold World.cell? at h
  cases hb : w.heap[b]? with
  | none => simp [hb] at h
  | some x => exact (Array.getElem?_eq_some_iff.1 hb).1

theorem cell_of {w : World} {b o : Nat} {cs : Array Value} {ty : TypeId} {fr : Nat × Nat} (h : w.heap[b]? = some (.cells cs ty fr)) : w.cell? ⟨b, o, none⟩ = cs[o]? := by
  simp [World.cell?, h]

theorem set_get {α : Type} {l : List α} {i j : Nat} {a x : α} (h : (l.set i a)[j]? = some x) : (j = i ∧ i < l.length ∧ x = a) ∨ (j ≠ i ∧ l[j]? = some x) := by
  rw [List.getElem?_set] at h
  split at h
  · rename_i e
    subst e
    split at h
    · simp at h; exact .inl ⟨rfl, ‹_›, h.symm⟩
    · simp at h
  · rename_i e
    exact .inr ⟨fun q => e q.symm, h⟩

theorem get_set_ne {α : Type} {l : List α} {i j : Nat} {a : α} (h : j ≠ i) : (l.set i a)[j]? = l[j]? := by
  rw [List.getElem?_set, if_neg (fun e => h e.symm)]

theorem get_set_eq {α : Type} {l : List α} {i : Nat} {a : α} (h : i < l.length) : (l.set i a)[i]? = some a := by
  rw [List.getElem?_set, if_pos rfl, if_pos h]

theorem lt_of_get {α : Type} {l : List α} {i : Nat} {a : α} (h : l[i]? = some a) : i < l.length := by
  rcases Nat.lt_or_ge i l.length with h' | h'
  · exact h'
  · simp [List.getElem?_eq_none h'] at h

/-- a slice block's fact, at a later world and with more that is stable, where its own memory is as it was -/
theorem SlOK.mono {S S' : Stab} {w w' : World} {ty : TypeId} {p : Bool} {sz n : Nat} {cells : List C} {v : Value} {ad : Nat × Nat} {ex : Bool}
    (h : SlOK S w ty p sz n cells v ad ex) (hS : ∀ b o v, S b o = some v → S' b o = some v)
    (hh : ex = true → ad.1 < w.heap.size → w'.heap[ad.1]? = w.heap[ad.1]? ∧ ∀ o, S' ad.1 o = S ad.1 o) : SlOK S' w' ty p sz n cells v ad ex := by
  obtain ⟨h0, hl, h⟩ := h
  refine ⟨h0, hl, ?_⟩
  rcases h with h | ⟨he, ha, cap, cur, h1, h2, h3, h4, h5, h6, h7⟩ | ⟨he, hp, hv, hn, vs, hs, hr⟩
  · exact .inl h
  · obtain ⟨e1, e2⟩ := hh he (Array.getElem?_eq_some_iff.1 h4).1
    exact .inr (.inl ⟨he, ha, cap, cur, h1, h2, h3, e1.trans h4, h5, RepL.mono hS _ _ h6, fun o ho => h7 o (by rw [← e2]; exact ho)⟩)
  · exact .inr (.inr ⟨he, hp, hv, hn, vs, fun j u hj => hS _ _ _ (hs j u hj), RepL.mono hS _ _ hr⟩)

theorem SlxOK.mono {g g' : Gh} {h h' : List Blk} {w w' : World} {ty : TypeId} {sz n : Nat} {cells : List X} {v : Value} {ad : Nat × Nat} {ex : Bool}
    (k : SlxOK g h w ty sz n cells v ad ex) (E : Ext0 g h g' h')
    (hh : ex = true → ad.1 < w.heap.size → w'.heap[ad.1]? = w.heap[ad.1]? ∧ ∀ o, g'.S ad.1 o = g.S ad.1 o) : SlxOK g' h' w' ty sz n cells v ad ex := by
  obtain ⟨h0, hl, k⟩ := k
  refine ⟨h0, hl, ?_⟩
  rcases k with k | ⟨he, ha, cap, cur, h1, h2, h3, h4, h5, h6, h7⟩
  · exact .inl k
  · obtain ⟨e1, e2⟩ := hh he (Array.getElem?_eq_some_iff.1 h4).1
    exact .inr ⟨he, ha, cap, cur, h1, h2, h3, e1.trans h4, h5, RelXs.mono0 E _ _ h6, fun o => (e2 o).trans (h7 o)⟩

theorem BlkOK.mono0 {g g' : Gh} {h h' : List Blk} {w w' : World} {id : Nat} {b : Blk} (k : BlkOK g h w id b) (E : Ext0 g h g' h') (had : g'.ad id = g.ad id) (hhd : g'.hd id = g.hd id) (hex : g'.ex id = g.ex id)
    (hh : g.ex id = true → (g.ad id).1 < w.heap.size → w'.heap[(g.ad id).1]? = w.heap[(g.ad id).1]? ∧ ∀ o, g'.S (g.ad id).1 o = g.S (g.ad id).1 o) : BlkOK g' h' w' id b := by
  cases b with
  | box bt cells =>
    obtain ⟨he, ha, hs, cs, h4, hr⟩ := k
    obtain ⟨e1, e2⟩ := hh he (Array.getElem?_eq_some_iff.1 h4).1
    refine ⟨hex.trans he, by rw [had]; exact ha, fun o => by rw [had, e2]; exact hs o, cs, by rw [had, e1]; exact h4, RelXs.mono0 E cells _ hr⟩
  | sl ty ver p sz n cells =>
    simp only [BlkOK] at k ⊢
    rw [had, hhd, hex]
    exact SlOK.mono k E.S hh
  | slx ty ver sz n cells =>
    simp only [BlkOK] at k ⊢
    rw [had, hhd, hex]
    exact SlxOK.mono k E hh
  | obj o =>
    obtain ⟨he, hs, h4⟩ := k
    obtain ⟨e1, e2⟩ := hh he (Array.getElem?_eq_some_iff.1 h4).1
    exact ⟨hex.trans he, fun o => by rw [had, e2]; exact hs o, by rw [had, e1]; exact h4⟩
  | mp kk vk es =>
    obtain ⟨he, hs, h1, ms, clock, h4, h5⟩ := k
    obtain ⟨e1, e2⟩ := hh he (Array.getElem?_eq_some_iff.1 h4).1
    exact ⟨hex.trans he, fun o => by rw [had, e2]; exact hs o, by rw [hhd, had]; exact h1, ms, clock, by rw [had, e1]; exact h4, h5⟩
  | sb ty n cells =>
    obtain ⟨he, ha, hs, cap, cur, fz, h1, h2, h3, h4, h5, h6, h7, h8⟩ := k
    obtain ⟨e1, e2⟩ := hh he (Array.getElem?_eq_some_iff.1 h4).1
    exact ⟨hex.trans he, by rw [had]; exact ha, fun o => by rw [had, e2]; exact hs o, cap, cur, fz, by rw [hhd, had]; exact h1, h2, h3, by rw [had, e1]; exact h4, h5, h6, h7, RepL.mono E.S _ _ h8⟩
  | gone l =>
    obtain ⟨k, ka, vs, k1, k2⟩ := k
    refine ⟨fun he => ?_, by rw [had]; exact ka, vs, fun j u hj => by rw [had]; exact E.S _ _ _ (k1 j u hj), RepL.mono E.S _ _ k2⟩
    rw [hex] at he
    have hlt := k he
    obtain ⟨e1, _⟩ := hh he hlt
    rw [had]
    have : w'.heap[(g.ad id).1]? ≠ none := by rw [e1]; simp; exact hlt
    rcases Nat.lt_or_ge (g.ad id).1 w'.heap.size with c | c
    · exact c
    · exact absurd (by simp [c]) this
  | hid =>
    intro he
    rw [hex] at he
    have hlt := k he
    obtain ⟨e1, _⟩ := hh he hlt
    rw [had]
    have : w'.heap[(g.ad id).1]? ≠ none := by rw [e1]; simp; exact hlt
    rcases Nat.lt_or_ge (g.ad id).1 w'.heap.size with c | c
    · exact c
    · exact absurd (by simp [c]) this

theorem BlkOK.mono {g g' : Gh} {h h' : List Blk} {w w' : World} {id : Nat} {b : Blk} (k : BlkOK g h w id b) (E : Ext g h g' h') (had : g'.ad id = g.ad id) (hhd : g'.hd id = g.hd id) (hex : g'.ex id = g.ex id)
    (hh : g.ex id = true → (g.ad id).1 < w.heap.size → w'.heap[(g.ad id).1]? = w.heap[(g.ad id).1]? ∧ ∀ o, g'.S (g.ad id).1 o = g.S (g.ad id).1 o) : BlkOK g' h' w' id b := k.mono0 E.weak had hhd hex hh

/-- nothing that was there has turned; more is stable, in new memory -/
theorem HeapOK.world {bs : Base} {g : Gh} {h : List Blk} {w w' : World} (H : HeapOK bs g h w) (S' : Stab)
    (hos : w'.os = w.os) (htape : w'.tape = w.tape) (hout : w'.output = w.output) (hsz : w.heap.size ≤ w'.heap.size) (hb : ∀ k, k < w.heap.size → w'.heap[k]? = w.heap[k]?)
    (hS : ∀ b o, b < w.heap.size → S' b o = g.S b o) (hst : ∀ b o v, S' b o = some v → w'.cell? ⟨b, o, none⟩ = some v) :
    Ext g h { g with S := S' } h ∧ HeapOK bs { g with S := S' } h w' := by
  have hsub : ∀ b o v, g.S b o = some v → S' b o = some v := fun b o v hv => by rw [hS b o (cell_lt (H.stable b o v hv))]; exact hv
  have E : Ext g h { g with S := S' } h := ⟨hsub, fun id b hb => ⟨b, hb, rfl, Nat.le_refl _, fun _ => ⟨rfl, rfl⟩⟩, fun _ h => h⟩
  refine ⟨E, ⟨hst, fun id b hid => (H.blk id b hid).mono E rfl rfl rfl fun _ hlt => ⟨hb _ hlt, fun o => hS _ _ hlt⟩, H.inj, H.loc, hos.trans H.os, htape.trans H.tape, hout.trans H.output, Nat.le_trans H.size hsz,
    fun k hk ho => (hb k (Nat.lt_of_lt_of_le hk H.size)).trans (H.frame k hk ho), fun b o hb' ho => (hS b o (Nat.lt_of_lt_of_le hb' H.size)).trans (H.stab b o hb' ho), fun k cs hk => ?_, fun m hm => (hb m (Array.getElem?_eq_some_iff.1 (H.marks m hm)).1).trans (H.marks m hm)⟩⟩
  obtain ⟨vs, h1, h2⟩ := H.gl k cs hk
  exact ⟨vs, fun j u hj => hsub _ _ _ (h1 j u hj), RepL.mono hsub cs vs h2⟩

theorem HeapOK.drew {bs : Base} {g : Gh} {h : List Blk} {w : World} (H : HeapOK bs g h w) : HeapOK bs g h { w with drawn := w.drawn + 1 } :=
  ⟨H.stable, fun id b hid => (H.blk id b hid).mono (Ext.refl g h) rfl rfl rfl fun _ _ => ⟨rfl, fun _ => rfl⟩, H.inj, H.loc, H.os, H.tape, H.output, H.size, H.frame, H.stab, H.gl, H.marks⟩

/-- one more block of the private heap -/
def Gh.push (g : Gh) (k : Nat) (ad : Nat × Nat) (hd : Value) (ex : Bool) : Gh :=
  { S := g.S, ad := fun i => if i = k then ad else g.ad i, hd := fun i => if i = k then hd else g.hd i, ex := fun i => if i = k then ex else g.ex i, marks := g.marks }

theorem Ext.push (g : Gh) (h : List Blk) (b : Blk) (ad : Nat × Nat) (hd : Value) (ex : Bool) : Ext g h (g.push h.length ad hd ex) (h ++ [b]) := by
  refine ⟨fun _ _ _ h => h, fun id k hk => ⟨k, ?_, rfl, Nat.le_refl _, fun _ => ?_⟩, fun _ h => h⟩
  · rw [List.getElem?_append_left (lt_of_get hk)]; exact hk
  · have : id ≠ h.length := Nat.ne_of_lt (lt_of_get hk)
    simp [Gh.push, this]

theorem HeapOK.push {bs : Base} {g : Gh} {h : List Blk} {w : World} (H : HeapOK bs g h w) (b : Blk) (ad : Nat × Nat) (hd : Value) (ex : Bool)
    (hb : BlkOK (g.push h.length ad hd ex) (h ++ [b]) w h.length b)
    (hnew : ex = true → (∀ i, i < h.length → g.ex i = true → (g.ad i).1 ≠ ad.1) ∧ (bs.w0.heap.size ≤ ad.1 ∨ bs.own ad.1)) : HeapOK bs (g.push h.length ad hd ex) (h ++ [b]) w := by
  have E := Ext.push g h b ad hd ex
  refine ⟨H.stable, fun id k hk => ?_, fun i j hi hj ei ej e => ?_, fun i hi ei => ?_, H.os, H.tape, H.output, H.size, H.frame, H.stab, H.gl, H.marks⟩
  · rcases Nat.lt_or_ge id h.length with hlt | hge
    · rw [List.getElem?_append_left hlt] at hk
      have : id ≠ h.length := Nat.ne_of_lt hlt
      exact (H.blk id k hk).mono E (by simp [Gh.push, this]) (by simp [Gh.push, this]) (by simp [Gh.push, this]) fun _ _ => ⟨rfl, fun _ => rfl⟩
    · have hid : id = h.length := by
        have := lt_of_get hk
        simp at this
        omega
      subst hid
      simp at hk
      subst hk
      exact hb
  · simp at hi hj
    by_cases ci : i = h.length <;> by_cases cj : j = h.length
    · omega
    · have := (hnew (by simpa [Gh.push, ci] using ei)).1 j (by omega) (by simpa [Gh.push, cj] using ej)
      simp [Gh.push, ci, cj] at e
      exact absurd e.symm this
    · have := (hnew (by simpa [Gh.push, cj] using ej)).1 i (by omega) (by simpa [Gh.push, ci] using ei)
      simp [Gh.push, ci, cj] at e
      exact absurd e this
    · exact H.inj i j (by omega) (by omega) (by simpa [Gh.push, ci] using ei) (by simpa [Gh.push, cj] using ej) (by simpa [Gh.push, ci, cj] using e)
  · simp at hi
    by_cases ci : i = h.length
    · have := (hnew (by simpa [Gh.push, ci] using ei)).2
      simpa [Gh.push, ci] using this
    · have := H.loc i (by omega) (by simpa [Gh.push, ci] using ei)
      simpa [Gh.push, ci] using this

/-- a slice of one's own, frozen: its cells are stable from here on -/
theorem HeapOK.freeze {bs : Base} {g : Gh} {h : List Blk} {w : World} (H : HeapOK bs g h w) {ty : TypeId} {id v sz n : Nat} {p : Bool} {c : List C} (hb : h[id]? = some (.sl ty v p sz n c)) :
    ∃ S', Ext g h { g with S := S' } (h.set id (.sl ty v false sz n c)) ∧ HeapOK bs { g with S := S' } (h.set id (.sl ty v false sz n c)) w ∧
      (((∃ z, g.hd id = .slice z 0 0) ∧ n = 0) ∨ ∃ cap vs, g.hd id = .slice (some ⟨(g.ad id).1, (g.ad id).2, none⟩) n cap ∧ n ≤ cap ∧ cap ≤ maxLen ∧
        (∀ j u, vs[j]? = some u → S' (g.ad id).1 ((g.ad id).2 + j) = some u) ∧ RepL S' c vs) := by
  have hk := H.blk id _ hb
  simp only [BlkOK] at hk
  have hlt := lt_of_get hb
  have ext : ∀ S' : Stab, (∀ b o v, g.S b o = some v → S' b o = some v) → Ext g h { g with S := S' } (h.set id (.sl ty v false sz n c)) := fun S' hS =>
    ⟨hS, fun i b hi => by
      by_cases ci : i = id
      · subst ci
        rw [hb] at hi
        cases hi
        exact ⟨_, get_set_eq hlt, rfl, Nat.le_refl _, fun _ => ⟨rfl, rfl⟩⟩
      · exact ⟨b, by rw [get_set_ne ci]; exact hi, rfl, Nat.le_refl _, fun _ => ⟨rfl, rfl⟩⟩, fun _ h => h⟩
  have fin : ∀ S' : Stab, (∀ b o v, g.S b o = some v → S' b o = some v) → (∀ b o, S' b o ≠ g.S b o → g.ex id = true ∧ b = (g.ad id).1) → (∀ b o v, S' b o = some v → w.cell? ⟨b, o, none⟩ = some v) →
      SlOK S' w ty false sz n c (g.hd id) (g.ad id) (g.ex id) → HeapOK bs { g with S := S' } (h.set id (.sl ty v false sz n c)) w := fun S' hS hd hst hsl => by
    refine ⟨hst, fun i b hi => ?_, fun i j hi hj => H.inj i j (by simpa using hi) (by simpa using hj), fun i hi => H.loc i (by simpa using hi), H.os, H.tape, H.output, H.size, H.frame, fun b o hb' ho => ?_, fun k cs hk => ?_, H.marks⟩
    · rcases set_get hi with ⟨rfl, _, rfl⟩ | ⟨hne, hi'⟩
      · exact hsl
      · refine (H.blk i b hi').mono (ext S' hS) rfl rfl rfl fun hei _ => ⟨rfl, fun o => ?_⟩
        refine Classical.byContradiction fun hc => ?_
        obtain ⟨he, e⟩ := hd _ _ hc
        exact hne (H.inj i id (lt_of_get hi') hlt hei he e)
    · refine Classical.byContradiction fun hc => ?_
      have hc' : S' b o ≠ g.S b o := fun e => hc (e.trans (H.stab b o hb' ho))
      obtain ⟨he, rfl⟩ := hd _ _ hc'
      rcases H.loc id hlt he with hl | hl
      · omega
      · exact ho hl
    · obtain ⟨vs, h1, h2⟩ := H.gl k cs hk
      exact ⟨vs, fun j u hj => hS _ _ _ (h1 j u hj), RepL.mono hS cs vs h2⟩
  obtain ⟨h0, hl, hk⟩ := hk
  rcases hk with ⟨hv, hn, he⟩ | ⟨he, ha, cap, cur, h1, h2, h3, h4, h5, h6, h7⟩ | ⟨he, hp, hv, hn, vs, hs, hr⟩
  · exact ⟨g.S, ext _ (fun _ _ _ h => h), fin _ (fun _ _ _ h => h) (fun _ _ h => absurd rfl h) H.stable ⟨h0, hl, .inl ⟨hv, hn, he⟩⟩, .inl ⟨hv, hn⟩⟩
  · let S' : Stab := fun b o => if b = (g.ad id).1 ∧ o < n * sz then cur[o]? else g.S b o
    have hS : ∀ b o v, g.S b o = some v → S' b o = some v := fun b o u hu => by
      by_cases c1 : b = (g.ad id).1 ∧ o < n * sz
      · have := H.stable b o u hu
        rw [c1.1, cell_of h4] at this
        simp only [S']
        rw [if_pos c1, this]
      · simp only [S']; rw [if_neg c1]; exact hu
    have hat : ∀ j u, (cur.toList.take (n * sz))[j]? = some u → S' (g.ad id).1 j = some u := fun j u hj => by
      rw [List.getElem?_take] at hj
      split at hj
      · exact (if_pos ⟨rfl, ‹_›⟩ : S' (g.ad id).1 j = cur[j]?).trans (by simpa using hj)
      · cases hj
    refine ⟨S', ext S' hS, fin S' hS (fun b o hne => ?_) (fun b o u hu => ?_) ⟨h0, hl, .inr (.inl ⟨he, ha, cap, cur, h1, h2, h3, h4, h5, RepL.mono hS _ _ h6, fun o ho => ⟨by trivial, ?_⟩⟩)⟩, .inr ⟨cap, cur.toList.take (n * sz), ?_, h2, h3, ?_, RepL.mono hS _ _ h6⟩⟩
    · by_cases c1 : b = (g.ad id).1 ∧ o < n * sz
      · exact ⟨he, c1.1⟩
      · simp only [S'] at hne; rw [if_neg c1] at hne; exact absurd rfl hne
    · by_cases c1 : b = (g.ad id).1 ∧ o < n * sz
      · simp only [S'] at hu; rw [if_pos c1] at hu; rw [c1.1, cell_of h4]; exact hu
      · simp only [S'] at hu; rw [if_neg c1] at hu; exact H.stable b o u hu
    · by_cases c1 : o < n * sz
      · exact c1
      · simp only [S'] at ho; rw [if_neg (fun q => c1 q.2)] at ho; exact absurd (h7 o ho).2 c1
    · rw [h1, ha]
    · intro j u hj; rw [ha, Nat.zero_add]; exact hat j u hj
  · exact ⟨g.S, ext _ (fun _ _ _ h => h), fin _ (fun _ _ _ h => h) (fun _ _ h => absurd rfl h) H.stable ⟨h0, hl, .inr (.inr ⟨he, rfl, hv, hn, vs, hs, hr⟩)⟩, .inr ⟨n, vs, hv, Nat.le_refl _, hn, hs, hr⟩⟩

/-- a variable that is never written any more: its cells are stable from here on -/
theorem HeapOK.freezeBox {bs : Base} {g : Gh} {h : List Blk} {w : World} (H : HeapOK bs g h w) {id : Nat} {bt : TypeId} {cells : List X} (hb : h[id]? = some (.box bt cells)) {l : List C} (hl : ∀ {vs : List Value}, RelXs g h cells vs → RepL g.S l vs) :
    ∃ S' vs, Ext g h { g with S := S' } (h.set id (.gone l)) ∧ HeapOK bs { g with S := S' } (h.set id (.gone l)) w ∧ (∀ j u, vs[j]? = some u → S' (g.ad id).1 j = some u) ∧ RepL S' l vs := by
  obtain ⟨he, ha, hs, cs, h4, hr⟩ := H.blk id _ hb
  have hlt := lt_of_get hb
  let S' : Stab := fun b o => if b = (g.ad id).1 then cs[o]? else g.S b o
  have hS : ∀ b o v, g.S b o = some v → S' b o = some v := fun b o u hu => by
    by_cases c1 : b = (g.ad id).1
    · subst c1; rw [hs] at hu; cases hu
    · simp only [S']; rw [if_neg c1]; exact hu
  have hne : ∀ b o, b ≠ (g.ad id).1 → S' b o = g.S b o := fun b o c => by simp only [S']; rw [if_neg c]
  have E : Ext g h { g with S := S' } (h.set id (.gone l)) := ⟨hS, fun i b hi => by
    by_cases ci : i = id
    · subst ci
      rw [hb] at hi; cases hi
      exact ⟨_, get_set_eq hlt, rfl, Nat.zero_le _, fun _ => ⟨rfl, rfl⟩⟩
    · exact ⟨b, by rw [get_set_ne ci]; exact hi, rfl, Nat.le_refl _, fun _ => ⟨rfl, rfl⟩⟩, fun _ h => h⟩
  refine ⟨S', cs.toList, E, ⟨fun b o v hv => ?_, fun i b hi => ?_, fun i j hi hj => H.inj i j (by simpa using hi) (by simpa using hj), fun i hi => H.loc i (by simpa using hi), H.os, H.tape, H.output, H.size, H.frame, fun b o hb' ho => ?_, fun k cs hk => ?_, H.marks⟩, fun j u hj => ?_, RepL.mono hS _ _ (hl hr)⟩
  · by_cases c : b = (g.ad id).1
    · subst c
      rw [cell_of h4]
      simpa [S'] using hv
    · exact H.stable b o v ((hne b o c).symm.trans hv)
  · rcases set_get hi with ⟨rfl, _, rfl⟩ | ⟨hn, hi'⟩
    · exact ⟨fun _ => (Array.getElem?_eq_some_iff.1 h4).1, ha, cs.toList, fun j u hj => by simp only [S', if_true]; simpa using hj, RepL.mono hS _ _ (hl hr)⟩
    · exact (H.blk i b hi').mono E rfl rfl rfl fun hei _ => ⟨rfl, fun o => hne _ _ fun e => hn (H.inj i id (lt_of_get hi') hlt hei he e)⟩
  · refine (hne b o fun e => ?_).trans (H.stab b o hb' ho)
    · subst e
      rcases H.loc id hlt he with q | q
      · omega
      · exact ho q
  · obtain ⟨vs, h1, h2⟩ := H.gl k cs hk
    exact ⟨vs, fun j u hj => hS _ _ _ (h1 j u hj), RepL.mono hS cs vs h2⟩
  · simp only [S', if_true]; simpa using hj

end Fen

/- Part 4: the operations are sound: values, texts, loads. -/
namespace Fen
open Go Go.RowKit

/-- whatever function, whatever depth; in a round of a loop over a function, or in none -/
def fen (ro : Option Nat) : Fence := { Fence.wide with round := ro }

theorem fen_wide : fen none = Fence.wide := rfl

theorem calls_fen {ro : Option Nat} {P : Program} {f : FuncId} {args : Array Value} {w : World} {R : Ending → World → Prop} : CallsIn (fen ro) 0 P f args w R ↔ Calls P f args w R :=
  ⟨fun h => (callsIn_wide (n := 0)).1 h, fun h => (callsIn_wide (n := 0)).2 h⟩

theorem execOp_defer {P : Program} {ρ : Operand → Value} {o : Oper} {c : Call} (ho : o.op = .defer c) {w w' : World} {x : Next} (h : (execOp ρ o).run P w = .ok x w') : ∃ d, x = .defer d := by
  simp only [execOp, ho, Sem.run_bind] at h
  cases hr : (resolve ρ c o.type).run P w with
  | ok d w1 => simp [hr] at h; exact ⟨d, h.1.symm⟩
  | halt e w1 => simp [hr] at h

theorem semAt_of {P : Program} {ro : Option Nat} {ρ : Operand → Value} {o : Oper} {w w' : World} {x : Next} (h : (execOp ρ o).run P w = .ok x w') (hx : ∀ d, x ≠ .defer d) : (o.semAt ro ρ).run P w = .ok x w' := by
  rw [Oper.semAt_eq]; exact h
  intro c hc
  obtain ⟨d, hd⟩ := execOp_defer hc h
  exact hx d hd

theorem wp_value {ro : Option Nat} {P : Program} {o : Oper} {a : Act} {w w' : World} {v : Value} {K : Act → World → Prop} {Q : Exit → Act → World → Prop}
    (h : (execOp a.eval o).run P w = .ok (.value v) w') (k : K (a.put o.dst v) w') : o.wpIn (fen ro) 0 P a w K Q := by
  refine ⟨fun _ _ => trivial, ?_⟩
  rw [semAt_of h (by simp)]; exact k

theorem wp_skip' {ro : Option Nat} {P : Program} {o : Oper} {a : Act} {w w' : World} {K : Act → World → Prop} {Q : Exit → Act → World → Prop}
    (h : (execOp a.eval o).run P w = .ok .skip w') (k : K (a.put o.dst undef) w') : o.wpIn (fen ro) 0 P a w K Q := by
  refine ⟨fun _ _ => trivial, ?_⟩
  rw [semAt_of h (by simp)]; exact k

theorem wp_enter {ro : Option Nat} {P : Program} {o : Oper} {a : Act} {w w' : World} {f : FuncId} {args : Array Value} {K : Act → World → Prop} {Q : Exit → Act → World → Prop}
    (h : (execOp a.eval o).run P w = .ok (.enter f args) w') (k : Calls P f args w' fun en w'' => ∃ v, en = .returned v ∧ K (a.put o.dst v) w'') : o.wpIn (fen ro) 0 P a w K Q := by
  refine ⟨fun _ _ => trivial, ?_⟩
  rw [semAt_of h (by simp), Oper.uponIn_enter]
  refine ⟨fun h => (by simp [fen, Fence.wide] at h), (calls_fen.2 k).mono ?_⟩
  rintro en w'' ⟨v, rfl, hk⟩
  exact hk

/-- what an operation's effect says of the state behind it -/
def After (bs : Base) (g : Gh) (h : List Blk) (e : Eff) (v : Value) (w' : World) : Prop :=
  ∃ g', Ext g h g' e.h ∧ HeapOK bs g' e.h w' ∧ RelX g' e.h e.x v

theorem After.same {bs : Base} {g : Gh} {h : List Blk} {w : World} {pre : Prop} {x : X} {acc : Acc} {v : Value} (H : HeapOK bs g h w) (r : RelX g h x v) : After bs g h ⟨pre, x, acc, h⟩ v w :=
  ⟨g, Ext.refl g h, H, r⟩

/-- the operation, run as a computation of a value -/
def Gives (P : Program) (s : Sem Value) (w : World) (R : Value → World → Prop) : Prop := ∃ v w', s.run P w = .ok v w' ∧ R v w'

section
variable {P : Program} {w : World}

theorem rel_int {g : Gh} {h : List Blk} {k : IntKind} {n : Int} {v : Value} : RelX g h (.val (.int k n)) v ↔ v = .int k n := by simp [RelX, RepV]
theorem rel_bool {g : Gh} {h : List Blk} {b : Bool} {v : Value} : RelX g h (.val (.bool b)) v ↔ v = .bool b := by simp [RelX, RepV]
theorem rel_str {g : Gh} {h : List Blk} {l : List UInt8} {v : Value} : RelX g h (.val (.str l)) v ↔ v = .string ⟨l.toArray⟩ := by simp [RelX, RepV]

theorem run_eqGuard_int (op : BinOp) (t : TypeId) (x y : Operand) (k k' : IntKind) (a b : Int) : (eqGuard op t x y (.int k a) (.int k' b)).run P w = .ok () w := by
  unfold eqGuard; cases op <;> simp
theorem run_eqGuard_str (op : BinOp) (t : TypeId) (x y : Operand) (a b : ByteArray) : (eqGuard op t x y (.string a) (.string b)).run P w = .ok () w := by
  unfold eqGuard; cases op <;> simp
theorem run_eqGuard_bool (op : BinOp) (t : TypeId) (x y : Operand) (a b : Bool) : (eqGuard op t x y (.bool a) (.bool b)).run P w = .ok () w := by
  unfold eqGuard; cases op <;> simp

theorem bytes_toList (l : List UInt8) : (⟨l.toArray⟩ : ByteArray).toList = l := by rw [ByteArray.toList_eq]
theorem bytes_size (l : List UInt8) : (⟨l.toArray⟩ : ByteArray).size = l.length := by simp [ByteArray.size]
theorem bytes_append (a b : List UInt8) : (⟨a.toArray⟩ : ByteArray) ++ ⟨b.toArray⟩ = ⟨(a ++ b).toArray⟩ := by
  apply ByteArray.ext; simp

theorem run_intBin {S : Stab} (op : BinOp) (t : TypeId) (ka kb : IntKind) (a b : Int) (h : (intBin op ka a kb b).1) :
    ∃ v, (binOp op t (.int ka a) (.int kb b)).run P w = .ok v w ∧ RepV S (intBin op ka a kb b).2 v := by
  cases op <;> simp only [intBin] at h ⊢ <;> simp only [RepV, exists_eq_right] <;> (try subst h) <;> (try (obtain ⟨rfl, h⟩ := h)) <;>
    simp_all [binOp, Op.intArith, Op.intDiv, Op.intBits, Op.intCmp, Op.shift, bits2] <;> (try omega)

theorem run_strBin {S : Stab} (op : BinOp) (t : TypeId) (a b : List UInt8) (h : (strBin op a b).1) :
    ∃ v, (binOp op t (.string ⟨a.toArray⟩) (.string ⟨b.toArray⟩)).run P w = .ok v w ∧ RepV S (strBin op a b).2 v := by
  cases op <;> simp only [strBin] at h ⊢ <;> simp only [RepV, exists_eq_right]
  all_goals first
    | exact h.elim
    | (simp [binOp, Op.stringOp, bytes_toList, bytes_size, bytes_append, IntKind.max]; done)
    | skip
  simp only [binOp]
  rw [run_string_add_sum _ _ _ (by simpa [bytes_size] using h), bytes_append]

end
end Fen

/- Part 5: freezing slots; reading behind pointers; the type table. -/
namespace Fen
open Go Go.RowKit

theorem RelXs.drop {g : Gh} {h : List Blk} (n : Nat) : ∀ {xs : List X} {vs : List Value}, RelXs g h xs vs → RelXs g h (xs.drop n) (vs.drop n) := by
  induction n with
  | zero => intro xs vs r; simpa using r
  | succ n ih =>
    intro xs vs r
    cases xs with
    | nil => simp only [RelXs] at r; subst r; simp [RelXs]
    | cons c cs =>
      simp only [RelXs] at r
      obtain ⟨u, us, rfl, h1, h2⟩ := r
      simp only [List.drop_succ_cons]
      exact ih h2

theorem RelXs.take {g : Gh} {h : List Blk} (n : Nat) : ∀ {xs : List X} {vs : List Value}, RelXs g h xs vs → RelXs g h (xs.take n) (vs.take n) := by
  induction n with
  | zero => intro xs vs _; simp [RelXs]
  | succ n ih =>
    intro xs vs r
    cases xs with
    | nil => simp only [RelXs] at r; subst r; simp [RelXs]
    | cons c cs =>
      simp only [RelXs] at r
      obtain ⟨u, us, rfl, h1, h2⟩ := r
      simp only [List.take_succ_cons, RelXs]
      exact ⟨u, _, rfl, h1, ih h2⟩

theorem RelXs.append {g : Gh} {h : List Blk} : ∀ {xs ys : List X} {us vs : List Value}, RelXs g h xs us → RelXs g h ys vs → RelXs g h (xs ++ ys) (us ++ vs)
  | [], _, _, _, r, k => by simp only [RelXs] at r; subst r; simpa using k
  | c :: cs, _, _, _, r, k => by
    simp only [RelXs] at r
    obtain ⟨u, us, rfl, h1, h2⟩ := r
    simp only [List.cons_append, RelXs]
    exact ⟨u, _, rfl, h1, h2.append k⟩

theorem RelXs.of_vals {g : Gh} {h : List Blk} : ∀ {cs : List C} {vs : List Value}, RepL g.S cs vs → RelXs g h (cs.map .val) vs
  | [], _, r => by simp only [RepL] at r; subst r; simp [RelXs]
  | c :: cs, _, r => by
    simp only [RepL] at r
    obtain ⟨u, us, rfl, h1, h2⟩ := r
    simp only [List.map_cons, RelXs]
    exact ⟨u, us, rfl, by simpa only [RelX] using h1, RelXs.of_vals h2⟩

theorem allC_ok {g : Gh} {h : List Blk} : ∀ {xs : List X} {cs : List C} {vs : List Value}, allC xs = some cs → RelXs g h xs vs → RepL g.S cs vs
  | [], _, _, e, r => by simp only [allC, Option.some.injEq] at e; subst e; simpa only [RepL, RelXs] using r
  | .val c :: l, cs, _, e, r => by
    simp only [allC, Option.map_eq_some_iff] at e
    obtain ⟨cs', e', rfl⟩ := e
    simp only [RelXs, RelX] at r
    obtain ⟨u, us, rfl, h1, h2⟩ := r
    simp only [RepL]
    exact ⟨u, us, rfl, h1, allC_ok e' h2⟩
  | .dead :: _, _, _, e, _ | .agg _ :: _, _, _, e, _ | .nil :: _, _, _, e, _ | .ex _ _ _ :: _, _, _, e, _ | .tup _ :: _, _, _, e, _ | .recd _ :: _, _, _, e, _ | .ref .. :: _, _, _, e, _ | .view .. :: _, _, _, e, _ | .ptr .. :: _, _, _, e, _ | .fptr _ :: _, _, _, e, _ | .clos .. :: _, _, _, e, _ | .ifb .. :: _, _, _, e, _ | .yld _ :: _, _, _, e, _ | .mp _ :: _, _, _, e, _ => by simp [allC] at e

theorem rep_ex {g : Gh} {h : List Blk} {sz n : Nat} {cs : List C} {v : Value} (r : RelX g h (.ex sz n cs) v) : RepV g.S (.sl n cs) v := by
  simp only [RelX] at r
  obtain ⟨h0, hl, r⟩ := r
  simp only [RepV]
  rcases r with ⟨h1, h2⟩ | ⟨b, o, vs, h1, h2, h3, h4⟩
  · exact .inl ⟨h1, h2, by subst h2; simpa using hl⟩
  · exact .inr ⟨b, o, n, vs, h1, Nat.le_refl _, h2, h3, h4⟩

theorem allF_ok {g : Gh} {h : List Blk} : ∀ {xs : List X} {cs : List C} {vs : List Value}, allF xs = some cs → RelXs g h xs vs → RepL g.S cs vs
  | [], _, _, e, r => by simp only [allF, Option.some.injEq] at e; subst e; simpa only [RepL, RelXs] using r
  | .val c :: l, cs, _, e, r => by
    simp only [allF, Option.map_eq_some_iff] at e
    obtain ⟨cs', e', rfl⟩ := e
    simp only [RelXs, RelX] at r
    obtain ⟨u, us, rfl, h1, h2⟩ := r
    simp only [RepL]
    exact ⟨u, us, rfl, h1, allF_ok e' h2⟩
  | .nil :: l, cs, _, e, r => by
    simp only [allF, Option.map_eq_some_iff] at e
    obtain ⟨cs', e', rfl⟩ := e
    simp only [RelXs, RelX] at r
    obtain ⟨u, us, rfl, h1, h2⟩ := r
    simp only [RepL]
    exact ⟨u, us, rfl, by simp [RepV, h1], allF_ok e' h2⟩
  | .ex _ n ks :: l, cs, _, e, r => by
    simp only [allF, Option.map_eq_some_iff] at e
    obtain ⟨cs', e', rfl⟩ := e
    simp only [RelXs] at r
    obtain ⟨u, us, rfl, h1, h2⟩ := r
    simp only [RepL]
    exact ⟨u, us, rfl, rep_ex h1, allF_ok e' h2⟩
  | .fptr ks :: l, cs, _, e, r => by
    simp only [allF, Option.map_eq_some_iff] at e
    obtain ⟨cs', e', rfl⟩ := e
    simp only [RelXs, RelX] at r
    obtain ⟨u, us, rfl, h1, h2⟩ := r
    simp only [RepL]
    exact ⟨u, us, rfl, by simpa only [RepV] using h1, allF_ok e' h2⟩
  | .dead :: _, _, _, e, _ | .agg _ :: _, _, _, e, _ | .recd _ :: _, _, _, e, _ | .tup _ :: _, _, _, e, _ | .ref .. :: _, _, _, e, _ | .view .. :: _, _, _, e, _ | .ptr .. :: _, _, _, e, _ | .clos .. :: _, _, _, e, _ | .ifb .. :: _, _, _, e, _ | .yld _ :: _, _, _, e, _ | .mp _ :: _, _, _, e, _ => by simp [allF] at e

/-- freezing a slot's value -/
theorem toV1_ok {bs : Base} {g : Gh} {h h' : List Blk} {w : World} {x : X} {v : Value} {a : V} (H : HeapOK bs g h w) (r : RelX g h x v) (e : toV1 h x = some (a, h')) :
    ∃ S', Ext g h { g with S := S' } h' ∧ HeapOK bs { g with S := S' } h' w ∧ RepA S' a v := by
  cases x with
  | val c => simp only [toV1, Option.some.injEq, Prod.mk.injEq] at e; obtain ⟨rfl, rfl⟩ := e; exact ⟨g.S, Ext.refl g h, H, by simpa only [RelX, RepA] using r⟩
  | agg cs => simp only [toV1, Option.some.injEq, Prod.mk.injEq] at e; obtain ⟨rfl, rfl⟩ := e; exact ⟨g.S, Ext.refl g h, H, by simpa only [RelX, RepA] using r⟩
  | nil =>
    simp only [toV1, Option.some.injEq, Prod.mk.injEq] at e; obtain ⟨rfl, rfl⟩ := e
    simp only [RelX] at r
    exact ⟨g.S, Ext.refl g h, H, by simp [RepA, RepV, r]⟩
  | ex sz n cs =>
    simp only [toV1, Option.some.injEq, Prod.mk.injEq] at e; obtain ⟨rfl, rfl⟩ := e
    exact ⟨g.S, Ext.refl g h, H, rep_ex r⟩
  | ref id ver =>
    simp only [toV1] at e
    split at e
    · rename_i v0 p sz n c hb
      split at e
      · rename_i hv
        simp only [Option.some.injEq, Prod.mk.injEq] at e; obtain ⟨rfl, rfl⟩ := e
        subst hv
        simp only [RelX, hb, Option.some.injEq] at r
        obtain ⟨_, rfl, _, _, _, hh⟩ := r
        have hv := hh rfl
        obtain ⟨S', E, H', hr⟩ := H.freeze hb
        refine ⟨S', E, H', ?_⟩
        have hl : c.length = n * sz := by have := H.blk id _ hb; simp only [BlkOK] at this; exact this.2.1
        simp only [RepA, RepV]
        rcases hr with ⟨⟨zz, h1⟩, h2⟩ | ⟨cap, vs, h1, h2, h3, h4, h5⟩
        · refine .inl ⟨⟨zz, hv.trans h1⟩, h2, ?_⟩
          subst h2; simpa using hl
        · exact .inr ⟨_, _, cap, vs, hv.trans h1, h2, h3, h4, h5⟩
      · cases e
    · cases e
  | view id ver off n =>
    simp only [toV1] at e
    split at e
    · rename_i v0 p sz m c hb
      split at e
      · rename_i hv
        simp only [Option.some.injEq, Prod.mk.injEq] at e; obtain ⟨rfl, rfl⟩ := e
        subst hv
        simp only [RelX, hb, Option.some.injEq] at r
        obtain ⟨_, rfl, _, _, _, hh⟩ := r
        have hv := hh rfl
        obtain ⟨S', E, H', hr⟩ := H.freeze hb
        refine ⟨S', E, H', ?_⟩
        have hl : c.length = m * sz := by have := H.blk id _ hb; simp only [BlkOK] at this; exact this.2.1
        simp only [RepA, RepV]
        rcases hv with ⟨hv, hn⟩ | ⟨cap, hv, h2, h3⟩
        · subst hn
          rcases hv with hv | ⟨b, o, cap, hv, hc⟩
          · exact .inl ⟨hv, rfl, by simp⟩
          · exact .inr ⟨b, o, cap, [], hv, Nat.zero_le _, hc, by simp, by simp [RepL]⟩
        · rcases hr with ⟨g1, g2⟩ | ⟨cap', vs, g1, _, _, g4, g5⟩
          · subst g2
            have hc : c = [] := by simpa using hl
            subst hc
            exact .inr ⟨_, _, cap, [], hv, h2, h3, by simp, by simp [RepL]⟩
          · refine .inr ⟨_, _, cap, (vs.drop off).take (n * sz), hv, h2, h3, fun j u hj => ?_, (g5.drop off).take _⟩
            rw [List.getElem?_take] at hj
            split at hj
            · rw [List.getElem?_drop] at hj
              rw [Nat.add_assoc]
              exact g4 _ _ hj
            · cases hj
      · cases e
    · cases e
  | fptr cs =>
    simp only [toV1, Option.some.injEq, Prod.mk.injEq] at e; obtain ⟨rfl, rfl⟩ := e
    exact ⟨g.S, Ext.refl g h, H, by simpa only [RelX, RepA, RepV] using r⟩
  | ptr id ver off =>
    simp only [toV1, frzB] at e
    split at e
    · rename_i cs hb
      split at e
      · rename_i hv
        subst hv
        unfold frzP at e
        split at e
        · rename_i l hl
          simp only [Option.some.injEq, Prod.mk.injEq] at e; obtain ⟨rfl, rfl⟩ := e
          simp only [RelX, hb, Option.some.injEq] at r
          obtain ⟨_, rfl, _, _, hh⟩ := r
          have hv := hh rfl
          obtain ⟨S', vs, E, H', h1, h2⟩ := H.freezeBox hb (fun hr => allF_ok hl hr)
          have ha := (H.blk id _ hb).2.1
          refine ⟨S', E, H', ?_⟩
          simp only [RepA, RepV]
          rw [ha, Nat.zero_add] at hv
          exact ⟨_, _, vs.drop off, hv, fun j u hj => h1 _ _ (by rw [List.getElem?_drop] at hj; exact hj), h2.drop off⟩
        · cases e
      · cases e
    · rename_i l hb
      split at e
      · rename_i hv
        subst hv
        simp only [Option.some.injEq, Prod.mk.injEq] at e; obtain ⟨rfl, rfl⟩ := e
        simp only [RelX, hb, Option.some.injEq] at r
        obtain ⟨_, rfl, _, _, hh⟩ := r
        have hv := hh rfl
        obtain ⟨_, ha, vs, h1, h2⟩ := H.blk id _ hb
        refine ⟨g.S, Ext.refl g h, H, ?_⟩
        simp only [RepA, RepV]
        rw [ha, Nat.zero_add] at hv
        exact ⟨_, _, vs.drop off, hv, fun j u hj => h1 _ _ (by rw [List.getElem?_drop] at hj; exact hj), h2.drop off⟩
      · cases e
    · cases e
  | _ => simp [toV1] at e

theorem toCs1_ok {bs : Base} {w : World} : ∀ {xs : List X} {g : Gh} {h h' : List Blk} {vs : List Value} {cs : List C}, HeapOK bs g h w → RelXs g h xs vs → toCs1 h xs = some (cs, h') →
    ∃ S', Ext g h { g with S := S' } h' ∧ HeapOK bs { g with S := S' } h' w ∧ RepL S' cs vs
  | [], g, h, h', vs, as, H, r, e => by
    simp only [toCs1, Option.some.injEq, Prod.mk.injEq] at e; obtain ⟨rfl, rfl⟩ := e
    exact ⟨g.S, Ext.refl g h, H, by simpa only [RelXs, RepL] using r⟩
  | x :: xs, g, h, h', vs, as, H, r, e => by
    simp only [RelXs] at r
    obtain ⟨u, us, rfl, h1, h2⟩ := r
    simp only [toCs1] at e
    split at e
    · rename_i c h1' e1
      split at e
      · cases e
      · rename_i vs' h2' e2
        simp only [Option.some.injEq, Prod.mk.injEq] at e; obtain ⟨rfl, rfl⟩ := e
        obtain ⟨S1, E1, H1, r1⟩ := toV1_ok H h1 e1
        obtain ⟨S2, E2, H2, r2⟩ := toCs1_ok H1 (RelXs.mono E1 _ _ h2) e2
        refine ⟨S2, E1.trans E2, H2, ?_⟩
        simp only [RepL]
        exact ⟨u, us, rfl, RepV.mono E2.S _ _ r1, r2⟩
    · cases e

theorem toV1_keep {h h' : List Blk} {x : X} {a : V} (e : toV1 h x = some (a, h')) {id : Nat} {ty v sz n : Nat} {xs : List X} (hb : h[id]? = some (.slx ty v sz n xs)) : h'[id]? = some (.slx ty v sz n xs) := by
  have key : ∀ (j : Nat) (b b' : Blk), h[j]? = some b → (∀ ty v sz n xs, b ≠ .slx ty v sz n xs) → (h.set j b')[id]? = some (.slx ty v sz n xs) := fun j b b' hj hne => by
    rw [get_set_ne fun c => ?_]; exact hb
    subst c; rw [hb] at hj; cases hj; exact hne _ _ _ _ _ rfl
  unfold toV1 at e
  split at e
  · simp only [Option.some.injEq, Prod.mk.injEq] at e; obtain ⟨_, rfl⟩ := e; exact hb
  · simp only [Option.some.injEq, Prod.mk.injEq] at e; obtain ⟨_, rfl⟩ := e; exact hb
  · simp only [Option.some.injEq, Prod.mk.injEq] at e; obtain ⟨_, rfl⟩ := e; exact hb
  · simp only [Option.some.injEq, Prod.mk.injEq] at e; obtain ⟨_, rfl⟩ := e; exact hb
  · split at e
    · rename_i hj
      split at e
      · simp only [Option.some.injEq, Prod.mk.injEq] at e; obtain ⟨_, rfl⟩ := e; exact key _ _ _ hj (by simp)
      · cases e
    · cases e
  · split at e
    · rename_i hj
      split at e
      · simp only [Option.some.injEq, Prod.mk.injEq] at e; obtain ⟨_, rfl⟩ := e; exact key _ _ _ hj (by simp)
      · cases e
    · cases e
  · simp only [Option.some.injEq, Prod.mk.injEq] at e; obtain ⟨_, rfl⟩ := e; exact hb
  · unfold frzB at e
    split at e
    · rename_i hj
      split at e
      · unfold frzP at e
        split at e
        · simp only [Option.some.injEq, Prod.mk.injEq] at e; obtain ⟨_, rfl⟩ := e; exact key _ _ _ hj (by simp)
        · cases e
      · cases e
    · split at e
      · simp only [Option.some.injEq, Prod.mk.injEq] at e; obtain ⟨_, rfl⟩ := e; exact hb
      · cases e
    · cases e
  · cases e

theorem toCs1_keep : ∀ {xs : List X} {h h' : List Blk} {cs : List C}, toCs1 h xs = some (cs, h') → cs.length = xs.length ∧ ∀ {id : Nat} {ty v sz n : Nat} {ys : List X}, h[id]? = some (.slx ty v sz n ys) → h'[id]? = some (.slx ty v sz n ys)
  | [], h, h', cs, e => by simp only [toCs1, Option.some.injEq, Prod.mk.injEq] at e; obtain ⟨rfl, rfl⟩ := e; exact ⟨rfl, fun k => k⟩
  | x :: xs, h, h', cs, e => by
    simp only [toCs1] at e
    split at e
    · rename_i c h1' e1
      split at e
      · cases e
      · rename_i vs' h2' e2
        simp only [Option.some.injEq, Prod.mk.injEq] at e; obtain ⟨rfl, rfl⟩ := e
        obtain ⟨k1, k2⟩ := toCs1_keep e2
        exact ⟨by simp [k1], fun k => k2 (toV1_keep e1 k)⟩
    · cases e

/-- a slice of the private heap whose cells are values, as such -/
theorem HeapOK.plain {bs : Base} {g : Gh} {h : List Blk} {w : World} (H : HeapOK bs g h w) {ty id v sz n : Nat} {xs : List X} {cs : List C} (hb : h[id]? = some (.slx ty v sz n xs)) (hlen : cs.length = xs.length)
    (hr : ∀ cur, w.heap[(g.ad id).1]? = some (.cells cur ty (0, 0)) → RepL g.S cs (cur.toList.take (n * sz))) :
    Ext g h g (h.set id (.sl ty v true sz n cs)) ∧ HeapOK bs g (h.set id (.sl ty v true sz n cs)) w := by
  have hlt := lt_of_get hb
  have E : Ext g h g (h.set id (.sl ty v true sz n cs)) := ⟨fun _ _ _ h => h, fun i b hi => by
    by_cases ci : i = id
    · subst ci
      rw [hb] at hi; cases hi
      exact ⟨_, get_set_eq hlt, rfl, Nat.le_refl _, fun _ => ⟨rfl, rfl⟩⟩
    · exact ⟨b, by rw [get_set_ne ci]; exact hi, rfl, Nat.le_refl _, fun _ => ⟨rfl, rfl⟩⟩, fun _ h => h⟩
  refine ⟨E, ⟨H.stable, fun i k hi => ?_, fun i j hi hj => H.inj i j (by simpa using hi) (by simpa using hj), fun i hi => H.loc i (by simpa using hi), H.os, H.tape, H.output, H.size, H.frame, H.stab, H.gl, H.marks⟩⟩
  rcases set_get hi with ⟨rfl, _, rfl⟩ | ⟨_, hi'⟩
  · obtain ⟨k0, k1, k2⟩ := H.blk _ _ hb
    refine ⟨k0, hlen.trans k1, ?_⟩
    rcases k2 with k2 | ⟨a1, a2, cap, cur, a3, a4, a5, a6, a7, a8, a9⟩
    · exact .inl k2
    · exact .inr (.inl ⟨a1, a2, cap, cur, a3, a4, a5, a6, a7, hr cur a6, fun o ho => absurd (a9 o) ho⟩)
  · exact (H.blk i k hi').mono E rfl rfl rfl fun _ _ => ⟨rfl, fun _ => rfl⟩

/-- .. frozen -/
theorem HeapOK.freezeX {bs : Base} {g : Gh} {h h' : List Blk} {w : World} (H : HeapOK bs g h w) {ty id v sz n : Nat} {xs : List X} {cs : List C} (hb : h[id]? = some (.slx ty v sz n xs)) (e : toCs1 h xs = some (cs, h')) :
    ∃ S', Ext g h { g with S := S' } (h'.set id (.sl ty v false sz n cs)) ∧ HeapOK bs { g with S := S' } (h'.set id (.sl ty v false sz n cs)) w ∧ RepV S' (.sl n cs) (g.hd id) := by
  obtain ⟨k0, k1, k2⟩ := H.blk _ _ hb
  obtain ⟨hlen, keep⟩ := toCs1_keep e
  have fin : ∀ {S1 : Stab}, Ext g h { g with S := S1 } h' → HeapOK bs { g with S := S1 } h' w → (∀ cur, w.heap[(g.ad id).1]? = some (.cells cur ty (0, 0)) → RepL S1 cs (cur.toList.take (n * sz))) →
      ∃ S', Ext g h { g with S := S' } (h'.set id (.sl ty v false sz n cs)) ∧ HeapOK bs { g with S := S' } (h'.set id (.sl ty v false sz n cs)) w ∧ RepV S' (.sl n cs) (g.hd id) := fun {S1} E1 H1 hr => by
    obtain ⟨E2, H2⟩ := H1.plain (keep hb) hlen hr
    have hb2 : (h'.set id (.sl ty v true sz n cs))[id]? = some (.sl ty v true sz n cs) := get_set_eq (lt_of_get (keep hb))
    obtain ⟨S', E3, H3, hr3⟩ := H2.freeze hb2
    rw [List.set_set] at E3 H3
    refine ⟨S', E1.trans (E2.trans E3), H3, ?_⟩
    simp only [RepV]
    rcases hr3 with ⟨h1, h2⟩ | ⟨cap, vs, h1, h2, h3, h4, h5⟩
    · refine .inl ⟨h1, h2, ?_⟩
      subst h2; simp at k1; subst k1; simpa using hlen
    · exact .inr ⟨_, _, cap, vs, h1, h2, h3, h4, h5⟩
  rcases k2 with ⟨_, hn, _⟩ | ⟨a1, a2, cap, cur, a3, a4, a5, a6, a7, a8, a9⟩
  · subst hn
    simp at k1; subst k1
    simp only [toCs1, Option.some.injEq, Prod.mk.injEq] at e; obtain ⟨rfl, rfl⟩ := e
    exact fin (S1 := g.S) (Ext.refl _ _) H (fun _ _ => by simp [RepL])
  · obtain ⟨S1, E1, H1, r1⟩ := toCs1_ok H a8 e
    exact fin E1 H1 (fun c hc => by rw [a6] at hc; cases hc; exact r1)

theorem toV_ok {bs : Base} {g : Gh} {h h' : List Blk} {w : World} {x : X} {v : Value} {a : V} (H : HeapOK bs g h w) (r : RelX g h x v) (e : toV h x = some (a, h')) :
    ∃ S', Ext g h { g with S := S' } h' ∧ HeapOK bs { g with S := S' } h' w ∧ RepA S' a v := by
  unfold toV at e
  split at e
  · rename_i f xs
    unfold frzF at e
    split at e
    · rename_i cs h1 hc
      simp only [Option.some.injEq, Prod.mk.injEq] at e; obtain ⟨rfl, rfl⟩ := e
      simp only [RelX] at r
      obtain ⟨vs, rfl, hr⟩ := r
      obtain ⟨S', E, H', h2⟩ := toCs1_ok H hr hc
      exact ⟨S', E, H', by simp only [RepA, RepV]; exact ⟨vs, rfl, h2⟩⟩
    · cases e
  · rename_i xs
    unfold frzR at e
    split at e
    · rename_i cs h1 hc
      simp only [Option.some.injEq, Prod.mk.injEq] at e; obtain ⟨rfl, rfl⟩ := e
      simp only [RelX] at r
      obtain ⟨vs, rfl, hr, _⟩ := r
      obtain ⟨S', E, H', h2⟩ := toCs1_ok H hr hc
      exact ⟨S', E, H', by simp only [RepA]; exact ⟨vs, rfl, h2⟩⟩
    · cases e
  · rename_i id ver
    unfold frzY at e
    split at e
    · rename_i ty v0 p sz n c hb
      refine toV1_ok H r (a := a) (h' := h') ?_
      simp only [toV1, hb]
      exact e
    · rename_i ty v0 sz n cells hb
      split at e
      · rename_i hv
        subst hv
        unfold frzX at e
        split at e
        · rename_i cs h1 hc
          simp only [Option.some.injEq, Prod.mk.injEq] at e; obtain ⟨rfl, rfl⟩ := e
          simp only [RelX, hb, Option.some.injEq] at r
          obtain ⟨_, rfl, _, _, _, hh⟩ := r
          have hv := hh rfl
          obtain ⟨S', E, H', hr⟩ := H.freezeX hb hc
          exact ⟨S', E, H', by rw [hv]; exact hr⟩
        · cases e
      · cases e
    · cases e
  · exact toV1_ok H r e

theorem RepA.mono {S S' : Stab} (hS : ∀ b o v, S b o = some v → S' b o = some v) {a : V} {v : Value} (h : RepA S a v) : RepA S' a v := by
  cases a with
  | c k => exact RepV.mono hS k v h
  | agg ks => obtain ⟨vs, rfl, hl⟩ := h; exact ⟨vs, rfl, RepL.mono hS ks vs hl⟩

def RepAs (S : Stab) : List V → List Value → Prop
  | [], vs => vs = []
  | a :: as, vs => ∃ u us, vs = u :: us ∧ RepA S a u ∧ RepAs S as us

theorem RepAs.mono {S S' : Stab} (hS : ∀ b o v, S b o = some v → S' b o = some v) : ∀ {as : List V} {vs : List Value}, RepAs S as vs → RepAs S' as vs
  | [], _, h => h
  | a :: as, _, h => by obtain ⟨u, us, rfl, h1, h2⟩ := h; exact ⟨u, us, rfl, h1.mono hS, h2.mono hS⟩

theorem toVs_ok {bs : Base} {w : World} : ∀ {xs : List X} {g : Gh} {h h' : List Blk} {vs : List Value} {as : List V}, HeapOK bs g h w → RelXs g h xs vs → toVs h xs = some (as, h') →
    ∃ S', Ext g h { g with S := S' } h' ∧ HeapOK bs { g with S := S' } h' w ∧ RepAs S' as vs
  | [], g, h, h', vs, as, H, r, e => by
    simp only [toVs, Option.some.injEq, Prod.mk.injEq] at e; obtain ⟨rfl, rfl⟩ := e
    exact ⟨g.S, Ext.refl g h, H, by simp only [RelXs] at r; exact r⟩
  | x :: xs, g, h, h', vs, as, H, r, e => by
    simp only [RelXs] at r
    obtain ⟨u, us, rfl, h1, h2⟩ := r
    simp only [toVs] at e
    split at e
    · cases e
    · rename_i v h1' e1
      split at e
      · cases e
      · rename_i vs' h2' e2
        simp only [Option.some.injEq, Prod.mk.injEq] at e; obtain ⟨rfl, rfl⟩ := e
        obtain ⟨S1, E1, H1, r1⟩ := toV_ok H h1 e1
        obtain ⟨S2, E2, H2, r2⟩ := toVs_ok H1 (RelXs.mono E1 _ _ h2) e2
        exact ⟨S2, E1.trans E2, H2, u, us, rfl, r1.mono E2.S, r2⟩

theorem toCs_ok {bs : Base} {w : World} : ∀ {xs : List X} {g : Gh} {h h' : List Blk} {vs : List Value} {cs : List C}, HeapOK bs g h w → RelXs g h xs vs → toCs h xs = some (cs, h') →
    ∃ S', Ext g h { g with S := S' } h' ∧ HeapOK bs { g with S := S' } h' w ∧ RepL S' cs vs
  | [], g, h, h', vs, as, H, r, e => by
    simp only [toCs, Option.some.injEq, Prod.mk.injEq] at e; obtain ⟨rfl, rfl⟩ := e
    exact ⟨g.S, Ext.refl g h, H, by simpa only [RelXs, RepL] using r⟩
  | x :: xs, g, h, h', vs, as, H, r, e => by
    simp only [RelXs] at r
    obtain ⟨u, us, rfl, h1, h2⟩ := r
    simp only [toCs] at e
    split at e
    · rename_i c h1' e1
      split at e
      · cases e
      · rename_i vs' h2' e2
        simp only [Option.some.injEq, Prod.mk.injEq] at e; obtain ⟨rfl, rfl⟩ := e
        obtain ⟨S1, E1, H1, r1⟩ := toV_ok H h1 e1
        obtain ⟨S2, E2, H2, r2⟩ := toCs_ok H1 (RelXs.mono E1 _ _ h2) e2
        refine ⟨S2, E1.trans E2, H2, ?_⟩
        simp only [RepL]
        exact ⟨u, us, rfl, RepV.mono E2.S _ _ r1, r2⟩
    · cases e

theorem slx_cells {bs : Base} {g : Gh} {h : List Blk} {w : World} (H : HeapOK bs g h w) {ty : TypeId} {id v sz n : Nat} {c : List X} (hb : h[id]? = some (.slx ty v sz n c)) :
    ∃ vs, (∀ j u, vs[j]? = some u → w.cell? ⟨(g.ad id).1, (g.ad id).2 + j, none⟩ = some u) ∧ RelXs g h c vs := by
  obtain ⟨h0, hl, hk⟩ := H.blk id _ hb
  rcases hk with ⟨hv, hn, he⟩ | ⟨he, ha, cap, cur, h1, h2, h3, h4, h5, h6, h7⟩
  · subst hn
    have hc : c = [] := by simpa using hl
    subst hc
    exact ⟨[], by simp, by simp [RelXs]⟩
  · refine ⟨_, fun j u hj => ?_, h6⟩
    rw [ha, Nat.zero_add, cell_of h4]
    rw [List.getElem?_take] at hj
    split at hj
    · simpa using hj
    · cases hj

/-- what a slice block of the private heap holds, in memory -/
theorem sl_cells {bs : Base} {g : Gh} {h : List Blk} {w : World} (H : HeapOK bs g h w) {ty : TypeId} {id v sz n : Nat} {p : Bool} {c : List C} (hb : h[id]? = some (.sl ty v p sz n c)) :
    ∃ vs, (∀ j u, vs[j]? = some u → w.cell? ⟨(g.ad id).1, (g.ad id).2 + j, none⟩ = some u) ∧ RepL g.S c vs := by
  have hk := H.blk id _ hb
  simp only [BlkOK] at hk
  obtain ⟨h0, hl, hk⟩ := hk
  rcases hk with ⟨hv, hn, he⟩ | ⟨he, ha, cap, cur, h1, h2, h3, h4, h5, h6, h7⟩ | ⟨he, hp, hv, hn, vs, hs, hr⟩
  · subst hn
    have hc : c = [] := by simpa using hl
    subst hc
    exact ⟨[], by simp, by simp [RepL]⟩
  · refine ⟨_, fun j u hj => ?_, h6⟩
    rw [ha, Nat.zero_add, cell_of h4]
    rw [List.getElem?_take] at hj
    split at hj
    · simpa using hj
    · cases hj
  · exact ⟨vs, fun j u hj => H.stable _ _ _ (hs j u hj), hr⟩

def CsOK (g : Gh) (h : List Blk) : Cs → List Value → Prop
  | .c cs, vs => RepL g.S cs vs
  | .x xs, vs => RelXs g h xs vs

theorem drop_cells {w : World} {b o : Nat} {vs : List Value} (hc : ∀ j u, vs[j]? = some u → w.cell? ⟨b, o + j, none⟩ = some u) (off : Nat) :
    ∀ j u, (vs.drop off)[j]? = some u → w.cell? ⟨b, o + off + j, none⟩ = some u := fun j u hj => by
  rw [List.getElem?_drop] at hj
  rw [Nat.add_assoc]
  exact hc _ _ hj

theorem cellsAt_ok {bs : Base} {g : Gh} {h : List Blk} {w : World} {x : X} {v : Value} {cs : Cs} {acc : Acc} (H : HeapOK bs g h w) (r : RelX g h x v) (e : cellsAt h x = some (cs, acc)) :
    ∃ b o vs, v = .pointer (some ⟨b, o, none⟩) ∧ (∀ j u, vs[j]? = some u → w.cell? ⟨b, o + j, none⟩ = some u) ∧ CsOK g h cs vs := by
  cases x with
  | fptr l =>
    simp only [cellsAt, Option.some.injEq, Prod.mk.injEq] at e; obtain ⟨rfl, rfl⟩ := e
    simp only [RelX] at r
    obtain ⟨b, o, vs, rfl, h1, h2⟩ := r
    exact ⟨b, o, vs, rfl, fun j u hj => H.stable _ _ _ (h1 j u hj), h2⟩
  | ptr id ver off =>
    simp only [cellsAt] at e
    split at e
    · rename_i cs0 hb
      split at e
      · rename_i hv
        subst hv
        simp only [RelX, hb, Option.some.injEq] at r
        obtain ⟨_, rfl, _, _, hh⟩ := r
        have hv := hh rfl
        have hk := H.blk id _ hb
        simp only [BlkOK] at hk
        obtain ⟨he, ha, _, cells, h4, hr⟩ := hk
        have hc : ∀ j u, cells.toList[j]? = some u → w.cell? ⟨(g.ad id).1, (g.ad id).2 + j, none⟩ = some u := fun j u hj => by
          rw [ha, Nat.zero_add, cell_of h4]; simpa using hj
        split at e
        · rename_i l hl
          simp only [Option.some.injEq, Prod.mk.injEq] at e; obtain ⟨rfl, rfl⟩ := e
          exact ⟨_, _, _, hv, drop_cells hc off, (allC_ok hl hr).drop off⟩
        · simp only [Option.some.injEq, Prod.mk.injEq] at e; obtain ⟨rfl, rfl⟩ := e
          exact ⟨_, _, _, hv, drop_cells hc off, hr.drop off⟩
      · cases e
    · rename_i v0 p sz n c hb
      split at e
      · rename_i hv
        subst hv
        simp only [RelX, hb, Option.some.injEq] at r
        obtain ⟨_, rfl, _, _, hh⟩ := r
        have hv := hh rfl
        simp only [Option.some.injEq, Prod.mk.injEq] at e; obtain ⟨rfl, rfl⟩ := e
        obtain ⟨vs, hc, hr⟩ := sl_cells H hb
        exact ⟨_, _, _, hv, drop_cells hc off, hr.drop off⟩
      · cases e
    · rename_i v0 sz n c hb
      split at e
      · rename_i hv
        subst hv
        simp only [RelX, hb, Option.some.injEq] at r
        obtain ⟨_, rfl, _, _, hh⟩ := r
        have hv := hh rfl
        simp only [Option.some.injEq, Prod.mk.injEq] at e; obtain ⟨rfl, rfl⟩ := e
        obtain ⟨vs, hc, hr⟩ := slx_cells H hb
        exact ⟨_, _, _, hv, drop_cells hc off, hr.drop off⟩
      · cases e
    · rename_i l hb
      split at e
      · rename_i hv
        subst hv
        simp only [RelX, hb, Option.some.injEq] at r
        obtain ⟨_, rfl, _, _, hh⟩ := r
        have hv := hh rfl
        simp only [Option.some.injEq, Prod.mk.injEq] at e; obtain ⟨rfl, rfl⟩ := e
        obtain ⟨_, ha, vs, h1, h2⟩ := H.blk id _ hb
        exact ⟨_, _, _, hv, drop_cells (fun j u hj => by rw [ha, Nat.zero_add]; exact H.stable _ _ _ (h1 j u hj)) off, h2.drop off⟩
      · cases e
    · cases e
  | _ => simp [cellsAt] at e

/-- a slice's header and its elements -/
theorem slOf_ok {bs : Base} {g : Gh} {h : List Blk} {w : World} {x : X} {v : Value} {n : Nat} {cs : List C} {acc : Acc} (H : HeapOK bs g h w) (r : RelX g h x v) (e : slOf h x = some (n, cs, acc)) :
    ((∃ z, v = .slice z 0 0) ∧ n = 0 ∧ cs = []) ∨ ∃ b o cap vs, v = .slice (some ⟨b, o, none⟩) n cap ∧ n ≤ cap ∧ cap ≤ maxLen ∧ (∀ j u, vs[j]? = some u → w.cell? ⟨b, o + j, none⟩ = some u) ∧ RepL g.S cs vs := by
  cases x with
  | val c =>
    cases c with
    | sl m l =>
      simp only [slOf, Option.some.injEq, Prod.mk.injEq] at e; obtain ⟨rfl, rfl, rfl⟩ := e
      simp only [RelX, RepV] at r
      rcases r with r | ⟨b, o, cap, vs, h1, h2, h3, h4, h5⟩
      · exact .inl r
      · exact .inr ⟨b, o, cap, vs, h1, h2, h3, fun j u hj => H.stable _ _ _ (h4 j u hj), h5⟩
    | _ => simp [slOf] at e
  | nil =>
    simp only [slOf, Option.some.injEq, Prod.mk.injEq] at e; obtain ⟨rfl, rfl, rfl⟩ := e
    simp only [RelX] at r
    exact .inl ⟨⟨_, r⟩, rfl, rfl⟩
  | ex sz m l =>
    simp only [slOf, Option.some.injEq, Prod.mk.injEq] at e; obtain ⟨rfl, rfl, rfl⟩ := e
    have r := rep_ex r
    simp only [RepV] at r
    rcases r with r | ⟨b, o, cap, vs, h1, h2, h3, h4, h5⟩
    · exact .inl r
    · exact .inr ⟨b, o, cap, vs, h1, h2, h3, fun j u hj => H.stable _ _ _ (h4 j u hj), h5⟩
  | ref id ver =>
    simp only [slOf] at e
    split at e
    · rename_i v0 p sz m c hb
      split at e
      · rename_i hv
        simp only [Option.some.injEq, Prod.mk.injEq] at e; obtain ⟨rfl, rfl, rfl⟩ := e
        subst hv
        simp only [RelX, hb, Option.some.injEq] at r
        obtain ⟨_, rfl, _, _, _, hh⟩ := r
        have hv := hh rfl
        obtain ⟨vs, hc, hr⟩ := sl_cells H hb
        have hk := H.blk id _ hb
        simp only [BlkOK] at hk
        obtain ⟨h0, hl, hk⟩ := hk
        rcases hk with ⟨⟨zz, h1⟩, h2, he⟩ | ⟨he, ha, cap, cur, h1, h2, h3, h4, h5, h6, h7⟩ | ⟨he, hp, h1, h2, _, _, _⟩
        · exact .inl ⟨⟨zz, hv.trans h1⟩, h2, by subst h2; simpa using hl⟩
        · exact .inr ⟨_, _, cap, vs, hv.trans (h1.trans (by rw [ha])), h2, h3, hc, hr⟩
        · exact .inr ⟨_, _, _, vs, hv.trans h1, Nat.le_refl _, h2, hc, hr⟩
      · cases e
    · cases e
  | view id ver off n' =>
    simp only [slOf] at e
    split at e
    · rename_i v0 p sz m c hb
      split at e
      · rename_i hv
        simp only [Option.some.injEq, Prod.mk.injEq] at e; obtain ⟨rfl, rfl, rfl⟩ := e
        subst hv
        simp only [RelX, hb, Option.some.injEq] at r
        obtain ⟨_, rfl, _, _, _, hh⟩ := r
        rcases hh rfl with ⟨hv, hn⟩ | ⟨cap, hv, h2, h3⟩
        · subst hn
          rcases hv with hv | ⟨b, o, cap, hv, hc⟩
          · exact .inl ⟨hv, rfl, by simp⟩
          · exact .inr ⟨b, o, cap, [], hv, Nat.zero_le _, hc, by simp, by simp [RepL]⟩
        · obtain ⟨vs, hc, hr⟩ := sl_cells H hb
          refine .inr ⟨_, _, cap, _, hv, h2, h3, fun j u hj => ?_, (hr.drop off).take (n' * sz)⟩
          rw [List.getElem?_take] at hj
          split at hj
          · exact drop_cells hc off j u hj
          · cases hj
      · cases e
    · cases e
  | _ => simp [slOf] at e

/-- a row of the type table -/
theorem TOK.get {P : Program} {T : TT} (hT : TOK P T) {t : Nat} {ti : TI} (h : T t = some ti) : ∃ d i z, P.underlying t = some d ∧ P.info? t = some i ∧ ti.k.fits d ∧
  i.size = ti.size ∧ i.bytes = ti.bytes ∧ i.zero = some z ∧ z.cells.toList = ti.zero.map zval ∧ ti.zero.all zok = true ∧ ti.zero.length = ti.size := hT.row t ti h

section
variable {P : Program} {T : TT} {w : World}

theorem TOK.isAgg (hT : TOK P T) {t : Nat} {ti : TI} (h : T t = some ti) : (isAgg t).run P w = .ok ti.k.agg w := by
  obtain ⟨d, i, z, hd, hi, hf, _⟩ := hT.get h
  unfold Go.isAgg
  simp only [Sem.run_bind, run_underlying hd, Result.andThen_ok]
  cases hk : ti.k with
  | int k => rw [hk] at hf; simp only [TK.fits] at hf; subst hf; simp [TK.agg]
  | bool => rw [hk] at hf; simp only [TK.fits] at hf; subst hf; simp [TK.agg]
  | str => rw [hk] at hf; simp only [TK.fits] at hf; subst hf; simp [TK.agg]
  | slice e => rw [hk] at hf; simp only [TK.fits] at hf; subst hf; simp [TK.agg]
  | struct fs => rw [hk] at hf; simp only [TK.fits] at hf; obtain ⟨fields, rfl, _⟩ := hf; simp [TK.agg]
  | array n e => rw [hk] at hf; simp only [TK.fits] at hf; subst hf; simp [TK.agg]
  | other => rw [hk] at hf; simp only [TK.fits] at hf; cases d <;> simp_all [TK.agg]

theorem TOK.sizeOf (hT : TOK P T) {t : Nat} {ti : TI} (h : T t = some ti) : (Go.sizeOf t).run P w = .ok ti.size w := by
  obtain ⟨d, i, z, hd, hi, hf, hs, _⟩ := hT.get h
  simp [Go.sizeOf, typeInfo, hi, hs]

theorem TOK.typeInfo (hT : TOK P T) {t : Nat} {ti : TI} (h : T t = some ti) : ∃ i, (Go.typeInfo t).run P w = .ok i w ∧ i.size = ti.size ∧ i.bytes = ti.bytes := by
  obtain ⟨d, i, z, hd, hi, hf, hs, hb, _⟩ := hT.get h
  exact ⟨i, by simp [Go.typeInfo, hi], hs, hb⟩

theorem TOK.zeroValue (hT : TOK P T) {t : Nat} {ti : TI} (h : T t = some ti) : ∃ z, (Go.zeroValue t).run P w = .ok z w ∧ z.cells.toList = ti.zero.map zval := by
  obtain ⟨d, i, z, hd, hi, hf, hs, hb, hz, hc, _⟩ := hT.get h
  exact ⟨z, by simp [Go.zeroValue, Go.typeInfo, hi, hz], hc⟩

theorem TOK.slice (hT : TOK P T) {t e : Nat} {s b : Nat} {z : List X} (h : T t = some ⟨.slice e, s, b, z⟩) : P.underlying t = some (.slice e) := by
  obtain ⟨d, i, z, hd, hi, hf, _⟩ := hT.get h
  simp only [TK.fits] at hf; rw [← hf]; exact hd
theorem TOK.array (hT : TOK P T) {t n e : Nat} {s b : Nat} {z : List X} (h : T t = some ⟨.array n e, s, b, z⟩) : P.underlying t = some (.array n e) := by
  obtain ⟨d, i, z, hd, hi, hf, _⟩ := hT.get h
  simp only [TK.fits] at hf; rw [← hf]; exact hd
theorem TOK.str (hT : TOK P T) {t : Nat} {s b : Nat} {z : List X} (h : T t = some ⟨.str, s, b, z⟩) : P.underlying t = some .string := by
  obtain ⟨d, i, z, hd, hi, hf, _⟩ := hT.get h
  simp only [TK.fits] at hf; rw [← hf]; exact hd
theorem TOK.int (hT : TOK P T) {t : Nat} {k : IntKind} {s b : Nat} {z : List X} (h : T t = some ⟨.int k, s, b, z⟩) : P.underlying t = some (.int k) := by
  obtain ⟨d, i, z, hd, hi, hf, _⟩ := hT.get h
  simp only [TK.fits] at hf; rw [← hf]; exact hd
theorem TOK.bool (hT : TOK P T) {t : Nat} {s b : Nat} {z : List X} (h : T t = some ⟨.bool, s, b, z⟩) : P.underlying t = some .bool := by
  obtain ⟨d, i, z, hd, hi, hf, _⟩ := hT.get h
  simp only [TK.fits] at hf; rw [← hf]; exact hd
theorem TOK.struct (hT : TOK P T) {t : Nat} {fs : List (Nat × Nat)} {s b : Nat} {z : List X} (h : T t = some ⟨.struct fs, s, b, z⟩) :
    ∃ fields : Array Field, P.underlying t = some (.struct fields) ∧ ∀ (f o u : Nat), fs[f]? = some (o, u) → ∃ fd : Field, fields[f]? = some fd ∧ fd.offset = o ∧ fd.type = u := by
  obtain ⟨d, i, z, hd, hi, hf, _⟩ := hT.get h
  simp only [TK.fits] at hf
  obtain ⟨fields, rfl, hm⟩ := hf
  refine ⟨fields, hd, fun f o u hfu => ?_⟩
  rw [← hm, List.getElem?_map, Option.map_eq_some_iff] at hfu
  obtain ⟨fd, h1, h2⟩ := hfu
  simp only [Prod.mk.injEq] at h2
  exact ⟨fd, by simpa using h1, h2.1, h2.2⟩

end
end Fen

/- Part 6: soundness of the operations that only read. -/
namespace Fen
open Go Go.RowKit

theorem add_zero' (b o : Nat) : (⟨b, o, none⟩ : Addr).add 0 = ⟨b, o, none⟩ := by simp [Addr.add]
theorem addr_add (b o j : Nat) : (⟨b, o, none⟩ : Addr).add j = ⟨b, o + j, none⟩ := by
  unfold Addr.add; split <;> simp_all

theorem headD_get {α : Type} (l : List α) (d : α) (h : 0 < l.length) : l[0]? = some (l.headD d) := by cases l <;> simp_all

/-- the operation gives a value, and what stands behind it -/
def VOK (P : Program) (bs : Base) (g : Gh) (h : List Blk) (w : World) (s : Sem Value) (e : Eff) : Prop :=
  ∃ v w', s.run P w = .ok v w' ∧ After bs g h e v w'

section
variable {P : Program} {T : TT} {bs : Base} {g : Gh} {h : List Blk} {w : World}

theorem load_ok (hT : TOK P T) (H : HeapOK bs g h w) {t : Nat} {x : X} {v : Value} {e : Eff} (r : RelX g h x v) (he : opLoad T h t x = some e) (hp : e.pre) :
    VOK P bs g h w (Instr.loadAt t v) e := by
  unfold opLoad at he
  split at he
  · rename_i ti cs acc ht hc
    obtain ⟨b, o, vs, rfl, hcell, hr⟩ := cellsAt_ok H r hc
    simp only [CsOK] at hr
    have hlen := hr.length
    split at he
    · rename_i hagg
      simp only [Option.some.injEq] at he; subst he
      simp only at hp
      refine ⟨.agg (vs.take ti.size).toArray, w, ?_, After.same H ?_⟩
      · have hl := run_loadCells_list (P := P) (w := w) ⟨b, o, none⟩ (vs.take ti.size) (fun j u hj => by
          rw [List.getElem?_take] at hj
          split at hj
          · rw [addr_add]; exact hcell j u hj
          · cases hj)
        have hsz : (vs.take ti.size).length = ti.size := by rw [List.length_take, hlen]; omega
        rw [hsz] at hl
        simp [Instr.loadAt, Instr.sureAddr, loadVar, hT.isAgg ht, hT.sizeOf ht, hagg, hl]
      · simp only [RelX]; exact ⟨_, rfl, hr.take _⟩
    · rename_i hagg
      simp only [Option.some.injEq] at he; subst he
      simp only at hp
      obtain ⟨u, hu, hru⟩ := hr.at (headD_get cs (zC (ti.zero.headD .nil)) hp)
      have hc0 := hcell 0 u hu
      rw [Nat.add_zero] at hc0
      refine ⟨u, w, ?_, After.same H (by simpa only [RelX] using hru)⟩
      simp [Instr.loadAt, Instr.sureAddr, loadVar, hT.isAgg ht, hagg, hc0]
  · rename_i ti xs acc ht hc
    obtain ⟨b, o, vs, rfl, hcell, hr⟩ := cellsAt_ok H r hc
    simp only [CsOK] at hr
    have hlen := hr.length
    split at he
    · rename_i hagg
      split at he
      · rename_i cs h' hcs
        simp only [Option.some.injEq] at he; subst he
        simp only at hp
        obtain ⟨S', E', H', r'⟩ := toCs_ok H (hr.take ti.size) hcs
        refine ⟨.agg (vs.take ti.size).toArray, w, ?_, _, E', H', ?_⟩
        · have hl := run_loadCells_list (P := P) (w := w) ⟨b, o, none⟩ (vs.take ti.size) (fun j u hj => by
            rw [List.getElem?_take] at hj
            split at hj
            · rw [addr_add]; exact hcell j u hj
            · cases hj)
          have hsz : (vs.take ti.size).length = ti.size := by rw [r'.length]; exact hp.symm
          rw [hsz] at hl
          simp [Instr.loadAt, Instr.sureAddr, loadVar, hT.isAgg ht, hT.sizeOf ht, hagg, hl]
        · simp only [RelX]; exact ⟨_, rfl, r'⟩
      · cases he
    · rename_i hagg
      split at he
      · rename_i x' xs' 
        simp only [Option.some.injEq] at he; subst he
        simp only [RelXs] at hr
        obtain ⟨u, us, rfl, hu, _⟩ := hr
        have hc0 := hcell 0 u (by simp)
        rw [Nat.add_zero] at hc0
        refine ⟨u, w, ?_, After.same H hu⟩
        simp [Instr.loadAt, Instr.sureAddr, loadVar, hT.isAgg ht, hagg, hc0]
      · cases he
  · cases he

theorem part_ok (hT : TOK P T) (H : HeapOK bs g h w) {t : Nat} {ti : TI} (ht : T t = some ti) {cs : List C} {vs : List Value} (r : RepL g.S cs vs) (off : Nat) (hp : (partX ti cs off h).pre) :
    ∃ v, (part t vs.toArray off).run P w = .ok v w ∧ RelX g h (partX ti cs off h).x v := by
  have hlen := r.length
  unfold partX at hp ⊢
  split at hp
  · rename_i hagg
    simp only [hagg, if_true] at hp ⊢
    refine ⟨.agg ((vs.drop off).take ti.size).toArray, ?_, by simp only [RelX]; exact ⟨_, rfl, (r.drop off).take _⟩⟩
    have he : vs.toArray.extract off (off + ti.size) = ((vs.drop off).take ti.size).toArray := by
      apply Array.ext'
      simp [List.extract_eq_take_drop]
    simp [part, hT.isAgg ht, hT.sizeOf ht, hagg, he]
  · rename_i hagg
    have hagg' : ti.k.agg = false := by simpa using hagg
    simp only [hagg', Bool.false_eq_true, if_false] at hp ⊢
    have hj : cs[off]? = some (cs.getD off .nilf) := by simp [List.getD_eq_getElem?_getD, List.getElem?_eq_getElem hp]
    obtain ⟨u, hu, hru⟩ := r.at hj
    refine ⟨u, ?_, by simpa only [RelX] using hru⟩
    simp [part, hT.isAgg ht, hagg', hu]

theorem field_ok (hT : TOK P T) (H : HeapOK bs g h w) {t : Nat} {x : X} {v : Value} {f : Nat} {e : Eff} (r : RelX g h x v) (he : opField T h t x f = some e) (hp : e.pre) :
    VOK P bs g h w (Instr.field t v f) e := by
  unfold opField at he
  split at he
  · rename_i fs s b z cs ht
    split at he
    · rename_i off ft hf
      split at he
      · rename_i fi hfi
        simp only [Option.some.injEq] at he; subst he
        simp only [RelX] at r
        obtain ⟨vs, rfl, hr⟩ := r
        obtain ⟨fields, hu, hfs⟩ := hT.struct ht
        obtain ⟨fd, h1, h2, h3⟩ := hfs f off ft hf
        obtain ⟨v, hv, hx⟩ := part_ok (bs := bs) hT H hfi hr off hp
        refine ⟨v, w, ?_, ?_⟩
        · simp [Instr.field, run_underlying hu, h1, h2, h3, asAgg, hv]
        · have hh : (partX fi cs off h).h = h := by unfold partX; split <;> rfl
          unfold After
          rw [hh]
          exact ⟨g, Ext.refl g h, H, hx⟩
      · cases he
    · cases he
  · cases he

theorem fieldAddr_ok (hT : TOK P T) (H : HeapOK bs g h w) {t : Nat} {x : X} {v : Value} {f : Nat} {e : Eff} (r : RelX g h x v) (he : opFieldAddr T h t x f = some e) (hp : e.pre) : VOK P bs g h w (Instr.fieldAt t v f) e := by
  unfold opFieldAddr at he
  split at he
  · rename_i fs s b z ht
    split at he
    · rename_i off ft hf
      split at he
      · rename_i fi hfi
        obtain ⟨fields, hu, hfs⟩ := hT.struct ht
        obtain ⟨fd, h1, h2, h3⟩ := hfs f off ft hf
        have hne : 0 < fi.size → fi.size ≠ 0 := by omega
        split at he
        · rename_i id ver o
          simp only [Option.some.injEq] at he; subst he
          simp only at hp
          simp only [RelX] at r
          obtain ⟨bb, hbb, hvv, ⟨a, rfl⟩, hh⟩ := r
          refine ⟨.pointer (some (a.add off)), w, ?_, After.same H ?_⟩
          · simp [Instr.fieldAt, run_underlying hu, h1, h2, h3, Instr.sureAddr, fieldPlace, hT.sizeOf hfi, hne hp]
          · simp only [RelX]
            refine ⟨bb, hbb, hvv, ⟨_, rfl⟩, fun q => ?_⟩
            have := hh q
            simp only [Value.pointer.injEq, Option.some.injEq] at this
            subst this
            rw [addr_add, Nat.add_assoc]
        · rename_i cs
          simp only [Option.some.injEq] at he; subst he
          simp only at hp
          simp only [RelX] at r
          obtain ⟨bb, o, vs, rfl, hs, hr⟩ := r
          refine ⟨.pointer (some ⟨bb, o + off, none⟩), w, ?_, After.same H ?_⟩
          · simp [Instr.fieldAt, run_underlying hu, h1, h2, h3, Instr.sureAddr, fieldPlace, hT.sizeOf hfi, hne hp, addr_add]
          · simp only [RelX]
            refine ⟨bb, o + off, vs.drop off, rfl, fun j u hj => ?_, hr.drop off⟩
            rw [List.getElem?_drop] at hj
            rw [Nat.add_assoc]; exact hs _ _ hj
        · cases he
      · cases he
    · cases he
  · cases he


theorem run_indexAt_sl (t elem : TypeId) (a : Addr) (len cap : Nat) (k : IntKind) (i : Int) (h : P.underlying t = some (.slice elem)) {n : Nat} (hs : (Go.sizeOf elem).run P w = .ok n w) (h0 : 0 ≤ i) (h1 : i < len) :
    (Instr.indexAt t (.slice (some a) len cap) (.int k i)).run P w = .ok (.pointer (some (a.add (i.toNat * n)))) w := by
  simp [Instr.indexAt, asIntOf, run_underlying h, hs, h0, h1]

theorem run_indexAt_arr (t elem : TypeId) (a : Addr) (len : Nat) (k : IntKind) (i : Int) (h : P.underlying t = some (.array len elem)) {n : Nat} (hs : (Go.sizeOf elem).run P w = .ok n w) (h0 : 0 ≤ i) (h1 : i < len) :
    (Instr.indexAt t (.pointer (some a)) (.int k i)).run P w = .ok (.pointer (some (a.add (i.toNat * n)))) w := by
  simp [Instr.indexAt, asIntOf, run_underlying h, hs, h0, h1, Instr.sureAddr]

theorem rel_ptr_add {id ver off n : Nat} {v : Value} {a : Addr} (r : RelX g h (.ptr id ver off) v) (hv : v = .pointer (some a)) : RelX g h (.ptr id ver (off + n)) (.pointer (some (a.add n))) := by
  simp only [RelX] at r ⊢
  obtain ⟨bb, hbb, hvv, _, hh⟩ := r
  refine ⟨bb, hbb, hvv, ⟨_, rfl⟩, fun q => ?_⟩
  have := hh q
  rw [hv] at this
  simp only [Value.pointer.injEq, Option.some.injEq] at this
  subst this
  rw [addr_add, Nat.add_assoc]

theorem rel_fptr_drop {cs : List C} {v : Value} (n : Nat) (r : RelX g h (.fptr cs) v) : ∃ b o, v = .pointer (some ⟨b, o, none⟩) ∧ RelX g h (.fptr (cs.drop n)) (.pointer (some ⟨b, o + n, none⟩)) := by
  simp only [RelX] at r ⊢
  obtain ⟨bb, o, vs, rfl, hs, hr⟩ := r
  refine ⟨bb, o, rfl, bb, o + n, vs.drop n, rfl, fun j u hj => ?_, hr.drop n⟩
  rw [List.getElem?_drop] at hj
  rw [Nat.add_assoc]; exact hs _ _ hj

/-- a slice of the private heap, asked for one of its elements' places -/
theorem ref_place (H : HeapOK bs g h w) {id v sz m : Nat} {p : Bool} {c : List C} {ty : TypeId} (hb : h[id]? = some (.sl ty v p sz m c)) (hm : 0 < m) (off : Nat) :
    ∃ cap, g.hd id = .slice (some ⟨(g.ad id).1, (g.ad id).2, none⟩) m cap ∧ m ≤ cap ∧ cap ≤ maxLen ∧ RelX g h (.ptr id v off) (.pointer (some ⟨(g.ad id).1, (g.ad id).2 + off, none⟩)) := by
  have hk := H.blk id _ hb
  simp only [BlkOK] at hk
  obtain ⟨h0, hl, hk⟩ := hk
  have hx : RelX g h (.ptr id v off) (.pointer (some ⟨(g.ad id).1, (g.ad id).2 + off, none⟩)) := by
    simp only [RelX, hb, Option.some.injEq]
    exact ⟨_, rfl, Nat.le_refl _, ⟨_, rfl⟩, fun _ => by simp⟩
  rcases hk with ⟨h1, h2, he⟩ | ⟨he, ha, cap, cur, h1, h2, h3, h4, h5, h6, h7⟩ | ⟨he, hp, h1, h2, _, _, _⟩
  · omega
  · exact ⟨cap, by rw [h1, ha], h2, h3, hx⟩
  · exact ⟨m, h1, Nat.le_refl _, h2, hx⟩

theorem rel_ref (H : HeapOK bs g h w) {id v sz m : Nat} {p : Bool} {c : List C} {ty : TypeId} (hb : h[id]? = some (.sl ty v p sz m c)) {u : Value} (r : RelX g h (.ref id v) u) : u = g.hd id := by
  simp only [RelX, hb, Option.some.injEq] at r
  obtain ⟨_, rfl, _, _, _, hh⟩ := r
  exact hh rfl

theorem relx_ref (H : HeapOK bs g h w) {id v sz m : Nat} {c : List X} {ty : TypeId} (hb : h[id]? = some (.slx ty v sz m c)) {u : Value} (r : RelX g h (.ref id v) u) : u = g.hd id := by
  simp only [RelX, hb, Option.some.injEq] at r
  obtain ⟨_, rfl, _, _, _, hh⟩ := r
  exact hh rfl

theorem refx_place (H : HeapOK bs g h w) {id v sz m : Nat} {c : List X} {ty : TypeId} (hb : h[id]? = some (.slx ty v sz m c)) (hm : 0 < m) (off : Nat) :
    ∃ cap, g.hd id = .slice (some ⟨(g.ad id).1, (g.ad id).2, none⟩) m cap ∧ m ≤ cap ∧ cap ≤ maxLen ∧ RelX g h (.ptr id v off) (.pointer (some ⟨(g.ad id).1, (g.ad id).2 + off, none⟩)) := by
  obtain ⟨h0, hl, hk⟩ := H.blk id _ hb
  have hx : RelX g h (.ptr id v off) (.pointer (some ⟨(g.ad id).1, (g.ad id).2 + off, none⟩)) := by
    simp only [RelX, hb, Option.some.injEq]
    exact ⟨_, rfl, Nat.le_refl _, ⟨_, rfl⟩, fun _ => by simp⟩
  rcases hk with ⟨h1, h2, he⟩ | ⟨he, ha, cap, cur, h1, h2, h3, h4, h5, h6, h7⟩
  · omega
  · exact ⟨cap, by rw [h1, ha], h2, h3, hx⟩

theorem rel_view {id v sz m off n : Nat} {p : Bool} {c : List C} {ty : TypeId} (hb : h[id]? = some (.sl ty v p sz m c)) {u : Value} (r : RelX g h (.view id v off n) u) :
    (ZeroSl u ∧ n = 0) ∨ ∃ cap, u = .slice (some ⟨(g.ad id).1, (g.ad id).2 + off, none⟩) n cap ∧ n ≤ cap ∧ cap ≤ maxLen := by
  simp only [RelX, hb, Option.some.injEq] at r
  obtain ⟨_, rfl, _, _, _, hh⟩ := r
  exact hh rfl

theorem indexAddr_ok (hT : TOK P T) (H : HeapOK bs g h w) {t : Nat} {x i : X} {v u : Value} {e : Eff} (r : RelX g h x v) (ri : RelX g h i u) (he : opIndexAddr T h t x i = some e) (hp : e.pre) :
    VOK P bs g h w (Instr.indexAt t v u) e := by
  unfold opIndexAddr at he
  split at he
  · rename_i ti k n ht
    rw [rel_int] at ri; subst ri
    obtain ⟨kk, s, bb, z⟩ := ti
    cases kk with
    | array len el =>
      simp only at he
      split at he
      · rename_i ei hei
        have hu := hT.array ht
        split at he
        · rename_i id ver off
          simp only [Option.some.injEq] at he; subst he
          obtain ⟨a, rfl⟩ : ∃ a, v = .pointer (some a) := by simp only [RelX] at r; obtain ⟨_, _, _, ha, _⟩ := r; exact ha
          exact ⟨_, w, run_indexAt_arr t el a len k n hu (hT.sizeOf hei) hp.1 hp.2, After.same H (rel_ptr_add r rfl)⟩
        · rename_i cs
          simp only [Option.some.injEq] at he; subst he
          obtain ⟨b, o, rfl, hr⟩ := rel_fptr_drop (n.toNat * ei.size) r
          exact ⟨_, w, run_indexAt_arr t el _ len k n hu (hT.sizeOf hei) hp.1 hp.2, After.same H (by rw [addr_add]; exact hr)⟩
        · cases he
      · cases he
    | slice el =>
      simp only at he
      split at he
      · rename_i ei hei
        have hu := hT.slice ht
        split at he
        · rename_i m cs
          simp only [Option.some.injEq] at he; subst he
          simp only at hp
          simp only [RelX, RepV] at r
          rcases r with ⟨⟨_, rfl⟩, rfl, rfl⟩ | ⟨b, o, cap, vs, rfl, _, _, hs, hr⟩
          · simp at hp; omega
          · refine ⟨_, w, run_indexAt_sl t el _ _ _ k n hu (hT.sizeOf hei) hp.1 hp.2, After.same H ?_⟩
            obtain ⟨b', o', e', hr'⟩ := rel_fptr_drop (g := g) (h := h) (cs := cs) (n.toNat * ei.size) (v := .pointer (some ⟨b, o, none⟩)) (by simp only [RelX]; exact ⟨b, o, vs, rfl, hs, hr⟩)
            simp only [Value.pointer.injEq, Option.some.injEq, Addr.mk.injEq, and_true] at e'
            obtain ⟨rfl, rfl⟩ := e'
            rw [addr_add]; exact hr'
        · rename_i sz0 m cs
          simp only [Option.some.injEq] at he; subst he
          simp only at hp
          have r := rep_ex r
          simp only [RepV] at r
          rcases r with ⟨⟨_, rfl⟩, rfl, rfl⟩ | ⟨b, o, cap, vs, rfl, _, _, hs, hr⟩
          · simp at hp; omega
          · refine ⟨_, w, run_indexAt_sl t el _ _ _ k n hu (hT.sizeOf hei) hp.1 hp.2, After.same H ?_⟩
            obtain ⟨b', o', e', hr'⟩ := rel_fptr_drop (g := g) (h := h) (cs := cs) (n.toNat * ei.size) (v := .pointer (some ⟨b, o, none⟩)) (by simp only [RelX]; exact ⟨b, o, vs, rfl, hs, hr⟩)
            simp only [Value.pointer.injEq, Option.some.injEq, Addr.mk.injEq, and_true] at e'
            obtain ⟨rfl, rfl⟩ := e'
            rw [addr_add]; exact hr'
        · rename_i id ver
          split at he
          · rename_i v0 p sz m c hb
            split at he
            · rename_i hv
              subst hv
              simp only [Option.some.injEq] at he; subst he
              simp only at hp
              have hv := rel_ref H hb r
              subst hv
              obtain ⟨cap, h1, h2, h3, hx⟩ := ref_place H hb (by omega) (n.toNat * ei.size)
              rw [h1]
              exact ⟨_, w, run_indexAt_sl t el _ _ _ k n hu (hT.sizeOf hei) hp.1 hp.2, After.same H (by rw [addr_add]; exact hx)⟩
            · cases he
          · rename_i v0 sz m c hb
            split at he
            · rename_i hv
              subst hv
              simp only [Option.some.injEq] at he; subst he
              simp only at hp
              have hv := relx_ref H hb r
              subst hv
              obtain ⟨cap, h1, h2, h3, hx⟩ := refx_place H hb (by omega) (n.toNat * ei.size)
              rw [h1]
              exact ⟨_, w, run_indexAt_sl t el _ _ _ k n hu (hT.sizeOf hei) hp.1 hp.2, After.same H (by rw [addr_add]; exact hx)⟩
            · cases he
          · cases he
        · rename_i id ver off m
          split at he
          · rename_i v0 p sz m' c hb
            split at he
            · rename_i hv
              subst hv
              simp only [Option.some.injEq] at he; subst he
              simp only at hp
              rcases rel_view hb r with ⟨_, hn⟩ | ⟨cap, rfl, h2, h3⟩
              · omega
              · refine ⟨_, w, run_indexAt_sl t el _ _ _ k n hu (hT.sizeOf hei) hp.1 hp.2, After.same H ?_⟩
                rw [addr_add]
                simp only [RelX, hb, Option.some.injEq]
                exact ⟨_, rfl, Nat.le_refl _, ⟨_, rfl⟩, fun _ => by simp [Nat.add_assoc]⟩
            · cases he
          · cases he
        · cases he
      · cases he
    | _ => cases he
  · cases he

theorem index_ok (hT : TOK P T) (H : HeapOK bs g h w) {t : Nat} {x i : X} {v u : Value} {e : Eff} (r : RelX g h x v) (ri : RelX g h i u) (he : opIndex T h t x i = some e) (hp : e.pre) :
    VOK P bs g h w (Instr.index t v u) e := by
  unfold opIndex at he
  split at he
  · rename_i len el s b z cs k n ht
    rw [rel_int] at ri; subst ri
    split at he
    · rename_i ei hei
      simp only [Option.some.injEq] at he; subst he
      simp only at hp
      simp only [RelX] at r
      obtain ⟨vs, rfl, hr⟩ := r
      obtain ⟨v, hv, hx⟩ := part_ok (bs := bs) hT H hei hr (n.toNat * ei.size) hp.2.2
      exact ⟨v, w, by simp [Instr.index, asIntOf, run_underlying (hT.array ht), hT.sizeOf hei, hp.1, hp.2.1, hv], After.same H hx⟩
    · cases he
  · rename_i s b z l k n ht
    rw [rel_int] at ri; subst ri
    rw [rel_str] at r; subst r
    simp only [Option.some.injEq] at he; subst he
    simp only at hp
    have hn : n.toNat < l.length := by omega
    refine ⟨_, w, ?_, After.same H (rel_int.2 rfl)⟩
    have hb : (⟨l.toArray⟩ : ByteArray)[n.toNat]? = some l[n.toNat] := by
      rw [getElem?_pos _ _ (by rw [bytes_size]; exact hn)]
      rfl
    simp [Instr.index, asIntOf, run_underlying (hT.str ht), hp.1, hb, List.getElem?_eq_getElem hn]
  · cases he

end
end Fen

/- Part 7: slices, conversions, lengths, minima. -/
namespace Fen
open Go Go.RowKit

section
variable {P : Program} {T : TT} {bs : Base} {g : Gh} {h : List Blk} {w : World}

/-- a bound's operand -/
def RelO (g : Gh) (h : List Blk) : Option X → Option Value → Prop
  | none, none => True
  | some x, some v => RelX g h x v
  | _, _ => False

theorem bound_some {o : Option X} {v : Option Value} {d a : Int} (r : RelO g h o v) (e : bound o d = some a) : (v = none ∧ a = d) ∨ ∃ k, v = some (.int k a) := by
  cases o with
  | none => cases v <;> simp_all [RelO, bound]
  | some x =>
    cases v with
    | none => simp [RelO] at r
    | some v =>
      simp only [RelO] at r
      unfold bound at e
      split at e
      · cases ‹_ = none›
      · rename_i k n hx
        cases hx
        rw [rel_int] at r; subst r
        simp only [Option.some.injEq] at e; subst e
        exact .inr ⟨k, rfl⟩
      · cases e

theorem run_bounds (isSlice : Bool) (len cap : Nat) {lo hi : Option Value} {a b : Int} (hl : (lo = none ∧ a = 0) ∨ ∃ k, lo = some (.int k a)) (hh : (hi = none ∧ b = len) ∨ ∃ k, hi = some (.int k b))
    (h0 : 0 ≤ a) (h1 : a ≤ b) (h2 : b ≤ len) (h3 : len ≤ cap) : (Instr.sliceBounds isSlice len cap lo hi none).run P w = .ok (a.toNat, b.toNat, cap) w := by
  have hb : ∀ k c, (Instr.sliceBound (.int k b) cap c).run P w = .ok b.toNat w := fun k c => run_sliceBound _ k b cap c (by omega) (by omega)
  have ha : ∀ k c, (Instr.sliceBound (.int k a) b.toNat c).run P w = .ok a.toNat w := fun k c => run_sliceBound _ k a _ c h0 (by omega)
  rcases hl with ⟨rfl, rfl⟩ | ⟨k, rfl⟩ <;> rcases hh with ⟨rfl, rfl⟩ | ⟨k', rfl⟩ <;> simp_all [Instr.sliceBounds]

theorem run_bounds3 (isSlice : Bool) (len cap : Nat) {lo : Option Value} {a b : Int} (kb kc : IntKind) (hl : (lo = none ∧ a = 0) ∨ ∃ k, lo = some (.int k a))
    (h0 : 0 ≤ a) (h1 : a ≤ b) (h2 : b ≤ cap) : (Instr.sliceBounds isSlice len cap lo (some (.int kb b)) (some (.int kc b))).run P w = .ok (a.toNat, b.toNat, b.toNat) w := by
  have hc : ∀ c, (Instr.sliceBound (.int kc b) cap c).run P w = .ok b.toNat w := fun c => run_sliceBound _ kc b cap c (by omega) (by omega)
  have hb : ∀ c, (Instr.sliceBound (.int kb b) b.toNat c).run P w = .ok b.toNat w := fun c => run_sliceBound _ kb b _ c (by omega) (by omega)
  have ha : ∀ k c, (Instr.sliceBound (.int k a) b.toNat c).run P w = .ok a.toNat w := fun k c => run_sliceBound _ k a _ c h0 (by omega)
  rcases hl with ⟨rfl, rfl⟩ | ⟨k, rfl⟩ <;> simp_all [Instr.sliceBounds]

theorem run_sliceAt_sl (t elem : TypeId) (a : Option Addr) (len cap : Nat) {lo hi mx : Option Value} {l b m n : Nat} (hu : P.underlying t = some (.slice elem)) (hs : (Go.sizeOf elem).run P w = .ok n w)
    (hb : (Instr.sliceBounds true len cap lo hi mx).run P w = .ok (l, b, m) w) :
    (Instr.sliceAt t (.slice a len cap) lo hi mx).run P w = .ok (.slice (if m = l then a else a.map (·.add (l * n))) (b - l) (m - l)) w := by
  simp [Instr.sliceAt, Instr.slice, run_underlying hu, hb, hs]

theorem extract_bytes (l : List UInt8) (a b : Nat) : (⟨l.toArray⟩ : ByteArray).extract a b = ⟨((l.take b).drop a).toArray⟩ := by
  apply ByteArray.ext
  rw [ByteArray.data_extract]
  apply Array.ext'
  simp [List.extract_eq_take_drop, List.drop_take]

/-- the header of a part of a slice that is read by value -/
theorem rep_part {S : Stab} {n : Nat} {cs : List C} {v : Value} {sz a b : Nat} (r : RepV S (.sl n cs) v) (h1 : a ≤ b) (h2 : b ≤ n) :
    ∃ ad len cap, v = .slice ad len cap ∧ len = n ∧ n ≤ cap ∧
      RepV S (.sl (b - a) ((cs.drop (a * sz)).take ((b - a) * sz))) (.slice (if cap = a then ad else ad.map (·.add (a * sz))) (b - a) (cap - a)) := by
  simp only [RepV] at r
  rcases r with ⟨⟨_, rfl⟩, rfl, rfl⟩ | ⟨bl, o, cap, vs, rfl, h3, h4, h5, h6⟩
  · have hb : b = 0 := by omega
    have ha : a = 0 := by omega
    subst hb; subst ha
    exact ⟨_, 0, 0, rfl, rfl, Nat.le_refl _, by simp [RepV]⟩
  · refine ⟨_, _, _, rfl, rfl, h3, ?_⟩
    simp only [RepV]
    right
    by_cases hc : cap = a
    · have hb : b = a := by omega
      subst hb
      simp only [hc, if_true, Nat.sub_self, Nat.zero_mul, List.take_zero]
      exact ⟨bl, o, 0, [], rfl, Nat.zero_le _, Nat.zero_le _, by simp, by simp [RepL]⟩
    · simp only [hc, if_false, Option.map_some, addr_add]
      refine ⟨bl, o + a * sz, cap - a, (vs.drop (a * sz)).take ((b - a) * sz), rfl, by omega, by omega, fun j u hj => ?_, (h6.drop _).take _⟩
      rw [List.getElem?_take] at hj
      split at hj
      · rw [List.getElem?_drop] at hj; rw [Nat.add_assoc]; exact h5 _ _ hj
      · cases hj

theorem rep_part3 {S : Stab} {n : Nat} {cs : List C} {v : Value} {sz a b : Nat} (r : RepV S (.sl n cs) v) (h1 : a ≤ b) (h2 : b ≤ n) :
    ∃ ad len cap, v = .slice ad len cap ∧ len = n ∧ n ≤ cap ∧
      (((∃ z, Value.slice (if b = a then ad else ad.map (·.add (a * sz))) (b - a) (b - a) = .slice z 0 0) ∧ b - a = 0) ∨
        ∃ bl o, Value.slice (if b = a then ad else ad.map (·.add (a * sz))) (b - a) (b - a) = .slice (some ⟨bl, o, none⟩) (b - a) (b - a) ∧ b - a ≤ maxLen ∧
          ∃ vs, (∀ j u, vs[j]? = some u → S bl (o + j) = some u) ∧ RepL S ((cs.drop (a * sz)).take ((b - a) * sz)) vs) := by
  simp only [RepV] at r
  rcases r with ⟨⟨_, rfl⟩, rfl, rfl⟩ | ⟨bl, o, cap, vs, rfl, h3, h4, h5, h6⟩
  · have hb : b = 0 := by omega
    have ha : a = 0 := by omega
    subst hb; subst ha
    exact ⟨_, 0, 0, rfl, rfl, Nat.le_refl _, .inl ⟨⟨_, by simp; rfl⟩, rfl⟩⟩
  · refine ⟨_, _, _, rfl, rfl, h3, .inr ?_⟩
    by_cases hc : b = a
    · subst hc
      simp only [if_true, Nat.sub_self, Nat.zero_mul, List.take_zero]
      exact ⟨bl, o, rfl, Nat.zero_le _, [], by simp, by simp [RepL]⟩
    · simp only [hc, if_false, Option.map_some, addr_add]
      refine ⟨bl, o + a * sz, rfl, by omega, (vs.drop (a * sz)).take ((b - a) * sz), fun j u hj => ?_, (h6.drop _).take _⟩
      rw [List.getElem?_take] at hj
      split at hj
      · rw [List.getElem?_drop] at hj; rw [Nat.add_assoc]; exact h5 _ _ hj
      · cases hj

/-- a slice that takes no more without new memory, as a block of the private heap -/
theorem push_exact {bs : Base} {g : Gh} {h : List Blk} {w : World} (H : HeapOK bs g h w) {ty : TypeId} {p : Bool} {sz n : Nat} {cells : List C} {v : Value} (hpn : p = true → n = 0) (hsz : 0 < sz) (hl : cells.length = n * sz)
    (hv : ((∃ z, v = .slice z 0 0) ∧ n = 0) ∨ ∃ bl o, v = .slice (some ⟨bl, o, none⟩) n n ∧ n ≤ maxLen ∧ ∃ vs, (∀ j u, vs[j]? = some u → g.S bl (o + j) = some u) ∧ RepL g.S cells vs) :
    ∃ g', Ext g h g' (h ++ [.sl ty 0 p sz n cells]) ∧ HeapOK bs g' (h ++ [.sl ty 0 p sz n cells]) w ∧ RelX g' (h ++ [.sl ty 0 p sz n cells]) (.ref h.length 0) v := by
  have zero : (∃ z, v = .slice z 0 0) → n = 0 → ∃ g', Ext g h g' (h ++ [.sl ty 0 p sz n cells]) ∧ HeapOK bs g' (h ++ [.sl ty 0 p sz n cells]) w ∧ RelX g' (h ++ [.sl ty 0 p sz n cells]) (.ref h.length 0) v := fun ⟨z, h1⟩ h2 => by
    refine ⟨g.push h.length (0, 0) v false, Ext.push .., H.push _ _ _ _ ?_ (by simp), ?_⟩
    · simp only [BlkOK]; exact ⟨hsz, hl, .inl ⟨⟨z, by simp [Gh.push, h1]⟩, h2, by simp [Gh.push]⟩⟩
    · simp only [RelX]; exact ⟨.sl ty 0 p sz n cells, by simp, rfl, Nat.le_refl _, ⟨_, _, _, by first | exact h1⟩, fun _ => by simp [Gh.push]⟩
  rcases hv with ⟨h1, h2⟩ | ⟨bl, o, h1, h2, vs, h3, h4⟩
  · exact zero h1 h2
  · cases p with
    | true =>
      have hn := hpn rfl
      exact zero ⟨_, by rw [h1, hn]⟩ hn
    | false =>
      refine ⟨g.push h.length (bl, o) v false, Ext.push .., H.push _ _ _ _ ?_ (by simp), ?_⟩
      · simp only [BlkOK]; exact ⟨hsz, hl, .inr (.inr ⟨by simp [Gh.push], rfl, by simp [Gh.push, h1], h2, vs, by simpa [Gh.push] using h3, by simpa [Gh.push] using h4⟩)⟩
      · simp only [RelX]; exact ⟨.sl ty 0 false sz n cells, by simp, rfl, Nat.le_refl _, ⟨_, _, _, by first | exact h1⟩, fun _ => by simp [Gh.push]⟩

theorem slice_ok (hT : TOK P T) (H : HeapOK bs g h w) {t : Nat} {x : X} {v : Value} {lo hi mx : Option X} {vlo vhi vmx : Option Value} {e : Eff} (r : RelX g h x v)
    (rl : RelO g h lo vlo) (rh : RelO g h hi vhi) (rm : RelO g h mx vmx) (he : opSlice T h t x lo hi mx = some e) (hp : e.pre) :
    VOK P bs g h w (Instr.sliceAt t v vlo vhi vmx) e := by
  unfold opSlice at he
  split at he
  · rename_i s b z ht
    split at he
    · rename_i l
      cases vmx with
      | some _ => simp [RelO] at rm
      | none =>
      rw [rel_str] at r; subst r
      split at he
      · rename_i a c ha hc
        simp only [Option.some.injEq] at he; subst he
        simp only at hp
        have hb := run_bounds (P := P) (w := w) false l.length l.length (bound_some rl ha) (bound_some rh hc) hp.1 hp.2.1 hp.2.2 (Nat.le_refl _)
        refine ⟨_, w, ?_, After.same H (rel_str.2 rfl)⟩
        simp [Instr.sliceAt, Instr.slice, run_underlying (hT.str ht), bytes_size, hb, extract_bytes]
      · cases he
    · cases he
  · rename_i el s b z ht
    have hu := hT.slice ht
    split at he
    · cases he
    · rename_i ei hei
      have hs : (Go.sizeOf el).run P w = .ok ei.size w := hT.sizeOf hei
      split at he
      · cases vmx with
        | some _ => simp [RelO] at rm
        | none =>
        split at he
        · rename_i n cs
          split at he
          · rename_i a c ha hc
            simp only [Option.some.injEq] at he; subst he
            simp only at hp
            simp only [RelX] at r
            obtain ⟨ad, len, cap, rfl, rfl, hcap, hr⟩ := rep_part (sz := ei.size) (a := a.toNat) (b := c.toNat) r (by omega) (by omega)
            refine ⟨_, w, run_sliceAt_sl t el ad len cap hu hs (run_bounds true len cap (bound_some rl ha) (bound_some rh hc) hp.1 hp.2.1 hp.2.2 hcap), After.same H ?_⟩
            simp only [RelX]
            have hsub : (c - a).toNat = c.toNat - a.toNat := by omega
            rw [hsub]; exact hr
          · cases he
        · rename_i sz0 n cs
          split at he
          · rename_i a c ha hc
            simp only [Option.some.injEq] at he; subst he
            simp only at hp
            have r := rep_ex r
            obtain ⟨ad, len, cap, rfl, rfl, hcap, hr⟩ := rep_part (sz := ei.size) (a := a.toNat) (b := c.toNat) r (by omega) (by omega)
            refine ⟨_, w, run_sliceAt_sl t el ad len cap hu hs (run_bounds true len cap (bound_some rl ha) (bound_some rh hc) hp.1 hp.2.1 hp.2.2 hcap), After.same H ?_⟩
            simp only [RelX]
            have hsub : (c - a).toNat = c.toNat - a.toNat := by omega
            rw [hsub]; exact hr
          · cases he
        · split at he
          · rename_i a c ha hc
            simp only [Option.some.injEq] at he; subst he
            simp only at hp
            obtain ⟨rfl, rfl⟩ := hp
            simp only [RelX] at r; subst r
            refine ⟨_, w, run_sliceAt_sl t el _ 0 0 hu hs (run_bounds true 0 0 (bound_some rl ha) (bound_some rh hc) (by omega) (by omega) (by omega) (Nat.le_refl _)), After.same H ?_⟩
            simp [RelX]
          · cases he
        · rename_i id ver
          split at he
          · rename_i v0 p sz n c hb
            split at he
            · rename_i hv
              subst hv
              split at he
              · rename_i a c' ha hc
                simp only [Option.some.injEq] at he; subst he
                simp only at hp
                have hv := rel_ref H hb r
                subst hv
                have hk := H.blk id _ hb
                simp only [BlkOK] at hk
                obtain ⟨h0, hl, hk⟩ := hk
                have fin : ∀ cap, n ≤ cap → cap ≤ maxLen → g.hd id = .slice (some ⟨(g.ad id).1, (g.ad id).2, none⟩) n cap →
                    VOK P bs g h w (Instr.sliceAt t (g.hd id) vlo vhi none) ⟨0 ≤ a ∧ a ≤ c' ∧ c' ≤ n, .view id ver (a.toNat * ei.size) (c' - a).toNat, .read, h⟩ := fun cap hc1 hc2 e1 => by
                  rw [e1]
                  refine ⟨_, w, run_sliceAt_sl t el _ n cap hu hs (run_bounds true n cap (bound_some rl ha) (bound_some rh hc) hp.1 hp.2.1 hp.2.2 hc1), After.same H ?_⟩
                  simp only [RelX, hb, Option.some.injEq]
                  refine ⟨_, rfl, rfl, Nat.le_refl _, ⟨_, _, _, rfl⟩, fun _ => ?_⟩
                  by_cases hca : cap = a.toNat
                  · left
                    have h1 : (c' - a).toNat = 0 := by omega
                    have h2 : c'.toNat - a.toNat = 0 := by omega
                    refine ⟨?_, h1⟩
                    rw [if_pos hca, h2]
                    exact .inr ⟨_, _, _, rfl, by omega⟩
                  · right
                    refine ⟨cap - a.toNat, ?_, by omega, by omega⟩
                    rw [if_neg hca]
                    simp [addr_add]
                    omega
                rcases hk with ⟨⟨zz, h1⟩, h2, hx⟩ | ⟨hx, ha', cap, cur, h1, h2, h3, h4, h5, h6, h7⟩ | ⟨hx, hp', h1, h2, _, _, _⟩
                · subst h2
                  rw [h1]
                  have ha0 : a = 0 := by omega
                  have hc0 : c' = 0 := by omega
                  subst ha0; subst hc0
                  refine ⟨_, w, run_sliceAt_sl t el _ 0 0 hu hs (run_bounds true 0 0 (bound_some rl ha) (bound_some rh hc) (by omega) (by omega) (by omega) (Nat.le_refl _)), After.same H ?_⟩
                  simp only [RelX, hb, Option.some.injEq]
                  exact ⟨_, rfl, rfl, Nat.le_refl _, ⟨_, _, _, rfl⟩, fun _ => .inl ⟨.inl ⟨_, by simp; rfl⟩, by simp⟩⟩
                · exact fin cap h2 h3 (by rw [h1, ha'])
                · exact fin n (Nat.le_refl _) h2 h1
              · cases he
            · cases he
          · cases he
        · rename_i id ver off n
          split at he
          · rename_i v0 p sz n' c hb
            split at he
            · rename_i hv
              subst hv
              split at he
              · rename_i a c' ha hc
                simp only [Option.some.injEq] at he; subst he
                simp only at hp
                have zero : n = 0 → ZeroSl v → VOK P bs g h w (Instr.sliceAt t v vlo vhi none) ⟨0 ≤ a ∧ a ≤ c' ∧ c' ≤ n, .view id ver (off + a.toNat * ei.size) (c' - a).toNat, .read, h⟩ := fun hn hz => by
                  have ha0 : a = 0 := by omega
                  have hc0 : c' = 0 := by omega
                  subst ha0; subst hc0; subst hn
                  rcases hz with ⟨zz, rfl⟩ | ⟨bb, o, cap, rfl, hcap⟩
                  · refine ⟨_, w, run_sliceAt_sl t el _ 0 0 hu hs (run_bounds true 0 0 (bound_some rl ha) (bound_some rh hc) (by omega) (by omega) (by omega) (Nat.le_refl _)), After.same H ?_⟩
                    simp only [RelX, hb, Option.some.injEq]
                    exact ⟨_, rfl, rfl, Nat.le_refl _, ⟨_, _, _, rfl⟩, fun _ => .inl ⟨.inl ⟨_, by simp; rfl⟩, by simp⟩⟩
                  · refine ⟨_, w, run_sliceAt_sl t el _ 0 cap hu hs (run_bounds true 0 cap (bound_some rl ha) (bound_some rh hc) (by omega) (by omega) (by omega) (Nat.zero_le _)), After.same H ?_⟩
                    simp only [RelX, hb, Option.some.injEq]
                    refine ⟨_, rfl, rfl, Nat.le_refl _, ⟨_, _, _, rfl⟩, fun _ => .inl ⟨.inr ?_, by simp⟩⟩
                    split
                    · exact ⟨_, _, _, rfl, by omega⟩
                    · simp only [Option.map_some, addr_add]
                      exact ⟨_, _, _, rfl, by omega⟩
                rcases rel_view hb r with ⟨hz, hn⟩ | ⟨cap, rfl, hc1, hc2⟩
                · exact zero hn hz
                · refine ⟨_, w, run_sliceAt_sl t el _ n cap hu hs (run_bounds true n cap (bound_some rl ha) (bound_some rh hc) hp.1 hp.2.1 hp.2.2 hc1), After.same H ?_⟩
                  simp only [RelX, hb, Option.some.injEq]
                  refine ⟨_, rfl, rfl, Nat.le_refl _, ⟨_, _, _, rfl⟩, fun _ => ?_⟩
                  by_cases hca : cap = a.toNat
                  · left
                    have h1 : (c' - a).toNat = 0 := by omega
                    have h2 : c'.toNat - a.toNat = 0 := by omega
                    refine ⟨?_, h1⟩
                    rw [if_pos hca, h2]
                    exact .inr ⟨_, _, _, rfl, by omega⟩
                  · right
                    refine ⟨cap - a.toNat, ?_, by omega, by omega⟩
                    rw [if_neg hca]
                    simp [addr_add, Nat.add_assoc]
                    omega
              · cases he
            · cases he
          · cases he
        · cases he
      · rename_i m
        cases vmx with
        | none => simp [RelO] at rm
        | some vm =>
        simp only [RelO] at rm
        split at he
        · rename_i n cs h' hv
          split at he
          · rename_i _ _ a kb b kc c ha
            cases vhi with
            | none => simp [RelO] at rh
            | some vh =>
            simp only [RelO] at rh
            rw [rel_int] at rh rm; subst rh; subst rm
            obtain ⟨S', E, H', r'⟩ := toV_ok H r hv
            simp only [RepA] at r'
            simp only [Option.some.injEq] at he; subst he
            simp only at hp
            obtain ⟨hp0, hp1, hp2, hp3, hp4, hp5⟩ := hp
            subst hp3
            obtain ⟨ad, len, cap, rfl, rfl, hcap, hr⟩ := rep_part3 (sz := ei.size) (a := a.toNat) (b := c.toNat) r' (by omega) (by omega)
            have hsub : (c - a).toNat = c.toNat - a.toNat := by omega
            rw [hsub] at hp5 ⊢
            refine ⟨_, w, run_sliceAt_sl t el ad len cap hu hs (run_bounds3 true len cap kb kc (bound_some rl ha) hp0 hp1 (by omega)), _, E, H', ?_⟩
            simp only [RelX]
            refine ⟨hp4, hp5, ?_⟩
            rcases hr with hr | ⟨bl, o, k1, k2, vs, k3, k4⟩
            · exact .inl hr
            · exact .inr ⟨bl, o, vs, k1, k2, k3, k4⟩
          · cases he
        · cases he
  · cases he

end
end Fen

/- Part 8: conversions, lengths, minima, and the rest that reads. -/
namespace Fen
open Go Go.RowKit

section
variable {P : Program} {T : TT} {bs : Base} {g : Gh} {h : List Blk} {w : World}

theorem isByte_list {S : Stab} : ∀ {cs : List C} {vs : List Value}, cs.all isByte = true → RepL S cs vs → ∃ ns : List Int, vs = ns.map (Value.int .u8) ∧ cs.map byteOf = ns.map (fun n => UInt8.ofNat n.toNat)
  | [], _, _, r => by simp only [RepL] at r; subst r; exact ⟨[], rfl, rfl⟩
  | c :: cs, _, hb, r => by
    simp only [List.all_cons, Bool.and_eq_true] at hb
    simp only [RepL] at r
    obtain ⟨u, us, rfl, h1, h2⟩ := r
    obtain ⟨ns, rfl, e⟩ := isByte_list hb.2 h2
    cases c with
    | int k n =>
      cases k <;> simp [isByte] at hb
      simp only [RepV] at h1; subst h1
      exact ⟨n :: ns, rfl, by simp [byteOf, e]⟩
    | _ => simp [isByte] at hb

theorem push_bytes : ∀ (ns : List Int) (l : List UInt8), ns.foldl (fun r n => r.push (UInt8.ofNat n.toNat)) (⟨l.toArray⟩ : ByteArray) = ⟨(l ++ ns.map (fun n => UInt8.ofNat n.toNat)).toArray⟩
  | [], l => by simp
  | n :: ns, l => by
    have : (⟨l.toArray⟩ : ByteArray).push (UInt8.ofNat n.toNat) = ⟨(l ++ [UInt8.ofNat n.toNat]).toArray⟩ := by apply ByteArray.ext; simp
    rw [List.foldl_cons, this, push_bytes ns]
    simp

theorem run_bytesToString' {a : Addr} {len cap : Nat} {ns : List Int} (hl : ns.length = len) (hc : ∀ j u, (ns.map (Value.int .u8))[j]? = some u → w.cell? (a.add j) = some u) :
    (Conv.bytesToString (.slice (some a) len cap)).run P w = .ok (.string ⟨(ns.map (fun n => UInt8.ofNat n.toNat)).toArray⟩) w := by
  subst hl
  have h1 := run_loadCells_list (P := P) (w := w) a (ns.map (Value.int .u8)) hc
  rw [List.length_map] at h1
  rw [run_bytesToString w a ns.length cap ns h1]
  have := push_bytes ns []
  simp only [List.nil_append] at this
  congr 2

theorem rep_bytes (S : Stab) : ∀ l : List UInt8, RepL S (l.map byteC) (l.map (fun b => Value.int .u8 b.toNat))
  | [] => by simp [RepL]
  | b :: l => by simp only [List.map_cons, RepL]; exact ⟨_, _, rfl, by simp [byteC, RepV], rep_bytes S l⟩

/-- new memory of its own, nothing of it ours to write: what a value by its bytes takes -/
theorem bytes_new (H : HeapOK bs g h w) (l : List UInt8) (cap : Nat) (e : TypeId) (hcap : l.length ≤ cap) (hm : cap ≤ maxLen) (w' : World)
    (hos : w'.os = w.os) (htape : w'.tape = w.tape) (hout : w'.output = w.output) (cs : Array Value) (fr : Nat × Nat) (hheap : w'.heap = w.heap.push (.cells cs e fr)) (hcs : cs.toList.take l.length = l.map (fun b => Value.int .u8 b.toNat)) :
    ∃ S', Ext g h { g with S := S' } h ∧ HeapOK bs { g with S := S' } h w' ∧ RepV S' (.sl l.length (l.map byteC)) (.slice (some ⟨w.heap.size, 0, none⟩) l.length cap) := by
  have hold : ∀ k, k < w.heap.size → w'.heap[k]? = w.heap[k]? := fun k hk => by rw [hheap, Array.getElem?_push, if_neg (by omega)]
  have hnew : w'.heap[w.heap.size]? = some (.cells cs e fr) := by rw [hheap]; simp
  let S' : Stab := fun b o => if b = w.heap.size then (cs.toList.take l.length)[o]? else g.S b o
  have hS : ∀ b o, b < w.heap.size → S' b o = g.S b o := fun b o hb => by simp only [S']; rw [if_neg (by omega)]
  obtain ⟨E, H'⟩ := H.world S' hos htape hout (by rw [hheap]; simp) hold hS (fun b o v hv => by
    by_cases c : b = w.heap.size
    · subst c
      simp only [S', if_true] at hv
      rw [cell_of hnew]
      rw [List.getElem?_take] at hv
      split at hv
      · simpa using hv
      · cases hv
    · simp only [S'] at hv; rw [if_neg c] at hv
      have := H.stable b o v hv
      rw [cell_block (hold b (cell_lt this))]; exact this)
  refine ⟨S', E, H', ?_⟩
  simp only [RepV]
  refine .inr ⟨_, _, _, l.map (fun b => Value.int .u8 b.toNat), rfl, hcap, hm, fun j u hj => ?_, ?_⟩
  · simp only [S', if_true, Nat.zero_add]; rw [hcs]; exact hj
  · exact rep_bytes S' l

theorem convert_ok (hT : TOK P T) (H : HeapOK bs g h w) {src dst : Nat} {x : X} {v : Value} {e : Eff} (r : RelX g h x v) (he : opConvert T h src dst x = some e) (hp : e.pre) :
    VOK P bs g h w (convert src dst v) e := by
  unfold opConvert at he
  split at he
  · rename_i si di hs hd
    obtain ⟨sk, s1, s2, s3⟩ := si
    obtain ⟨dk, d1, d2, d3⟩ := di
    simp only at he
    split at he
    · rename_i k k' n
      rw [rel_int] at r; subst r
      simp only [Option.some.injEq] at he; subst he
      exact ⟨_, w, by simp [convert, run_underlying (hT.int hs), run_underlying (hT.int hd), Conv.intToInt], After.same H (rel_int.2 rfl)⟩
    · rename_i l
      rw [rel_str] at r; subst r
      simp only [Option.some.injEq] at he; subst he
      exact ⟨_, w, by simp [convert, run_underlying (hT.str hs), run_underlying (hT.str hd)], After.same H (rel_str.2 rfl)⟩
    · rename_i el x _
      split at he
      · rename_i b z n cs acc hel hsl
        simp only [Option.some.injEq] at he; subst he
        simp only at hp
        have hu := hT.int hel
        rcases slOf_ok H r hsl with ⟨⟨zz, rfl⟩, rfl, rfl⟩ | ⟨bl, o, cap, vs, rfl, h1, h2, h3, h4⟩
        · refine ⟨_, w, ?_, After.same H (rel_str.2 rfl)⟩
          rw [run_convert_bytes_string w src dst _ zz 0 0 (hT.slice hs) hu (hT.str hd)]
          cases zz with
          | none => simp [Conv.bytesToString]; rfl
          | some zz =>
            have hl : (loadCells zz 0).run P w = .ok #[] w := by
              have := run_loadCells_list (P := P) (w := w) zz [] (fun j u hj => by simp at hj)
              simpa using this
            simp [Conv.bytesToString, hl]; rfl
        · obtain ⟨ns, rfl, e2⟩ := isByte_list hp.1 h4
          have hlen := h4.length
          refine ⟨_, w, ?_, After.same H (rel_str.2 rfl)⟩
          rw [run_convert_bytes_string w src dst _ _ n cap (hT.slice hs) hu (hT.str hd), e2]
          exact run_bytesToString' (by simpa [hp.2] using hlen) (fun j u hj => by rw [addr_add]; exact h3 j u hj)
      · cases he
    · rename_i el l
      split at he
      · rename_i b z hel
        simp only [Option.some.injEq] at he; subst he
        simp only at hp
        rw [rel_str] at r; subst r
        have hu := hT.int hel
        have hrun := run_bytes_of_string w src dst el ⟨l.toArray⟩ (hT.str hs) (hT.slice hd) hu
        rw [bytes_size] at hrun
        have hge := grownCap_ge w l.length 0 el
        have hle := grownCap_le_maxLen w l.length 0 el (by unfold maxLen; omega)
        obtain ⟨S', E, H', r'⟩ := bytes_new H l (grownCap w l.length 0 el) el hge hle (w.drew.alloc (.cells (bytesRow ⟨l.toArray⟩ (grownCap w l.length 0 el)) el ((bytesRow ⟨l.toArray⟩ (grownCap w l.length 0 el)).size, (bytesRow ⟨l.toArray⟩ (grownCap w l.length 0 el)).size + 1)))
          rfl rfl rfl _ _ rfl (by
          unfold bytesRow
          simp)
        exact ⟨_, _, hrun, _, E, H', by simp only [RelX]; exact r'⟩
      · cases he
    · cases he
  · cases he

theorem lenX_ok (H : HeapOK bs g h w) {x : X} {v : Value} {n : Nat} (r : RelX g h x v) (e : lenX h x = some n) : ∃ a cap, v = .slice a n cap := by
  unfold lenX at e
  split at e
  · rename_i id ver
    split at e
    · rename_i ty v0 sz n0 cs hb
      split at e
      · rename_i hv
        subst hv
        simp only [Option.some.injEq] at e; subst e
        have hv := relx_ref H hb r
        subst hv
        obtain ⟨_, _, hk⟩ := H.blk id _ hb
        rcases hk with ⟨⟨z, h1⟩, h2, _⟩ | ⟨_, _, cap, cur, h1, _⟩
        · exact ⟨z, 0, by rw [h1, h2]⟩
        · exact ⟨_, cap, h1⟩
      · cases e
    · cases e
  · cases e

theorem len_ok (hT : TOK P T) (H : HeapOK bs g h w) {t ty : Nat} {x : X} {v : Value} {e : Eff} (r : RelX g h x v) (he : opLen T h t x = some e) :
    VOK P bs g h w (Builtin.len_ #[t] ty #[v]) e := by
  unfold opLen at he
  split at he
  · rename_i n el s b z ht
    simp only [Option.some.injEq] at he; subst he
    exact ⟨_, w, by simp [Builtin.len_, run_underlying (hT.array ht), goInt], After.same H (rel_int.2 rfl)⟩
  · rename_i s b z ht
    split at he
    · rename_i l
      simp only [Option.some.injEq] at he; subst he
      rw [rel_str] at r; subst r
      exact ⟨_, w, by simp [Builtin.len_, run_underlying (hT.str ht), goInt, bytes_size], After.same H (rel_int.2 rfl)⟩
    · cases he
  · rename_i el s b z ht
    split at he
    · rename_i n cs acc hsl
      simp only [Option.some.injEq] at he; subst he
      rcases slOf_ok H r hsl with ⟨⟨zz, rfl⟩, rfl, rfl⟩ | ⟨bl, o, cap, vs, rfl, _⟩
      · exact ⟨_, w, by simp [Builtin.len_, run_underlying (hT.slice ht), goInt], After.same H (rel_int.2 rfl)⟩
      · exact ⟨_, w, by simp [Builtin.len_, run_underlying (hT.slice ht), goInt], After.same H (rel_int.2 rfl)⟩
    · split at he
      · rename_i n hlx
        simp only [Option.some.injEq] at he; subst he
        obtain ⟨a, cap, rfl⟩ := lenX_ok H r hlx
        exact ⟨_, w, by simp [Builtin.len_, run_underlying (hT.slice ht), goInt], After.same H (rel_int.2 rfl)⟩
      · cases he
  · cases he

theorem minInts_ok (f : Int → Int → Int) (m2 : Value → Value → Sem Value) (hm : ∀ k a b, m2 (.int k a) (.int k b) = pure (.int k (f a b))) {xs : List X} : ∀ {vs : List Value} {k : IntKind} {a r : Int}, RelXs g h xs vs → minInts f k a xs = some r →
    (vs.foldlM m2 (.int k a)).run P w = .ok (.int k r) w := by
  induction xs with
  | nil =>
    intro vs k a r rel e
    simp only [RelXs] at rel; subst rel
    simp only [minInts, Option.some.injEq] at e; subst e
    simp
  | cons x l ih =>
    intro vs k a r rel e
    simp only [RelXs] at rel
    obtain ⟨u, us, rfl, h1, h2⟩ := rel
    unfold minInts at e
    split at e
    · rename_i q; cases q
    · rename_i k' b l' q
      cases q
      rw [rel_int] at h1; subst h1
      split at e
      · rename_i hk
        subst hk
        simp only [List.foldlM_cons, hm, Sem.run_bind, Sem.run_pure, Result.andThen_ok]
        exact ih h2 e
      · cases e
    · cases e

theorem min_ok (H : HeapOK bs g h w) {ts : Array TypeId} {ty : Nat} {xs : List X} {vs : List Value} {e : Eff} (r : RelXs g h xs vs) (he : opMinMax (fun a b => if b < a then b else a) h xs = some e) :
    VOK P bs g h w (Builtin.min_ ts ty vs.toArray) e := by
  unfold opMinMax at he
  split at he
  · rename_i k a l
    simp only [Option.map_eq_some_iff] at he
    obtain ⟨m, hm, rfl⟩ := he
    simp only [RelXs] at r
    obtain ⟨u, us, rfl, h1, h2⟩ := r
    rw [rel_int] at h1; subst h1
    refine ⟨_, w, ?_, After.same H (rel_int.2 rfl)⟩
    simp only [Builtin.min_]
    exact minInts_ok _ _ (fun k a b => rfl) h2 hm
  · cases he

theorem max_ok (H : HeapOK bs g h w) {ts : Array TypeId} {ty : Nat} {xs : List X} {vs : List Value} {e : Eff} (r : RelXs g h xs vs) (he : opMinMax (fun a b => if b > a then b else a) h xs = some e) :
    VOK P bs g h w (Builtin.max_ ts ty vs.toArray) e := by
  unfold opMinMax at he
  split at he
  · rename_i k a l
    simp only [Option.map_eq_some_iff] at he
    obtain ⟨m, hm, rfl⟩ := he
    simp only [RelXs] at r
    obtain ⟨u, us, rfl, h1, h2⟩ := r
    rw [rel_int] at h1; subst h1
    refine ⟨_, w, ?_, After.same H (rel_int.2 rfl)⟩
    simp only [Builtin.max_]
    exact minInts_ok _ _ (fun k a b => rfl) h2 hm
  · cases he

theorem run_equalIn_bool (d : Nat) (t : TypeId) (a b : Bool) (h : P.underlying t = some .bool) : (Op.equalIn (d + 1) t (.bool a) (.bool b)).run P w = .ok (a == b) w := by
  simp only [Op.equalIn, Sem.run_bind, run_underlying h, Result.andThen_ok, Sem.run_pure]

theorem run_eql_bool (t : TypeId) (a b : Bool) (h : P.underlying t = some .bool) : (binOp .eql t (.bool a) (.bool b)).run P w = .ok (.bool (a == b)) w := by
  simp only [binOp, Op.equal, Op.maxDepth, Sem.run_bind, run_equalIn_bool (w := w) 9999 t a b h, Result.andThen_ok, Sem.run_pure]

theorem run_neq_bool (t : TypeId) (a b : Bool) (h : P.underlying t = some .bool) : (binOp .neq t (.bool a) (.bool b)).run P w = .ok (.bool !(a == b)) w := by
  simp only [binOp, Op.equal, Op.maxDepth, Sem.run_bind, run_equalIn_bool (w := w) 9999 t a b h, Result.andThen_ok, Sem.run_pure]

/-! ### == on structs and arrays -/
def valC : C → Value
  | .int k n => .int k n
  | .bool b => .bool b
  | .str l => .string ⟨l.toArray⟩
  | _ => .nilFunc

theorem kinds_cons {k : EK} {ks : List EK} {c : C} {cs : List C} : kindsOK (k :: ks) (c :: cs) ↔ kindC c = some k ∧ kindsOK ks cs := by simp [kindsOK]
theorem kinds_len {ks : List EK} {cs : List C} (h : kindsOK ks cs) : cs.length = ks.length := by have := congrArg List.length h; simpa using this
theorem kinds_split {ks ls : List EK} {cs : List C} (h : kindsOK (ks ++ ls) cs) : kindsOK ks (cs.take ks.length) ∧ kindsOK ls (cs.drop ks.length) := by
  unfold kindsOK at *
  rw [List.map_take, List.map_drop, h, List.map_append]
  constructor
  · rw [List.take_left' (by simp)]
  · rw [List.drop_left' (by simp)]

theorem rep_val {S : Stab} : ∀ {ks : List EK} {cs : List C} {vs : List Value}, kindsOK ks cs → RepL S cs vs → vs = cs.map valC
  | _, [], _, _, r => by simp only [RepL] at r; rw [r]; rfl
  | ks, c :: cs, vs, h, r => by
    cases ks with
    | nil => simp [kindsOK] at h
    | cons k ks =>
      rw [kinds_cons] at h
      simp only [RepL] at r
      obtain ⟨u, us, rfl, h1, h2⟩ := r
      rw [rep_val h.2 h2, List.map_cons]
      congr 1
      cases c <;> simp [kindC, RepV, valC] at h h1 ⊢ <;> exact h1

theorem cellsEq_app : ∀ {a b : List C} (c d : List C), a.length = b.length → cellsEq (a ++ c) (b ++ d) = (cellsEq a b && cellsEq c d)
  | [], [], c, d, _ => by simp [cellsEq]
  | x :: a, y :: b, c, d, h => by
    simp only [List.cons_append, cellsEq, cellsEq_app c d (by simpa using h), Bool.and_assoc]
  | [], _ :: _, _, _, h => by simp at h
  | _ :: _, [], _, _, h => by simp at h

def packC (T : TT) (t : Nat) (cs : List C) : Value :=
  match T t with
  | some ti => if ti.k.agg = true then .agg (cs.map valC).toArray else (cs.map valC).headD .nilFunc
  | none => .nilFunc

theorem szK_some {n : Nat} {q : Option (List EK)} {ks : List EK} (h : szK n q = some ks) : q = some ks ∧ ks.length = n := by
  unfold szK at h
  split at h
  · split at h
    · cases h; exact ⟨rfl, by assumption⟩
    · cases h
  · cases h

theorem eqK_len {T : TT} {d t : Nat} {ks : List EK} (h : eqK T d t = some ks) : ∃ ti, T t = some ti ∧ ks.length = ti.size ∧ (ti.k.agg = false → ti.size = 1) := by
  cases d with
  | zero => simp [eqK] at h
  | succ d =>
    simp only [eqK] at h
    unfold eqStep at h
    split at h
    · rename_i q; obtain ⟨h1, h2⟩ := szK_some h; cases h1; exact ⟨_, q, h2, fun _ => by simpa using h2.symm⟩
    · rename_i q; obtain ⟨h1, h2⟩ := szK_some h; cases h1; exact ⟨_, q, h2, fun _ => by simpa using h2.symm⟩
    · rename_i q; obtain ⟨h1, h2⟩ := szK_some h; cases h1; exact ⟨_, q, h2, fun _ => by simpa using h2.symm⟩
    · rename_i q; obtain ⟨h1, h2⟩ := szK_some h; exact ⟨_, q, h2, fun e => by simp [TK.agg] at e⟩
    · rename_i q; obtain ⟨h1, h2⟩ := szK_some h; exact ⟨_, q, h2, fun e => by simp [TK.agg] at e⟩
    · cases h

theorem eqKs_mono {K L : Nat → Option (List EK)} (hKL : ∀ t ks, K t = some ks → L t = some ks) : ∀ {fs : List (Nat × Nat)} {o : Nat} {ks : List EK}, eqKs K o fs = some ks → eqKs L o fs = some ks
  | [], _, _, h => by simpa [eqKs] using h
  | (p, u) :: fs, o, ks, h => by
    simp only [eqKs] at h ⊢
    split at h
    · rename_i e
      rw [if_pos e]
      split at h
      · rename_i k1 hk
        rw [hKL _ _ hk]
        simp only [Option.map_eq_some_iff] at h ⊢
        obtain ⟨k2, h2, rfl⟩ := h
        exact ⟨k2, eqKs_mono hKL h2, rfl⟩
      · cases h
    · cases h

theorem eqStep_mono {K L : Nat → Option (List EK)} (hKL : ∀ t ks, K t = some ks → L t = some ks) {q : Option TI} {ks : List EK} (h : eqStep K q = some ks) : eqStep L q = some ks := by
  unfold eqStep at h
  split at h
  · exact h
  · exact h
  · exact h
  · obtain ⟨h1, h2⟩ := szK_some h
    simp only [eqStep, eqKs_mono hKL h1, szK, h2, if_true]
  · obtain ⟨h1, h2⟩ := szK_some h
    rw [Option.map_eq_some_iff] at h1
    obtain ⟨k1, h3, rfl⟩ := h1
    simp only [eqStep, hKL _ _ h3, Option.map_some, szK, h2, if_true]
  · cases h

theorem eqK_mono {T : TT} : ∀ (d : Nat) {t : Nat} {ks : List EK}, eqK T d t = some ks → eqK T (d + 1) t = some ks
  | 0, _, _, h => by simp [eqK] at h
  | d + 1, _, _, h => eqStep_mono (fun _ _ => eqK_mono d) h

theorem eqK_le {T : TT} {d e t : Nat} {ks : List EK} (h : eqK T d t = some ks) (hde : d ≤ e) : eqK T e t = some ks := by
  induction e with
  | zero => obtain rfl : d = 0 := by omega
            exact h
  | succ e ih =>
    rcases Nat.lt_or_ge e d with c | c
    · obtain rfl : d = e + 1 := by omega
      exact h
    · exact eqK_mono e (ih c)

theorem part_val (hT : TOK P T) {t : Nat} {ti : TI} (ht : T t = some ti) (cs : List C) (off : Nat) (hfit : off + ti.size ≤ cs.length) (h1 : ti.k.agg = false → ti.size = 1) :
    (part t (cs.map valC).toArray off).run P w = .ok (packC T t ((cs.drop off).take ti.size)) w := by
  cases hagg : ti.k.agg with
  | true =>
    have he : (cs.map valC).toArray.extract off (off + ti.size) = (((cs.drop off).take ti.size).map valC).toArray := by
      apply Array.ext'
      simp [List.extract_eq_take_drop, List.map_drop, List.map_take]
    simp only [part, hT.isAgg ht, hagg, Sem.run_bind, Result.andThen_ok, if_true, hT.sizeOf ht, Sem.run_pure, packC, ht, he]
  | false =>
    have hs := h1 hagg
    have hlt : off < cs.length := by omega
    have hg : (cs.map valC).toArray[off]? = some (valC cs[off]) := by simp [List.getElem?_eq_getElem hlt]
    simp only [part, hT.isAgg ht, hagg, Sem.run_bind, Result.andThen_ok, Bool.false_eq_true, if_false, hg, Sem.run_pure, packC, ht, hs]
    rw [List.drop_eq_getElem_cons hlt]
    rfl

def EqAtC (P : Program) (T : TT) (dd t : Nat) (ks : List EK) : Prop :=
  ∀ (w : World) (as bs : List C), kindsOK ks as → kindsOK ks bs → (Op.equalIn dd t (packC T t as) (packC T t bs)).run P w = .ok (cellsEq as bs) w

theorem take_len {α : Type} {l : List α} {n : Nat} (h : n ≤ l.length) : (l.take n).length = n := by rw [List.length_take]; omega

theorem eqFieldsC (hT : TOK P T) (dd : Nat) {K : Nat → Option (List EK)} (hK : ∀ t ks, K t = some ks → EqAtC P T dd t ks ∧ ∃ ti, T t = some ti ∧ ks.length = ti.size ∧ (ti.k.agg = false → ti.size = 1)) (as bs : List C) :
    ∀ (fields : List Field) (o : Nat) (ks : List EK), o ≤ as.length → o ≤ bs.length → eqKs K o (fields.map fun f => (f.offset, f.type)) = some ks → (∀ f ∈ fields, f.name ≠ "_") → kindsOK ks (as.drop o) → kindsOK ks (bs.drop o) →
      (Op.eqFields dd (as.map valC).toArray (bs.map valC).toArray fields).run P w = .ok (cellsEq (as.drop o) (bs.drop o)) w
  | [], o, ks, _, _, h, _, ha, hb => by
    simp [eqKs] at h; subst h
    have e1 : as.drop o = [] := List.eq_nil_of_length_eq_zero (kinds_len ha)
    have e2 : bs.drop o = [] := List.eq_nil_of_length_eq_zero (kinds_len hb)
    simp [Op.eqFields, e1, e2, cellsEq]
  | f :: fs, o, ks, hoa, hob, h, hn, ha, hb => by
    simp only [List.map_cons, eqKs] at h
    split at h
    · rename_i ho
      split at h
      · rename_i k1 hk
        rw [Option.map_eq_some_iff] at h
        obtain ⟨k2, h2, rfl⟩ := h
        obtain ⟨IH, ti, hti, hl, h1⟩ := hK _ _ hk
        have la := kinds_len ha
        have lb := kinds_len hb
        rw [List.length_append, List.length_drop] at la lb
        obtain ⟨a1, a2⟩ := kinds_split ha
        obtain ⟨b1, b2⟩ := kinds_split hb
        rw [List.drop_drop] at a2 b2
        have p1 := part_val (w := w) hT hti as f.offset (by omega) h1
        have p2 := part_val (w := w) hT hti bs f.offset (by omega) h1
        have hne := hn f (List.mem_cons_self ..)
        have ih := eqFieldsC hT dd hK as bs fs (o + k1.length) k2 (by omega) (by omega) h2 (fun g hg => hn g (List.mem_cons_of_mem _ hg)) a2 b2
        have q := IH w _ _ a1 b1
        rw [hl] at q
        rw [ho] at p1 p2
        have ea : as.drop o = (as.drop o).take k1.length ++ as.drop (o + k1.length) := by rw [← List.drop_drop]; exact (List.take_append_drop _ _).symm
        have eb : bs.drop o = (bs.drop o).take k1.length ++ bs.drop (o + k1.length) := by rw [← List.drop_drop]; exact (List.take_append_drop _ _).symm
        rw [ea, eb, cellsEq_app _ _ ((kinds_len a1).trans (kinds_len b1).symm)]
        simp only [Op.eqFields, hne, ne_eq, not_false_eq_true, if_true, Sem.run_bind, ho, p1, p2, Result.andThen_ok, q]
        rw [hl]
        cases hc : cellsEq ((as.drop o).take ti.size) ((bs.drop o).take ti.size) with
        | false => simp
        | true =>
          rw [← hl]
          simpa using ih
      · cases h
    · cases h

theorem eqItemsC (hT : TOK P T) (dd : Nat) {e : Nat} {ei : TI} (hei : T e = some ei) {ks : List EK} (IH : EqAtC P T dd e ks) (hl : ks.length = ei.size) (h1 : ei.k.agg = false → ei.size = 1) (as bs : List C) :
    ∀ (m j : Nat), kindsOK (repE m ks) (as.drop (j * ei.size)) → kindsOK (repE m ks) (bs.drop (j * ei.size)) →
      (Op.eqItems dd e ei.size (as.map valC).toArray (bs.map valC).toArray (List.range' j m)).run P w = .ok (cellsEq (as.drop (j * ei.size)) (bs.drop (j * ei.size))) w
  | 0, j, ha, hb => by
    have e1 : as.drop (j * ei.size) = [] := List.eq_nil_of_length_eq_zero (kinds_len ha)
    have e2 : bs.drop (j * ei.size) = [] := List.eq_nil_of_length_eq_zero (kinds_len hb)
    simp [Op.eqItems, e1, e2, cellsEq]
  | m + 1, j, ha, hb => by
    simp only [repE] at ha hb
    have la := kinds_len ha
    have lb := kinds_len hb
    rw [List.length_append, List.length_drop] at la lb
    obtain ⟨a1, a2⟩ := kinds_split ha
    obtain ⟨b1, b2⟩ := kinds_split hb
    rw [List.drop_drop] at a2 b2
    have hj : j * ei.size + ks.length = (j + 1) * ei.size := by rw [hl, Nat.add_mul, Nat.one_mul]
    rw [hj] at a2 b2
    have p1 := part_val (w := w) hT hei as (j * ei.size) (by rcases Nat.eq_zero_or_pos ei.size with c | c
                                                             · rw [c]; simp
                                                             · omega) h1
    have p2 := part_val (w := w) hT hei bs (j * ei.size) (by rcases Nat.eq_zero_or_pos ei.size with c | c
                                                             · rw [c]; simp
                                                             · omega) h1
    have ih := eqItemsC hT dd hei IH hl h1 as bs m (j + 1) a2 b2
    have q := IH w _ _ a1 b1
    rw [hl] at q
    have ea : as.drop (j * ei.size) = (as.drop (j * ei.size)).take ks.length ++ as.drop ((j + 1) * ei.size) := by rw [← hj, ← List.drop_drop]; exact (List.take_append_drop _ _).symm
    have eb : bs.drop (j * ei.size) = (bs.drop (j * ei.size)).take ks.length ++ bs.drop ((j + 1) * ei.size) := by rw [← hj, ← List.drop_drop]; exact (List.take_append_drop _ _).symm
    rw [ea, eb, cellsEq_app _ _ ((kinds_len a1).trans (kinds_len b1).symm), List.range'_succ]
    simp only [Op.eqItems, Sem.run_bind, p1, p2, Result.andThen_ok, q]
    rw [hl]
    cases hc : cellsEq ((as.drop (j * ei.size)).take ei.size) ((bs.drop (j * ei.size)).take ei.size) with
    | false => simp
    | true => simpa using ih

theorem cellsOf_eq (hT : TOK P T) {t : Nat} {ti : TI} (h : T t = some ti) : P.cellsOf t = ti.size := by
  obtain ⟨d, i, z, hd, hi, hf, hs, _⟩ := hT.get h
  simp [Program.cellsOf, hi, hs]

theorem kinds_one {k : EK} {cs : List C} (h : kindsOK [k] cs) : ∃ c, cs = [c] ∧ kindC c = some k := by
  cases cs with
  | nil => simp [kindsOK] at h
  | cons c cs =>
    rw [kinds_cons] at h
    obtain rfl : cs = [] := List.eq_nil_of_length_eq_zero (kinds_len h.2)
    exact ⟨c, rfl, h.1⟩

theorem eqDeep (hT : TOK P T) : ∀ (d e : Nat), d ≤ 8 → ∀ (t : Nat) (ks : List EK), eqK T d t = some ks → EqAtC P T (d + e) t ks
  | 0, _, _, _, _, h => by simp [eqK] at h
  | d + 1, e, hd, t, ks, h => fun w as bs ha hb => by
    have h8 := hT.eqs t (by rw [eqK_le h hd]; rfl)
    have hh := h
    simp only [eqK] at h
    unfold eqStep at h
    rw [Nat.add_right_comm]
    split at h
    · rename_i q
      obtain ⟨h1, h2⟩ := szK_some h; cases h1
      obtain ⟨a, rfl, ka⟩ := kinds_one ha
      obtain ⟨b, rfl, kb⟩ := kinds_one hb
      have hu := hT.int q
      cases a <;> simp [kindC] at ka
      cases b <;> simp [kindC] at kb
      subst ka; subst kb
      simp [packC, q, TK.agg, valC, Op.equalIn, run_underlying hu, cellsEq, cellEq]
    · rename_i q
      obtain ⟨h1, h2⟩ := szK_some h; cases h1
      obtain ⟨a, rfl, ka⟩ := kinds_one ha
      obtain ⟨b, rfl, kb⟩ := kinds_one hb
      have hu := hT.bool q
      cases a <;> simp [kindC] at ka
      cases b <;> simp [kindC] at kb
      simp [packC, q, TK.agg, valC, Op.equalIn, run_underlying hu, cellsEq, cellEq]
    · rename_i q
      obtain ⟨h1, h2⟩ := szK_some h; cases h1
      obtain ⟨a, rfl, ka⟩ := kinds_one ha
      obtain ⟨b, rfl, kb⟩ := kinds_one hb
      have hu := hT.str q
      cases a <;> simp [kindC] at ka
      cases b <;> simp [kindC] at kb
      simp [packC, q, TK.agg, valC, Op.equalIn, run_underlying hu, cellsEq, cellEq, beq_toListBytes, ByteArray.toList_eq]
    · rename_i fs n b z q
      obtain ⟨h1, h2⟩ := szK_some h
      obtain ⟨dd, i, zz, hu, _, hf, _⟩ := hT.get q
      simp only [TK.fits] at hf
      obtain ⟨fields, rfl, hm⟩ := hf
      unfold eqOK at h8
      rw [hu] at h8
      simp only [Bool.and_eq_true, List.all_eq_true, bne_iff_ne, ne_eq, Bool.not_eq_true'] at h8
      obtain ⟨⟨hn, hp⟩, _⟩ := h8
      have hfo : P.fieldsOf t = fields := by simp [Program.fieldsOf, hu]
      have hst := run_equalIn_struct (P := P) w (d + e) t (as.map valC).toArray (bs.map valC).toArray (by rw [hfo]; exact hu) hp
      rw [hfo] at hst
      have hpk : ∀ cs, packC T t cs = .agg (cs.map valC).toArray := fun cs => by simp [packC, q, TK.agg]
      rw [hpk, hpk, hst]
      have := eqFieldsC (w := w) hT (d + e) (K := eqK T d) (fun t ks hk => ⟨eqDeep hT d e (by omega) t ks hk, eqK_len hk⟩) as bs fields.toList 0 ks (Nat.zero_le _) (Nat.zero_le _) (by rw [hm]; exact h1) (fun f hf => hn f hf) (by simpa using ha) (by simpa using hb)
      simpa using this
    · rename_i m el n b z q
      obtain ⟨h1, h2⟩ := szK_some h
      rw [Option.map_eq_some_iff] at h1
      obtain ⟨k1, h3, rfl⟩ := h1
      have hu := hT.array q
      obtain ⟨ei, hei, hl, h1'⟩ := eqK_len h3
      obtain ⟨_, i, _, _, hi, _⟩ := hT.get hei
      have hst := run_equalIn_array (P := P) (w := w) (d + e) (as.map valC).toArray (bs.map valC).toArray hu hi
      have hpk : ∀ cs, packC T t cs = .agg (cs.map valC).toArray := fun cs => by simp [packC, q, TK.agg]
      rw [hpk, hpk, hst, cellsOf_eq hT hei, List.range_eq_range']
      have := eqItemsC (w := w) hT (d + e) hei (eqDeep hT d e (by omega) el k1 h3) hl h1' as bs m 0 (by simpa using ha) (by simpa using hb)
      simpa using this
    · cases h

theorem agg_eq (hT : TOK P T) {t : Nat} {ks : List EK} (h : eqK T 8 t = some ks) {S : Stab} {as bs : List C} {xs ys : List Value} (ra : RepL S as xs) (rb : RepL S bs ys) (ha : kindsOK ks as) (hb : kindsOK ks bs) (hagg : ∃ ti, T t = some ti ∧ ti.k.agg = true) :
    (Op.equalIn 10000 t (.agg xs.toArray) (.agg ys.toArray)).run P w = .ok (cellsEq as bs) w ∧ P.eqGuardType P.depth t = false := by
  obtain ⟨ti, hti, hg⟩ := hagg
  have := eqDeep hT 8 9992 (Nat.le_refl _) t ks h w as bs ha hb
  have hpk : ∀ cs, packC T t cs = .agg (cs.map valC).toArray := fun cs => by simp [packC, hti, hg]
  rw [hpk, hpk, ← rep_val ha ra, ← rep_val hb rb] at this
  refine ⟨this, ?_⟩
  have h8 := hT.eqs t (by rw [h]; rfl)
  unfold eqOK at h8
  simp only [Bool.and_eq_true, Bool.not_eq_true'] at h8
  exact h8.2

theorem bin_ok (hT : TOK P T) (H : HeapOK bs g h w) {op : BinOp} {t : Nat} {x y : X} {v u : Value} {e : Eff} (ox oy : Operand) (r : RelX g h x v) (r2 : RelX g h y u) (he : opBin T h op t x y = some e) (hp : e.pre) :
    VOK P bs g h w (do eqGuard op t ox oy v u; binOp op t v u) e := by
  unfold opBin at he
  split at he
  · rw [rel_int] at r r2; subst r; subst r2
    simp only [Option.some.injEq] at he; subst he
    obtain ⟨v, hv, hr⟩ := run_intBin (P := P) (w := w) (S := g.S) op t _ _ _ _ hp
    exact ⟨v, w, by simp [run_eqGuard_int, hv], After.same H (by simpa only [RelX] using hr)⟩
  · rw [rel_str] at r r2; subst r; subst r2
    simp only [Option.some.injEq] at he; subst he
    obtain ⟨v, hv, hr⟩ := run_strBin (P := P) (w := w) (S := g.S) op t _ _ hp
    exact ⟨v, w, by simp [run_eqGuard_str, hv], After.same H (by simpa only [RelX] using hr)⟩
  · rw [rel_bool] at r r2; subst r; subst r2
    split at he
    · rename_i s b z ht
      simp only [Option.some.injEq] at he; subst he
      exact ⟨_, w, by rw [Sem.run_bind, run_eqGuard_bool, Result.andThen_ok]; first | exact run_eql_bool t _ _ (hT.bool ht) | exact run_neq_bool t _ _ (hT.bool ht), After.same H (rel_bool.2 rfl)⟩
    · rename_i s b z ht
      simp only [Option.some.injEq] at he; subst he
      exact ⟨_, w, by rw [Sem.run_bind, run_eqGuard_bool, Result.andThen_ok]; first | exact run_eql_bool t _ _ (hT.bool ht) | exact run_neq_bool t _ _ (hT.bool ht), After.same H (rel_bool.2 rfl)⟩
    · cases he
  · rename_i as bs
    rw [Option.bind_eq_some_iff] at he
    obtain ⟨ks, hks, he⟩ := he
    simp only [RelX] at r r2
    obtain ⟨xs, rfl, ra⟩ := r
    obtain ⟨ys, rfl, rb⟩ := r2
    unfold aggEq at he
    split at he
    · simp only [Option.some.injEq] at he; subst he
      simp only at hp
      obtain ⟨h1, h2, h3⟩ := hp
      obtain ⟨q1, q2⟩ := agg_eq (w := w) hT hks ra rb h2 h3 h1
      exact ⟨_, w, by rw [Sem.run_bind, run_eqGuard_agg w .eql t ox oy _ _ q2, Result.andThen_ok, run_eql_struct, q1, Result.andThen_ok], After.same H (rel_bool.2 rfl)⟩
    · simp only [Option.some.injEq] at he; subst he
      simp only at hp
      obtain ⟨h1, h2, h3⟩ := hp
      obtain ⟨q1, q2⟩ := agg_eq (w := w) hT hks ra rb h2 h3 h1
      exact ⟨_, w, by rw [Sem.run_bind, run_eqGuard_agg w .neq t ox oy _ _ q2, Result.andThen_ok, run_neq_struct, q1, Result.andThen_ok], After.same H (rel_bool.2 rfl)⟩
    · cases he
  · simp only [Option.some.injEq] at he; subst he; exact hp.elim
  · simp only [Option.some.injEq] at he; subst he; exact hp.elim
  · cases he

end
end Fen

/- Part 9: the operations that write: new variables, stores, appends. -/
namespace Fen
open Go Go.RowKit

theorem repV_one {S : Stab} {c : C} {v : Value} (r : RepV S c v) : v.oneCell' = true ∧ v.cells = #[v] := by
  cases c with
  | sl n cs => simp only [RepV] at r; rcases r with ⟨⟨_, rfl⟩, _⟩ | ⟨_, _, _, _, rfl, _⟩ <;> exact ⟨rfl, rfl⟩
  | fn f caps => simp only [RepV] at r; obtain ⟨_, rfl, _⟩ := r; exact ⟨rfl, rfl⟩
  | ptr cs => simp only [RepV] at r; obtain ⟨_, _, _, rfl, _⟩ := r; exact ⟨rfl, rfl⟩
  | _ => simp only [RepV] at r; subst r; exact ⟨rfl, rfl⟩

theorem repL_one {S : Stab} : ∀ {cs : List C} {vs : List Value}, RepL S cs vs → ∀ v ∈ vs, v.oneCell' = true
  | [], _, r, v, hv => by simp only [RepL] at r; subst r; cases hv
  | c :: cs, _, r, v, hv => by
    simp only [RepL] at r
    obtain ⟨u, us, rfl, h1, h2⟩ := r
    rcases List.mem_cons.1 hv with rfl | hv
    · exact (repV_one h1).1
    · exact repL_one h2 v hv

theorem repA_cells {S : Stab} {a : V} {v : Value} (r : RepA S a v) : RepL S a.cells v.cells.toList := by
  cases a with
  | c k =>
    simp only [RepA] at r
    rw [(repV_one r).2]
    simp only [V.cells, RepL]
    exact ⟨v, [], rfl, r, rfl⟩
  | agg ks =>
    simp only [RepA] at r
    obtain ⟨vs, rfl, hr⟩ := r
    simpa [V.cells, Value.cells] using hr

theorem storeXs_ok {g : Gh} {h : List Blk} {x : X} {v : Value} {xs : List X} (r : RelX g h x v) (e : storeXs x = some xs) : RelXs g h xs v.cells.toList ∧ ∀ u ∈ v.cells.toList, u.oneCell' = true := by
  have one : v.oneCell' = true → v.cells = #[v] → xs = [x] → RelXs g h xs v.cells.toList ∧ ∀ u ∈ v.cells.toList, u.oneCell' = true := fun h1 h2 h3 => by
    subst h3
    rw [h2]
    refine ⟨by simp only [RelXs]; exact ⟨v, [], rfl, r, rfl⟩, fun u hu => ?_⟩
    simp at hu; subst hu; exact h1
  cases x with
  | agg cs =>
    simp only [storeXs, Option.some.injEq] at e; subst e
    simp only [RelX] at r
    obtain ⟨vs, rfl, hr⟩ := r
    exact ⟨by simpa [Value.cells] using RelXs.of_vals hr, fun u hu => repL_one hr u (by simpa [Value.cells] using hu)⟩
  | recd xs' =>
    simp only [storeXs, Option.some.injEq] at e; subst e
    simp only [RelX] at r
    obtain ⟨vs, rfl, hr, ho⟩ := r
    exact ⟨by simpa [Value.cells] using hr, fun u hu => ho u (by simpa [Value.cells] using hu)⟩
  | val c =>
    simp only [storeXs, Option.some.injEq] at e
    simp only [RelX] at r
    exact one (repV_one r).1 (repV_one r).2 e.symm
  | nil =>
    simp only [storeXs, Option.some.injEq] at e
    have r' := r
    simp only [RelX] at r'; subst r'
    exact one rfl rfl e.symm
  | ex sz n cs =>
    simp only [storeXs, Option.some.injEq] at e
    have r' := rep_ex r
    exact one (repV_one r').1 (repV_one r').2 e.symm
  | ref id ver =>
    simp only [storeXs, Option.some.injEq] at e
    have r' := r
    simp only [RelX] at r'
    obtain ⟨_, _, _, _, ⟨_, _, _, rfl⟩, _⟩ := r'
    exact one rfl rfl e.symm
  | view id ver off n =>
    simp only [storeXs, Option.some.injEq] at e
    have r' := r
    simp only [RelX] at r'
    obtain ⟨_, _, _, _, ⟨_, _, _, rfl⟩, _⟩ := r'
    exact one rfl rfl e.symm
  | ptr id ver off =>
    simp only [storeXs, Option.some.injEq] at e
    have r' := r
    simp only [RelX] at r'
    obtain ⟨_, _, _, ⟨_, rfl⟩, _⟩ := r'
    exact one rfl rfl e.symm
  | fptr cs =>
    simp only [storeXs, Option.some.injEq] at e
    have r' := r
    simp only [RelX] at r'
    obtain ⟨_, _, _, rfl, _⟩ := r'
    exact one rfl rfl e.symm
  | clos f caps =>
    simp only [storeXs, Option.some.injEq] at e
    have r' := r
    simp only [RelX] at r'
    obtain ⟨_, rfl, _⟩ := r'
    exact one rfl rfl e.symm
  | yld id =>
    simp only [storeXs, Option.some.injEq] at e
    have r' := r
    simp only [RelX] at r'
    obtain ⟨_, _, _, ⟨_, rfl⟩, _⟩ := r'
    exact one rfl rfl e.symm
  | mp id =>
    simp only [storeXs, Option.some.injEq] at e
    have r' := r
    simp only [RelX] at r'
    rcases r' with ⟨_, _, _, ⟨_, rfl⟩ | ⟨_, _, _, rfl⟩, _⟩ <;> exact one rfl rfl e.symm
  | _ => simp [storeXs] at e

theorem storeCs_ok {bs : Base} {g : Gh} {h h' : List Blk} {w : World} {x : X} {v : Value} {cs : List C} (H : HeapOK bs g h w) (r : RelX g h x v) (e : storeCs h x = some (cs, h')) :
    ∃ S', Ext g h { g with S := S' } h' ∧ HeapOK bs { g with S := S' } h' w ∧ RepL S' cs v.cells.toList := by
  unfold storeCs at e
  split at e
  · rename_i c h1 ht
    simp only [Option.some.injEq, Prod.mk.injEq] at e; obtain ⟨rfl, rfl⟩ := e
    obtain ⟨S', E, H', r'⟩ := toV_ok H r ht
    exact ⟨S', E, H', repA_cells r'⟩
  · rename_i c h1 ht
    simp only [Option.some.injEq, Prod.mk.injEq] at e; obtain ⟨rfl, rfl⟩ := e
    obtain ⟨S', E, H', r'⟩ := toV_ok H r ht
    exact ⟨S', E, H', repA_cells r'⟩
  · cases e

theorem RelXs.setSeg {g : Gh} {h : List Blk} {xs new : List X} {vs nv : List Value} (off n : Nat) (r : RelXs g h xs vs) (k : RelXs g h new nv) : RelXs g h (setSeg xs off n new) (setSeg vs off n nv) :=
  ((r.take off).append k).append (r.drop (off + n))

theorem RepL.setSeg {S : Stab} {xs new : List C} {vs nv : List Value} (off n : Nat) (r : RepL S xs vs) (k : RepL S new nv) : RepL S (setSeg xs off n new) (setSeg vs off n nv) :=
  ((r.take off).append k).append (r.drop (off + n))

/-- a block of the private heap, its own memory written -/
theorem HeapOK.modify {bs : Base} {g : Gh} {h : List Blk} {w : World} (H : HeapOK bs g h w) {id : Nat} {b b' : Blk} (hb : h[id]? = some b) (hex : g.ex id = true)
    (hbox : b.isBox = b'.isBox) (hver : b.ver = b'.ver) {cur cs : Array Value} {ty : TypeId} (hcur : w.heap[(g.ad id).1]? = some (.cells cur ty (0, 0)))
    (hst : ∀ o v, g.S (g.ad id).1 o = some v → cs[o]? = some v)
    (hok : BlkOK g (h.set id b') (w.setRow (g.ad id).1 cs) id b') : Ext g h g (h.set id b') ∧ HeapOK bs g (h.set id b') (w.setRow (g.ad id).1 cs) := by
  have hlt := lt_of_get hb
  have E : Ext g h g (h.set id b') := ⟨fun _ _ _ h => h, fun i k hi => by
    by_cases ci : i = id
    · subst ci
      rw [hb] at hi; cases hi
      exact ⟨b', get_set_eq hlt, hbox, Nat.le_of_eq hver, fun _ => ⟨rfl, rfl⟩⟩
    · exact ⟨k, by rw [get_set_ne ci]; exact hi, rfl, Nat.le_refl _, fun _ => ⟨rfl, rfl⟩⟩, fun _ h => h⟩
  refine ⟨E, ⟨fun b o v hv => ?_, fun i k hi => ?_, fun i j hi hj => H.inj i j (by simpa using hi) (by simpa using hj), fun i hi => H.loc i (by simpa using hi), H.os, H.tape, H.output, by simpa using H.size, fun k hk ho => ?_, H.stab, H.gl, fun m hm => (setRow_other w _ m cs fun e => by
      have := H.marks m hm; rw [e, hcur] at this; cases this).trans (H.marks m hm)⟩⟩
  · by_cases c : b = (g.ad id).1
    · subst c
      rw [cell_setRow_same w _ o cur cs ty (0, 0) hcur]
      exact hst o v hv
    · rw [cell_setRow_other w _ cs ⟨b, o, none⟩ c]; exact H.stable b o v hv
  · rcases set_get hi with ⟨rfl, _, rfl⟩ | ⟨hne, hi'⟩
    · exact hok
    · refine (H.blk i k hi').mono E rfl rfl rfl fun hei _ => ⟨?_, fun _ => rfl⟩
      exact setRow_other w _ _ cs fun e => hne (H.inj i id (lt_of_get hi') hlt hei hex e)
  · rw [setRow_other w _ k cs fun e => ?_]
    · exact H.frame k hk ho
    · subst e
      rcases H.loc id hlt hex with hl | hl
      · omega
      · exact ho hl

section
variable {P : Program} {T : TT} {bs : Base} {g : Gh} {h : List Blk} {w : World}

theorem store_ok (hT : TOK P T) (H : HeapOK bs g h w) {t : Nat} {p x : X} {v u : Value} {e : Eff} (r : RelX g h p v) (r2 : RelX g h x u) (he : opStore T h t p x = some e) (hp : e.pre) :
    ∃ w', (Instr.storeAt t v u).run P w = .ok () w' ∧ ∃ g', Ext g h g' e.h ∧ HeapOK bs g' e.h w' ∧ e.x = .dead := by
  unfold opStore at he
  split at he
  · rename_i ti id ver off ht
    split at he
    · rename_i ty cs hb
      split at he
      · rename_i hv
        subst hv
        split at he
        · rename_i new hnew
          simp only [Option.some.injEq] at he; subst he
          simp only at hp
          obtain ⟨hp1, hp2⟩ := hp
          obtain ⟨hr2, h1⟩ := storeXs_ok r2 hnew
          have hlen := hr2.length
          simp only [RelX, hb, Option.some.injEq] at r
          obtain ⟨_, rfl, _, _, hh⟩ := r
          have hv := hh rfl
          subst hv
          have hk := H.blk id _ hb
          simp only [BlkOK] at hk
          obtain ⟨hex, ha, hS, cells, hcur, hr⟩ := hk
          have hlen2 := hr.length
          have hfit : off + 0 + u.cells.toList.length ≤ cells.size := by
            have : cells.size = cells.toList.length := rfl
            omega
          have hst := run_storeCells_at P (g.ad id).1 off ty u.cells.toList 0 cells w hcur hfit h1
          rw [ha, Nat.zero_add]
          simp only [Nat.add_zero] at hst
          have hsz : u.cells.size = ti.size := by rw [← hp1, ← hlen]; rfl
          have hlt' : u.cells.toList.length = ti.size := by rw [hlen, hp1]
          rw [hlt'] at hst
          obtain ⟨E, H'⟩ := H.modify (b' := .box ty (setSeg cs off ti.size new)) hb hex rfl rfl hcur (cs := (setSeg cells.toList off ti.size u.cells.toList).toArray) (fun o v hv => by rw [hS] at hv; cases hv) (by
            refine ⟨hex, ha, hS, _, setRow_heap w _ cells _ ty _ hcur, ?_⟩
            have E : Ext g h g (h.set id (.box ty (setSeg cs off ti.size new))) := ⟨fun _ _ _ h => h, fun i k hi => by
              by_cases ci : i = id
              · subst ci
                rw [hb] at hi; cases hi
                exact ⟨_, get_set_eq (lt_of_get hb), rfl, Nat.le_refl _, fun _ => ⟨rfl, rfl⟩⟩
              · exact ⟨k, by rw [get_set_ne ci]; exact hi, rfl, Nat.le_refl _, fun _ => ⟨rfl, rfl⟩⟩, fun _ h => h⟩
            simpa using RelXs.mono E _ _ (hr.setSeg off ti.size hr2))
          refine ⟨_, ?_, g, E, H', rfl⟩
          simp only [Instr.storeAt, Instr.sureAddr, storeVar, Sem.run_bind, Sem.run_pure, Result.andThen_ok, hT.sizeOf ht, hsz, ne_eq, not_true_eq_false, if_false]
          exact hst
        · cases he
      · cases he
    · rename_i ty v0 sz n cs hb
      split at he
      · rename_i hv
        subst hv
        split at he
        · rename_i new hnew
          simp only [Option.some.injEq] at he; subst he
          simp only at hp
          obtain ⟨hp1, hp2⟩ := hp
          obtain ⟨hr2, h1⟩ := storeXs_ok r2 hnew
          have hlen := hr2.length
          simp only [RelX, hb, Option.some.injEq] at r
          obtain ⟨_, rfl, _, _, hh⟩ := r
          have hv := hh rfl
          subst hv
          obtain ⟨h0, hl, hk⟩ := H.blk id _ hb
          have hsz : u.cells.size = ti.size := by rw [← hp1, ← hlen]; rfl
          have hlt' : u.cells.toList.length = ti.size := by rw [hlen, hp1]
          have hlen3 : (setSeg cs off ti.size new).length = cs.length := by simp [setSeg]; omega
          rcases hk with ⟨hv, hn, hx⟩ | ⟨hex, ha, cap, cur, k1, k2, k3, k4, k5, k6, k7⟩
          · subst hn
            have hc0 : cs = [] := by simpa using hl
            subst hc0
            have hsz0 : ti.size = 0 := by simp at hp2; omega
            have hu0 : u.cells.toList = [] := List.eq_nil_of_length_eq_zero (by omega)
            have hn0 : new = [] := List.eq_nil_of_length_eq_zero (by omega)
            subst hn0
            refine ⟨w, ?_, g, ?_, ?_, rfl⟩
            · simp [Instr.storeAt, Instr.sureAddr, storeVar, hT.sizeOf ht, hsz, hu0, storeCells]
            · have : h.set id (.slx ty ver sz 0 (setSeg [] off ti.size [])) = h := by
                apply List.ext_getElem?
                intro i
                rw [List.getElem?_set]
                split
                · rename_i e; subst e; rw [if_pos (lt_of_get hb), hb]; simp [setSeg]
                · rfl
              simp only
              rw [this]; exact Ext.refl _ _
            · have : h.set id (.slx ty ver sz 0 (setSeg [] off ti.size [])) = h := by
                apply List.ext_getElem?
                intro i
                rw [List.getElem?_set]
                split
                · rename_i e; subst e; rw [if_pos (lt_of_get hb), hb]; simp [setSeg]
                · rfl
              simp only
              rw [this]; exact H
          · have hcl : cs.length ≤ cur.size := by rw [hl, k5]; exact Nat.mul_le_mul_right _ k2
            have hfit : off + 0 + u.cells.toList.length ≤ cur.size := by omega
            have hst := run_storeCells_at P (g.ad id).1 off ty u.cells.toList 0 cur w k4 hfit h1
            rw [ha, Nat.zero_add]
            simp only [Nat.add_zero] at hst
            rw [hlt'] at hst
            obtain ⟨E, H'⟩ := H.modify (b' := .slx ty ver sz n (setSeg cs off ti.size new)) hb hex rfl rfl k4 (cs := (setSeg cur.toList off ti.size u.cells.toList).toArray) (fun o v hv => by rw [k7] at hv; cases hv) (by
              have E : Ext g h g (h.set id (.slx ty ver sz n (setSeg cs off ti.size new))) := ⟨fun _ _ _ h => h, fun i k hi => by
                by_cases ci : i = id
                · subst ci
                  rw [hb] at hi; cases hi
                  exact ⟨_, get_set_eq (lt_of_get hb), rfl, Nat.le_refl _, fun _ => ⟨rfl, rfl⟩⟩
                · exact ⟨k, by rw [get_set_ne ci]; exact hi, rfl, Nat.le_refl _, fun _ => ⟨rfl, rfl⟩⟩, fun _ h => h⟩
              refine ⟨h0, hlen3.trans hl, .inr ⟨hex, ha, cap, (setSeg cur.toList off ti.size u.cells.toList).toArray, k1, k2, k3, setRow_heap w _ cur _ ty _ k4, ?_, ?_, k7⟩⟩
              · rw [← k5]; simp [setSeg]; have : cur.size = cur.toList.length := rfl; omega
              · have := RelXs.mono E _ _ (k6.setSeg off ti.size hr2)
                have e : setSeg (cur.toList.take (n * sz)) off ti.size u.cells.toList = (setSeg cur.toList off ti.size u.cells.toList).toArray.toList.take (n * sz) := by
                  rw [hl] at hp2
                  simp only [setSeg]
                  rw [List.take_take, List.drop_take, List.take_append, List.take_append]
                  have a1 : min off (n * sz) = off := by omega
                  have a2 : (cur.toList.take off).length = off := by simp; have : cur.size = cur.toList.length := rfl; omega
                  have a3 : List.take (n * sz) (List.take off cur.toList) = List.take off cur.toList := by rw [List.take_take]; congr 1; omega
                  have a4 : List.take (n * sz - (List.take off cur.toList).length) u.cells.toList = u.cells.toList := by apply List.take_of_length_le; omega
                  rw [a1, a3, a4, List.length_append, a2, hlt', Nat.sub_add_eq]
                rw [← e]; exact this)
            refine ⟨_, ?_, g, E, H', rfl⟩
            simp only [Instr.storeAt, Instr.sureAddr, storeVar, Sem.run_bind, Sem.run_pure, Result.andThen_ok, hT.sizeOf ht, hsz, ne_eq, not_true_eq_false, if_false]
            exact hst
        · cases he
      · cases he
    · rename_i hb
      split at he
      · rename_i new h' hnew
        split at he
        · rename_i ty v0 p sz n cs hb'
          split at he
          · rename_i hv
            subst hv
            simp only [Option.some.injEq] at he; subst he
            simp only at hp
            obtain ⟨hp0, hp1, hp2⟩ := hp
            subst hp0
            obtain ⟨S', E1, H1, hr2⟩ := storeCs_ok H r2 hnew
            have h1 := repL_one hr2
            have hlen := hr2.length
            have r' := RelX.mono E1 _ _ r
            simp only [RelX, hb', Option.some.injEq] at r'
            obtain ⟨_, rfl, _, _, hh⟩ := r'
            have hv := hh rfl
            subst hv
            have hk := H1.blk id _ hb'
            simp only [BlkOK] at hk
            obtain ⟨h0, hl, hk⟩ := hk
            rcases hk with ⟨hv, hn, hx⟩ | ⟨hex, ha, cap, cur, k1, k2, k3, k4, k5, k6, k7⟩ | ⟨_, hpf, _⟩
            · subst hn
              have : u.cells.toList = [] := by
                apply List.eq_nil_of_length_eq_zero
                rw [hlen, hp1]; simp at hl; rw [hl] at hp2; simp at hp2; omega
              have hsz0 : ti.size = 0 := by rw [← hp1, ← hlen, this]; rfl
              have hsz : u.cells.size = ti.size := by rw [hsz0]; simpa using congrArg List.length this
              refine ⟨w, ?_, { g with S := S' }, ?_, ?_, rfl⟩
              · simp [Instr.storeAt, Instr.sureAddr, storeVar, hT.sizeOf ht, hsz, this, storeCells]
              · have hcs : cs = [] := by simpa using hl
                have hnw : new = [] := by apply List.eq_nil_of_length_eq_zero; omega
                subst hcs; subst hnw
                have : h'.set id (.sl ty ver true sz 0 (setSeg [] off ti.size [])) = h' := by
                  apply List.ext_getElem?
                  intro i
                  rw [List.getElem?_set]
                  split
                  · rename_i e; subst e; rw [if_pos (lt_of_get hb'), hb']; simp [setSeg]
                  · rfl
                rw [this]; exact E1
              · have hcs : cs = [] := by simpa using hl
                have hnw : new = [] := by apply List.eq_nil_of_length_eq_zero; omega
                subst hcs; subst hnw
                have : h'.set id (.sl ty ver true sz 0 (setSeg [] off ti.size [])) = h' := by
                  apply List.ext_getElem?
                  intro i
                  rw [List.getElem?_set]
                  split
                  · rename_i e; subst e; rw [if_pos (lt_of_get hb'), hb']; simp [setSeg]
                  · rfl
                rw [this]; exact H1
            · have hnS : ∀ o, S' (g.ad id).1 o = none := fun o => by
                rcases hq : S' (g.ad id).1 o with _ | v
                · rfl
                · have := (k7 o (by simp [hq])).1; cases this
              have hcl : cs.length ≤ cur.size := by rw [hl, k5]; exact Nat.mul_le_mul_right _ k2
              have hlt' : u.cells.toList.length = ti.size := by rw [hlen, hp1]
              have hfit : off + 0 + u.cells.toList.length ≤ cur.size := by omega
              have hst := run_storeCells_at P (g.ad id).1 off ty u.cells.toList 0 cur w k4 hfit h1
              simp only [Nat.add_zero] at hst
              rw [hlt'] at hst
              have hsz : u.cells.size = ti.size := by rw [← hp1, ← hlen]; rfl
              have hlen3 : (setSeg cs off ti.size new).length = cs.length := by simp [setSeg]; omega
              obtain ⟨E, H'⟩ := H1.modify (b' := .sl ty ver true sz n (setSeg cs off ti.size new)) hb' hex rfl rfl k4 (cs := (setSeg cur.toList off ti.size u.cells.toList).toArray) (fun o v hv => by have hq := (hnS o).symm.trans hv; cases hq) (by
                refine ⟨h0, hlen3.trans hl, .inr (.inl ⟨hex, ha, cap, (setSeg cur.toList off ti.size u.cells.toList).toArray, k1, k2, k3, setRow_heap w _ cur _ ty _ k4, ?_, ?_, fun o ho => absurd (hnS o) ho⟩)⟩
                · rw [← k5]; simp [setSeg]; have : cur.size = cur.toList.length := rfl; omega
                · have := k6.setSeg off ti.size hr2
                  have e : setSeg (cur.toList.take (n * sz)) off ti.size u.cells.toList = (setSeg cur.toList off ti.size u.cells.toList).toArray.toList.take (n * sz) := by
                    rw [hl] at hp2
                    simp only [setSeg]
                    rw [List.take_take, List.drop_take, List.take_append, List.take_append]
                    have a1 : min off (n * sz) = off := by omega
                    have a2 : (cur.toList.take off).length = off := by simp; have : cur.size = cur.toList.length := rfl; omega
                    have a3 : List.take (n * sz) (List.take off cur.toList) = List.take off cur.toList := by rw [List.take_take]; congr 1; omega
                    have a4 : List.take (n * sz - (List.take off cur.toList).length) u.cells.toList = u.cells.toList := by apply List.take_of_length_le; omega
                    rw [a1, a3, a4, List.length_append, a2, hlt', Nat.sub_add_eq]
                  rw [← e]; exact this)
              refine ⟨_, ?_, _, E1.trans E, H', rfl⟩
              simp only [ha, Nat.zero_add, Instr.storeAt, Instr.sureAddr, storeVar, Sem.run_bind, Sem.run_pure, Result.andThen_ok, hT.sizeOf ht, hsz, ne_eq, not_true_eq_false, if_false]
              exact hst
            · cases hpf
          · cases he
        · cases he
      · cases he
    · cases he
  · cases he

end
end Fen

/- Part 10: new memory: variables, composite values, slices, append. -/
namespace Fen
open Go Go.RowKit

section
variable {P : Program} {T : TT} {bs : Base} {g : Gh} {h : List Blk} {w : World}

/-- a new block of memory, as a block of the private heap -/
theorem new_blk (H : HeapOK bs g h w) (b : Blk) (hd : Value) {cs : Array Value} {ty : TypeId} {w' : World} (hos : w'.os = w.os) (htape : w'.tape = w.tape) (hout : w'.output = w.output) (hheap : w'.heap = w.heap.push (.cells cs ty (0, 0)))
    (hb : ∀ g', Ext g h g' (h ++ [b]) → g'.S = g.S → g'.ex h.length = true → g'.ad h.length = (w.heap.size, 0) → g'.hd h.length = hd → (∀ o, g.S w.heap.size o = none) → w'.heap[w.heap.size]? = some (.cells cs ty (0, 0)) → BlkOK g' (h ++ [b]) w' h.length b) :
    ∃ g', Ext g h g' (h ++ [b]) ∧ HeapOK bs g' (h ++ [b]) w' ∧ g'.ad h.length = (w.heap.size, 0) ∧ g'.hd h.length = hd := by
  have hold : ∀ k, k < w.heap.size → w'.heap[k]? = w.heap[k]? := fun k hk => by rw [hheap, Array.getElem?_push, if_neg (by omega)]
  have hnew : w'.heap[w.heap.size]? = some (.cells cs ty (0, 0)) := by rw [hheap]; simp
  have hS0 : ∀ o, g.S w.heap.size o = none := fun o => by
    rcases hq : g.S w.heap.size o with _ | v
    · rfl
    · have := cell_lt (H.stable _ _ _ hq); omega
  obtain ⟨E, H'⟩ := H.world g.S hos htape hout (by rw [hheap]; simp) hold (fun _ _ _ => rfl) (fun b o v hv => by
    have := H.stable b o v hv
    rw [cell_block (hold b (cell_lt this))]; exact this)
  have E2 := Ext.push g h b (w.heap.size, 0) hd true
  refine ⟨g.push h.length (w.heap.size, 0) hd true, E2, HeapOK.push (g := g) H' b (w.heap.size, 0) hd true (hb _ E2 rfl (by simp [Gh.push]) (by simp [Gh.push]) (by simp [Gh.push]) hS0 hnew) (fun _ => ⟨fun i hi hei => ?_, .inl ?_⟩), by simp [Gh.push], by simp [Gh.push]⟩
  · obtain ⟨bi, hbi⟩ : ∃ bi, h[i]? = some bi := ⟨_, List.getElem?_eq_getElem hi⟩
    have hk := H.blk i bi hbi
    have : (g.ad i).1 < w.heap.size := by
      cases bi with
      | box bt cells => obtain ⟨_, _, _, _, h4, _⟩ := hk; exact (Array.getElem?_eq_some_iff.1 h4).1
      | sl ty v p sz n c =>
        obtain ⟨_, _, hk⟩ := hk
        rcases hk with ⟨_, _, he⟩ | ⟨_, _, _, _, _, _, _, h4, _⟩ | ⟨he, _⟩
        · rw [hei] at he; cases he
        · exact (Array.getElem?_eq_some_iff.1 h4).1
        · rw [hei] at he; cases he
      | slx ty v sz n c =>
        obtain ⟨_, _, hk⟩ := hk
        rcases hk with ⟨_, _, he⟩ | ⟨_, _, _, _, _, _, _, h4, _⟩
        · rw [hei] at he; cases he
        · exact (Array.getElem?_eq_some_iff.1 h4).1
      | obj o => exact (Array.getElem?_eq_some_iff.1 hk.2.2).1
      | mp kk vk es => obtain ⟨_, _, _, _, _, h4, _⟩ := hk; exact (Array.getElem?_eq_some_iff.1 h4).1
      | sb ty n c => obtain ⟨_, _, _, _, _, _, _, _, _, h4, _⟩ := hk; exact (Array.getElem?_eq_some_iff.1 h4).1
      | gone => exact hk.1 hei
      | hid => exact hk hei
    exact Nat.ne_of_lt this
  · exact H.size

theorem rel_newptr {g' : Gh} {h' : List Blk} {b : Blk} (had : g'.ad h.length = (w.heap.size, 0)) (hb : b.ver = 0) (hh : h' = h ++ [b]) : RelX g' h' (.ptr h.length 0 0) (.pointer (some ⟨w.heap.size, 0, none⟩)) := by
  subst hh
  simp only [RelX]
  exact ⟨b, by simp, by omega, ⟨_, rfl⟩, fun _ => by rw [had]⟩

theorem zero_rel (g : Gh) (h : List Blk) : ∀ {xs : List X}, xs.all zok = true → RelXs g h xs (xs.map zval)
  | [], _ => by simp [RelXs]
  | x :: xs, hz => by
    simp only [List.all_cons, Bool.and_eq_true] at hz
    simp only [List.map_cons, RelXs]
    refine ⟨_, _, rfl, ?_, zero_rel g h hz.2⟩
    have := hz.1
    unfold zok at this
    split at this <;> simp_all [RelX, RepV, zval]

theorem zeroC_rel (S : Stab) : ∀ {xs : List X}, xs.all zok = true → RepL S (xs.map zC) (xs.map zval)
  | [], _ => by simp [RepL]
  | x :: xs, hz => by
    simp only [List.all_cons, Bool.and_eq_true] at hz
    simp only [List.map_cons, RepL]
    refine ⟨_, _, rfl, ?_, zeroC_rel S hz.2⟩
    have := hz.1
    unfold zok at this
    split at this <;> simp_all [RepV, zval, zC]

theorem alloc_ok (hT : TOK P T) (H : HeapOK bs g h w) {t : Nat} {ti : TI} (ht : T t = some ti) :
    VOK P bs g h w (Instr.alloc t true (.tuple #[])) ⟨True, .ptr h.length 0 0, .write, h ++ [.box t ti.zero]⟩ := by
  obtain ⟨d, i, z, hd, hi, hf, hs, hby, hz, hc, hzok, hzl⟩ := hT.get ht
  obtain ⟨g', E, H', had, hhd⟩ := new_blk H (.box t ti.zero) (.tuple #[]) (cs := z.cells) (ty := t) (w' := { w with heap := w.heap.push (.cells z.cells t) }) rfl rfl rfl rfl
    (fun g' E hS hex had hhd hS0 hnew => ⟨hex, by rw [had], fun o => by rw [had, hS]; exact hS0 o, z.cells, by rw [had]; exact hnew, by rw [hc]; exact zero_rel g' _ hzok⟩)
  refine ⟨_, _, ?_, g', E, H', rel_newptr had rfl rfl⟩
  simp [Instr.alloc, zeroValue, typeInfo, hi, hz, newVar, newRow]

theorem box_ok (H : HeapOK bs g h w) {t : Nat} {x : X} {v : Value} {xs : List X} (r : RelX g h x v) (hx : storeXs x = some xs) :
    VOK P bs g h w (Instr.box t v) ⟨True, .ptr h.length 0 0, .write, h ++ [.box t xs]⟩ := by
  obtain ⟨hr, _⟩ := storeXs_ok r hx
  obtain ⟨g', E, H', had, hhd⟩ := new_blk H (.box t xs) (.tuple #[]) (cs := v.cells) (ty := t) (w' := { w with heap := w.heap.push (.cells v.cells t) }) rfl rfl rfl rfl
    (fun g' E hS hex had hhd hS0 hnew => ⟨hex, by rw [had], fun o => by rw [had, hS]; exact hS0 o, v.cells, by rw [had]; exact hnew, RelXs.mono E _ _ hr⟩)
  refine ⟨_, _, ?_, g', E, H', rel_newptr had rfl rfl⟩
  simp [Instr.box, newVar, newRow]

/-- a slice of one's own in new memory -/
theorem push_own (H : HeapOK bs g h w) {cells : List C} {n sz cap : Nat} (p : Bool) (hsz : 0 < sz) (hl : cells.length = n * sz) (hn : n ≤ cap) (hm : cap ≤ maxLen) {cs : Array Value} {ty : TypeId} (hcs : cs.size = cap * sz) (hr : RepL g.S cells (cs.toList.take (n * sz)))
    {w' : World} (hos : w'.os = w.os) (htape : w'.tape = w.tape) (hout : w'.output = w.output) (hheap : w'.heap = w.heap.push (.cells cs ty (0, 0))) :
    ∃ g', Ext g h g' (h ++ [.sl ty 0 p sz n cells]) ∧ HeapOK bs g' (h ++ [.sl ty 0 p sz n cells]) w' ∧ RelX g' (h ++ [.sl ty 0 p sz n cells]) (.ref h.length 0) (.slice (some ⟨w.heap.size, 0, none⟩) n cap) := by
  obtain ⟨g', E, H', had, hhd⟩ := new_blk H (.sl ty 0 p sz n cells) (.slice (some ⟨w.heap.size, 0, none⟩) n cap) hos htape hout hheap
    (fun g' E hS hex had hhd hS0 hnew => by
      simp only [BlkOK]
      refine ⟨hsz, hl, .inr (.inl ⟨hex, by rw [had], cap, cs, by rw [hhd, had], hn, hm, by rw [had]; exact hnew, hcs, by rw [hS]; exact hr, fun o ho => ?_⟩)⟩
      rw [had, hS, hS0] at ho; exact absurd rfl ho)
  refine ⟨g', E, H', ?_⟩
  simp only [RelX]
  exact ⟨.sl ty 0 p sz n cells, by simp, rfl, Nat.le_refl _, ⟨_, _, _, rfl⟩, fun _ => hhd.symm⟩

theorem push_ownX (H : HeapOK bs g h w) {cells : List X} {n sz cap : Nat} (hsz : 0 < sz) (hl : cells.length = n * sz) (hn : n ≤ cap) (hm : cap ≤ maxLen) {cs : Array Value} {ty : TypeId} (hcs : cs.size = cap * sz) (hr : RelXs g h cells (cs.toList.take (n * sz)))
    {w' : World} (hos : w'.os = w.os) (htape : w'.tape = w.tape) (hout : w'.output = w.output) (hheap : w'.heap = w.heap.push (.cells cs ty (0, 0))) :
    ∃ g', Ext g h g' (h ++ [.slx ty 0 sz n cells]) ∧ HeapOK bs g' (h ++ [.slx ty 0 sz n cells]) w' ∧ RelX g' (h ++ [.slx ty 0 sz n cells]) (.ref h.length 0) (.slice (some ⟨w.heap.size, 0, none⟩) n cap) := by
  obtain ⟨g', E, H', had, hhd⟩ := new_blk H (.slx ty 0 sz n cells) (.slice (some ⟨w.heap.size, 0, none⟩) n cap) hos htape hout hheap
    (fun g' E hS hex had hhd hS0 hnew => by
      simp only [BlkOK]
      refine ⟨hsz, hl, .inr ⟨hex, by rw [had], cap, cs, by rw [hhd, had], hn, hm, by rw [had]; exact hnew, hcs, RelXs.mono E _ _ hr, fun o => ?_⟩⟩
      rw [had, hS, hS0])
  refine ⟨g', E, H', ?_⟩
  simp only [RelX]
  exact ⟨.slx ty 0 sz n cells, by simp, rfl, Nat.le_refl _, ⟨_, _, _, rfl⟩, fun _ => hhd.symm⟩

theorem foldl_seg : ∀ (l : List Value) (k off : Nat) (cs : Array Value), off + k + l.length ≤ cs.size →
    ((l.zipIdx k).foldl (fun cs (p : Value × Nat) => cs.setIfInBounds (off + p.2) p.1) cs).toList = cs.toList.take (off + k) ++ l ++ cs.toList.drop (off + k + l.length)
  | [], k, off, cs, _ => by simp
  | v :: l, k, off, cs, hk => by
    simp only [List.zipIdx_cons, List.foldl_cons]
    have hsz : cs.size = cs.toList.length := rfl
    rw [foldl_seg l (k + 1) off _ (by simp at hk ⊢; omega)]
    have hlt : off + k < cs.toList.length := by simp at hk; simp; omega
    rw [Array.toList_setIfInBounds]
    have e1 : (cs.toList.set (off + k) v).take (off + (k + 1)) = cs.toList.take (off + k) ++ [v] := by
      rw [← Nat.add_assoc, List.take_succ_eq_append_getElem (by simpa using hlt)]
      congr 1
      · rw [List.take_set_of_le (Nat.le_refl _)]
      · simp
    have e2 : (cs.toList.set (off + k) v).drop (off + (k + 1) + l.length) = cs.toList.drop (off + k + (v :: l).length) := by
      rw [List.drop_set_of_lt (by omega)]
      congr 1
      simp; omega
    rw [e1, e2]
    simp

theorem fill_seg (v : Value) (off : Nat) (cs : Array Value) (h : off + v.cells.size ≤ cs.size) :
    v.cells.zipIdx.foldl (fun cs (p : Value × Nat) => cs.setIfInBounds (off + p.2) p.1) cs = (setSeg cs.toList off v.cells.size v.cells.toList).toArray := by
  apply Array.ext'
  rw [← Array.foldl_toList, Array.toList_zipIdx]
  rw [foldl_seg v.cells.toList 0 off cs (by simpa using h)]
  simp [setSeg]

/-- parts, as the model has them -/
def RepP (S : Stab) : List (Nat × V) → List (Nat × Value) → Prop
  | [], vs => vs = []
  | (i, a) :: ps, vs => ∃ u us, vs = (i, u) :: us ∧ RepA S a u ∧ RepP S ps us

theorem fill_ok {S : Stab} (place : Nat → Option (Nat × Nat)) : ∀ {ps : List (Nat × V)} {vs : List (Nat × Value)} {cells : List C} {cs : Array Value}, RepP S ps vs → RepL S cells cs.toList → (fillC place cells ps).1 →
    ∃ r : Array Value, Instr.fill place cs vs = some r ∧ RepL S (fillC place cells ps).2 r.toList
  | [], _, cells, cs, hp, hr, _ => by
    simp only [RepP] at hp; subst hp
    exact ⟨cs, rfl, hr⟩
  | (i, a) :: ps, _, cells, cs, hp, hr, hf => by
    simp only [RepP] at hp
    obtain ⟨u, us, rfl, h1, h2⟩ := hp
    simp only [fillC] at hf ⊢
    cases hpl : place i with
    | none => rw [hpl] at hf; exact hf.elim
    | some x =>
      obtain ⟨off, n⟩ := x
      rw [hpl] at hf
      simp only at hf ⊢
      obtain ⟨hf1, hf2, hf3⟩ := hf
      have hc := repA_cells h1
      have hl1 := hc.length
      have hl2 := hr.length
      have hsz : u.cells.size = n := by rw [← hf1, ← hl1]; rfl
      have hfit : off + u.cells.size ≤ cs.size := by have : cs.size = cs.toList.length := rfl; omega
      have hseg : RepL S (setSeg cells off n a.cells) (setSeg cs.toList off u.cells.size u.cells.toList).toArray.toList := by
        rw [hsz]; exact hr.setSeg off n hc
      obtain ⟨r, hr1, hr2⟩ := fill_ok place h2 hseg hf3
      refine ⟨r, ?_, hr2⟩
      simp only [Instr.fill, hpl]
      rw [if_neg (by simp [hsz]; rw [← hsz]; exact hfit)]
      have := fill_seg u off cs hfit
      rw [← hr1, ← this]

theorem partVs_ok {ev : Operand → X} {ρ : Operand → Value} : ∀ {ps : List (Nat × Operand)} {g : Gh} {h h' : List Blk} {vs : List (Nat × V)}, HeapOK bs g h w → (∀ p ∈ ps, RelX g h (ev p.2) (ρ p.2)) → partVs h ev ps = some (vs, h') →
    ∃ S', Ext g h { g with S := S' } h' ∧ HeapOK bs { g with S := S' } h' w ∧ RepP S' vs (ps.map fun p => (p.1, ρ p.2))
  | [], g, h, h', vs, H, r, e => by
    simp only [partVs, Option.some.injEq, Prod.mk.injEq] at e; obtain ⟨rfl, rfl⟩ := e
    exact ⟨g.S, Ext.refl g h, H, rfl⟩
  | (i, o) :: ps, g, h, h', vs, H, r, e => by
    simp only [partVs] at e
    split at e
    · cases e
    · rename_i v h1 e1
      split at e
      · cases e
      · rename_i vs' h2 e2
        simp only [Option.some.injEq, Prod.mk.injEq] at e; obtain ⟨rfl, rfl⟩ := e
        obtain ⟨S1, E1, H1, r1⟩ := toV_ok H (r _ (List.mem_cons_self ..)) e1
        obtain ⟨S2, E2, H2, r2⟩ := partVs_ok H1 (fun p hp => RelX.mono E1 _ _ (r p (List.mem_cons_of_mem _ hp))) e2
        refine ⟨S2, E1.trans E2, H2, ?_⟩
        simp only [List.map_cons, RepP]
        exact ⟨_, _, rfl, r1.mono E2.S, r2⟩

theorem places_ok (hT : TOK P T) : ∀ {fields : List Field} {pl : List (Nat × Nat)}, placesOf T (fields.map fun f => (f.offset, f.type)) = some pl →
    (fields.mapM (fun f => do pure (f.offset, ← Go.sizeOf f.type) : Field → Sem (Nat × Nat))).run P w = .ok pl w
  | [], pl, e => by simp only [List.map_nil, placesOf, Option.some.injEq] at e; subst e; simp
  | f :: fs, pl, e => by
    simp only [List.map_cons, placesOf] at e
    split at e
    · cases e
    · rename_i ti hti
      split at e
      · cases e
      · rename_i pl' hpl
        simp only [Option.some.injEq] at e; subst e
        have ih := places_ok hT hpl
        simp only [List.mapM_cons, Sem.run_bind, hT.sizeOf hti, Result.andThen_ok, Sem.run_pure, ih]

theorem build_ok (hT : TOK P T) (H : HeapOK bs g h w) {ev : Operand → X} {ρ : Operand → Value} {t : Nat} {parts : Array (Nat × Operand)} {e : Eff} (r : ∀ p ∈ parts.toList, RelX g h (ev p.2) (ρ p.2)) (he : opBuild T ev h t parts.toList = some e) (hp : e.pre) :
    VOK P bs g h w (Instr.build t (parts.map fun (i, x) => (i, ρ x))) e := by
  unfold opBuild at he
  split at he
  · rename_i ti ps h' ht hps
    obtain ⟨S', E, H', rp⟩ := partVs_ok H r hps
    obtain ⟨d, i, z, hd, hi, hf, hs, hby, hz, hc, hzok, hzl⟩ := hT.get ht
    have hzr : RepL S' (ti.zero.map zC) z.cells.toList := by rw [hc]; exact zeroC_rel S' hzok
    have hmap : (parts.map fun (i, x) => (i, ρ x)).toList = parts.toList.map fun p => (p.1, ρ p.2) := by simp
    split at he
    · rename_i fs hk
      rw [hk] at hf; simp only [TK.fits] at hf
      obtain ⟨fields, rfl, hfs⟩ := hf
      split at he
      · rename_i pl hpl
        simp only [Option.some.injEq] at he; subst he
        simp only at hp
        rw [← hfs] at hpl
        have hrun := places_ok (w := w) hT hpl
        obtain ⟨r', h1, h2⟩ := fill_ok _ rp hzr hp
        refine ⟨.agg r', w, ?_, _, E, H', by simp only [RelX]; exact ⟨r'.toList, by simp, h2⟩⟩
        simp only [Instr.build, zeroValue, typeInfo, Sem.run_bind, run_program, Result.andThen_ok, hi, Sem.run_pure, hz, run_underlying hd, hmap]
        rw [Array.mapM_eq_mapM_toList]
        simp only [Sem.run_bind, Sem.run_map, hrun, Result.andThen_ok]
        simp [h1]
      · cases he
    · rename_i n el hk
      split at he
      · rename_i ei hei
        simp only [Option.some.injEq] at he; subst he
        simp only at hp
        rw [hk] at hf; simp only [TK.fits] at hf; subst hf
        obtain ⟨r', h1, h2⟩ := fill_ok _ rp hzr hp
        refine ⟨.agg r', w, ?_, _, E, H', by simp only [RelX]; exact ⟨r'.toList, by simp, h2⟩⟩
        simp only [Instr.build, zeroValue, typeInfo, Sem.run_bind, run_program, Result.andThen_ok, hi, Sem.run_pure, hz, run_underlying hd, hT.sizeOf hei, hmap, h1]
      · cases he
    · cases he
  · cases he

theorem zval_one : ∀ {x : X}, zok x = true → (zval x).oneCell' = true := fun {x} h => by
  unfold zok at h
  split at h <;> first | rfl | cases h

theorem fillX_ok {g : Gh} {h : List Blk} (place : Nat → Option (Nat × Nat)) {ev : Operand → X} {ρ : Operand → Value} : ∀ {ps : List (Nat × Operand)} {cells : List X} {cs : Array Value}, (∀ p ∈ ps, RelX g h (ev p.2) (ρ p.2)) → RelXs g h cells cs.toList → (∀ u ∈ cs.toList, u.oneCell' = true) →
    (fillX place cells (ps.map fun p => (p.1, ev p.2))).1 →
    ∃ r : Array Value, Instr.fill place cs (ps.map fun p => (p.1, ρ p.2)) = some r ∧ RelXs g h (fillX place cells (ps.map fun p => (p.1, ev p.2))).2 r.toList ∧ ∀ u ∈ r.toList, u.oneCell' = true
  | [], cells, cs, _, hr, ho, _ => ⟨cs, rfl, hr, ho⟩
  | (i, o) :: ps, cells, cs, hp, hr, ho, hf => by
    simp only [List.map_cons, fillX] at hf ⊢
    cases hpl : place i with
    | none => rw [hpl] at hf; exact hf.elim
    | some x =>
      obtain ⟨off, n⟩ := x
      cases hst : storeXs (ev o) with
      | none => rw [hpl, hst] at hf; exact hf.elim
      | some xs =>
        rw [hpl, hst] at hf
        simp only at hf ⊢
        obtain ⟨hf1, hf2, hf3⟩ := hf
        obtain ⟨hc, hone⟩ := storeXs_ok (hp _ (List.mem_cons_self ..)) hst
        have hl1 := hc.length
        have hl2 := hr.length
        have hsz : (ρ o).cells.size = n := by rw [← hf1, ← hl1]; rfl
        have hfit : off + (ρ o).cells.size ≤ cs.size := by have : cs.size = cs.toList.length := rfl; omega
        have hseg : RelXs g h (setSeg cells off n xs) (setSeg cs.toList off (ρ o).cells.size (ρ o).cells.toList).toArray.toList := by
          rw [hsz]; exact hr.setSeg off n hc
        have ho2 : ∀ u ∈ (setSeg cs.toList off (ρ o).cells.size (ρ o).cells.toList).toArray.toList, u.oneCell' = true := fun u hu => by
          simp only [setSeg, List.mem_append] at hu
          rcases hu with (hu | hu) | hu
          · exact ho u (List.mem_of_mem_take hu)
          · exact hone u hu
          · exact ho u (List.mem_of_mem_drop hu)
        obtain ⟨r, hr1, hr2, hr3⟩ := fillX_ok place (fun p hp' => hp p (List.mem_cons_of_mem _ hp')) hseg ho2 hf3
        refine ⟨r, ?_, hr2, hr3⟩
        simp only [Instr.fill, hpl]
        rw [if_neg (by simp [hsz]; rw [← hsz]; exact hfit)]
        have := fill_seg (ρ o) off cs hfit
        rw [← hr1, ← this]

theorem buildL_ok (hT : TOK P T) (H : HeapOK bs g h w) {ev : Operand → X} {ρ : Operand → Value} {t : Nat} {parts : Array (Nat × Operand)} {e : Eff} (r : ∀ p ∈ parts.toList, RelX g h (ev p.2) (ρ p.2)) (he : opBuildL T ev h t parts.toList = some e) (hp : e.pre) :
    VOK P bs g h w (Instr.build t (parts.map fun (i, x) => (i, ρ x))) e := by
  unfold opBuildL at he
  split at he
  · rename_i fs sz by_ z ht
    obtain ⟨d, i, zv, hd, hi, hf, hs, hby, hz, hc, hzok, hzl⟩ := hT.get ht
    have hmap : (parts.map fun (i, x) => (i, ρ x)).toList = parts.toList.map fun p => (p.1, ρ p.2) := by simp
    simp only [TK.fits] at hf
    obtain ⟨fields, rfl, hfs⟩ := hf
    split at he
    · rename_i pl hpl
      simp only [Option.some.injEq] at he; subst he
      simp only at hp
      rw [← hfs] at hpl
      have hrun := places_ok (w := w) hT hpl
      have hzr : RelXs g h z zv.cells.toList := by rw [hc]; exact zero_rel g h hzok
      have hzo : ∀ u ∈ zv.cells.toList, u.oneCell' = true := fun u hu => by
        rw [hc] at hu
        obtain ⟨x, hx, rfl⟩ := List.mem_map.1 hu
        exact zval_one (List.all_eq_true.1 hzok x hx)
      obtain ⟨r', h1, h2, h3⟩ := fillX_ok _ r hzr hzo hp
      refine ⟨.agg r', w, ?_, g, Ext.refl g h, H, by simp only [RelX]; exact ⟨r'.toList, by simp, h2, h3⟩⟩
      simp only [Instr.build, zeroValue, typeInfo, Sem.run_bind, run_program, Result.andThen_ok, hi, Sem.run_pure, hz, run_underlying hd, hmap]
      rw [Array.mapM_eq_mapM_toList]
      simp only [Sem.run_bind, Sem.run_map, hrun, Result.andThen_ok]
      simp [h1]
    · cases he
  · cases he

end
end Fen
