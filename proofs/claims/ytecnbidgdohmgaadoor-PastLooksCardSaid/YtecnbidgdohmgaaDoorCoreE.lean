/- A part of the proof; no statement is proved here: Core42, Core43, Core44, Core45. -/
import Derived.Test.YtecnbidgdohmgaaDoorCoreD
import Derived.Deep.Slices
import Derived.OpenShut
import Derived.ChangeOld
import Derived.Handed
import Derived.Carry
import Derived.Below
import Derived.LaidMore
import Derived.MakeChecks
import Derived.FnData
import Derived.ProofKit

set_option linter.unusedVariables false
set_option linter.unusedSimpArgs false

/- Part 42: arguments of whatever types, read as data: what they are as cells of the layer, and that these fit the types. -/
namespace Fen
open Go Go.RowKit

def All2 {α β : Type} (R : α → β → Prop) : List α → List β → Prop
  | [], [] => True
  | a :: as, b :: bs => R a b ∧ All2 R as bs
  | _, _ => False

/-- cells that fit a type -/
def typedStep (R : Nat → List C → Prop) : Option TI → List C → Prop
  | some ⟨.int k, _, _, _⟩, cs => ∃ n, cs = [.int k n] ∧ k.min ≤ n ∧ n ≤ k.max
  | some ⟨.bool, _, _, _⟩, cs => ∃ b, cs = [.bool b]
  | some ⟨.str, _, _, _⟩, cs => ∃ l : List UInt8, cs = [.str l] ∧ l.length ≤ maxLen
  | some ⟨.slice e, _, _, _⟩, cs => ∃ parts : List (List C), cs = [.sl parts.length parts.flatten] ∧ parts.length ≤ maxLen ∧ ∀ p ∈ parts, R e p
  | some ⟨.struct fs, _, _, _⟩, cs => ∃ parts : List (List C), cs = parts.flatten ∧ All2 (fun (f : Nat × Nat) p => R f.2 p) fs parts
  | some ⟨.array n e, _, _, _⟩, cs => ∃ parts : List (List C), cs = parts.flatten ∧ parts.length = n ∧ ∀ p ∈ parts, R e p
  | _, _ => False
def Typed (T : TT) : Nat → Nat → List C → Prop
  | 0, _, _ => False
  | d + 1, t, cs => typedStep (Typed T d) (T t) cs

def szT (T : TT) (t : Nat) : Nat := match T t with | some ti => ti.size | none => 0

/-- where the fields end, if they lie one behind the other -/
def endsAt (sz : Nat → Nat) : Nat → List (Nat × Nat) → Option Nat
  | o, [] => some o
  | o, (p, u) :: fs => if p = o then endsAt sz (o + sz u) fs else none

/-- the types that are served -/
def supStep (T : TT) (K : Nat → Bool) : Option TI → Bool
  | some ⟨.int _, n, _, _⟩ | some ⟨.bool, n, _, _⟩ | some ⟨.str, n, _, _⟩ => n == 1
  | some ⟨.slice e, n, _, _⟩ => n == 1 && K e && decide (0 < szT T e)
  | some ⟨.struct fs, n, _, _⟩ => fs.all (fun f => K f.2) && endsAt (szT T) 0 fs == some n
  | some ⟨.array m e, n, _, _⟩ => K e && n == m * szT T e
  | _ => false
def sup (T : TT) : Nat → Nat → Bool
  | 0, _ => false
  | d + 1, t => supStep T (sup T d) (T t)

section
variable {P : Program} {T : TT} {w : World} {H : Type} {enc : TypeId × Value → H} {base : Nat} {held : Bool}

theorem szT_eq {t : Nat} {ti : TI} (h : T t = some ti) : szT T t = ti.size := by simp [szT, h]
theorem cellsOf_szT (hT : TOK P T) {t : Nat} {ti : TI} (h : T t = some ti) : P.cellsOf t = szT T t := (cellsOf_eq hT h).trans (szT_eq h).symm

theorem sup_row {d t : Nat} (h : sup T d t = true) : ∃ ti, T t = some ti := by
  cases d with
  | zero => simp [sup] at h
  | succ d =>
    simp only [sup] at h
    cases q : T t with
    | none => rw [q] at h; simp [supStep] at h
    | some ti => exact ⟨ti, rfl⟩

theorem fields_typed (hT : TOK P T) {S : Stab} {R : Nat → List C → Prop} {cs : List Value} : ∀ (fs : List (Nat × Nat)) (o n : Nat), endsAt (szT T) o fs = some n → cs.length = n →
    (∀ f ∈ fs, ∃ ks, RepL S ks ((cs.drop f.1).take (szT T f.2)) ∧ R f.2 ks) → ∃ parts : List (List C), RepL S parts.flatten (cs.drop o) ∧ All2 (fun (f : Nat × Nat) p => R f.2 p) fs parts
  | [], o, n, he, hl, _ => by
    simp only [endsAt, Option.some.injEq] at he
    subst he
    refine ⟨[], ?_, trivial⟩
    rw [List.drop_of_length_le (by omega)]
    simp [RepL]
  | (p, u) :: fs, o, n, he, hl, hf => by
    simp only [endsAt] at he
    split at he
    · rename_i hp
      subst hp
      obtain ⟨ks, r1, t1⟩ := hf _ (List.mem_cons_self ..)
      obtain ⟨parts, r2, t2⟩ := fields_typed hT fs _ n he hl (fun f hm => hf f (List.mem_cons_of_mem _ hm))
      refine ⟨ks :: parts, ?_, t1, t2⟩
      have e : cs.drop p = (cs.drop p).take (szT T u) ++ cs.drop (p + szT T u) := by rw [← List.drop_drop]; exact (List.take_append_drop _ _).symm
      rw [e, List.flatten_cons]
      exact r1.append r2
    · cases he

theorem items_typed {S : Stab} {R : List C → Prop} {cs : List Value} {c : Nat} : ∀ (m j : Nat), cs.length = (j + m) * c →
    (∀ i, i < j + m → ∃ ks, RepL S ks ((cs.drop (i * c)).take c) ∧ R ks) → ∃ parts : List (List C), RepL S parts.flatten (cs.drop (j * c)) ∧ parts.length = m ∧ ∀ p ∈ parts, R p
  | 0, j, hl, _ => by
    refine ⟨[], ?_, rfl, fun p h => by cases h⟩
    rw [List.drop_of_length_le (by rw [hl]; exact Nat.le_refl _)]
    simp [RepL]
  | m + 1, j, hl, hf => by
    obtain ⟨ks, r1, t1⟩ := hf j (by omega)
    obtain ⟨parts, r2, hlen, t2⟩ := items_typed m (j + 1) (by rw [hl]; congr 1; omega) (fun i hi => hf i (by omega))
    refine ⟨ks :: parts, ?_, by simp [hlen], fun p hp => ?_⟩
    · have e : cs.drop (j * c) = (cs.drop (j * c)).take c ++ cs.drop ((j + 1) * c) := by
        rw [Nat.add_mul, Nat.one_mul, ← List.drop_drop]; exact (List.take_append_drop _ _).symm
      rw [e, List.flatten_cons]
      exact r1.append r2
    · rcases List.mem_cons.1 hp with rfl | hp
      · exact t1
      · exact t2 p hp

theorem repL_one' {S : Stab} {c : C} {v : Value} : RepL S [c] [v] ↔ RepV S c v := by
  simp only [RepL]
  constructor
  · rintro ⟨u, us, h, h1, h2⟩
    simp only [List.cons.injEq] at h
    obtain ⟨rfl, rfl⟩ := h
    exact h1
  · intro h; exact ⟨v, [], rfl, h, rfl⟩

/-- memory read as data, as cells that fit the type -/
theorem typed_of_trod (hT : TOK P T) : ∀ (fuel D : Nat) (t : Nat) (cs : List Value) (x : DataW H × List MemPlace), sup T D t = true →
    DataW.trod enc P w 0 (fun _ => true) held fuel t cs = some x → ∃ ks, RepL (atW w) ks cs ∧ Typed T fuel t ks
  | 0, _, _, _, _, _, h => by simp [DataW.trod] at h
  | fuel + 1, 0, _, _, _, hs, _ => by simp [sup] at hs
  | fuel + 1, D + 1, t, cs, x, hs, h => by
    simp only [sup] at hs
    simp only [Typed]
    obtain ⟨⟨k, n, b, z⟩, hq⟩ := sup_row (d := D + 1) (T := T) (t := t) (by simpa only [sup] using hs)
    rw [hq] at hs ⊢
    cases k with
    | int k =>
      obtain ⟨m, rfl, _, hw⟩ := DataW.trod_int (hT.int hq) h
      have := wf_has hw
      exact ⟨[.int k m], repL_one'.2 (by simp [RepV]), m, rfl, this.1, this.2⟩
    | bool =>
      obtain ⟨m, rfl, _⟩ := DataW.trod_bool (hT.bool hq) h
      exact ⟨[.bool m], repL_one'.2 (by simp [RepV]), m, rfl⟩
    | str =>
      obtain ⟨s, rfl, _, hl⟩ := DataW.trod_string (hT.str hq) h
      exact ⟨[.str s.data.toList], repL_one'.2 (by simp [RepV]), _, rfl, by simpa [bytes_size] using hl⟩
    | slice e =>
      simp only [supStep, Bool.and_eq_true, decide_eq_true_eq] at hs
      obtain ⟨⟨_, hse⟩, hpos⟩ := hs
      obtain ⟨ei, hei⟩ := sup_row hse
      have hc := cellsOf_szT hT hei
      rcases DataW.trod_slice (hT.slice hq) h with ⟨rfl, _⟩ | ⟨a, len, cap, elems, rest, n', hn', rfl, _, _, hl, hm, hlen, hel, hsp, _⟩
      · exact ⟨[.sl 0 []], repL_one'.2 (by simp [RepV]), [], rfl, by simp, fun p hp => by cases hp⟩
      · obtain rfl : n' = fuel := by omega
        obtain ⟨hrl, hre⟩ := hsp rfl
        rw [hc] at hel hre
        rcases Nat.eq_zero_or_pos cap with h0 | h0
        · obtain rfl : len = 0 := by omega
          subst h0
          exact ⟨[.sl 0 []], repL_one'.2 (by simp [RepV]), [], rfl, by simp, fun p hp => by cases hp⟩
        · -- the address names whole cells
          obtain ⟨c0, hc0⟩ : ∃ c0, w.cells? 0 (a.add (0 * szT T e)) (szT T e) = some c0 := by
            rcases Nat.eq_zero_or_pos len with h1 | h1
            · have h2 := hre 0 (by omega)
              rw [List.getElem?_eq_getElem (by omega)] at h2
              obtain ⟨c0, q, _⟩ := Option.bind_eq_some_iff.1 h2
              exact ⟨c0, by simpa [h1] using q⟩
            · have h2 := hel 0 h1
              rw [List.getElem?_eq_getElem (by omega)] at h2
              obtain ⟨c0, q, _⟩ := Option.bind_eq_some_iff.1 h2
              exact ⟨c0, q⟩
          obtain ⟨b0, o0, sp⟩ := a
          have hsp : sp = none := by
            obtain ⟨_, hl0, hat⟩ := World.cells?_some hc0
            have h1 := hat 0 (by omega)
            rw [List.getElem?_eq_getElem (by omega)] at h1
            cases sp with
            | none => rfl
            | some sp =>
              exfalso
              unfold World.cell? at h1
              simp [Addr.add] at h1
              split at h1 <;> simp at h1
          subst hsp
          have key : ∀ k, k ≤ len → ∃ (parts : List (List C)) (vs : List Value), parts.length = k ∧ vs.length = k * szT T e ∧ RepL (atW w) parts.flatten vs ∧ (∀ j u, vs[j]? = some u → atW w b0 (o0 + j) = some u) ∧ ∀ p ∈ parts, Typed T n' e p := fun k => by
            induction k with
            | zero => exact fun _ => ⟨[], [], rfl, by simp, by simp [RepL], fun j u h => by simp at h, fun p hp => by cases hp⟩
            | succ k ih =>
              intro hk
              obtain ⟨parts, vs, q1, q2, q3, q4, q5⟩ := ih (by omega)
              have h2 := hel k (by omega)
              rw [List.getElem?_eq_getElem (by omega)] at h2
              obtain ⟨cs', hcs, htr⟩ := Option.bind_eq_some_iff.1 h2
              obtain ⟨_, hl', hat⟩ := World.cells?_some hcs
              obtain ⟨ks, r1, t1⟩ := typed_of_trod hT n' D e cs' _ hse htr
              refine ⟨parts ++ [ks], vs ++ cs', by simp [q1], by simp [q2, hl', Nat.add_mul], by simpa using q3.append r1, fun j u hj => ?_, fun p hp => ?_⟩
              · rcases Nat.lt_or_ge j vs.length with c | c
                · rw [List.getElem?_append_left c] at hj; exact q4 j u hj
                · rw [List.getElem?_append_right c] at hj
                  have hjl := (List.getElem?_eq_some_iff.1 hj).1
                  have := hat (j - vs.length) (by omega)
                  rw [hj] at this
                  simp only [Go.WideShapes.add_plain] at this
                  unfold atW
                  rw [← this]
                  congr 2
                  omega
              · rcases List.mem_append.1 hp with hp | hp
                · exact q5 p hp
                · simp at hp; subst hp; exact t1
          obtain ⟨parts, vs, q1, q2, q3, q4, q5⟩ := key len (Nat.le_refl _)
          refine ⟨[.sl parts.length parts.flatten], repL_one'.2 ?_, parts, rfl, by omega, q5⟩
          simp only [RepV]
          exact .inr ⟨b0, o0, cap, vs, by rw [q1], by omega, hm, q4, q3⟩
    | struct fs =>
      simp only [supStep, Bool.and_eq_true, List.all_eq_true, beq_iff_eq] at hs
      obtain ⟨hsf, hends⟩ := hs
      obtain ⟨d, i, zz, hu, _, hf, _⟩ := hT.get hq
      simp only [TK.fits] at hf
      obtain ⟨fields, rfl, hm⟩ := hf
      obtain ⟨xs, n1, hn1, _, hlen, hxl, hg⟩ := DataW.trod_struct hu h
      obtain rfl : n1 = fuel := by omega
      rw [cellsOf_eq hT hq] at hlen
      obtain ⟨parts, r, t2⟩ := fields_typed hT (S := atW w) (R := Typed T n1) fs 0 n hends hlen (fun f hfm => by
        rw [← hm] at hfm
        obtain ⟨fd, hfd, rfl⟩ := List.mem_map.1 hfm
        obtain ⟨j, hj⟩ := List.getElem?_of_mem hfd
        have hj' : fields[j]? = some fd := by simpa using hj
        have hsu := hsf (fd.offset, fd.type) (by rw [← hm]; exact hfm)
        obtain ⟨ui, hui⟩ := sup_row hsu
        have h1 := hg j fd hj'
        have hjl : j < xs.length := by rw [hxl]; exact (Array.getElem?_eq_some_iff.1 hj').1
        rw [List.getElem?_eq_getElem hjl, cellsOf_szT hT hui] at h1
        exact typed_of_trod hT n1 D fd.type _ _ hsu h1)
      exact ⟨parts.flatten, by simpa using r, parts, rfl, t2⟩
    | array m e =>
      simp only [supStep, Bool.and_eq_true, beq_iff_eq] at hs
      obtain ⟨hse, hn⟩ := hs
      obtain ⟨ei, hei⟩ := sup_row hse
      have hc := cellsOf_szT hT hei
      obtain ⟨xs, n1, hn1, _, hlen, hxl, hg⟩ := DataW.trod_array (hT.array hq) h
      obtain rfl : n1 = fuel := by omega
      rw [cellsOf_eq hT hq, hn] at hlen
      rw [hc] at hg
      obtain ⟨parts, r, hpl, t2⟩ := items_typed (S := atW w) (R := Typed T n1 e) (cs := cs) (c := szT T e) m 0 (by simpa using hlen) (fun i hi => by
        have h1 := hg i (by omega)
        rw [List.getElem?_eq_getElem (by omega)] at h1
        exact typed_of_trod hT n1 D e _ _ hse h1)
      exact ⟨parts.flatten, by simpa using r, parts, rfl, hpl, t2⟩
    | other => simp [supStep] at hs
end
end Fen

/- Part 43: a law whose arguments are of whatever types served: its contract gives the given statement's; variables that are laid. -/
namespace Fen
open Go Go.RowKit Go.ChangeShapes Go.WideShapes Go.ChangeAt

section
variable {P : Program} {T : TT} {W : World} {H : Type} {enc : TypeId × Value → H}

def TypedV (T : TT) (t : Nat) (A : V) : Prop := ∃ d, match T t with
  | some ti => if ti.k.agg = true then ∃ ks, A = .agg ks ∧ Typed T d t ks else ∃ k, A = .c k ∧ Typed T d t [k]
  | none => False

theorem okWide_cells (hT : TOK P T) {t : Nat} {ti : TI} {v : Value} {r : Reach} {base : Nat} (hq : T t = some ti) (hag : ti.k.agg = false) (hko : ti.k ≠ .other) (h : Value.okWide P W r base t v) : v.cells.toList = [v] := by
  obtain ⟨k, n, b, z⟩ := ti
  cases k with
  | int k => have hu := hT.int hq; simp only [Value.okWide, hu, Cell.okWide, Cell.ok] at h; cases v <;> simp_all [Value.cells]
  | bool => have hu := hT.bool hq; simp only [Value.okWide, hu, Cell.okWide, Cell.ok] at h; cases v <;> simp_all [Value.cells]
  | str => have hu := hT.str hq; simp only [Value.okWide, hu, Cell.okWide, Cell.ok] at h; cases v <;> simp_all [Value.cells]
  | slice e => have hu := hT.slice hq; simp only [Value.okWide, hu, Cell.okWide, Cell.ok] at h; cases v <;> simp_all [Value.cells]
  | struct _ => simp [TK.agg] at hag
  | array _ _ => simp [TK.agg] at hag
  | other => exact absurd rfl hko

theorem okWide_agg (hT : TOK P T) {t : Nat} {ti : TI} {v : Value} {r : Reach} {base : Nat} (hq : T t = some ti) (hag : ti.k.agg = true) (h : Value.okWide P W r base t v) : ∃ cs, v = .agg cs := by
  obtain ⟨k, n, b, z⟩ := ti
  cases k with
  | struct fs =>
    obtain ⟨fields, hu, _⟩ := hT.struct hq
    simp only [Value.okWide, hu] at h
    obtain ⟨cs, h, _⟩ := h
    exact ⟨cs, h⟩
  | array n e =>
    have hu := hT.array hq
    simp only [Value.okWide, hu] at h
    obtain ⟨cs, h, _⟩ := h
    exact ⟨cs, h⟩
  | _ => simp [TK.agg] at hag

theorem arg_typed (hT : TOK P T) {t D : Nat} {v : Value} {d : DataW H} {p : List MemPlace} {r : Reach} {base : Nat} (hs : sup T D t = true) (hok : Value.okWide P W r base t v) (h : DataW.Trod enc P W 0 (fun _ => true) true t v d p) :
    ∃ a, RepA (atW W) a v ∧ TypedV T t a := by
  obtain ⟨fuel, hf⟩ := h
  obtain ⟨ks, r1, t1⟩ := typed_of_trod hT fuel D t _ _ hs hf
  obtain ⟨ti, hq⟩ := sup_row hs
  cases hag : ti.k.agg with
  | true =>
    obtain ⟨cs, rfl⟩ := okWide_agg hT hq hag hok
    refine ⟨.agg ks, ?_, fuel, ?_⟩
    · simp only [RepA]
      exact ⟨cs.toList, by simp, by simpa [Value.cells] using r1⟩
    · simp only [hq, hag, if_true]
      exact ⟨ks, rfl, t1⟩
  | false =>
    have hko : ti.k ≠ .other := by
      intro e
      cases D with
      | zero => simp [sup] at hs
      | succ D =>
        obtain ⟨k, n, b, z⟩ := ti
        simp only at e; subst e
        simp [sup, hq, supStep] at hs
    rw [okWide_cells hT hq hag hko hok] at r1
    cases ks with
    | nil => simp [RepL] at r1
    | cons k ks =>
      have hks : ks = [] := by
        have := r1.length
        simpa using this.symm
      subst hks
      refine ⟨.c k, by simpa only [RepA] using repL_one'.1 r1, fuel, ?_⟩
      simp only [hq, hag, Bool.false_eq_true, if_false]
      exact ⟨k, rfl, t1⟩

theorem args_typed (hT : TOK P T) {D : Nat} {r : Reach} {base : Nat} : ∀ (ts : List TypeId) (vs : List Value) (ds : List (DataW H)) (ps : List MemPlace), (∀ t ∈ ts, sup T D t = true) →
    (∀ (j : Nat) t v, ts[j]? = some t → vs[j]? = some v → Value.okWide P W r base t v) → DataW.TrodAll enc P W 0 (fun _ => true) true ts vs ds ps →
    ∃ as, RepAs (atW W) as vs ∧ All2 (TypedV T) ts as ∧ ds.length = ts.length
  | [], vs, ds, ps, _, _, h => by
    obtain ⟨rfl, rfl, rfl⟩ := trodAll_nil h
    exact ⟨[], rfl, trivial, rfl⟩
  | t :: ts, vs, ds, ps, hs, hok, h => by
    obtain ⟨v, vs', d, ds', p, q, rfl, rfl, rfl, h1, h2⟩ := trodAll_cons h
    obtain ⟨a, r1, t1⟩ := arg_typed hT (hs t (List.mem_cons_self ..)) (hok 0 t v rfl rfl) h1
    obtain ⟨as, r2, t2, l2⟩ := args_typed hT ts vs' ds' q (fun u hu => hs u (List.mem_cons_of_mem _ hu)) (fun j u w hj hw => hok (j + 1) u w hj hw) h2
    exact ⟨a :: as, ⟨v, vs', rfl, r1, r2⟩, ⟨t1, t2⟩, by simp [l2]⟩

/-- what came in reads behind the call as before -/
theorem args_again (hl : laidOutB P = true) {W' : World} (bel : Below W.heap.size W W') : ∀ (ts : List TypeId) (vs : List Value) (ds : List (DataW H)) (ps : List MemPlace), (∀ t ∈ ts, P.readableRec t = true ∧ t < P.types.size) →
    DataW.TrodAll enc P W 0 (fun _ => true) true ts vs ds ps → DataW.TrodAll enc P W' 0 (fun b => decide (b < W.heap.size)) true ts vs ds ps
  | [], vs, ds, ps, _, h => by
    obtain ⟨rfl, rfl, rfl⟩ := trodAll_nil h
    exact trodAll_mk0
  | t :: ts, vs, ds, ps, hr, h => by
    obtain ⟨v, vs', d, ds', p, q, rfl, rfl, rfl, h1, h2⟩ := trodAll_cons h
    have hlt : ∀ x ∈ p, x.block < W.heap.size := by obtain ⟨m, hm⟩ := h1; exact DataW.trod_lt m _ _ _ hm
    exact trodAll_cons_mk (Below.trod hl (hr t (List.mem_cons_self ..)).1 (hr t (List.mem_cons_self ..)).2 h1 bel hlt) (args_again hl bel ts vs' ds' q (fun u hu => hr u (List.mem_cons_of_mem _ hu)) h2)

/-- THE BRIDGE: a law's contract, as the given statement asks it. -/
theorem law_calls (hT : TOK P T) (hl : laidOutB P = true) {gl : Gl} {f : FuncId} {fn : Func} {sp : Spec} {s : ChangeSpec} {ts : List TypeId} {tb : TypeId} (hparams : fn.params = ts.toArray) (hres : fn.resultTypes = #[tb]) (htb : P.underlying tb = some .bool)
    {D : Nat} (hsup : ts.all (sup T D) = true) (hread : ts.all (fun t => P.readableRec t && decide (t < P.types.size)) = true) (hsound : Sound P gl f sp) (hnh : sp.hp = none)
    (hpre : ∀ as, All2 (TypedV T) ts as → sp.pre as ∧ sp.res as = .one (.val (.c (.bool true))))
    (hvars : s.vars = []) (hspec : ∀ ds : List (DataW H), ds.length = ts.length → (s.fn H ds).results = [.lit (.bool true)] ∧ (s.fn H ds).args = ds ∧ (s.fn H ds).vars = [])
    {base : Nat} {args : Array Value} {ds gs : List (DataW H)} {before : List MemPlace}
    (hval : ∀ (j : Nat) t v, fn.params[j]? = some t → args[j]? = some v → Value.okWide P W .any base t v)
    (hW : DataW.Whole enc P fn.params.toList s.vars false W args.toList ds gs before) (hgl : GlOK gl (atW W)) :
    Calls P f args W fun e W' => ∃ v, e = .returned v ∧ s.post enc P fn false true false false W args v W' := by
  have hW' := hW
  obtain ⟨p, q, hA, hV, rfl, hfz, hnd⟩ := hW
  rw [hparams] at hA hval
  rw [hvars] at hV
  obtain ⟨rfl, rfl⟩ := trodVars_none hV
  simp only [List.all_eq_true, Bool.and_eq_true, decide_eq_true_eq] at hsup hread
  obtain ⟨as, ra, ta, hdl⟩ := args_typed hT (D := D) ts args.toList ds p hsup (fun j t v hj hv => hval j t v (by simpa using hj) (by simpa using hv)) hA
  obtain ⟨h1, h2⟩ := hpre as ta
  have hc := calls_true hsound hnh h1 h2 hgl ra
  rw [Array.toArray_toList] at hc
  refine hc.mono fun e W' ⟨he, bel⟩ => ?_
  obtain ⟨s1, s2, s3⟩ := hspec ds (by simpa using hdl)
  refine ⟨_, he, ds, [], p ++ [], [], p, [], hW', ?_, ?_, ?_, bel.frame _, fun h => by cases h⟩
  · rw [hres, List.append_nil, s1]
    exact trodAll_mk1 (shut_bool htb _)
  · rw [hparams, List.append_nil, s2]
    exact args_again hl bel ts args.toList ds p (fun t ht => hread t ht) hA
  · rw [hvars, List.append_nil, s3]
    rfl

/-! ### variables that are laid -/
mutual
def datC {H : Type} : DataW H → List C
  | .lit (.int k n) => [.int k n]
  | .lit (.bool b) => [.bool b]
  | .lit (.string l) => [.str l]
  | .agg ds => datCs ds
  | _ => []
def datCs {H : Type} : List (DataW H) → List C
  | [] => []
  | d :: ds => datC d ++ datCs ds
end

/-- flat types -/
def flatStep (T : TT) (K : Nat → Bool) : Option TI → Bool
  | some ⟨.int _, n, _, _⟩ | some ⟨.bool, n, _, _⟩ | some ⟨.str, n, _, _⟩ => n == 1
  | some ⟨.struct fs, n, _, _⟩ => fs.all (fun f => K f.2) && endsAt (szT T) 0 fs == some n
  | some ⟨.array m e, n, _, _⟩ => K e && n == m * szT T e
  | _ => false
def flatT (T : TT) : Nat → Nat → Bool
  | 0, _ => false
  | d + 1, t => flatStep T (flatT T d) (T t)

theorem flat_row {d t : Nat} (h : flatT T d t = true) : ∃ ti, T t = some ti := by
  cases d with
  | zero => simp [flatT] at h
  | succ d =>
    simp only [flatT] at h
    cases q : T t with
    | none => rw [q] at h; simp [flatStep] at h
    | some ti => exact ⟨ti, rfl⟩

theorem fields_flat {S : Stab} {cs : List Value} : ∀ (fs : List (Nat × Nat)) (xs : List (DataW H × List MemPlace)) (o n : Nat), endsAt (szT T) o fs = some n → cs.length = n → xs.length = fs.length →
    (∀ (j : Nat) f x, fs[j]? = some f → xs[j]? = some x → RepL S (datC x.1) ((cs.drop f.1).take (szT T f.2))) → RepL S (datCs (xs.map (·.1))) (cs.drop o)
  | [], xs, o, n, he, hl, hx, _ => by
    simp only [endsAt, Option.some.injEq] at he
    subst he
    obtain rfl : xs = [] := List.eq_nil_of_length_eq_zero (by simpa using hx)
    rw [List.drop_of_length_le (by omega)]
    simp [RepL, datCs]
  | (p, u) :: fs, [], _, _, _, _, hx, _ => by simp at hx
  | (p, u) :: fs, x :: xs, o, n, he, hl, hx, hf => by
    simp only [endsAt] at he
    split at he
    · rename_i hp
      subst hp
      have r1 := hf 0 _ _ rfl rfl
      have r2 := fields_flat fs xs _ n he hl (by simpa using hx) (fun j f x hj hx => hf (j + 1) f x hj hx)
      have e : cs.drop p = (cs.drop p).take (szT T u) ++ cs.drop (p + szT T u) := by rw [← List.drop_drop]; exact (List.take_append_drop _ _).symm
      rw [e, List.map_cons, datCs]
      exact r1.append r2
    · cases he

theorem items_flat {S : Stab} {cs : List Value} {c : Nat} : ∀ (xs : List (DataW H × List MemPlace)) (j : Nat), cs.length = (j + xs.length) * c →
    (∀ (i : Nat) x, xs[i]? = some x → RepL S (datC x.1) ((cs.drop ((j + i) * c)).take c)) → RepL S (datCs (xs.map (·.1))) (cs.drop (j * c))
  | [], j, hl, _ => by
    rw [List.drop_of_length_le (by rw [hl]; exact Nat.le_refl _)]
    simp [RepL, datCs]
  | x :: xs, j, hl, hf => by
    have r1 := hf 0 x rfl
    have r2 := items_flat xs (j + 1) (by rw [hl]; congr 1; simp; omega) (fun i y hy => by
      have := hf (i + 1) y hy
      rwa [show j + (i + 1) = j + 1 + i by omega] at this)
    have e : cs.drop (j * c) = (cs.drop (j * c)).take c ++ cs.drop ((j + 1) * c) := by
      rw [Nat.add_mul, Nat.one_mul, ← List.drop_drop]; exact (List.take_append_drop _ _).symm
    rw [e, List.map_cons, datCs]
    exact r1.append r2

theorem flat_of_trod (hT : TOK P T) {S : Stab} {held : Bool} : ∀ (fuel D : Nat) (t : Nat) (cs : List Value) (x : DataW H × List MemPlace), flatT T D t = true →
    DataW.trod enc P W 0 (fun _ => true) held fuel t cs = some x → RepL S (datC x.1) cs
  | 0, _, _, _, _, _, h => by simp [DataW.trod] at h
  | fuel + 1, 0, _, _, _, hs, _ => by simp [flatT] at hs
  | fuel + 1, D + 1, t, cs, x, hs, h => by
    obtain ⟨⟨k, n, b, z⟩, hq⟩ := flat_row hs
    simp only [flatT] at hs
    rw [hq] at hs
    cases k with
    | int k =>
      obtain ⟨m, rfl, rfl, _⟩ := DataW.trod_int (hT.int hq) h
      simp only [datC]
      exact repL_one'.2 (by simp [RepV])
    | bool =>
      obtain ⟨m, rfl, rfl⟩ := DataW.trod_bool (hT.bool hq) h
      simp only [datC]
      exact repL_one'.2 (by simp [RepV])
    | str =>
      obtain ⟨m, rfl, rfl, _⟩ := DataW.trod_string (hT.str hq) h
      simp only [datC]
      exact repL_one'.2 (by simp [RepV])
    | struct fs =>
      simp only [flatStep, Bool.and_eq_true, List.all_eq_true, beq_iff_eq] at hs
      obtain ⟨hsf, hends⟩ := hs
      obtain ⟨d, i, zz, hu, _, hf, _⟩ := hT.get hq
      simp only [TK.fits] at hf
      obtain ⟨fields, rfl, hm⟩ := hf
      obtain ⟨xs, n1, hn1, rfl, hlen, hxl, hg⟩ := DataW.trod_struct hu h
      obtain rfl : n1 = fuel := by omega
      rw [cellsOf_eq hT hq] at hlen
      simp only [datC]
      have := fields_flat (T := T) (S := S) (cs := cs) fs xs 0 n hends hlen (by rw [hxl, ← hm]; simp) (fun j f x hj hx => by
        rw [← hm, List.getElem?_map, Option.map_eq_some_iff] at hj
        obtain ⟨fd, hfd, rfl⟩ := hj
        have hj' : fields[j]? = some fd := by simpa using hfd
        have hsu := hsf (fd.offset, fd.type) (by rw [← hm]; exact List.mem_map.2 ⟨fd, List.mem_of_getElem? hfd, rfl⟩)
        obtain ⟨ui, hui⟩ := flat_row hsu
        have h1 := hg j fd hj'
        rw [hx, cellsOf_szT hT hui] at h1
        exact flat_of_trod hT n1 D fd.type _ _ hsu h1)
      simpa using this
    | array m e =>
      simp only [flatStep, Bool.and_eq_true, beq_iff_eq] at hs
      obtain ⟨hse, hn⟩ := hs
      obtain ⟨ei, hei⟩ := flat_row hse
      have hc := cellsOf_szT hT hei
      obtain ⟨xs, n1, hn1, rfl, hlen, hxl, hg⟩ := DataW.trod_array (hT.array hq) h
      obtain rfl : n1 = fuel := by omega
      rw [cellsOf_eq hT hq, hn] at hlen
      rw [hc] at hg
      simp only [datC]
      have := items_flat (S := S) (cs := cs) (c := szT T e) xs 0 (by rw [hlen, hxl, Nat.zero_add]) (fun i x hx => by
        have hi := (List.getElem?_eq_some_iff.1 hx).1
        have h1 := hg i (by omega)
        rw [hx] at h1
        rw [Nat.zero_add]
        exact flat_of_trod hT n1 D e _ _ hse h1)
      simpa using this
    | slice e => simp [flatStep] at hs
    | other => simp [flatStep] at hs

/-- the listed variables: where they lie, of which type -/
theorem gl_of_laidVars (hT : TOK P T) {D : Nat} : ∀ (laid : List (String × DataW Unit)) (nums : List (Nat × Nat)) (ps : List MemPlace), All2 (fun (l : String × DataW Unit) (n : Nat × Nat) => P.globalNamed l.1 = some n.1 ∧ (P.globals[n.1]?).map (·.type) = some n.2 ∧ flatT T D n.2 = true) laid nums →
    DataW.LaidVars P W laid ps → ∀ (k : Nat) (cs : List C), (k, cs) ∈ (laid.zip nums).map (fun x => (x.2.1, datC x.1.2)) → ∃ vs, (∀ j u, vs[j]? = some u → atW W k j = some u) ∧ RepL (atW W) cs vs
  | [], [], _, _, _, k, cs, hm => by simp at hm
  | (n, d) :: laid, (g, t) :: nums, ps, ha, h, k, cs, hm => by
    obtain ⟨⟨a1, a2, a3⟩, a4⟩ := ha
    obtain ⟨g', t', c', fuel, p, q, h1, h2, h3, h4, h5, _⟩ := h
    simp only at a1 a2 a3
    rw [a1] at h1; cases h1
    rw [a2] at h2; cases h2
    simp only [List.zip_cons_cons, List.map_cons, List.mem_cons, Prod.mk.injEq] at hm
    rcases hm with ⟨rfl, rfl⟩ | hm
    · refine ⟨c'.toList, fun j u hj => ?_, flat_of_trod hT fuel D _ _ _ a3 h4⟩
      have := World.var?_cell a1 h3 j
      unfold atW
      rw [this]
      simpa using hj
    · exact gl_of_laidVars hT laid nums q a4 h5 k cs hm
  | [], _ :: _, _, ha, _, _, _, _ => ha.elim
  | _ :: _, [], _, ha, _, _, _, _ => ha.elim

theorem gl_of_laid (hT : TOK P T) {D : Nat} {laid : List (String × DataW Unit)} (nums : List (Nat × Nat)) {gl : Gl} (hgl : (laid.zip nums).map (fun x => (x.2.1, datC x.1.2)) = gl) (hn : All2 (fun (l : String × DataW Unit) (n : Nat × Nat) => P.globalNamed l.1 = some n.1 ∧ (P.globals[n.1]?).map (·.type) = some n.2 ∧ flatT T D n.2 = true) laid nums)
    (hp : (laid.all fun x => x.2.handleName?.isNone) = true) (h : laidMetH P laid W) : GlOK gl (atW W) := by
  rw [MakeChecks.laidMetH_plain _ _ _ hp] at h
  obtain ⟨ps, h, _⟩ := h
  intro k cs hm
  rw [← hgl] at hm
  exact gl_of_laidVars hT laid nums ps hn h k cs hm
end
end Fen

/- Part 44: what fits a type, told type by type. -/
namespace Fen
open Go Go.RowKit

section
variable {T : TT} {d t e n b s m : Nat} {z : List X} {ks : List C} {k : IntKind} {fs : List (Nat × Nat)}

theorem typed_int (hq : T t = some ⟨.int k, s, b, z⟩) (h : Typed T d t ks) : ∃ m, ks = [.int k m] ∧ k.min ≤ m ∧ m ≤ k.max := by
  cases d with
  | zero => exact h.elim
  | succ d => simpa only [Typed, hq, typedStep] using h
theorem typed_bool (hq : T t = some ⟨.bool, s, b, z⟩) (h : Typed T d t ks) : ∃ m, ks = [.bool m] := by
  cases d with
  | zero => exact h.elim
  | succ d => simpa only [Typed, hq, typedStep] using h
theorem typed_str (hq : T t = some ⟨.str, s, b, z⟩) (h : Typed T d t ks) : ∃ l : List UInt8, ks = [.str l] ∧ l.length ≤ maxLen := by
  cases d with
  | zero => exact h.elim
  | succ d => simpa only [Typed, hq, typedStep] using h
theorem typed_slice (hq : T t = some ⟨.slice e, s, b, z⟩) (h : Typed T d t ks) : ∃ d', ∃ parts : List (List C), ks = [.sl parts.length parts.flatten] ∧ parts.length ≤ maxLen ∧ ∀ p ∈ parts, Typed T d' e p := by
  cases d with
  | zero => exact h.elim
  | succ d => exact ⟨d, by simpa only [Typed, hq, typedStep] using h⟩
theorem typed_struct (hq : T t = some ⟨.struct fs, s, b, z⟩) (h : Typed T d t ks) : ∃ d', ∃ parts : List (List C), ks = parts.flatten ∧ All2 (fun (f : Nat × Nat) p => Typed T d' f.2 p) fs parts := by
  cases d with
  | zero => exact h.elim
  | succ d => exact ⟨d, by simpa only [Typed, hq, typedStep] using h⟩
theorem typed_array (hq : T t = some ⟨.array m e, s, b, z⟩) (h : Typed T d t ks) : ∃ d', ∃ parts : List (List C), ks = parts.flatten ∧ parts.length = m ∧ ∀ p ∈ parts, Typed T d' e p := by
  cases d with
  | zero => exact h.elim
  | succ d => exact ⟨d, by simpa only [Typed, hq, typedStep] using h⟩

/-- elements as values of one's own -/
theorem parts_of {α : Type} {en : α → List C} {Q : α → Prop} {R : List C → Prop} (he : ∀ p, R p → ∃ a, p = en a ∧ Q a) : ∀ {parts : List (List C)}, (∀ p ∈ parts, R p) → ∃ l : List α, parts = l.map en ∧ ∀ a ∈ l, Q a
  | [], _ => ⟨[], rfl, fun a h => by cases h⟩
  | p :: ps, h => by
    obtain ⟨a, rfl, qa⟩ := he p (h p (List.mem_cons_self ..))
    obtain ⟨l, rfl, ql⟩ := parts_of he (fun q hq => h q (List.mem_cons_of_mem _ hq))
    exact ⟨a :: l, rfl, fun x hx => (List.mem_cons.1 hx).elim (fun e => e ▸ qa) (ql x)⟩
theorem typed_slice_of {α : Type} {en : α → List C} {Q : α → Prop} (hq : T t = some ⟨.slice e, s, b, z⟩) (he : ∀ d p, Typed T d e p → ∃ a, p = en a ∧ Q a) (h : Typed T d t ks) : ∃ l : List α, ks = [.sl l.length (l.flatMap en)] ∧ l.length ≤ maxLen ∧ ∀ a ∈ l, Q a := by
  obtain ⟨d', parts, rfl, hl, hp⟩ := typed_slice hq h
  obtain ⟨l, rfl, hl2⟩ := parts_of (he d') hp
  exact ⟨l, by simp [List.flatMap_def], by simpa using hl, hl2⟩

theorem i64_of {m : Int} (h : IntKind.i64.min ≤ m ∧ m ≤ IntKind.i64.max) : -9223372036854775808 ≤ m ∧ m ≤ 9223372036854775807 := by simpa [IntKind.min, IntKind.max, IntKind.signed, IntKind.bits] using h
theorem u8_of {m : Int} (h : IntKind.u8.min ≤ m ∧ m ≤ IntKind.u8.max) : 0 ≤ m ∧ m < 256 := by simp [IntKind.min, IntKind.max, IntKind.signed, IntKind.bits] at h; omega

/-! arguments -/
variable {A : V}
theorem arg_int (hq : T t = some ⟨.int k, s, b, z⟩) (h : TypedV T t A) : ∃ m, A = .c (.int k m) ∧ k.min ≤ m ∧ m ≤ k.max := by
  obtain ⟨d, h⟩ := h
  simp only [hq, TK.agg, Bool.false_eq_true, if_false] at h
  obtain ⟨c, rfl, h⟩ := h
  obtain ⟨m, h1, h2⟩ := typed_int hq h
  simp only [List.cons.injEq, and_true] at h1
  subst h1
  exact ⟨m, rfl, h2⟩
theorem arg_bool (hq : T t = some ⟨.bool, s, b, z⟩) (h : TypedV T t A) : ∃ m, A = .c (.bool m) := by
  obtain ⟨d, h⟩ := h
  simp only [hq, TK.agg, Bool.false_eq_true, if_false] at h
  obtain ⟨c, rfl, h⟩ := h
  obtain ⟨m, h1⟩ := typed_bool hq h
  simp only [List.cons.injEq, and_true] at h1
  subst h1
  exact ⟨m, rfl⟩
theorem arg_str (hq : T t = some ⟨.str, s, b, z⟩) (h : TypedV T t A) : ∃ l : List UInt8, A = .c (.str l) ∧ l.length ≤ maxLen := by
  obtain ⟨d, h⟩ := h
  simp only [hq, TK.agg, Bool.false_eq_true, if_false] at h
  obtain ⟨c, rfl, h⟩ := h
  obtain ⟨m, h1, h2⟩ := typed_str hq h
  simp only [List.cons.injEq, and_true] at h1
  subst h1
  exact ⟨m, rfl, h2⟩
theorem arg_slice_of {α : Type} {en : α → List C} {Q : α → Prop} (hq : T t = some ⟨.slice e, s, b, z⟩) (he : ∀ d p, Typed T d e p → ∃ a, p = en a ∧ Q a) (h : TypedV T t A) : ∃ l : List α, A = .c (.sl l.length (l.flatMap en)) ∧ l.length ≤ maxLen ∧ ∀ a ∈ l, Q a := by
  obtain ⟨d, h⟩ := h
  simp only [hq, TK.agg, Bool.false_eq_true, if_false] at h
  obtain ⟨c, rfl, h⟩ := h
  obtain ⟨l, h1, h2, h3⟩ := typed_slice_of hq he h
  simp only [List.cons.injEq, and_true] at h1
  subst h1
  exact ⟨l, rfl, h2, h3⟩
theorem arg_agg {ti : TI} (hq : T t = some ti) (ha : ti.k.agg = true) (h : TypedV T t A) : ∃ d ks, A = .agg ks ∧ Typed T d t ks := by
  obtain ⟨d, h⟩ := h
  simp only [hq, ha, if_true] at h
  obtain ⟨ks, h1, h2⟩ := h
  exact ⟨d, ks, h1, h2⟩

theorem flatMap_ints (k : IntKind) (l : List Int) : l.flatMap (fun n => [C.int k n]) = ints k l := by
  induction l with
  | nil => rfl
  | cons x l ih => rw [List.flatMap_cons, ih]; rfl
theorem arg_ints (hq : T t = some ⟨.slice e, s, b, z⟩) {s' b' : Nat} {z' : List X} (he : T e = some ⟨.int k, s', b', z'⟩) (h : TypedV T t A) : ∃ l : List Int, A = .c (.sl l.length (ints k l)) ∧ l.length ≤ maxLen ∧ ∀ a ∈ l, k.min ≤ a ∧ a ≤ k.max := by
  obtain ⟨l, h1, h2, h3⟩ := arg_slice_of (en := fun n : Int => [C.int k n]) (Q := fun a => k.min ≤ a ∧ a ≤ k.max) hq (fun d p hp => by
    obtain ⟨m, q1, q2⟩ := typed_int he hp
    exact ⟨m, q1, q2⟩) h
  exact ⟨l, by rw [h1, flatMap_ints], h2, h3⟩
end
end Fen

/- Part 45: blocks at the heap's end that nothing names any more are forgotten. -/
namespace Fen
open Go Go.RowKit

mutual
theorem RelX.cut {g : Gh} {h ex : List Blk} : ∀ (x : X) (v : Value), refsX h.length x → RelX g (h ++ ex) x v → RelX g h x v
  | .dead, _, _, _ => by simp only [RelX]
  | .val _, _, _, r => by simpa only [RelX] using r
  | .agg _, _, _, r => by simpa only [RelX] using r
  | .nil, _, _, r => by simpa only [RelX] using r
  | .ex _ _ _, _, _, r => by simpa only [RelX] using r
  | .fptr _, _, _, r => by simpa only [RelX] using r
  | .tup xs, _, k, r => by
    simp only [RelX] at r ⊢
    simp only [refsX] at k
    obtain ⟨vs, rfl, r⟩ := r
    exact ⟨vs, rfl, RelXs.cut xs vs k r⟩
  | .clos f xs, _, k, r => by
    simp only [RelX] at r ⊢
    simp only [refsX] at k
    obtain ⟨vs, rfl, r⟩ := r
    exact ⟨vs, rfl, RelXs.cut xs vs k r⟩
  | .ifb c x, v, k, r => by
    simp only [RelX] at r ⊢
    simp only [refsX] at k
    exact ⟨fun hc => RelX.cut x v k (r.1 hc), r.2⟩
  | .ref id ver, _, k, r => by
    simp only [RelX] at r ⊢
    simp only [refsX] at k
    rwa [List.getElem?_append_left k] at r
  | .view id ver off n, _, k, r => by
    simp only [RelX] at r ⊢
    simp only [refsX] at k
    rwa [List.getElem?_append_left k] at r
  | .ptr id ver off, _, k, r => by
    simp only [RelX] at r ⊢
    simp only [refsX] at k
    rwa [List.getElem?_append_left k] at r
  | .yld id, _, k, r => by
    simp only [RelX] at r ⊢
    simp only [refsX] at k
    rwa [List.getElem?_append_left k] at r
theorem RelXs.cut {g : Gh} {h ex : List Blk} : ∀ (xs : List X) (vs : List Value), refsXs h.length xs → RelXs g (h ++ ex) xs vs → RelXs g h xs vs
  | [], _, _, r => by simpa only [RelXs] using r
  | x :: xs, _, k, r => by
    simp only [RelXs] at r ⊢
    simp only [refsXs] at k
    obtain ⟨u, us, rfl, h1, h2⟩ := r
    exact ⟨u, us, rfl, RelX.cut x u k.1 h1, RelXs.cut xs us k.2 h2⟩
end

def refsR (n : Nat) : List (Nat × X) → Prop
  | [] => True
  | (_, x) :: l => refsX n x ∧ refsR n l
theorem refsR_at {n : Nat} : ∀ {r : List (Nat × X)}, refsR n r → ∀ t, refsX n (lk r t)
  | [], _, t => by simp [lk, refsX]
  | (k, x) :: l, h, t => by
    simp only [lk]
    split
    · exact h.1
    · exact refsR_at h.2 t

/-- THE BLOCKS BEHIND h ARE FORGOTTEN -/
theorem Weak.drop {bs : Base} {n : Nat} {h ex : List Blk} {r r' : List (Nat × X)} (hc : ClosedH h) (hl : bs.h0.length ≤ h.length) (hr : keepR r r') (hx : refsR h.length r') : Weak bs ⟨n, r, h ++ ex⟩ ⟨n, r', h⟩ := by
  intro a w R
  obtain ⟨g, R⟩ := Weak.keep hr a w R
  have at_ : ∀ {id : Nat} {b : Blk}, h[id]? = some b → (h ++ ex)[id]? = some b := fun {id b} e => by rw [List.getElem?_append_left (lt_of_get e)]; exact e
  refine ⟨g, ⟨R.ext.S, fun id b hb => ?_, R.ext.marks⟩, ?_, R.defers, R.size, fun t => RelX.cut _ _ (refsR_at hx t) (R.slot t)⟩
  · obtain ⟨b', h1, h2⟩ := R.ext.blk id b hb
    rw [List.getElem?_append_left (Nat.lt_of_lt_of_le (lt_of_get hb) hl)] at h1
    exact ⟨b', h1, h2⟩
  · have H := R.heap
    refine ⟨H.stable, fun id b hb => ?_, fun i j hi hj => H.inj i j (Nat.lt_of_lt_of_le hi (by simp)) (Nat.lt_of_lt_of_le hj (by simp)), fun i hi => H.loc i (Nat.lt_of_lt_of_le hi (by simp)), H.os, H.tape, H.output, H.size, H.frame, H.stab, H.gl, H.marks⟩
    have hB := H.blk id b (at_ hb)
    have hk := hc id b hb
    cases b with
    | box ty cells =>
      obtain ⟨h1, h2, h3, cs, h4, h5⟩ := hB
      exact ⟨h1, h2, h3, cs, h4, RelXs.cut _ _ hk h5⟩
    | sl => exact hB
    | obj => exact hB
    | gone => exact hB
    | hid => exact hB

/-- slots kept, and taken out of what a guard laid round them -/
def keepS (r : List (Nat × X)) : List (Nat × X) → Prop
  | [] => True
  | (k, x) :: l => (strip (lk r k)).1 = true ∧ keepX x (strip (lk r k)).2 ∧ keepS r l
theorem keepS_ok {g : Gh} {h : List Blk} {r : List (Nat × X)} {f : Nat → Value} (hs : ∀ t, RelX g h (lk r t) (f t)) : ∀ {r' : List (Nat × X)}, keepS r r' → ∀ t, RelX g h (lk r' t) (f t)
  | [], _, t => by simp [lk, RelX]
  | (k, x) :: l, q, t => by
    simp only [lk]
    split
    · rename_i e; subst e; exact keepX_ok q.2.1 (strip_ok (hs _) q.1)
    · exact keepS_ok hs q.2.2 t
theorem Weak.strip {bs : Base} {n : Nat} {h : List Blk} {r r' : List (Nat × X)} (hr : keepS r r') : Weak bs ⟨n, r, h⟩ ⟨n, r', h⟩ := by
  rintro a w ⟨g, R⟩
  exact ⟨g, R.ext, R.heap, R.defers, R.size, fun t => keepS_ok R.slot hr t⟩
/-- .. and the blocks behind h forgotten -/
theorem Weak.dropS {bs : Base} {n : Nat} {h ex : List Blk} {r : List (Nat × X)} (r' : List (Nat × X)) (hc : ClosedH h) (hl : bs.h0.length ≤ h.length) (hr : keepS r r') (hx : refsR h.length r') (hk : keepR r' r') : Weak bs ⟨n, r, h ++ ex⟩ ⟨n, r', h⟩ := Weak.trans (Weak.strip hr) (Weak.drop hc hl hk hx)
@[simp] theorem keepS_nil (r : List (Nat × X)) : keepS r [] = True := rfl
@[simp] theorem keepS_cons (r : List (Nat × X)) (k : Nat) (x : X) (l : List (Nat × X)) : keepS r ((k, x) :: l) = ((strip (lk r k)).1 = true ∧ keepX x (strip (lk r k)).2 ∧ keepS r l) := rfl
@[simp] theorem gdE_no (q : Option Bool) : gdE none q = none := by cases q <;> rfl

/-- an operation at a weaker state -/
theorem OpW.weak {P : Program} {bs : Base} {ops : Array Oper} {o : Oper} {st st' : St} {K : St → Prop} (hw : Weak bs st st') (h : OpW P bs ops o st' K) : OpW P bs ops o st K := fun a w Q R => h a w Q (hw a w R)
theorem wpc_weak {E : Env} (hE : E.OK) (hm : E.P.follows .mixedOrders = true) {c : Code} {Q : Exit → St → Prop} {st st' : St} (hw : Weak E.bs st st') (h : wpc E c Q st') : AWP E.P E.bs c Q st := fun a w R => wpc_ok hE hm c Q st' h a w (hw a w R)

section
variable (n id ver off k : Nat) (cs : List C) (xs : List X) (x : X) (f : FuncId) (b : Bool) (ty : TypeId) (l : List Blk) (h : List Blk)
@[simp] theorem refsX_dead : refsX n .dead = True := by simp [refsX]
@[simp] theorem refsX_val (c : C) : refsX n (.val c) = True := by simp [refsX]
@[simp] theorem refsX_agg : refsX n (.agg cs) = True := by simp [refsX]
@[simp] theorem refsX_nil : refsX n .nil = True := by simp [refsX]
@[simp] theorem refsX_ex : refsX n (.ex off k cs) = True := by simp [refsX]
@[simp] theorem refsX_fptr : refsX n (.fptr cs) = True := by simp [refsX]
@[simp] theorem refsX_tup : refsX n (.tup xs) = refsXs n xs := by simp [refsX]
@[simp] theorem refsX_clos : refsX n (.clos f xs) = refsXs n xs := by simp [refsX]
@[simp] theorem refsX_ifb : refsX n (.ifb b x) = refsX n x := by simp [refsX]
@[simp] theorem refsX_ref : refsX n (.ref id ver) = (id < n) := by simp [refsX]
@[simp] theorem refsX_view : refsX n (.view id ver off k) = (id < n) := by simp [refsX]
@[simp] theorem refsX_ptr : refsX n (.ptr id ver off) = (id < n) := by simp [refsX]
@[simp] theorem refsX_yld : refsX n (.yld id) = (id < n) := by simp [refsX]
@[simp] theorem refsXs_nil : refsXs n [] = True := by simp [refsXs]
@[simp] theorem refsXs_cons : refsXs n (x :: xs) = (refsX n x ∧ refsXs n xs) := by simp [refsXs]
@[simp] theorem refsXs_map : ∀ cs : List C, refsXs n (cs.map X.val) = True
  | [] => by simp
  | c :: cs => by simp [refsXs_map cs]
@[simp] theorem refsR_nil : refsR n [] = True := rfl
@[simp] theorem refsR_cons (r : List (Nat × X)) : refsR n ((k, x) :: r) = (refsX n x ∧ refsR n r) := rfl
@[simp] theorem refsB_box : refsB n (.box ty xs) = refsXs n xs := rfl
@[simp] theorem refsB_sl (p : Bool) (sz m : Nat) : refsB n (.sl ty ver p sz m cs) = True := rfl
@[simp] theorem refsB_obj (o : Loop) : refsB n (.obj o) = True := rfl
@[simp] theorem refsB_gone : refsB n .gone = True := rfl
@[simp] theorem refsB_hid : refsB n .hid = True := rfl
@[simp] theorem allB_nil : allB n [] = True := rfl
@[simp] theorem allB_cons (q : Blk) : allB n (q :: l) = (refsB n q ∧ allB n l) := rfl
end
end Fen
