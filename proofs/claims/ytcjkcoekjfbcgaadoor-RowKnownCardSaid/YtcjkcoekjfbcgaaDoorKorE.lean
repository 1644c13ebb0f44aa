/- A part of the proof; no statement is proved here: Kora43, Kora44, Kora45, Kora46, Kora47, Kora48, Kora49, Kora50, Kora51, Kora52, Kora53, Kora54, Kora55. -/
import Derived.Test.YtcjkcoekjfbcgaaDoorKorD
import Derived.Handed
import Derived.Carry
import Derived.Below
import Derived.LaidMore
import Derived.MakeChecks
import Derived.FnData
import Derived.ProofKit
import Derived.Lib.AppendZeros

set_option linter.unusedVariables false
set_option linter.unusedSimpArgs false

/- Part 43: a law whose arguments are of whatever types served: its contract gives the given statement's; variables that are laid. -/
namespace Fen
open Go Go.RowKit Go.ChangeShapes Go.WideShapes Go.ChangeAt

section
variable {P : Program} {T : TT} {W : World} {H : Type} {enc : TypeId × Value → H}

def TypedV (T : TT) (t : Nat) (A : V) : Prop := ∃ d, match T t with
  | some ti => if ti.k.agg = true then ∃ ks, A = .agg ks ∧ Typed T d t ks else ∃ k, A = .c k ∧ Typed T d t [k]
  | none => False

theorem okWide_cells (hT : TOK P T) {t : Nat} {ti : TI} {v : Value} {r : Reach} {base : Nat} (hq : T t = some ti) (hag : ti.k.agg = false) (hko : ti.k ≠ .other) (h : Value.okWide P W r base t v) : v.cells.toList = [v] := by
  obtain ⟨k, n, b, z⟩ := ti
  cases k with
  | int k => have hu := hT.int hq; simp only [Value.okWide, hu, Cell.okWide, Cell.ok] at h; cases v <;> simp_all [Value.cells]
  | bool => have hu := hT.bool hq; simp only [Value.okWide, hu, Cell.okWide, Cell.ok] at h; cases v <;> simp_all [Value.cells]
  | str => have hu := hT.str hq; simp only [Value.okWide, hu, Cell.okWide, Cell.ok] at h; cases v <;> simp_all [Value.cells]
  | slice e => have hu := hT.slice hq; simp only [Value.okWide, hu, Cell.okWide, Cell.ok] at h; cases v <;> simp_all [Value.cells]
  | struct _ => simp [TK.agg] at hag
  | array _ _ => simp [TK.agg] at hag
  | other => exact absurd rfl hko

theorem okWide_agg (hT : TOK P T) {t : Nat} {ti : TI} {v : Value} {r : Reach} {base : Nat} (hq : T t = some ti) (hag : ti.k.agg = true) (h : Value.okWide P W r base t v) : ∃ cs, v = .agg cs := by
  obtain ⟨k, n, b, z⟩ := ti
  cases k with
  | struct fs =>
    obtain ⟨fields, hu, _⟩ := hT.struct hq
    simp only [Value.okWide, hu] at h
    obtain ⟨cs, h, _⟩ := h
    exact ⟨cs, h⟩
  | array n e =>
    have hu := hT.array hq
    simp only [Value.okWide, hu] at h
    obtain ⟨cs, h, _⟩ := h
    exact ⟨cs, h⟩
  | _ => simp [TK.agg] at hag

theorem arg_typed (hT : TOK P T) {t D : Nat} {v : Value} {d : DataW H} {p : List MemPlace} {r : Reach} {base : Nat} (hs : sup T D t = true) (hok : Value.okWide P W r base t v) (h : DataW.Trod enc P W 0 (fun _ => true) true t v d p) :
    ∃ a, RepA (atW W) a v ∧ TypedV T t a := by
  obtain ⟨fuel, hf⟩ := h
  obtain ⟨ks, r1, t1⟩ := typed_of_trod hT fuel D t _ _ hs hf
  obtain ⟨ti, hq⟩ := sup_row hs
  cases hag : ti.k.agg with
  | true =>
    obtain ⟨cs, rfl⟩ := okWide_agg hT hq hag hok
    refine ⟨.agg ks, ?_, fuel, ?_⟩
    · simp only [RepA]
      exact ⟨cs.toList, by simp, by simpa [Value.cells] using r1⟩
    · simp only [hq, hag, if_true]
      exact ⟨ks, rfl, t1⟩
  | false =>
    have hko : ti.k ≠ .other := by
      intro e
      cases D with
      | zero => simp [sup] at hs
      | succ D =>
        obtain ⟨k, n, b, z⟩ := ti
        simp only at e; subst e
        simp [sup, hq, supStep] at hs
    rw [okWide_cells hT hq hag hko hok] at r1
    cases ks with
    | nil => simp [RepL] at r1
    | cons k ks =>
      have hks : ks = [] := by
        have := r1.length
        simpa using this.symm
      subst hks
      refine ⟨.c k, by simpa only [RepA] using repL_one'.1 r1, fuel, ?_⟩
      simp only [hq, hag, Bool.false_eq_true, if_false]
      exact ⟨k, rfl, t1⟩

theorem args_typed (hT : TOK P T) {D : Nat} {r : Reach} {base : Nat} : ∀ (ts : List TypeId) (vs : List Value) (ds : List (DataW H)) (ps : List MemPlace), (∀ t ∈ ts, sup T D t = true) →
    (∀ (j : Nat) t v, ts[j]? = some t → vs[j]? = some v → Value.okWide P W r base t v) → DataW.TrodAll enc P W 0 (fun _ => true) true ts vs ds ps →
    ∃ as, RepAs (atW W) as vs ∧ All2 (TypedV T) ts as ∧ ds.length = ts.length
  | [], vs, ds, ps, _, _, h => by
    obtain ⟨rfl, rfl, rfl⟩ := trodAll_nil h
    exact ⟨[], rfl, trivial, rfl⟩
  | t :: ts, vs, ds, ps, hs, hok, h => by
    obtain ⟨v, vs', d, ds', p, q, rfl, rfl, rfl, h1, h2⟩ := trodAll_cons h
    obtain ⟨a, r1, t1⟩ := arg_typed hT (hs t (List.mem_cons_self ..)) (hok 0 t v rfl rfl) h1
    obtain ⟨as, r2, t2, l2⟩ := args_typed hT ts vs' ds' q (fun u hu => hs u (List.mem_cons_of_mem _ hu)) (fun j u w hj hw => hok (j + 1) u w hj hw) h2
    exact ⟨a :: as, ⟨v, vs', rfl, r1, r2⟩, ⟨t1, t2⟩, by simp [l2]⟩

/-- what came in reads behind the call as before -/
theorem args_again (hl : laidOutB P = true) {W' : World} (bel : Below W.heap.size W W') : ∀ (ts : List TypeId) (vs : List Value) (ds : List (DataW H)) (ps : List MemPlace), (∀ t ∈ ts, P.readableRec t = true ∧ t < P.types.size) →
    DataW.TrodAll enc P W 0 (fun _ => true) true ts vs ds ps → DataW.TrodAll enc P W' 0 (fun b => decide (b < W.heap.size)) true ts vs ds ps
  | [], vs, ds, ps, _, h => by
    obtain ⟨rfl, rfl, rfl⟩ := trodAll_nil h
    exact trodAll_mk0
  | t :: ts, vs, ds, ps, hr, h => by
    obtain ⟨v, vs', d, ds', p, q, rfl, rfl, rfl, h1, h2⟩ := trodAll_cons h
    have hlt : ∀ x ∈ p, x.block < W.heap.size := by obtain ⟨m, hm⟩ := h1; exact DataW.trod_lt m _ _ _ hm
    exact trodAll_cons_mk (Below.trod hl (hr t (List.mem_cons_self ..)).1 (hr t (List.mem_cons_self ..)).2 h1 bel hlt) (args_again hl bel ts vs' ds' q (fun u hu => hr u (List.mem_cons_of_mem _ hu)) h2)

/-- THE BRIDGE: a law's contract, as the given statement asks it. -/
theorem law_calls (hT : TOK P T) (hl : laidOutB P = true) {gl : Gl} {f : FuncId} {fn : Func} {sp : Spec} {s : ChangeSpec} {ts : List TypeId} {tb : TypeId} (hparams : fn.params = ts.toArray) (hres : fn.resultTypes = #[tb]) (htb : P.underlying tb = some .bool)
    {D : Nat} (hsup : ts.all (sup T D) = true) (hread : ts.all (fun t => P.readableRec t && decide (t < P.types.size)) = true) (hsound : Sound P gl f sp) (hnh : sp.hp = none)
    (hpre : ∀ as, All2 (TypedV T) ts as → sp.pre as ∧ sp.res as = .one (.val (.c (.bool true))))
    (hvars : s.vars = []) (hspec : ∀ ds : List (DataW H), ds.length = ts.length → (s.fn H ds).results = [.lit (.bool true)] ∧ (s.fn H ds).args = ds ∧ (s.fn H ds).vars = [])
    {base : Nat} {args : Array Value} {ds gs : List (DataW H)} {before : List MemPlace}
    (hval : ∀ (j : Nat) t v, fn.params[j]? = some t → args[j]? = some v → Value.okWide P W .any base t v)
    (hW : DataW.Whole enc P fn.params.toList s.vars false W args.toList ds gs before) (hgl : GlOK gl (atW W)) :
    Calls P f args W fun e W' => ∃ v, e = .returned v ∧ s.post enc P fn false true false false W args v W' := by
  have hW' := hW
  obtain ⟨p, q, hA, hV, rfl, hfz, hnd⟩ := hW
  rw [hparams] at hA hval
  rw [hvars] at hV
  obtain ⟨rfl, rfl⟩ := trodVars_none hV
  simp only [List.all_eq_true, Bool.and_eq_true, decide_eq_true_eq] at hsup hread
  obtain ⟨as, ra, ta, hdl⟩ := args_typed hT (D := D) ts args.toList ds p hsup (fun j t v hj hv => hval j t v (by simpa using hj) (by simpa using hv)) hA
  obtain ⟨h1, h2⟩ := hpre as ta
  have hc := calls_true hsound hnh h1 h2 hgl ra
  rw [Array.toArray_toList] at hc
  refine hc.mono fun e W' ⟨he, bel⟩ => ?_
  obtain ⟨s1, s2, s3⟩ := hspec ds (by simpa using hdl)
  refine ⟨_, he, ds, [], p ++ [], [], p, [], hW', ?_, ?_, ?_, bel.frame _, fun h => by cases h⟩
  · rw [hres, List.append_nil, s1]
    exact trodAll_mk1 (shut_bool htb _)
  · rw [hparams, List.append_nil, s2]
    exact args_again hl bel ts args.toList ds p (fun t ht => hread t ht) hA
  · rw [hvars, List.append_nil, s3]
    rfl

/-! ### variables that are laid -/
mutual
def datC {H : Type} : DataW H → List C
  | .lit (.int k n) => [.int k n]
  | .lit (.bool b) => [.bool b]
  | .lit (.string l) => [.str l]
  | .agg ds => datCs ds
  | _ => []
def datCs {H : Type} : List (DataW H) → List C
  | [] => []
  | d :: ds => datC d ++ datCs ds
end

/-- flat types -/
def flatStep (T : TT) (K : Nat → Bool) : Option TI → Bool
  | some ⟨.int _, n, _, _⟩ | some ⟨.bool, n, _, _⟩ | some ⟨.str, n, _, _⟩ => n == 1
  | some ⟨.struct fs, n, _, _⟩ => fs.all (fun f => K f.2) && endsAt (szT T) 0 fs == some n
  | some ⟨.array m e, n, _, _⟩ => K e && n == m * szT T e
  | _ => false
def flatT (T : TT) : Nat → Nat → Bool
  | 0, _ => false
  | d + 1, t => flatStep T (flatT T d) (T t)

theorem flat_row {d t : Nat} (h : flatT T d t = true) : ∃ ti, T t = some ti := by
  cases d with
  | zero => simp [flatT] at h
  | succ d =>
    simp only [flatT] at h
    cases q : T t with
    | none => rw [q] at h; simp [flatStep] at h
    | some ti => exact ⟨ti, rfl⟩

theorem fields_flat {S : Stab} {cs : List Value} : ∀ (fs : List (Nat × Nat)) (xs : List (DataW H × List MemPlace)) (o n : Nat), endsAt (szT T) o fs = some n → cs.length = n → xs.length = fs.length →
    (∀ (j : Nat) f x, fs[j]? = some f → xs[j]? = some x → RepL S (datC x.1) ((cs.drop f.1).take (szT T f.2))) → RepL S (datCs (xs.map (·.1))) (cs.drop o)
  | [], xs, o, n, he, hl, hx, _ => by
    simp only [endsAt, Option.some.injEq] at he
    subst he
    obtain rfl : xs = [] := List.eq_nil_of_length_eq_zero (by simpa using hx)
    rw [List.drop_of_length_le (by omega)]
    simp [RepL, datCs]
  | (p, u) :: fs, [], _, _, _, _, hx, _ => by simp at hx
  | (p, u) :: fs, x :: xs, o, n, he, hl, hx, hf => by
    simp only [endsAt] at he
    split at he
    · rename_i hp
      subst hp
      have r1 := hf 0 _ _ rfl rfl
      have r2 := fields_flat fs xs _ n he hl (by simpa using hx) (fun j f x hj hx => hf (j + 1) f x hj hx)
      have e : cs.drop p = (cs.drop p).take (szT T u) ++ cs.drop (p + szT T u) := by rw [← List.drop_drop]; exact (List.take_append_drop _ _).symm
      rw [e, List.map_cons, datCs]
      exact r1.append r2
    · cases he

theorem items_flat {S : Stab} {cs : List Value} {c : Nat} : ∀ (xs : List (DataW H × List MemPlace)) (j : Nat), cs.length = (j + xs.length) * c →
    (∀ (i : Nat) x, xs[i]? = some x → RepL S (datC x.1) ((cs.drop ((j + i) * c)).take c)) → RepL S (datCs (xs.map (·.1))) (cs.drop (j * c))
  | [], j, hl, _ => by
    rw [List.drop_of_length_le (by rw [hl]; exact Nat.le_refl _)]
    simp [RepL, datCs]
  | x :: xs, j, hl, hf => by
    have r1 := hf 0 x rfl
    have r2 := items_flat xs (j + 1) (by rw [hl]; congr 1; simp; omega) (fun i y hy => by
      have := hf (i + 1) y hy
      rwa [show j + (i + 1) = j + 1 + i by omega] at this)
    have e : cs.drop (j * c) = (cs.drop (j * c)).take c ++ cs.drop ((j + 1) * c) := by
      rw [Nat.add_mul, Nat.one_mul, ← List.drop_drop]; exact (List.take_append_drop _ _).symm
    rw [e, List.map_cons, datCs]
    exact r1.append r2

theorem flat_of_trod (hT : TOK P T) {S : Stab} {held : Bool} : ∀ (fuel D : Nat) (t : Nat) (cs : List Value) (x : DataW H × List MemPlace), flatT T D t = true →
    DataW.trod enc P W 0 (fun _ => true) held fuel t cs = some x → RepL S (datC x.1) cs
  | 0, _, _, _, _, _, h => by simp [DataW.trod] at h
  | fuel + 1, 0, _, _, _, hs, _ => by simp [flatT] at hs
  | fuel + 1, D + 1, t, cs, x, hs, h => by
    obtain ⟨⟨k, n, b, z⟩, hq⟩ := flat_row hs
    simp only [flatT] at hs
    rw [hq] at hs
    cases k with
    | int k =>
      obtain ⟨m, rfl, rfl, _⟩ := DataW.trod_int (hT.int hq) h
      simp only [datC]
      exact repL_one'.2 (by simp [RepV])
    | bool =>
      obtain ⟨m, rfl, rfl⟩ := DataW.trod_bool (hT.bool hq) h
      simp only [datC]
      exact repL_one'.2 (by simp [RepV])
    | str =>
      obtain ⟨m, rfl, rfl, _⟩ := DataW.trod_string (hT.str hq) h
      simp only [datC]
      exact repL_one'.2 (by simp [RepV])
    | struct fs =>
      simp only [flatStep, Bool.and_eq_true, List.all_eq_true, beq_iff_eq] at hs
      obtain ⟨hsf, hends⟩ := hs
      obtain ⟨d, i, zz, hu, _, hf, _⟩ := hT.get hq
      simp only [TK.fits] at hf
      obtain ⟨fields, rfl, hm⟩ := hf
      obtain ⟨xs, n1, hn1, rfl, hlen, hxl, hg⟩ := DataW.trod_struct hu h
      obtain rfl : n1 = fuel := by omega
      rw [cellsOf_eq hT hq] at hlen
      simp only [datC]
      have := fields_flat (T := T) (S := S) (cs := cs) fs xs 0 n hends hlen (by rw [hxl, ← hm]; simp) (fun j f x hj hx => by
        rw [← hm, List.getElem?_map, Option.map_eq_some_iff] at hj
        obtain ⟨fd, hfd, rfl⟩ := hj
        have hj' : fields[j]? = some fd := by simpa using hfd
        have hsu := hsf (fd.offset, fd.type) (by rw [← hm]; exact List.mem_map.2 ⟨fd, List.mem_of_getElem? hfd, rfl⟩)
        obtain ⟨ui, hui⟩ := flat_row hsu
        have h1 := hg j fd hj'
        rw [hx, cellsOf_szT hT hui] at h1
        exact flat_of_trod hT n1 D fd.type _ _ hsu h1)
      simpa using this
    | array m e =>
      simp only [flatStep, Bool.and_eq_true, beq_iff_eq] at hs
      obtain ⟨hse, hn⟩ := hs
      obtain ⟨ei, hei⟩ := flat_row hse
      have hc := cellsOf_szT hT hei
      obtain ⟨xs, n1, hn1, rfl, hlen, hxl, hg⟩ := DataW.trod_array (hT.array hq) h
      obtain rfl : n1 = fuel := by omega
      rw [cellsOf_eq hT hq, hn] at hlen
      rw [hc] at hg
      simp only [datC]
      have := items_flat (S := S) (cs := cs) (c := szT T e) xs 0 (by rw [hlen, hxl, Nat.zero_add]) (fun i x hx => by
        have hi := (List.getElem?_eq_some_iff.1 hx).1
        have h1 := hg i (by omega)
        rw [hx] at h1
        rw [Nat.zero_add]
        exact flat_of_trod hT n1 D e _ _ hse h1)
      simpa using this
    | slice e => simp [flatStep] at hs
    | other => simp [flatStep] at hs

/-- the listed variables: where they lie, of which type -/
theorem gl_of_laidVars (hT : TOK P T) {D : Nat} : ∀ (laid : List (String × DataW Unit)) (nums : List (Nat × Nat)) (ps : List MemPlace), All2 (fun (l : String × DataW Unit) (n : Nat × Nat) => P.globalNamed l.1 = some n.1 ∧ (P.globals[n.1]?).map (·.type) = some n.2 ∧ flatT T D n.2 = true) laid nums →
    DataW.LaidVars P W laid ps → ∀ (k : Nat) (cs : List C), (k, cs) ∈ (laid.zip nums).map (fun x => (x.2.1, datC x.1.2)) → ∃ vs, (∀ j u, vs[j]? = some u → atW W k j = some u) ∧ RepL (atW W) cs vs
  | [], [], _, _, _, k, cs, hm => by simp at hm
  | (n, d) :: laid, (g, t) :: nums, ps, ha, h, k, cs, hm => by
    obtain ⟨⟨a1, a2, a3⟩, a4⟩ := ha
    obtain ⟨g', t', c', fuel, p, q, h1, h2, h3, h4, h5, _⟩ := h
    simp only at a1 a2 a3
    rw [a1] at h1; cases h1
    rw [a2] at h2; cases h2
    simp only [List.zip_cons_cons, List.map_cons, List.mem_cons, Prod.mk.injEq] at hm
    rcases hm with ⟨rfl, rfl⟩ | hm
    · refine ⟨c'.toList, fun j u hj => ?_, flat_of_trod hT fuel D _ _ _ a3 h4⟩
      have := World.var?_cell a1 h3 j
      unfold atW
      rw [this]
      simpa using hj
    · exact gl_of_laidVars hT laid nums q a4 h5 k cs hm
  | [], _ :: _, _, ha, _, _, _, _ => ha.elim
  | _ :: _, [], _, ha, _, _, _, _ => ha.elim

theorem gl_of_laid (hT : TOK P T) {D : Nat} {laid : List (String × DataW Unit)} (nums : List (Nat × Nat)) {gl : Gl} (hgl : (laid.zip nums).map (fun x => (x.2.1, datC x.1.2)) = gl) (hn : All2 (fun (l : String × DataW Unit) (n : Nat × Nat) => P.globalNamed l.1 = some n.1 ∧ (P.globals[n.1]?).map (·.type) = some n.2 ∧ flatT T D n.2 = true) laid nums)
    (hp : (laid.all fun x => x.2.handleName?.isNone) = true) (h : laidMetH P laid W) : GlOK gl (atW W) := by
  rw [MakeChecks.laidMetH_plain _ _ _ hp] at h
  obtain ⟨ps, h, _⟩ := h
  intro k cs hm
  rw [← hgl] at hm
  exact gl_of_laidVars hT laid nums ps hn h k cs hm
end
end Fen

/- Part 44: what fits a type, told type by type. -/
namespace Fen
open Go Go.RowKit

section
variable {T : TT} {d t e n b s m : Nat} {z : List X} {ks : List C} {k : IntKind} {fs : List (Nat × Nat)}

theorem typed_int (hq : T t = some ⟨.int k, s, b, z⟩) (h : Typed T d t ks) : ∃ m, ks = [.int k m] ∧ k.min ≤ m ∧ m ≤ k.max := by
  cases d with
  | zero => exact h.elim
  | succ d => simpa only [Typed, hq, typedStep] using h
theorem typed_bool (hq : T t = some ⟨.bool, s, b, z⟩) (h : Typed T d t ks) : ∃ m, ks = [.bool m] := by
  cases d with
  | zero => exact h.elim
  | succ d => simpa only [Typed, hq, typedStep] using h
theorem typed_str (hq : T t = some ⟨.str, s, b, z⟩) (h : Typed T d t ks) : ∃ l : List UInt8, ks = [.str l] ∧ l.length ≤ maxLen := by
  cases d with
  | zero => exact h.elim
  | succ d => simpa only [Typed, hq, typedStep] using h
theorem typed_slice (hq : T t = some ⟨.slice e, s, b, z⟩) (h : Typed T d t ks) : ∃ d', ∃ parts : List (List C), ks = [.sl parts.length parts.flatten] ∧ parts.length ≤ maxLen ∧ ∀ p ∈ parts, Typed T d' e p := by
  cases d with
  | zero => exact h.elim
  | succ d => exact ⟨d, by simpa only [Typed, hq, typedStep] using h⟩
theorem typed_struct (hq : T t = some ⟨.struct fs, s, b, z⟩) (h : Typed T d t ks) : ∃ d', ∃ parts : List (List C), ks = parts.flatten ∧ All2 (fun (f : Nat × Nat) p => Typed T d' f.2 p) fs parts := by
  cases d with
  | zero => exact h.elim
  | succ d => exact ⟨d, by simpa only [Typed, hq, typedStep] using h⟩
theorem typed_array (hq : T t = some ⟨.array m e, s, b, z⟩) (h : Typed T d t ks) : ∃ d', ∃ parts : List (List C), ks = parts.flatten ∧ parts.length = m ∧ ∀ p ∈ parts, Typed T d' e p := by
  cases d with
  | zero => exact h.elim
  | succ d => exact ⟨d, by simpa only [Typed, hq, typedStep] using h⟩

/-- elements as values of one's own -/
theorem parts_of {α : Type} {en : α → List C} {Q : α → Prop} {R : List C → Prop} (he : ∀ p, R p → ∃ a, p = en a ∧ Q a) : ∀ {parts : List (List C)}, (∀ p ∈ parts, R p) → ∃ l : List α, parts = l.map en ∧ ∀ a ∈ l, Q a
  | [], _ => ⟨[], rfl, fun a h => by cases h⟩
  | p :: ps, h => by
    obtain ⟨a, rfl, qa⟩ := he p (h p (List.mem_cons_self ..))
    obtain ⟨l, rfl, ql⟩ := parts_of he (fun q hq => h q (List.mem_cons_of_mem _ hq))
    exact ⟨a :: l, rfl, fun x hx => (List.mem_cons.1 hx).elim (fun e => e ▸ qa) (ql x)⟩
theorem typed_slice_of {α : Type} {en : α → List C} {Q : α → Prop} (hq : T t = some ⟨.slice e, s, b, z⟩) (he : ∀ d p, Typed T d e p → ∃ a, p = en a ∧ Q a) (h : Typed T d t ks) : ∃ l : List α, ks = [.sl l.length (l.flatMap en)] ∧ l.length ≤ maxLen ∧ ∀ a ∈ l, Q a := by
  obtain ⟨d', parts, rfl, hl, hp⟩ := typed_slice hq h
  obtain ⟨l, rfl, hl2⟩ := parts_of (he d') hp
  exact ⟨l, by simp [List.flatMap_def], by simpa using hl, hl2⟩

theorem i64_of {m : Int} (h : IntKind.i64.min ≤ m ∧ m ≤ IntKind.i64.max) : -9223372036854775808 ≤ m ∧ m ≤ 9223372036854775807 := by simpa [IntKind.min, IntKind.max, IntKind.signed, IntKind.bits] using h
theorem u8_of {m : Int} (h : IntKind.u8.min ≤ m ∧ m ≤ IntKind.u8.max) : 0 ≤ m ∧ m < 256 := by simp [IntKind.min, IntKind.max, IntKind.signed, IntKind.bits] at h; omega

/-! arguments -/
variable {A : V}
theorem arg_int (hq : T t = some ⟨.int k, s, b, z⟩) (h : TypedV T t A) : ∃ m, A = .c (.int k m) ∧ k.min ≤ m ∧ m ≤ k.max := by
  obtain ⟨d, h⟩ := h
  simp only [hq, TK.agg, Bool.false_eq_true, if_false] at h
  obtain ⟨c, rfl, h⟩ := h
  obtain ⟨m, h1, h2⟩ := typed_int hq h
  simp only [List.cons.injEq, and_true] at h1
  subst h1
  exact ⟨m, rfl, h2⟩
theorem arg_bool (hq : T t = some ⟨.bool, s, b, z⟩) (h : TypedV T t A) : ∃ m, A = .c (.bool m) := by
  obtain ⟨d, h⟩ := h
  simp only [hq, TK.agg, Bool.false_eq_true, if_false] at h
  obtain ⟨c, rfl, h⟩ := h
  obtain ⟨m, h1⟩ := typed_bool hq h
  simp only [List.cons.injEq, and_true] at h1
  subst h1
  exact ⟨m, rfl⟩
theorem arg_str (hq : T t = some ⟨.str, s, b, z⟩) (h : TypedV T t A) : ∃ l : List UInt8, A = .c (.str l) ∧ l.length ≤ maxLen := by
  obtain ⟨d, h⟩ := h
  simp only [hq, TK.agg, Bool.false_eq_true, if_false] at h
  obtain ⟨c, rfl, h⟩ := h
  obtain ⟨m, h1, h2⟩ := typed_str hq h
  simp only [List.cons.injEq, and_true] at h1
  subst h1
  exact ⟨m, rfl, h2⟩
theorem arg_slice_of {α : Type} {en : α → List C} {Q : α → Prop} (hq : T t = some ⟨.slice e, s, b, z⟩) (he : ∀ d p, Typed T d e p → ∃ a, p = en a ∧ Q a) (h : TypedV T t A) : ∃ l : List α, A = .c (.sl l.length (l.flatMap en)) ∧ l.length ≤ maxLen ∧ ∀ a ∈ l, Q a := by
  obtain ⟨d, h⟩ := h
  simp only [hq, TK.agg, Bool.false_eq_true, if_false] at h
  obtain ⟨c, rfl, h⟩ := h
  obtain ⟨l, h1, h2, h3⟩ := typed_slice_of hq he h
  simp only [List.cons.injEq, and_true] at h1
  subst h1
  exact ⟨l, rfl, h2, h3⟩
theorem arg_agg {ti : TI} (hq : T t = some ti) (ha : ti.k.agg = true) (h : TypedV T t A) : ∃ d ks, A = .agg ks ∧ Typed T d t ks := by
  obtain ⟨d, h⟩ := h
  simp only [hq, ha, if_true] at h
  obtain ⟨ks, h1, h2⟩ := h
  exact ⟨d, ks, h1, h2⟩

theorem flatMap_ints (k : IntKind) (l : List Int) : l.flatMap (fun n => [C.int k n]) = ints k l := by
  induction l with
  | nil => rfl
  | cons x l ih => rw [List.flatMap_cons, ih]; rfl
theorem arg_ints (hq : T t = some ⟨.slice e, s, b, z⟩) {s' b' : Nat} {z' : List X} (he : T e = some ⟨.int k, s', b', z'⟩) (h : TypedV T t A) : ∃ l : List Int, A = .c (.sl l.length (ints k l)) ∧ l.length ≤ maxLen ∧ ∀ a ∈ l, k.min ≤ a ∧ a ≤ k.max := by
  obtain ⟨l, h1, h2, h3⟩ := arg_slice_of (en := fun n : Int => [C.int k n]) (Q := fun a => k.min ≤ a ∧ a ≤ k.max) hq (fun d p hp => by
    obtain ⟨m, q1, q2⟩ := typed_int he hp
    exact ⟨m, q1, q2⟩) h
  exact ⟨l, by rw [h1, flatMap_ints], h2, h3⟩
end
end Fen

/- Part 45: blocks at the heap's end that nothing names any more are forgotten. -/
namespace Fen
open Go Go.RowKit

mutual
theorem RelX.cut {g : Gh} {h ex : List Blk} : ∀ (x : X) (v : Value), refsX h.length x → RelX g (h ++ ex) x v → RelX g h x v
  | .dead, _, _, _ => by simp only [RelX]
  | .val _, _, _, r => by simpa only [RelX] using r
  | .agg _, _, _, r => by simpa only [RelX] using r
  | .nil, _, _, r => by simpa only [RelX] using r
  | .ex _ _ _, _, _, r => by simpa only [RelX] using r
  | .fptr _, _, _, r => by simpa only [RelX] using r
  | .recd xs, _, k, r => by
    simp only [RelX] at r ⊢
    simp only [refsX] at k
    obtain ⟨vs, rfl, r, ho⟩ := r
    exact ⟨vs, rfl, RelXs.cut xs vs k r, ho⟩
  | .tup xs, _, k, r => by
    simp only [RelX] at r ⊢
    simp only [refsX] at k
    obtain ⟨vs, rfl, r⟩ := r
    exact ⟨vs, rfl, RelXs.cut xs vs k r⟩
  | .clos f xs, _, k, r => by
    simp only [RelX] at r ⊢
    simp only [refsX] at k
    obtain ⟨vs, rfl, r⟩ := r
    exact ⟨vs, rfl, RelXs.cut xs vs k r⟩
  | .ifb c x, v, k, r => by
    simp only [RelX] at r ⊢
    simp only [refsX] at k
    exact ⟨fun hc => RelX.cut x v k (r.1 hc), r.2⟩
  | .ref id ver, _, k, r => by
    simp only [RelX] at r ⊢
    simp only [refsX] at k
    rwa [List.getElem?_append_left k] at r
  | .view id ver off n, _, k, r => by
    simp only [RelX] at r ⊢
    simp only [refsX] at k
    rwa [List.getElem?_append_left k] at r
  | .ptr id ver off, _, k, r => by
    simp only [RelX] at r ⊢
    simp only [refsX] at k
    rwa [List.getElem?_append_left k] at r
  | .yld id, _, k, r => by
    simp only [RelX] at r ⊢
    simp only [refsX] at k
    rwa [List.getElem?_append_left k] at r
  | .mp id, _, k, r => by
    simp only [RelX] at r ⊢
    simp only [refsX] at k
    rwa [List.getElem?_append_left k] at r
theorem RelXs.cut {g : Gh} {h ex : List Blk} : ∀ (xs : List X) (vs : List Value), refsXs h.length xs → RelXs g (h ++ ex) xs vs → RelXs g h xs vs
  | [], _, _, r => by simpa only [RelXs] using r
  | x :: xs, _, k, r => by
    simp only [RelXs] at r ⊢
    simp only [refsXs] at k
    obtain ⟨u, us, rfl, h1, h2⟩ := r
    exact ⟨u, us, rfl, RelX.cut x u k.1 h1, RelXs.cut xs us k.2 h2⟩
end

def refsR (n : Nat) : List (Nat × X) → Prop
  | [] => True
  | (_, x) :: l => refsX n x ∧ refsR n l
theorem refsR_at {n : Nat} : ∀ {r : List (Nat × X)}, refsR n r → ∀ t, refsX n (lk r t)
  | [], _, t => by simp [lk, refsX]
  | (k, x) :: l, h, t => by
    simp only [lk]
    split
    · exact h.1
    · exact refsR_at h.2 t

/-- THE BLOCKS BEHIND h ARE FORGOTTEN -/
theorem Weak.drop {bs : Base} {n : Nat} {h ex : List Blk} {r r' : List (Nat × X)} (hc : ClosedH h) (hl : bs.h0.length ≤ h.length) (hr : keepR r r') (hx : refsR h.length r') : Weak bs ⟨n, r, h ++ ex⟩ ⟨n, r', h⟩ := by
  intro a w R
  obtain ⟨g, R⟩ := Weak.keep hr a w R
  have at_ : ∀ {id : Nat} {b : Blk}, h[id]? = some b → (h ++ ex)[id]? = some b := fun {id b} e => by rw [List.getElem?_append_left (lt_of_get e)]; exact e
  refine ⟨g, ⟨R.ext.S, fun id b hb => ?_, R.ext.marks⟩, ?_, R.defers, R.size, fun t => RelX.cut _ _ (refsR_at hx t) (R.slot t)⟩
  · obtain ⟨b', h1, h2⟩ := R.ext.blk id b hb
    rw [List.getElem?_append_left (Nat.lt_of_lt_of_le (lt_of_get hb) hl)] at h1
    exact ⟨b', h1, h2⟩
  · have H := R.heap
    refine ⟨H.stable, fun id b hb => ?_, fun i j hi hj => H.inj i j (Nat.lt_of_lt_of_le hi (by simp)) (Nat.lt_of_lt_of_le hj (by simp)), fun i hi => H.loc i (Nat.lt_of_lt_of_le hi (by simp)), H.os, H.tape, H.output, H.size, H.frame, H.stab, H.gl, H.marks⟩
    have hB := H.blk id b (at_ hb)
    have hk := hc id b hb
    cases b with
    | box ty cells =>
      obtain ⟨h1, h2, h3, cs, h4, h5⟩ := hB
      exact ⟨h1, h2, h3, cs, h4, RelXs.cut _ _ hk h5⟩
    | sl => exact hB
    | slx ty v sz n cells =>
      obtain ⟨h1, h2, h3⟩ := hB
      refine ⟨h1, h2, ?_⟩
      rcases h3 with h3 | ⟨a1, a2, cap, cur, a3, a4, a5, a6, a7, a8, a9⟩
      · exact .inl h3
      · exact .inr ⟨a1, a2, cap, cur, a3, a4, a5, a6, a7, RelXs.cut _ _ hk a8, a9⟩
    | obj => exact hB
    | mp => exact hB
    | sb => exact hB
    | gone => exact hB
    | hid => exact hB

/-- slots kept, and taken out of what a guard laid round them -/
def keepS (r : List (Nat × X)) : List (Nat × X) → Prop
  | [] => True
  | (k, x) :: l => (strip (lk r k)).1 = true ∧ keepX x (strip (lk r k)).2 ∧ keepS r l
theorem keepS_ok {g : Gh} {h : List Blk} {r : List (Nat × X)} {f : Nat → Value} (hs : ∀ t, RelX g h (lk r t) (f t)) : ∀ {r' : List (Nat × X)}, keepS r r' → ∀ t, RelX g h (lk r' t) (f t)
  | [], _, t => by simp [lk, RelX]
  | (k, x) :: l, q, t => by
    simp only [lk]
    split
    · rename_i e; subst e; exact keepX_ok q.2.1 (strip_ok (hs _) q.1)
    · exact keepS_ok hs q.2.2 t
theorem Weak.strip {bs : Base} {n : Nat} {h : List Blk} {r r' : List (Nat × X)} (hr : keepS r r') : Weak bs ⟨n, r, h⟩ ⟨n, r', h⟩ := by
  rintro a w ⟨g, R⟩
  exact ⟨g, R.ext, R.heap, R.defers, R.size, fun t => keepS_ok R.slot hr t⟩
/-- .. and the blocks behind h forgotten -/
theorem Weak.dropS {bs : Base} {n : Nat} {h ex : List Blk} {r : List (Nat × X)} (r' : List (Nat × X)) (hc : ClosedH h) (hl : bs.h0.length ≤ h.length) (hr : keepS r r') (hx : refsR h.length r') (hk : keepR r' r') : Weak bs ⟨n, r, h ++ ex⟩ ⟨n, r', h⟩ := Weak.trans (Weak.strip hr) (Weak.drop hc hl hk hx)
@[simp] theorem keepS_nil (r : List (Nat × X)) : keepS r [] = True := rfl
@[simp] theorem keepS_cons (r : List (Nat × X)) (k : Nat) (x : X) (l : List (Nat × X)) : keepS r ((k, x) :: l) = ((strip (lk r k)).1 = true ∧ keepX x (strip (lk r k)).2 ∧ keepS r l) := rfl
@[simp] theorem gdE_no (q : Option Bool) : gdE none q = none := by cases q <;> rfl

/-- an operation at a weaker state -/
theorem OpW.weak {P : Program} {bs : Base} {ops : Array Oper} {o : Oper} {st st' : St} {K : St → Prop} (hw : Weak bs st st') (h : OpW P bs ops o st' K) : OpW P bs ops o st K := fun a w Q R => h a w Q (hw a w R)
theorem wpc_weak {E : Env} (hE : E.OK) (hm : E.P.follows .mixedOrders = true) {c : Code} {Q : Exit → St → Prop} {st st' : St} (hw : Weak E.bs st st') (h : wpc E c Q st') : AWP E.P E.bs c Q st := fun a w R => wpc_ok hE hm c Q st' h a w (hw a w R)

section
variable (n id ver off k : Nat) (cs : List C) (xs : List X) (x : X) (f : FuncId) (b : Bool) (ty : TypeId) (l : List Blk) (h : List Blk)
@[simp] theorem refsX_dead : refsX n .dead = True := by simp [refsX]
@[simp] theorem refsX_val (c : C) : refsX n (.val c) = True := by simp [refsX]
@[simp] theorem refsX_agg : refsX n (.agg cs) = True := by simp [refsX]
@[simp] theorem refsX_nil : refsX n .nil = True := by simp [refsX]
@[simp] theorem refsX_ex : refsX n (.ex off k cs) = True := by simp [refsX]
@[simp] theorem refsX_fptr : refsX n (.fptr cs) = True := by simp [refsX]
@[simp] theorem refsX_tup : refsX n (.tup xs) = refsXs n xs := by simp [refsX]
@[simp] theorem refsX_recd : refsX n (.recd xs) = refsXs n xs := by simp [refsX]
@[simp] theorem refsX_clos : refsX n (.clos f xs) = refsXs n xs := by simp [refsX]
@[simp] theorem refsX_ifb : refsX n (.ifb b x) = refsX n x := by simp [refsX]
@[simp] theorem refsX_ref : refsX n (.ref id ver) = (id < n) := by simp [refsX]
@[simp] theorem refsX_view : refsX n (.view id ver off k) = (id < n) := by simp [refsX]
@[simp] theorem refsX_ptr : refsX n (.ptr id ver off) = (id < n) := by simp [refsX]
@[simp] theorem refsX_yld : refsX n (.yld id) = (id < n) := by simp [refsX]
@[simp] theorem refsX_mp : refsX n (.mp id) = (id < n) := by simp [refsX]
@[simp] theorem refsXs_nil : refsXs n [] = True := by simp [refsXs]
@[simp] theorem refsXs_cons : refsXs n (x :: xs) = (refsX n x ∧ refsXs n xs) := by simp [refsXs]
@[simp] theorem refsXs_map : ∀ cs : List C, refsXs n (cs.map X.val) = True
  | [] => by simp
  | c :: cs => by simp [refsXs_map cs]
@[simp] theorem refsR_nil : refsR n [] = True := rfl
@[simp] theorem refsR_cons (r : List (Nat × X)) : refsR n ((k, x) :: r) = (refsX n x ∧ refsR n r) := rfl
@[simp] theorem refsB_box : refsB n (.box ty xs) = refsXs n xs := rfl
@[simp] theorem refsB_sl (p : Bool) (sz m : Nat) : refsB n (.sl ty ver p sz m cs) = True := rfl
@[simp] theorem refsB_slx (sz m : Nat) : refsB n (.slx ty ver sz m xs) = refsXs n xs := rfl
@[simp] theorem refsB_obj (o : Loop) : refsB n (.obj o) = True := rfl
@[simp] theorem refsB_mp (a b : IntKind) (es : List (Int × Int)) : refsB n (.mp a b es) = True := rfl
@[simp] theorem refsB_sb (a b : Nat) (es : List C) : refsB n (.sb a b es) = True := rfl
@[simp] theorem refsB_gone : refsB n (.gone cs) = True := rfl
@[simp] theorem refsB_hid : refsB n .hid = True := rfl
@[simp] theorem allB_nil : allB n [] = True := rfl
@[simp] theorem allB_cons (q : Blk) : allB n (q :: l) = (refsB n q ∧ allB n l) := rfl
end

/-- a contract, and records with parts of the private heap are built as such where it is listed -/
def liveOf (s : Spec) : Spec := { s with live := true }
def nilsOf (s : Spec) : Spec := { s with nils := true }
@[simp] theorem nilsOf_pre (s : Spec) : (nilsOf s).pre = s.pre := rfl
@[simp] theorem nilsOf_res (s : Spec) : (nilsOf s).res = s.res := rfl
@[simp] theorem nilsOf_hp (s : Spec) : (nilsOf s).hp = s.hp := rfl
theorem Sound.nils {P : Program} {gl : Gl} {f : FuncId} {s : Spec} (h : Sound P gl f s) : Sound P gl f (nilsOf s) := h
def frozOf (s : Spec) : Spec := { s with froz := true }
@[simp] theorem frozOf_pre (s : Spec) : (frozOf s).pre = s.pre := rfl
@[simp] theorem frozOf_res (s : Spec) : (frozOf s).res = s.res := rfl
@[simp] theorem frozOf_hp (s : Spec) : (frozOf s).hp = s.hp := rfl
theorem Sound.froz {P : Program} {gl : Gl} {f : FuncId} {s : Spec} (h : Sound P gl f s) : Sound P gl f (frozOf s) := h
@[simp] theorem liveOf_pre (s : Spec) : (liveOf s).pre = s.pre := rfl
@[simp] theorem liveOf_res (s : Spec) : (liveOf s).res = s.res := rfl
@[simp] theorem liveOf_hp (s : Spec) : (liveOf s).hp = s.hp := rfl
theorem Sound.live {P : Program} {gl : Gl} {f : FuncId} {s : Spec} (h : Sound P gl f s) : Sound P gl f (liveOf s) := h
end Fen

/- Part 46: a function with two contracts: by value at some arguments and heaps, on the heap at others. -/
namespace Fen
open Go Go.RowKit

theorem Sound.onHeap {P : Program} {gl : Gl} {k : FuncId} {s : Spec} (hs : Sound P gl k s) {h : List Blk} {xs : List X} {e : Eff} (he : opCallS s false h xs xs = some e) (hp : e.pre) : OnHeap P gl k xs h fun x h' => x = e.x ∧ h' = e.h := by
  intro bs g w vs hgl H r
  subst hgl
  refine (callS_sound hs H r r he hp).mono ?_
  rintro en w' ⟨v, rfl, g', E, H', rx⟩
  exact ⟨v, e.x, e.h, g', rfl, ⟨rfl, rfl⟩, E, H', rx⟩

/-- where p says so by value, else on the heap -/
def twoE (s : Spec) (hs : HS) (p : List X → List Blk → Bool) (xs : List X) (h : List Blk) : Prop × X × List Blk :=
  if p xs h = true then (match opCallS s false h xs xs with | some e => (e.pre, e.x, e.h) | none => (False, .dead, h)) else ((hs.eff xs h).1, (hcEff hs xs h).x, (hcEff hs xs h).h)
def twoHS (s : Spec) (hs : HS) (p : List X → List Blk → Bool) : HS := { wr := true, eff := twoE s hs p }

theorem Sound.two {P : Program} {gl : Gl} {k : FuncId} {s t : Spec} {hs : HS} (h1 : Sound P gl k s) (h2 : Sound P gl k t) (ht : t.hp = some hs) (p : List X → List Blk → Bool) {pre : List V → Prop} {res : List V → RV} :
    Sound P gl k { pre := pre, res := res, hp := some (twoHS s hs p) } := by
  refine ⟨h1.1, fun h => (by cases h), fun hs' hhs xs h hpre => ?_⟩
  cases hhs
  have hx : ∀ xs h, (hcEff (twoHS s hs p) xs h).x = ((twoHS s hs p).eff xs h).2.1 := fun _ _ => rfl
  have hh : ∀ xs h, (hcEff (twoHS s hs p) xs h).h = ((twoHS s hs p).eff xs h).2.2 := fun _ _ => rfl
  by_cases q : p xs h = true
  · simp only [twoHS, twoE, if_pos q] at hpre
    cases he : opCallS s false h xs xs with
    | none => rw [he] at hpre; exact hpre.elim
    | some e =>
      rw [he] at hpre
      have := h1.onHeap he hpre
      simp only [hx, hh]
      simp only [twoHS, twoE, if_pos q, he]
      exact this
  · simp only [twoHS, twoE, if_neg q] at hpre
    have := h2.2.2 hs ht xs h hpre
    simp only [hx, hh]
    simp only [twoHS, twoE, if_neg q]
    exact this
end Fen

/- Part 47: at a loop, what is not wanted any more is left behind. -/
namespace Fen
open Go Go.RowKit

/-- a slot found, by proofs (not by reduction: the kernel then need not unfold) -/
theorem lk_hd (k : Nat) (x : X) (l : List (Nat × X)) : lk ((k, x) :: l) k = x := by rw [lk, if_pos rfl]
theorem lk_ne {k t : Nat} (h : ¬ k = t) (x : X) (l : List (Nat × X)) : lk ((k, x) :: l) t = lk l t := by rw [lk, if_neg h]
theorem lk_no (t : Nat) : lk [] t = .dead := by rw [lk]

def trimR (r : List (Nat × X)) : List Nat → List (Nat × X)
  | [] => []
  | k :: ks => (k, lk r k) :: trimR r ks
@[simp] theorem trimR_nil (r : List (Nat × X)) : trimR r [] = [] := rfl
@[simp] theorem trimR_cons (r : List (Nat × X)) (k : Nat) (ks : List Nat) : trimR r (k :: ks) = (k, lk r k) :: trimR r ks := rfl
theorem keepR_trim (r : List (Nat × X)) : ∀ ks, keepR r (trimR r ks)
  | [] => trivial
  | k :: ks => ⟨by simp, keepR_trim r ks⟩
theorem Weak.trim {bs : Base} {n : Nat} {r : List (Nat × X)} {h : List Blk} (hh : bs.h0 = []) (ks : List Nat) (m : Nat) (h1 : allB (h.take m).length (h.take m)) (h2 : refsR (h.take m).length (trimR r ks)) : Weak bs ⟨n, r, h⟩ ⟨n, trimR r ks, h.take m⟩ := by
  have e : h = h.take m ++ h.drop m := (List.take_append_drop m h).symm
  have := Weak.drop (bs := bs) (n := n) (h := h.take m) (ex := h.drop m) (r := r) (r' := trimR r ks) (ClosedH.of h1) (by rw [hh]; simp) (keepR_trim r ks) h2
  rwa [← e] at this
def unrT (E : Env) (c : Code) (Q : Exit → St → Prop) (ks : List Nat) (m : Nat) : Nat → St → Prop
  | 0, _ => False
  | n + 1, st => allB (st.h.take m).length (st.h.take m) ∧ refsR (st.h.take m).length (trimR st.r ks) ∧ wpc E c (thenA (unrT E c Q ks m n) Q) ⟨st.n, trimR st.r ks, st.h.take m⟩
@[simp] theorem unrT_succ (E : Env) (c : Code) (Q : Exit → St → Prop) (ks : List Nat) (m k n : Nat) (r : List (Nat × X)) (h : List Blk) : unrT E c Q ks m (k + 1) ⟨n, r, h⟩ = (allB (h.take m).length (h.take m) ∧ refsR (h.take m).length (trimR r ks) ∧ wpc E c (thenA (unrT E c Q ks m k) Q) ⟨n, trimR r ks, h.take m⟩) := by
  rw [unrT]
@[congr] theorem unrT_congr {E : Env} {c : Code} {Q : Exit → St → Prop} {ks : List Nat} {m n : Nat} {st st' : St} (h : st = st') : unrT E c Q ks m n st = unrT E c Q ks m n st' := by rw [h]
theorem AWP.trim {E : Env} (hE : E.OK) (hm : E.P.follows .mixedOrders = true) (ks : List Nat) (m N : Nat) (hh : E.bs.h0 = []) {c : Code} {Q : Exit → St → Prop} {st : St}
    (h : unrT E c Q ks m N st) : AWP E.P E.bs (.loop c) Q st :=
  AWP.loop (unrT E c Q ks m) (n := N) (fun n st hI => by
    cases n with
    | zero => exact hI.elim
    | succ n =>
      obtain ⟨h1, h2, h3⟩ := hI
      refine AWP.weaken (Weak.trim hh ks m h1 h2) ((wpc_ok hE hm c _ _ h3).mono fun e st' q => ?_)
      cases e with
      | normal => exact ⟨n, Nat.lt_succ_self n, fun a w R => ⟨st', q, R⟩⟩
      | _ => exact q) h

/-- a loop that is left at one place alone, in a state of known form: what follows does not enter its proof -/
def Leaves (bs : Base) (id : Nat) (S : St) (e : Exit) (st : St) : Prop := e = .exit id ∧ Weak bs st S
theorem Leaves.mk {bs : Base} {id : Nat} {S st : St} (h : Weak bs st S) : Leaves bs id S (.exit id) st := ⟨rfl, h⟩
@[congr] theorem Leaves_congr {bs : Base} {id : Nat} {S : St} {e : Exit} {st st' : St} (h : st = st') : Leaves bs id S e st = Leaves bs id S e st' := by rw [h]
theorem AWP.leaves {P : Program} {bs : Base} {c : Code} {Q : Exit → St → Prop} {st : St} (id : Nat) (S : St) (h : AWP P bs c (Leaves bs id S) st) (k : Q (.exit id) S) : AWP P bs c Q st :=
  fun a w R => wpIn_mono (h a w R) fun e a' w' ⟨st', q, r⟩ => ⟨S, q.1 ▸ k, q.2 _ _ r⟩
end Fen

/- Part 48: a region that draws its order, where two operations that change the heap are not put in order with each other. -/
namespace Fen
open Go Go.RowKit

section
variable {E : Env} {ops : Array Oper} {st st' : St} {es : List Eff}

/-- the state in the midst -/
def midL (st : St) (l : List Oper) (es : List Eff) (D : Nat → Bool) : St := ⟨st.n, midR st.r l es D 0, midH st.h l es D 0⟩

theorem list_step (hE : E.OK) {l : List Oper} (tr : Trace E ops l st es st') {Q : Exit → Act → World → Prop} {D : Nat → Bool}
    {p i : Nat} {o : Oper} (ho : ops[p]? = some o) (ho' : l[i]? = some o)
    (side : ∀ k ok, l[k]? = some ok → (k < i → (ok.apart ops o = true ∧ clashI (accAt (infoL E l st es) k) (accAt (infoL E l st es) i) = false) → False) →
      (i < k → (o.apart ops ok = true ∧ clashI (accAt (infoL E l st es) i) (accAt (infoL E l st es) k) = false) → False) → D k = decide (k < i))
    (dcl : ∀ j j' ej ej', j < j' → es[j]? = some ej → es[j']? = some ej' → ej.acc = .write → ej'.acc = .write → D j' = true → D j = true)
    {a : Act} {w : World} (R : Rel E.bs (midL st l es D) a w) {K : Act → World → Prop}
    (hK : ∀ a' w', Rel E.bs (midL st l es (fun k => D k || k == i)) a' w' → K a' w') : wpOpIn (fen E.bs.ro) 0 E.P ops Q p K a w := by
  obtain ⟨e, hes, hdst, hp, hg, hI⟩ := tr.at 0 i o ho'
  simp only [Nat.zero_add] at hg hI
  -- the word of each
  have word : ∀ k ek, k < l.length → es[k]? = some ek → (ek.acc = .write → accAt (infoL E l st es) k = .write ∨ ∃ b n, accAt (infoL E l st es) k = .grow b n) := fun k ek hk hek hw => by
    obtain ⟨e', h1, _, _, _, h5⟩ := tr.at 0 k l[k] (by simp [hk])
    rw [h1] at hek; cases hek
    rw [h5]; exact accI_write hw
  have lenE := tr.length
  have writers : ∀ t, t ∈ o.looksAt ops ∨ o.dst = some t → ∀ j oj, l[j]? = some oj → oj.dst = some t → D (0 + j) = decide (j < i) := fun t ht j oj hj hdj => by
    rw [Nat.zero_add]
    refine side j oj (by simpa using hj) (fun _ hap => ?_) (fun _ hap => ?_)
    · obtain ⟨s1, s2, s3⟩ := Oper.apart_spec hap.1
      rcases ht with ht | ht
      · exact s1 t hdj ht
      · exact s2 t hdj ht
    · obtain ⟨s1, s2, s3⟩ := Oper.apart_spec hap.1
      rcases ht with ht | ht
      · exact s3 t hdj ht
      · exact s2 t ht hdj
  -- the operation, at the state in the midst
  have hg2 : opG E.T E.G E.bs.gl ops o (midR st.r l es D 0) (midH st.h l es (fun j => decide (j < i)) 0) = some e := by
    rw [← hg]
    refine opG_congr fun t ht => midR_congr (fun j oj hj hdj => ?_) rfl
    rw [writers t (.inl ht) j oj hj hdj]; simp
  have sideW : ∀ j ej, es[j]? = some ej → j < l.length → (clashI (accAt (infoL E l st es) j) (accAt (infoL E l st es) i) = false → False) → (clashI (accAt (infoL E l st es) i) (accAt (infoL E l st es) j) = false → False) → D j = decide (j < i) := fun j ej hej hjs c1 c2 =>
    side j l[j] (List.getElem?_eq_getElem hjs) (fun _ hap => c1 hap.2) (fun _ hap => c2 hap.2)
  have heapW : (e.acc = .write ∨ (e.acc = .read ∧ accAt (infoL E l st es) i = .read)) → midH st.h l es (fun j => decide (j < i)) 0 = midH st.h l es D 0 := fun hacc => by
    refine midH_congr fun j ej hj hej hw => ?_
    have hjs : j < l.length := by simpa using hj
    have wj := word j ej hjs hej hw
    rw [Nat.zero_add]
    symm
    rcases hacc with hacc | ⟨_, hacc⟩
    · have wi : accAt (infoL E l st es) i = .write ∨ ∃ b n, accAt (infoL E l st es) i = .grow b n := by rw [hI]; exact accI_write hacc
      exact sideW j ej hej hjs (fun c => by rw [clash_ww wj wi] at c; cases c) (fun c => by rw [clash_ww wi wj] at c; cases c)
    · obtain ⟨c1, c2⟩ := clash_wr wj hacc
      exact sideW j ej hej hjs (fun c => by rw [c1] at c; cases c) (fun c => by rw [c2] at c; cases c)
  have heapP : ∀ id, accAt (infoL E l st es) i = .peek id → (midH st.h l es D 0)[id]? = (midH st.h l es (fun j => decide (j < i)) 0)[id]? := fun id hpk => by
    obtain ⟨m, hm, hcut⟩ := cut_at dcl l.length
    have hDm : midH st.h l es D 0 = midH st.h l es (fun j => decide (j < m)) 0 := midH_congr fun j ej hj hej hw => by
      rw [Nat.zero_add]; exact hcut j ej (by simpa using hj) hej hw
    rw [hDm]
    have hi : i < l.length := (List.getElem?_eq_some_iff.1 ho').1
    -- one place further
    have one : ∀ j, j < l.length → (∀ ej, es[j]? = some ej → ej.acc = .write → D j ≠ decide (j < i)) → (midH st.h l es (fun k => decide (k < j + 1)) 0)[id]? = (midH st.h l es (fun k => decide (k < j)) 0)[id]? := fun j hj hne => by
      obtain ⟨ej, h1, _, _, h4, h5⟩ := tr.at 0 j l[j] (by simp [hj])
      simp only [Nat.zero_add] at h4 h5
      by_cases hw : ej.acc = .write
      · have wj := word j ej hj h1 hw
        have hcl2 : clashI (accAt (infoL E l st es) j) (accAt (infoL E l st es) i) = false ∨ clashI (accAt (infoL E l st es) i) (accAt (infoL E l st es) j) = false := by
          refine Classical.byContradiction fun hno => hne ej h1 hw ?_
          exact sideW j ej h1 hj (fun c => hno (.inl c)) (fun c => hno (.inr c))
        obtain ⟨b, n, hgw, hid, hb⟩ := clash_wp wj hpk hcl2
        rw [h5] at hgw
        have hadd : midH st.h l es (fun k => decide (k < j + 1)) 0 = ej.h := midH_add (i := j) (oi := l[j]) (by simp [hj]) h1 hw (by simp) (fun k ek hk hek hwk hjk => by simp; omega)
        rw [hadd]
        exact opG_grow h4 hgw id hid hb
      · rw [midH_congr (D := fun k => decide (k < j + 1)) (D' := fun k => decide (k < j)) fun k ek hk hek hwk => ?_]
        have : k ≠ j := by rintro rfl; rw [h1] at hek; cases hek; exact hw hwk
        rw [Nat.zero_add, decide_eq_decide]; omega
    rcases Nat.lt_or_ge m i with hmi | hmi
    · have go : ∀ d, m + d ≤ i → (midH st.h l es (fun k => decide (k < m + d)) 0)[id]? = (midH st.h l es (fun k => decide (k < m)) 0)[id]? := fun d => by
        induction d with
        | zero => intro _; rfl
        | succ d ih =>
          intro hd2
          rw [← ih (by omega), ← Nat.add_assoc]
          refine one (m + d) (by omega) fun ej hej hw => ?_
          rw [hcut (m + d) ej (by omega) hej hw]
          have h1 : decide (m + d < m) = false := by simp
          have h2 : decide (m + d < i) = true := by simp; omega
          rw [h1, h2]; simp
      have := go (i - m) (by omega)
      rw [show m + (i - m) = i by omega] at this
      exact this.symm
    · have go : ∀ d, i + d ≤ m → (midH st.h l es (fun k => decide (k < i + d)) 0)[id]? = (midH st.h l es (fun k => decide (k < i)) 0)[id]? := fun d => by
        induction d with
        | zero => intro _; rfl
        | succ d ih =>
          intro hd2
          rw [← ih (by omega), ← Nat.add_assoc]
          refine one (i + d) (by omega) fun ej hej hw => ?_
          rw [hcut (i + d) ej (by omega) hej hw]
          have h1 : decide (i + d < i) = false := by simp
          have h2 : decide (i + d < m) = true := by simp; omega
          rw [h1, h2]; simp
      have := go (m - i) (by omega)
      rw [show i + (m - i) = m by omega] at this
      exact this
  obtain ⟨e2, hg3, hx, hpr, hacc2, hh⟩ : ∃ e2, opG E.T E.G E.bs.gl ops o (midR st.r l es D 0) (midH st.h l es D 0) = some e2 ∧ e2.x = e.x ∧ e2.pre = e.pre ∧ e2.acc = e.acc ∧ (e.acc = .write → e2.h = e.h) := by
    cases hpure : e.acc with
    | pure =>
      have := (opG_acc hg2).2 hpure (midH st.h l es D 0)
      exact ⟨_, this, rfl, rfl, rfl, fun hw => by cases hw⟩
    | write =>
      rw [heapW (.inl hpure)] at hg2
      exact ⟨e, hg2, rfl, rfl, hpure, fun _ => rfl⟩
    | read =>
      rcases (hI ▸ accI_read hpure : accAt (infoL E l st es) i = .read ∨ ∃ id, accAt (infoL E l st es) i = .peek id) with hr | ⟨id, hr⟩
      · rw [heapW (.inr ⟨hpure, hr⟩)] at hg2
        exact ⟨e, hg2, rfl, rfl, hpure, fun hw => by cases hw⟩
      · rw [hI] at hr
        have h1 := opG_peek hg hr (midH st.h l es D 0) (heapP id (by rw [hI]; exact hr))
        have h2 : opG E.T E.G E.bs.gl ops o (midR st.r l es D 0) (midH st.h l es D 0) = opG E.T E.G E.bs.gl ops o (midR st.r l es (fun j => decide (j < i)) 0) (midH st.h l es D 0) := opG_congr fun t ht => midR_congr (fun j oj hj hdj => by
          rw [writers t (.inl ht) j oj hj hdj]; simp) rfl
        rw [h1] at h2
        exact ⟨_, h2, rfl, rfl, hpure, fun hw => by cases hw⟩
  -- behind it
  have after : ∀ t, lk (putR o.dst e2.x (midR st.r l es D 0)) t = lk (midR st.r l es (fun k => D k || k == i) 0) t := fun t => by
    by_cases ht : o.dst = some t
    · rw [lk_put_eq ht, hx]
      symm
      refine midR_add (i := i) ho' hes ht (by simp) (fun j oj hj hdj hij => ?_)
      have := writers t (.inr ht) j oj hj hdj
      rw [Nat.zero_add] at this ⊢
      simp only [this]
      have h1 : decide (j < i) = false := by simp; omega
      have h2 : (j == i) = false := by simp; omega
      rw [h1, h2]; rfl
    · rw [lk_put_ne ht]
      refine midR_congr (fun j oj hj hdj => ?_) rfl
      have : j ≠ i := by rintro rfl; rw [ho'] at hj; cases hj; exact ht hdj
      simp [this]
  have hafter : e2.h = midH st.h l es (fun k => D k || k == i) 0 := by
    by_cases hw : e.acc = .write
    · rw [hh hw]
      symm
      refine midH_add (i := i) ho' hes hw (by simp) (fun j ej hj hej hwj hij => ?_)
      have hjs : j < l.length := by simpa using hj
      have wi : accAt (infoL E l st es) i = .write ∨ ∃ b n, accAt (infoL E l st es) i = .grow b n := by rw [hI]; exact accI_write hw
      have := side j l[j] (List.getElem?_eq_getElem hjs) (fun hlt _ => by omega) (fun _ hap => by
        have := hap.2
        rw [clash_ww wi (word j ej hjs hej hwj)] at this
        cases this)
      rw [Nat.zero_add]
      simp only [this]
      have h1 : decide (j < i) = false := by simp; omega
      have h2 : (j == i) = false := by simp; omega
      rw [h1, h2]; rfl
    · rw [(opG_acc hg3).1 (by rw [hacc2]; exact hw)]
      refine midH_congr fun j ej hj hej hwj => ?_
      have : j ≠ i := by rintro rfl; rw [hes] at hej; cases hej; exact hw hwj
      simp [this]
  obtain ⟨g, R⟩ := R
  have hd' : ∀ t, o.dst = some t → t < st.n := fun t ht => by rw [ht] at hdst; exact hdst
  have fin : ∀ v w', After E.bs g (midL st l es D).h e2 v w' → K (a.put o.dst v) w' := fun v w' A => by
    have := R.put A o.dst hd'
    refine hK _ _ ?_
    have q := Rel.congr (r' := midR st.r l es (fun k => D k || k == i) 0) after this
    rw [hafter] at q
    exact q
  have := opG_sound (Q := Q) hE.T hE.G R.heap R.ev R.slot hg3 (by rw [hpr]; exact hp)
  unfold wpOpIn
  rw [ho]
  simp only
  split at this
  · rename_i hw
    rw [if_pos hw]
    refine Oper.wpIn_mono (fun a' w' hq => ?_) this
    obtain ⟨v, rfl, A⟩ := hq
    exact fin v w' A
  · rename_i hw
    rw [if_neg hw]
    exact ⟨fun _ _ => trivial, fin undef w this⟩


theorem midR_ext : ∀ {l : List Oper} {es : List Eff} {D D' : Nat → Bool} {k : Nat} {r : List (Nat × X)}, (∀ j, j < l.length → D (k + j) = D' (k + j)) → midR r l es D k = midR r l es D' k
  | [], es, D, D', k, r, h => by cases es <;> rfl
  | o :: l, [], D, D', k, r, h => rfl
  | o :: l, e :: es, D, D', k, r, h => by
    have h0 := h 0 (by simp)
    rw [Nat.add_zero] at h0
    simp only [midR, h0]
    exact midR_ext fun j hj => by have := h (j + 1) (by simpa using hj); rwa [show k + 1 + j = k + (j + 1) from by omega]
theorem midL_ext {st : St} {l : List Oper} {es : List Eff} {D D' : Nat → Bool} (h : ∀ j, j < l.length → D j = D' j) : midL st l es D = midL st l es D' := by
  unfold midL
  rw [midR_ext (D := D) (D' := D') (fun j hj => by rw [Nat.zero_add]; exact h j hj), midH_congr (D := D) (D' := D') (fun j e hj _ _ => by rw [Nat.zero_add]; exact h j hj)]
theorem midR_app : ∀ {l1 l2 : List Oper} {e1 e2 : List Eff} {D : Nat → Bool} {k : Nat} {r : List (Nat × X)}, e1.length = l1.length → (∀ j, j < l2.length → D (k + l1.length + j) = false) → midR r (l1 ++ l2) (e1 ++ e2) D k = midR r l1 e1 D k
  | [], l2, [], e2, D, k, r, _, h => by
    have : midR r [] ([] : List Eff) D k = r := rfl
    rw [this]
    exact midR_none fun j hj => by simpa using h j hj
  | o :: l1, l2, e :: e1, e2, D, k, r, hl, h => by
    simp only [List.cons_append, midR]
    exact midR_app (by simpa using hl) fun j hj => by have := h j hj; rw [List.length_cons] at this; rwa [show k + 1 + l1.length + j = k + (l1.length + 1) + j from by omega]
theorem midH_app : ∀ {l1 l2 : List Oper} {e1 e2 : List Eff} {D : Nat → Bool} {k : Nat} {h : List Blk}, e1.length = l1.length → (∀ j, j < l2.length → D (k + l1.length + j) = false) → midH h (l1 ++ l2) (e1 ++ e2) D k = midH h l1 e1 D k
  | [], l2, [], e2, D, k, r, _, h => by
    have : midH r [] ([] : List Eff) D k = r := rfl
    rw [this]
    exact midH_none fun j e hj _ _ => by simpa using h j hj
  | o :: l1, l2, e :: e1, e2, D, k, r, hl, h => by
    simp only [List.cons_append, midH]
    exact midH_app (by simpa using hl) fun j hj => by have := h j hj; rw [List.length_cons] at this; rwa [show k + 1 + l1.length + j = k + (l1.length + 1) + j from by omega]

theorem Trace.split {l2 : List Oper} : ∀ {l1 : List Oper} {st st' : St} {es : List Eff}, Trace E ops (l1 ++ l2) st es st' → ∃ e1 e2 sm, es = e1 ++ e2 ∧ Trace E ops l1 st e1 sm ∧ Trace E ops l2 sm e2 st'
  | [], st, st', es, h => ⟨[], es, st, rfl, .nil st, h⟩
  | o :: l1, st, st', es, h => by
    rw [List.cons_append] at h
    cases h with
    | cons he hd hp ht =>
      obtain ⟨e1, e2, sm, rfl, h1, h2⟩ := Trace.split ht
      exact ⟨_ :: e1, e2, sm, rfl, .cons he hd hp h1, h2⟩
theorem Trace.det : ∀ {l : List Oper} {st s1 s2 : St} {e1 e2 : List Eff}, Trace E ops l st e1 s1 → Trace E ops l st e2 s2 → e1 = e2 ∧ s1 = s2
  | [], st, s1, s2, e1, e2, h1, h2 => by cases h1; cases h2; exact ⟨rfl, rfl⟩
  | o :: l, st, s1, s2, e1, e2, h1, h2 => by
    cases h1 with
    | cons he hd hp ht =>
      cases h2 with
      | cons he' hd' hp' ht' =>
        rw [he] at he'; cases he'
        obtain ⟨rfl, rfl⟩ := Trace.det ht ht'
        exact ⟨rfl, rfl⟩

/-! ### an order of one's own -/
def pick (ops : Array Oper) : List Nat → List Oper
  | [] => []
  | k :: ks => match ops[k]? with
    | some o => o :: pick ops ks
    | none => []
theorem pick_cons {k : Nat} {ks : List Nat} {o : Oper} (h : ops[k]? = some o) : pick ops (k :: ks) = o :: pick ops ks := by rw [pick, h]
theorem pick_at : ∀ {ks : List Nat}, (∀ k ∈ ks, k < ops.size) → ∀ m : Nat, (pick ops ks)[m]? = (ks[m]?).bind fun k => ops[k]?
  | [], _, m => by simp [pick]
  | k :: ks, h, m => by
    have hks : k < ops.size := h k (List.mem_cons_self ..)
    have hk : ops[k]? = some ops[k] := Array.getElem?_eq_getElem hks
    rw [pick_cons hk]
    cases m with
    | zero => simp [hk]
    | succ m => simpa using pick_at (fun q hq => h q (List.mem_cons_of_mem _ hq)) m
theorem pick_len : ∀ {ks : List Nat}, (∀ k ∈ ks, k < ops.size) → (pick ops ks).length = ks.length
  | [], _ => rfl
  | k :: ks, h => by
    rw [pick_cons (Array.getElem?_eq_getElem (h k (List.mem_cons_self ..)))]
    simp [pick_len (fun q hq => h q (List.mem_cons_of_mem _ hq))]
theorem pick_app : ∀ {k1 k2 : List Nat}, (∀ k ∈ k1 ++ k2, k < ops.size) → pick ops (k1 ++ k2) = pick ops k1 ++ pick ops k2
  | [], k2, _ => rfl
  | k :: k1, k2, h => by
    have hks : k < ops.size := h k (by simp)
    have hk : ops[k]? = some ops[k] := Array.getElem?_eq_getElem hks
    rw [List.cons_append, pick_cons hk, pick_cons hk, pick_app (fun q hq => h q (by simp at hq ⊢; exact .inr hq)), List.cons_append]

def posD (ord : List Nat) (D : Nat → Bool) (k : Nat) : Bool := match ord[k]? with
  | some q => D q
  | none => false
theorem posD_at {ord : List Nat} {D : Nat → Bool} {k q : Nat} (h : ord[k]? = some q) : posD ord D k = D q := by rw [posD, h]

/-- whatever is not put in order goes together, but for the two at places m and m + 1 -/
def drawOK2 (ops : Array Oper) (ord : List Nat) (m : Nat) (accs : List AccI) : Bool :=
  let b := befs ops.toList []
  ((List.range ops.size).all fun j => (match ops[j]? with | some o => o.after.toList.all (fun e => !Region.binds .any e || e.on < j) | none => false) && ord.contains j) &&
  ord.all (fun k => decide (k < ops.size)) &&
  ((List.range ord.length).all fun j => (List.range j).all fun i =>
    match ord[i]?, ord[j]? with
    | some p, some q => !Nat.beq p q && ((b.getD q 0).testBit p || ((match ops[p]?, ops[q]? with | some x, some y => x.apart ops y | _, _ => false) && !clashI (accAt accs i) (accAt accs j)) || (Nat.beq i m && Nat.beq j (m + 1)))
    | _, _ => false) &&
  ((List.range ord.length).all fun j => Nat.ble j (m + 1) || (match ord[j]?, ord[m]?, ord[m + 1]? with | some r, some p, some q => (b.getD r 0).testBit p || (b.getD r 0).testBit q | _, _, _ => false))

structure Two (ops : Array Oper) (ord : List Nat) (m : Nat) (accs : List AccI) : Prop where
  edge : ∀ (j : Nat) (o : Oper), ops[j]? = some o → ∀ e ∈ o.after.toList, Region.binds .any e = true → e.on < j
  all : ∀ j, j < ops.size → j ∈ ord
  lt : ∀ k ∈ ord, k < ops.size
  inj : ∀ i j p : Nat, i < j → ord[i]? = some p → ord[j]? = some p → False
  two : ∀ (i j p q : Nat) (x y : Oper), i < j → ord[i]? = some p → ord[j]? = some q → ops[p]? = some x → ops[q]? = some y →
    ((befs ops.toList []).getD q 0).testBit p = true ∨ (x.apart ops y = true ∧ clashI (accAt accs i) (accAt accs j) = false) ∨ (i = m ∧ j = m + 1)
  rest : ∀ j r : Nat, m + 1 < j → ord[j]? = some r → ∃ p q, ord[m]? = some p ∧ ord[m + 1]? = some q ∧ (((befs ops.toList []).getD r 0).testBit p = true ∨ ((befs ops.toList []).getD r 0).testBit q = true)

theorem Two.of {ord : List Nat} {m : Nat} {accs : List AccI} (h : drawOK2 ops ord m accs = true) : Two ops ord m accs := by
  unfold drawOK2 at h
  simp only [List.all_eq_true, List.mem_range, Bool.and_eq_true] at h
  obtain ⟨⟨⟨h1, h2⟩, h3⟩, h4⟩ := h
  refine ⟨fun j o ho e he hb => ?_, fun j hj => ?_, fun k hk => ?_, fun i j p hij hi hj => ?_, fun i j p q x y hij hi hj hx hy => ?_, fun j r hj hr => ?_⟩
  · have := (h1 j (Array.getElem?_eq_some_iff.1 ho).1).1
    rw [ho] at this
    simp only [List.all_eq_true] at this
    have := this e he
    simpa [hb] using this
  · simpa using (h1 j hj).2
  · simpa using h2 k hk
  · have := h3 j (List.getElem?_eq_some_iff.1 hj).1 i hij
    rw [hi, hj] at this
    simp at this
  · have := h3 j (List.getElem?_eq_some_iff.1 hj).1 i hij
    rw [hi, hj] at this
    simp only [hx, hy, Bool.and_eq_true, Bool.or_eq_true, Bool.not_eq_true', Nat.beq_eq] at this
    rcases this.2 with (h | h) | h
    · exact .inl h
    · exact .inr (.inl h)
    · exact .inr (.inr h)
  · have := h4 j (List.getElem?_eq_some_iff.1 hr).1
    rw [hr] at this
    simp only [Bool.or_eq_true, Nat.ble_eq] at this
    rcases this with this | this
    · omega
    · split at this
      · rename_i r' p q e1 e2 e3
        cases e1
        simp only [Bool.or_eq_true] at this
        exact ⟨p, q, e2, e3, this⟩
      · cases this

theorem two_step (hE : E.OK) {ord : List Nat} {m : Nat} (tr : Trace E ops (pick ops ord) st es st') (F : Two ops ord m (infoL E (pick ops ord) st es)) {Q : Exit → Act → World → Prop} {D : Nat → Bool}
    (hcl : ∀ j o, ops[j]? = some o → D j = true → ∀ e ∈ o.after.toList, Region.binds .any e = true → D e.on = true)
    {p : Nat} {o : Oper} (ho : ops[p]? = some o) (hDp : D p = false) (hpre : ∀ e ∈ o.after.toList, Region.binds .any e = true → D e.on = true) {i0 j0 : Nat} (hi : ord[m]? = some i0) (hj : ord[m + 1]? = some j0)
    (hq : D j0 = true ∨ p = j0 → D i0 = true) {a : Act} {w : World} (R : Rel E.bs (midL st (pick ops ord) es (posD ord D)) a w) {K : Act → World → Prop}
    (hK : ∀ a' w', Rel E.bs (midL st (pick ops ord) es (posD ord fun k => D k || k == p)) a' w' → K a' w') : wpOpIn (fen E.bs.ro) 0 E.P ops Q p K a w := by
  have hps : p < ops.size := (Array.getElem?_eq_some_iff.1 ho).1
  obtain ⟨i, hip⟩ : ∃ i, ord[i]? = some p := List.getElem?_of_mem (F.all p hps)
  have pat := pick_at F.lt
  have ho' : (pick ops ord)[i]? = some o := by rw [pat, hip]; exact ho
  have K1 : ∀ j, ((befs ops.toList []).getD p 0).testBit j = true → D j = true := fun j hj => bef_run ops D hcl F.edge p o ho hpre j hj
  have K2 : ∀ j oj, ops[j]? = some oj → D j = true → ((befs ops.toList []).getD j 0).testBit p = true → False := fun j oj hoj hDj hb => by
    have := bef_run ops D hcl F.edge j oj hoj (hcl j oj hoj hDj) p hb
    rw [hDp] at this; cases this
  have place : ∀ k ok, (pick ops ord)[k]? = some ok → ∃ q, ord[k]? = some q ∧ ops[q]? = some ok := fun k ok hok => by
    rw [pat] at hok
    cases hk : ord[k]? with
    | none => rw [hk] at hok; simp at hok
    | some q => rw [hk] at hok; exact ⟨q, by first | rfl | exact hk, by simpa using hok⟩
  have word : ∀ k ek, k < (pick ops ord).length → es[k]? = some ek → (ek.acc = .write → accAt (infoL E (pick ops ord) st es) k = .write ∨ ∃ b n, accAt (infoL E (pick ops ord) st es) k = .grow b n) := fun k ek hk hek hw => by
    obtain ⟨e', h1, _, _, _, h5⟩ := tr.at 0 k (pick ops ord)[k] (by simp [hk])
    rw [h1] at hek; cases hek
    rw [h5]; exact accI_write hw
  refine list_step hE tr ho ho' (fun k ok hok h1 h2 => ?_) (fun j j' ej ej' hjj hej hej' hw hw' hD => ?_) R (fun a' w' R' => hK a' w' ?_)
  · obtain ⟨q, hkq, hq'⟩ := place k ok hok
    rw [posD_at hkq]
    rcases Nat.lt_trichotomy k i with hlt | rfl | hgt
    · rcases F.two k i q p ok o hlt hkq hip hq' ho with hb | hb | ⟨rfl, rfl⟩
      · rw [K1 q hb]; simp [hlt]
      · exact (h1 hlt hb).elim
      · rw [hi] at hkq; cases hkq
        rw [hj] at hip; cases hip
        rw [hq (.inr rfl)]; simp
    · rw [hip] at hkq; cases hkq
      rw [hDp]; simp
    · rcases F.two i k p q o ok hgt hip hkq ho hq' with hb | hb | ⟨rfl, rfl⟩
      · have : D q = false := by
          cases hDk : D q with
          | false => rfl
          | true => exact (K2 q ok hq' hDk hb).elim
        rw [this]; simp; omega
      · exact (h2 hgt hb).elim
      · rw [hi] at hip; cases hip
        rw [hj] at hkq; cases hkq
        have : D j0 = false := by
          cases hDk : D j0 with
          | false => rfl
          | true => rw [hq (.inl hDk)] at hDp; cases hDp
        rw [this]; simp
  · have hlen := tr.length
    have hj's : j' < (pick ops ord).length := by have := (List.getElem?_eq_some_iff.1 hej').1; omega
    have hjs : j < (pick ops ord).length := by omega
    obtain ⟨q, hkq, hoq⟩ := place j _ (List.getElem?_eq_getElem hjs)
    obtain ⟨q', hkq', hoq'⟩ := place j' _ (List.getElem?_eq_getElem hj's)
    rw [posD_at hkq'] at hD
    rw [posD_at hkq]
    rcases F.two j j' q q' _ _ hjj hkq hkq' hoq hoq' with hb | hb | ⟨rfl, rfl⟩
    · exact bef_run ops D hcl F.edge q' _ hoq' (hcl q' _ hoq' hD) q hb
    · have := hb.2
      rw [clash_ww (word j ej hjs hej hw) (word j' ej' hj's hej' hw')] at this
      cases this
    · rw [hi] at hkq; cases hkq
      rw [hj] at hkq'; cases hkq'
      exact hq (.inl hD)
  · have : midL st (pick ops ord) es (fun k => posD ord D k || k == i) = midL st (pick ops ord) es (posD ord fun k => D k || k == p) := midL_ext fun k hk => by
      obtain ⟨q, hkq, _⟩ := place k _ (List.getElem?_eq_getElem hk)
      rw [posD_at hkq, posD_at hkq]
      congr 1
      by_cases c : k = i
      · subst c; rw [hip] at hkq; cases hkq; simp
      · have : q ≠ p := by
          rintro rfl
          rcases Nat.lt_or_gt_of_ne c with c | c
          · exact F.inj k i _ c hkq hip
          · exact F.inj i k _ c hip hkq
        have h1 : (k == i) = false := by simpa using c
        have h2 : (q == p) = false := by simpa using this
        rw [h1, h2]
    rw [← this]; exact R'

/-- any order, by a statement about what has run -/
theorem any_rule {F : Fence} {n : Nat} {P : Program} {Q : Exit → Act → World → Prop} (F1 : ∀ (j : Nat) (o : Oper), ops[j]? = some o → ∀ e ∈ o.after.toList, Region.binds .any e = true → e.on < j) (Inv : (Nat → Bool) → Act → World → Prop)
    (step : ∀ D p o, (∀ j o, ops[j]? = some o → D j = true → ∀ e ∈ o.after.toList, Region.binds .any e = true → D e.on = true) → ops[p]? = some o → D p = false → (∀ e ∈ o.after.toList, Region.binds .any e = true → D e.on = true) →
      ∀ a w, Inv D a w → ∀ K : Act → World → Prop, (∀ a' w', Inv (fun k => D k || k == p) a' w' → K a' w') → wpOpIn F n P ops Q p K a w)
    (fin : ∀ D a w, (∀ j, j < ops.size → D j = true) → Inv D a w → Q .normal a w) : ∀ (fuel : Nat) (listed : Array Bool) (a : Act) (w : World),
    listed.size = ops.size → listed.toList.count false ≤ fuel → (∀ j o, ops[j]? = some o → listed.getD j false = true → ∀ e ∈ o.after.toList, Region.binds .any e = true → listed.getD e.on false = true) →
    Inv (fun k => listed.getD k false) a w → wpAnyIn F n P .any ops Q fuel listed a w := by
  intro fuel
  have stop : ∀ (listed : Array Bool), listed.size = ops.size → Region.ready .any ops listed = [] → ∀ j, j < ops.size → listed.getD j false = true := fun listed hsz hr j => by
    induction j using Nat.strongRecOn with
    | _ j ih =>
      intro hj
      refine Classical.byContradiction fun hne => ?_
      have hf : listed.getD j true = false := by
        have hlt : j < listed.size := by omega
        simp only [Array.getD_eq_getD_getElem?, Array.getElem?_eq_getElem hlt, Option.getD_some] at hne ⊢
        simpa using hne
      have : j ∈ Region.ready .any ops listed := mem_ready.2 ⟨hj, hf, ops[j], Array.getElem?_eq_getElem hj, fun e he hb => by
        have hl := F1 j ops[j] (Array.getElem?_eq_getElem hj) e he hb
        exact ih e.on hl (by omega)⟩
      rw [hr] at this; cases this
  induction fuel with
  | zero =>
    intro listed a w hsz hc hcl R
    have hr : Region.ready .any ops listed = [] := by
      refine List.eq_nil_iff_forall_not_mem.2 fun i hi => ?_
      obtain ⟨h1, h2, _⟩ := mem_ready.1 hi
      have hlt : i < listed.size := by omega
      have : listed.toList[i]? = some false := by
        simp only [Array.getD_eq_getD_getElem?, Array.getElem?_eq_getElem hlt, Option.getD_some] at h2
        simp [hlt, h2]
      have := count_set this
      omega
    exact ⟨hr, fin _ a w (stop listed hsz hr) R⟩
  | succ fuel ih =>
    intro listed a w hsz hc hcl R
    refine ⟨fun hr => fin _ a w (stop listed hsz hr) R, fun i hi => ?_⟩
    obtain ⟨h1, h2, o, ho, hpre⟩ := mem_ready.1 hi
    have hlt : i < listed.size := by omega
    have hl : listed.toList[i]? = some false := by
      simp only [Array.getD_eq_getD_getElem?, Array.getElem?_eq_getElem hlt, Option.getD_some] at h2
      simp [hlt, h2]
    have hDi : listed.getD i false = false := by
      simp only [Array.getD_eq_getD_getElem?, Array.getElem?_eq_getElem hlt, Option.getD_some] at h2 ⊢
      exact h2
    have hD : ∀ k, (listed.setIfInBounds i true).getD k false = (listed.getD k false || k == i) := fun k => by
      simp only [Array.getD_eq_getD_getElem?, Array.getElem?_setIfInBounds]
      by_cases c : i = k
      · subst c; simp [hlt]
      · have : (k == i) = false := by simp; exact fun h => c h.symm
        simp [c, this]
    refine step (fun k => listed.getD k false) i o hcl ho hDi hpre a w R _ fun a' w' R' => ih _ a' w' (by simpa using hsz) ?_ ?_ ?_
    · have := count_set hl
      rw [Array.toList_setIfInBounds]
      omega
    · intro j oj hoj hDj e he hb
      rw [hD] at hDj ⊢
      simp only [Bool.or_eq_true, beq_iff_eq] at hDj ⊢
      rcases hDj with hDj | rfl
      · exact .inl (hcl j oj hoj hDj e he hb)
      · rw [ho] at hoj; cases hoj
        exact .inl (hpre e he hb)
    · have : (fun k => (listed.setIfInBounds i true).getD k false) = (fun k => listed.getD k false || k == i) := funext hD
      rw [this]; exact R'

def wpD2 (E : Env) (ops : Array Oper) (ord : List Nat) (m : Nat) : List Nat → List AccI → (St → Prop) → St → Prop
  | [], accs, K, st => drawOK2 ops ord m accs = true ∧ K st
  | k :: ks, accs, K, st =>
    match ops[k]? with
    | some o => match opG E.T E.G E.bs.gl ops o st.r st.h with
      | some e => dstOK st.n o.dst ∧ e.pre ∧ wpD2 E ops ord m ks (accs ++ [accI E.G E.bs.gl o st.r st.h e.acc]) K (st.put o.dst e.x e.h)
      | none => False
    | none => False

theorem wpD2_trace {ord : List Nat} {m : Nat} {K : St → Prop} : ∀ {ks : List Nat} {accs : List AccI} {st : St}, wpD2 E ops ord m ks accs K st → ∃ es st', Trace E ops (pick ops ks) st es st' ∧ drawOK2 ops ord m (accs ++ infoL E (pick ops ks) st es) = true ∧ K st'
  | [], accs, st, h => ⟨[], st, .nil st, by simpa [infoL, pick] using h.1, h.2⟩
  | k :: ks, accs, st, h => by
    simp only [wpD2] at h
    split at h
    · rename_i o ho
      split at h
      · rename_i e he
        obtain ⟨h1, h2, h3⟩ := h
        obtain ⟨es, st', t, hd, hk⟩ := wpD2_trace h3
        rw [pick_cons ho]
        exact ⟨e :: es, st', .cons he h1 h2 t, by simpa [infoL] using hd, hk⟩
      · exact h.elim
    · exact h.elim

/-- a region that draws its order, with two operations that change the heap and are not put in order: proved for both orders of the two -/
theorem AWP.draw2 (hE : E.OK) (hm : E.P.follows .mixedOrders = true) {id : Nat} {Q : Exit → St → Prop} (A : List Nat) (i j : Nat) (B : List Nat)
    (h1 : wpD2 E ops (A ++ i :: j :: B) A.length (A ++ i :: j :: B) [] (Q .normal) st) (h2 : wpD2 E ops (A ++ j :: i :: B) A.length (A ++ j :: i :: B) [] (Q .normal) st) : AWP E.P E.bs (.region id ops true) Q st := fun a w R => by
  obtain ⟨es1, st1, tr1, hd1, hk1⟩ := wpD2_trace h1
  obtain ⟨es2, st2, tr2, hd2, hk2⟩ := wpD2_trace h2
  simp only [List.nil_append] at hd1 hd2
  have F1 := Two.of hd1
  have F2 := Two.of hd2
  have i1 : (A ++ i :: j :: B)[A.length]? = some i := by simp
  have j1 : (A ++ i :: j :: B)[A.length + 1]? = some j := by simp [List.getElem?_append_right]
  have j2 : (A ++ j :: i :: B)[A.length]? = some j := by simp
  have i2 : (A ++ j :: i :: B)[A.length + 1]? = some i := by simp [List.getElem?_append_right]
  have hij : i ≠ j := fun c => F1.inj _ _ i (Nat.lt_succ_self A.length) i1 (c ▸ j1)
  -- before the two, both are the same
  have same : ∀ D : Nat → Bool, (∀ j o, ops[j]? = some o → D j = true → ∀ e ∈ o.after.toList, Region.binds .any e = true → D e.on = true) → D i = false → D j = false →
      midL st (pick ops (A ++ i :: j :: B)) es1 (posD (A ++ i :: j :: B) D) = midL st (pick ops (A ++ j :: i :: B)) es2 (posD (A ++ j :: i :: B) D) := fun D hcl di dj => by
    have late : ∀ {ord : List Nat} {p q : Nat} {es : List Eff}, Two ops (A ++ ord) A.length (infoL E (pick ops (A ++ ord)) st es) → (A ++ ord)[A.length]? = some p → (A ++ ord)[A.length + 1]? = some q → D p = false → D q = false → ∀ k, posD (A ++ ord) D (A.length + k) = false := fun {ord p q es} F hp hq dp dq k => by
      match k with
      | 0 => rw [Nat.add_zero, posD_at hp]; exact dp
      | 1 => rw [posD_at hq]; exact dq
      | k + 2 =>
        cases hr : (A ++ ord)[A.length + (k + 2)]? with
        | none => rw [posD, hr]
        | some r =>
          rw [posD_at hr]
          obtain ⟨p', q', e1, e2, hb⟩ := F.rest _ r (by omega) hr
          rw [hp] at e1; cases e1
          rw [hq] at e2; cases e2
          cases hD : D r with
          | false => rfl
          | true =>
            have hrs := F.lt r (List.mem_of_getElem? hr)
            have hor := Array.getElem?_eq_getElem hrs
            rcases hb with hb | hb
            · have := bef_run ops D hcl F.edge r _ hor (hcl r _ hor hD) p hb
              rw [dp] at this; cases this
            · have := bef_run ops D hcl F.edge r _ hor (hcl r _ hor hD) q hb
              rw [dq] at this; cases this
    have l1 := late F1 i1 j1 di dj
    have l2 := late F2 j2 i2 dj di
    have lA : (pick ops A).length = A.length := pick_len fun k hk => F1.lt k (by simp [hk])
    have p1 := pick_app F1.lt
    have p2 := pick_app F2.lt
    rw [p1] at tr1 ⊢
    rw [p2] at tr2 ⊢
    obtain ⟨a1, b1, s1, rfl, t1, _⟩ := tr1.split
    obtain ⟨a2, b2, s2, rfl, t2, _⟩ := tr2.split
    obtain ⟨rfl, rfl⟩ := t1.det t2
    have e : ∀ {l : List Oper} {b : List Eff} {D' : Nat → Bool}, (∀ k, D' (A.length + k) = false) → midL st (pick ops A ++ l) (a1 ++ b) D' = midL st (pick ops A) a1 D' := fun {l b D'} hl => by
      unfold midL
      rw [midR_app t1.length (fun k _ => by rw [lA, Nat.zero_add]; exact hl k), midH_app t1.length (fun k _ => by rw [lA, Nat.zero_add]; exact hl k)]
    rw [e l1, e l2]
    refine midL_ext fun k hk => ?_
    rw [lA] at hk
    unfold posD
    rw [List.getElem?_append_left hk, List.getElem?_append_left hk]
  refine wpIn_region_any hm (any_rule F1.edge (fun D a w => (∀ j o, ops[j]? = some o → D j = true → ∀ e ∈ o.after.toList, Region.binds .any e = true → D e.on = true) ∧ ((D i = true ∧ Rel E.bs (midL st (pick ops (A ++ i :: j :: B)) es1 (posD (A ++ i :: j :: B) D)) a w) ∨ (D j = true ∧ Rel E.bs (midL st (pick ops (A ++ j :: i :: B)) es2 (posD (A ++ j :: i :: B) D)) a w) ∨
    (D i = false ∧ D j = false ∧ Rel E.bs (midL st (pick ops (A ++ i :: j :: B)) es1 (posD (A ++ i :: j :: B) D)) a w))) ?_ ?_ ops.size _ a _ (by simp) (by simp [List.count_replicate]) (fun j o ho hD => ?_) ?_)
  · intro D p o hcl ho hDp hpre a w ⟨_, R⟩ K hK
    have hcl' : ∀ j o, ops[j]? = some o → (D j || j == p) = true → ∀ e ∈ o.after.toList, Region.binds .any e = true → (D e.on || e.on == p) = true := fun j' oj hoj hDj e he hb => by
      simp only [Bool.or_eq_true, beq_iff_eq] at hDj ⊢
      rcases hDj with hDj | rfl
      · exact .inl (hcl j' oj hoj hDj e he hb)
      · rw [ho] at hoj; cases hoj
        exact .inl (hpre e he hb)
    rcases R with ⟨di, R⟩ | ⟨dj, R⟩ | ⟨di, dj, R⟩
    · exact two_step hE tr1 F1 hcl ho hDp hpre i1 j1 (fun _ => di) R fun a' w' R' => hK a' w' ⟨hcl', .inl ⟨by simp [di], R'⟩⟩
    · exact two_step hE tr2 F2 hcl ho hDp hpre j2 i2 (fun _ => dj) R fun a' w' R' => hK a' w' ⟨hcl', .inr (.inl ⟨by simp [dj], R'⟩)⟩
    · by_cases c : p = j
      · subst c
        rw [same D hcl di dj] at R
        exact two_step hE tr2 F2 hcl ho hDp hpre j2 i2 (fun q => by
          rcases q with q | q
          · rw [di] at q; cases q
          · exact absurd q.symm hij) R fun a' w' R' => hK a' w' ⟨hcl', .inr (.inl ⟨by simp, R'⟩)⟩
      · refine two_step hE tr1 F1 hcl ho hDp hpre i1 j1 (fun q => by
          rcases q with q | q
          · rw [dj] at q; cases q
          · exact absurd q c) R fun a' w' R' => hK a' w' ⟨hcl', ?_⟩
        by_cases d : p = i
        · exact .inl ⟨by simp [d], R'⟩
        · exact .inr (.inr ⟨by simp [di]; exact fun q => d q.symm, by simp [dj]; exact fun q => c q.symm, R'⟩)
  · intro D a w hall ⟨_, R⟩
    have hi := hall i (F1.lt i (by simp))
    have pos : ∀ {ord : List Nat}, (∀ k ∈ ord, k < ops.size) → ∀ k, k < (pick ops ord).length → posD ord D (0 + k) = true := fun {ord} hlt k hk => by
      rw [pick_len hlt] at hk
      rw [Nat.zero_add, posD_at (List.getElem?_eq_getElem hk)]
      exact hall _ (hlt _ (List.getElem_mem hk))
    have fin : ∀ {ord : List Nat} {es : List Eff} {st' : St}, (∀ k ∈ ord, k < ops.size) → Trace E ops (pick ops ord) st es st' → Rel E.bs (midL st (pick ops ord) es (posD ord D)) a w → Rel E.bs st' a w := fun {ord es st'} hlt tr R => by
      obtain ⟨h1, h2, h3⟩ := tr.final 0 _ (pos hlt)
      have : midL st (pick ops ord) es (posD ord D) = st' := by
        unfold midL
        rw [h2, h3, ← h1]
      rw [this] at R; exact R
    rcases R with ⟨di, R⟩ | ⟨dj, R⟩ | ⟨di, dj, R⟩
    · exact ⟨st1, hk1, fin F1.lt tr1 R⟩
    · exact ⟨st2, hk2, fin F2.lt tr2 R⟩
    · rw [hi] at di; cases di
  · rw [Array.getD_eq_getD_getElem?, Array.getElem?_replicate] at hD
    split at hD <;> simp at hD
  · have h0 : (fun k => (Array.replicate ops.size false).getD k false) = fun _ => false := by
      funext k
      simp only [Array.getD_eq_getD_getElem?, Array.getElem?_replicate]
      split <;> rfl
    rw [h0]
    refine ⟨fun j o ho hD => (by cases hD), .inr (.inr ⟨rfl, rfl, ?_⟩)⟩
    have p0 : ∀ k, posD (A ++ i :: j :: B) (fun _ => false) k = false := fun k => by
      unfold posD; split <;> rfl
    unfold midL
    rw [midR_none (fun k _ => p0 _), midH_none (fun k _ _ _ _ => p0 _)]
    obtain ⟨g, R⟩ := R
    exact ⟨g, R.ext, R.heap.drew, R.defers, R.size, R.slot⟩

end

/-! ### the walk -/
inductive OpHit where
  | one (o : Oper)
  | no
def hitAt : List Oper → Nat → OpHit
  | [], _ => .no
  | o :: _, 0 => .one o
  | _ :: l, n + 1 => hitAt l n
def stepD2 (E : Env) (ops : Array Oper) (ord : List Nat) (m : Nat) (d : Option Tmp) (o : Oper) (l : List Nat) (accs : List AccI) (K : St → Prop) (st : St) : Option Eff → Prop
  | some e => dstOK st.n d ∧ e.pre ∧ wpD2 E ops ord m l (accs ++ [accI E.G E.bs.gl o st.r st.h e.acc]) K (st.put d e.x e.h)
  | none => False
def stepH (E : Env) (ops : Array Oper) (ord : List Nat) (m : Nat) (l : List Nat) (accs : List AccI) (K : St → Prop) (st : St) : OpHit → Prop
  | .one o => stepD2 E ops ord m o.dst o l accs K st (opG E.T E.G E.bs.gl ops o st.r st.h)
  | .no => False
section
variable {E : Env} {ops : Array Oper} {ord : List Nat} {m : Nat} {l : List Oper} {ks : List Nat} {K : St → Prop} {st st' : St} {d : Option Tmp} {o : Oper} {ty : TypeId} {pos : String} {af : Array Edge} {g : Option (Nat × Bool)} {op : Op}
theorem hitAt_eq : ∀ {l : List Oper} {k : Nat}, hitAt l k = match l[k]? with | some o => .one o | none => .no
  | [], _ => rfl
  | _ :: _, 0 => rfl
  | _ :: l, k + 1 => by simpa [hitAt] using hitAt_eq (l := l) (k := k)
@[congr] theorem one_congr : OpHit.one o = OpHit.one o := rfl
@[congr] theorem hitAt_congr {k k' : Nat} (h : k = k') : hitAt l k = hitAt l k' := by rw [h]
@[simp] theorem hitAt_zero : hitAt (o :: l) 0 = .one o := rfl
@[simp] theorem hitAt_succ (n : Nat) : hitAt (o :: l) (n + 1) = hitAt l n := rfl
@[congr] theorem wpD2_congr {ks ks' : List Nat} {as as' : List AccI} (hk : ks = ks') (h : st = st') (h' : as = as') : wpD2 E ops ord m ks as K st = wpD2 E ops ord m ks' as' K st' := by rw [hk, h, h']
@[congr] theorem stepD2_congr {as : List AccI} {e e' : Option Eff} (h : e = e') : stepD2 E ops ord m d o ks as K st e = stepD2 E ops ord m d o ks as K st e' := by rw [h]
@[congr] theorem stepH_congr {as : List AccI} {e e' : OpHit} (h : e = e') : stepH E ops ord m ks as K st e = stepH E ops ord m ks as K st e' := by rw [h]
@[simp] theorem wpD2_nil (as : List AccI) : wpD2 E ops ord m [] as K st = (drawOK2 ops ord m as = true ∧ K st) := rfl
@[simp] theorem wpD2_cons (k : Nat) (as : List AccI) : wpD2 E l.toArray ord m (k :: ks) as K st = stepH E l.toArray ord m ks as K st (hitAt l k) := by
  rw [hitAt_eq]
  simp only [wpD2, List.getElem?_toArray]
  cases l[k]? with
  | none => rfl
  | some o => simp only [stepH]; generalize opG _ _ _ _ _ _ _ = e; cases e <;> rfl
@[simp] theorem stepH_one (as : List AccI) : stepH E ops ord m ks as K st (.one ⟨d, op, ty, pos, af, g⟩) = stepD2 E ops ord m d ⟨d, op, ty, pos, af, g⟩ ks as K st (opG E.T E.G E.bs.gl ops ⟨d, op, ty, pos, af, g⟩ st.r st.h) := rfl
@[simp] theorem stepD2_some (as : List AccI) (o : Oper) (e : Eff) : stepD2 E ops ord m d o ks as K st (some e) = (dstOK st.n d ∧ e.pre ∧ wpD2 E ops ord m ks (as ++ [accI E.G E.bs.gl o st.r st.h e.acc]) K (st.put d e.x e.h)) := rfl
@[simp] theorem stepD2_none (as : List AccI) (o : Oper) : stepD2 E ops ord m d o ks as K st none = False := rfl
end
/-! ### a walk that stops at one region -/
def wpcU (E : Env) (n : Nat) : Code → (Exit → St → Prop) → St → Prop
  | .region id ops draw, Q, st => if id = n then AWP E.P E.bs (.region id ops draw) Q st else wpc E (.region id ops draw) Q st
  | .seq a b, Q, st => wpcU E n a (thenA (wpcU E n b Q) Q) st
  | .cond c x y, Q, st => condA (evO E.bs.gl st.r c) (wpcU E n x Q st) (wpcU E n y Q st)
  | .block id c, Q, st => wpcU E n c (inBlockA id Q) st
  | .scope c, Q, st => wpcU E n c (noGotoA Q) st
  | c, Q, st => wpc E c Q st
def thenU (E : Env) (n : Nat) (b : Code) (Q : Exit → St → Prop) : Exit → St → Prop := thenA (wpcU E n b Q) Q
section
variable {E : Env}
theorem wpcU_ok (hE : E.OK) (hm : E.P.follows .mixedOrders = true) (n : Nat) : ∀ (c : Code) (Q : Exit → St → Prop) (st : St), wpcU E n c Q st → AWP E.P E.bs c Q st
  | .region id ops draw, Q, st, h => by
    simp only [wpcU] at h
    split at h
    · exact h
    · exact wpc_ok hE hm _ _ _ h
  | .seq x y, Q, st, h => AWP.seq ((wpcU_ok hE hm n x _ st h).mono fun e st' q => by
    cases e with
    | normal => exact wpcU_ok hE hm n y _ st' q
    | _ => exact q)
  | .cond c x y, Q, st, h => fun a w R => by
    simp only [wpcU, condA] at h
    obtain ⟨g, R⟩ := R
    split at h
    · rename_i b hb
      have := R.ev c
      rw [hb, rel_bool] at this
      exact wpIn_cond_split this (fun hb => wpcU_ok hE hm n x Q st (h.1 hb) a w ⟨g, R⟩) (fun hb => wpcU_ok hE hm n y Q st (h.2 hb) a w ⟨g, R⟩)
    · exact h.elim
  | .block id c, Q, st, h => AWP.block (wpcU_ok hE hm n c _ st h)
  | .scope c, Q, st, h => AWP.scope (wpcU_ok hE hm n c _ st h)
  | .skip, Q, st, h => wpc_ok hE hm _ _ _ h
  | .loop c, Q, st, h => wpc_ok hE hm _ _ _ h
  | .rangeFunc f ps as c, Q, st, h => wpc_ok hE hm _ _ _ h
  | .exit id, Q, st, h => wpc_ok hE hm _ _ _ h
  | .label l, Q, st, h => wpc_ok hE hm _ _ _ h
  | .goto l, Q, st, h => wpc_ok hE hm _ _ _ h
  | .ret, Q, st, h => wpc_ok hE hm _ _ _ h
  | .refuse _, Q, st, h => wpc_ok hE hm _ _ _ h
end
section
variable {E : Env} {n : Nat} {Q : Exit → St → Prop} {st st' : St} {a b c : Code} {K : St → Prop}
@[congr] theorem wpcU_congr (h : st = st') : wpcU E n c Q st = wpcU E n c Q st' := by rw [h]
@[congr] theorem thenU_congr {e e' : Exit} (h : st = st') (h' : e = e') : thenU E n b Q e st = thenU E n b Q e st' := by rw [h, h']
@[simp] theorem thenU_normal : thenU E n b Q .normal st = wpcU E n b Q st := rfl
@[simp] theorem thenU_ret : thenU E n b Q .ret st = Q .ret st := rfl
@[simp] theorem thenU_exit (i : Nat) : thenU E n b Q (.exit i) st = Q (.exit i) st := rfl
@[simp] theorem thenU_goto (i : Nat) : thenU E n b Q (.goto i) st = Q (.goto i) st := rfl
@[simp] theorem wpcU_region (id : Nat) (ops : Array Oper) (dr : Bool) : wpcU E n (.region id ops dr) Q st = if id = n then AWP E.P E.bs (.region id ops dr) Q st else wpc E (.region id ops dr) Q st := rfl
@[simp] theorem wpcU_seq : wpcU E n (.seq a b) Q st = wpcU E n a (thenU E n b Q) st := rfl
@[simp] theorem wpcU_cond (x : Operand) : wpcU E n (.cond x a b) Q st = condA (evO E.bs.gl st.r x) (wpcU E n a Q st) (wpcU E n b Q st) := rfl
@[simp] theorem wpcU_block (id : Nat) : wpcU E n (.block id c) Q st = wpcU E n c (inBlockA id Q) st := rfl
@[simp] theorem wpcU_scope : wpcU E n (.scope c) Q st = wpcU E n c (noGotoA Q) st := rfl
@[simp] theorem wpcU_skip : wpcU E n .skip Q st = Q .normal st := rfl
@[simp] theorem wpcU_loop : wpcU E n (.loop c) Q st = AWP E.P E.bs (.loop c) Q st := rfl
@[simp] theorem wpcU_rangeFunc (f : Operand) (ps : Array Tmp) : wpcU E n (.rangeFunc f ps a c) Q st = AWP E.P E.bs (.rangeFunc f ps a c) Q st := rfl
@[simp] theorem wpcU_exit (i : Nat) : wpcU E n (.exit i) Q st = Q (.exit i) st := rfl
@[simp] theorem wpcU_label (i : Nat) : wpcU E n (.label i) Q st = Q .normal st := rfl
@[simp] theorem wpcU_goto (i : Nat) : wpcU E n (.goto i) Q st = Q (.goto i) st := rfl
@[simp] theorem wpcU_ret : wpcU E n .ret Q st = Q .ret st := rfl
end
/-- where a piece of code comes to a state of known form -/
def Comes (bs : Base) (S : St) (e : Exit) (st : St) : Prop := e = .normal ∧ Weak bs st S
theorem Comes.mk {bs : Base} {S st : St} (h : Weak bs st S) : Comes bs S .normal st := ⟨rfl, h⟩
@[congr] theorem Comes_congr {bs : Base} {S : St} {e : Exit} {st st' : St} (h : st = st') : Comes bs S e st = Comes bs S e st' := by rw [h]
theorem AWP.comes {P : Program} {bs : Base} {c : Code} {Q : Exit → St → Prop} {st : St} (S : St) (h : AWP P bs c (Comes bs S) st) (k : Q .normal S) : AWP P bs c Q st :=
  fun a w R => wpIn_mono (h a w R) fun e a' w' ⟨st', q, r⟩ => ⟨S, q.1 ▸ k, q.2 _ _ r⟩
end Fen

/- Part 49: a box that holds a slice of the private heap comes to hold its value. -/
namespace Fen
open Go Go.RowKit

section
variable {bs : Base} {g : Gh} {h : List Blk} {w : World}
theorem HeapOK.rebox (H : HeapOK bs g h w) {id : Nat} {ty : TypeId} {xs ys : List X} (hb : h[id]? = some (.box ty xs)) (hr : ∀ vs, RelXs g h xs vs → RelXs g h ys vs) :
    Ext g h g (h.set id (.box ty ys)) ∧ HeapOK bs g (h.set id (.box ty ys)) w := by
  have E : Ext g h g (h.set id (.box ty ys)) := Ext.recd g hb rfl rfl
  refine ⟨E, ⟨H.stable, fun i k hi => ?_, fun i j hi hj => H.inj i j (by simpa using hi) (by simpa using hj), fun i hi => H.loc i (by simpa using hi), H.os, H.tape, H.output, H.size, H.frame, H.stab, H.gl, H.marks⟩⟩
  rcases set_get hi with ⟨rfl, _, rfl⟩ | ⟨hne, hi'⟩
  · obtain ⟨k1, k2, k3, cs, k4, k5⟩ := H.blk _ _ hb
    exact ⟨k1, k2, k3, cs, k4, RelXs.mono E _ _ (hr _ k5)⟩
  · exact (H.blk i k hi').mono E rfl rfl rfl fun _ _ => ⟨rfl, fun _ => rfl⟩

theorem Weak.solid {n : Nat} {r : List (Nat × X)} (i j k : Nat) {ty ty' : TypeId} {xs : List X} {ver sz m : Nat} {p : Bool} {cs : List C} (hb : h[i]? = some (.box ty xs)) (hk : xs[k]? = some (.ref j ver)) (hj : h[j]? = some (.sl ty' ver p sz m cs)) :
    Weak bs ⟨n, r, h⟩ ⟨n, r, (h.set j (.sl ty' ver false sz m cs)).set i (.box ty (xs.set k (.val (.sl m cs))))⟩ := by
  intro a w ⟨g, R⟩
  have H := R.heap
  have hne : i ≠ j := by rintro rfl; rw [hj] at hb; cases hb
  obtain ⟨_, _, _, cs0, _, k5⟩ := H.blk i _ hb
  obtain ⟨u, _, hu⟩ := k5.at hk
  have e : toV1 h (.ref j ver) = some (.c (.sl m cs), h.set j (.sl ty' ver false sz m cs)) := by simp only [toV1, hj, if_true]
  obtain ⟨S', E, H', hrep⟩ := toV1_ok H hu e
  have hb1 : (h.set j (.sl ty' ver false sz m cs))[i]? = some (.box ty xs) := by rw [get_set_ne hne]; exact hb
  have hu0 : u = g.hd j := by
    simp only [RelX] at hu
    obtain ⟨b, h1, _, _, _, h2⟩ := hu
    rw [hj] at h1; cases h1
    exact h2 rfl
  obtain ⟨E2, H2⟩ := H'.rebox (ys := xs.set k (.val (.sl m cs))) hb1 fun vs hvs => by
    obtain ⟨v, hv, hv2⟩ := hvs.at hk
    have hv0 : v = g.hd j := by
      simp only [RelX] at hv2
      obtain ⟨b, h1, _, _, _, h2⟩ := hv2
      rw [get_set_eq (lt_of_get hj)] at h1; cases h1
      exact h2 rfl
    have q := RelXs.set (.val (.sl m cs)) v (by simp only [RelX]; rw [hv0, ← hu0]; exact hrep) k hvs
    have : vs.set k v = vs := by
      refine List.ext_getElem? fun t => ?_
      rw [List.getElem?_set]
      split
      · rename_i c
        subst c
        rw [hv]
        simp [(List.getElem?_eq_some_iff.1 hv).1]
      · rfl
    rwa [this] at q
  exact ⟨_, (R.ext.trans E).trans E2, H2, R.defers, R.size, fun t => RelX.mono E2 _ _ (RelX.mono E _ _ (R.slot t))⟩
end
end Fen

/- Part 50: room made for a slice: cap of nil, append of so many zero values to nil, a slice of one's own cut to nothing. -/
namespace Fen
open Go Go.RowKit

section
variable {P : Program} {T : TT} {bs : Base} {ops : Array Oper} {dst : Option Tmp} {ty : TypeId} {pos : String} {af : Array Edge} {st : St} {K : St → Prop}

/-- an operation by hand -/
theorem OpW.does {o : Oper} (hg : o.guard = none) (hd : dstOK st.n o.dst) (x : X) (h' : List Blk)
    (hrun : ∀ g a w, RelG bs st a w g → ∃ v w' g', (execOp a.eval o).run P w = .ok (.value v) w' ∧ Ext g st.h g' h' ∧ HeapOK bs g' h' w' ∧ RelX g' h' x v) (hk : K (st.put o.dst x h')) : OpW P bs ops o st K := by
  intro a w Q ⟨g, R⟩
  rw [if_pos (by simp [Region.wanted, hg])]
  obtain ⟨v, w', g', h1, hE, hH, h2⟩ := hrun g a w R
  refine ⟨fun _ _ => trivial, ?_⟩
  rw [semAt_of h1 (by simp), Oper.uponIn_value]
  have hd' : ∀ t, o.dst = some t → t < st.n := fun t ht => by rw [ht] at hd; exact hd
  have A : After bs g st.h ⟨True, x, .write, h'⟩ v w' := ⟨g', hE, hH, h2⟩
  exact ⟨_, hk, R.put A o.dst hd'⟩

theorem OpW.capNil (hT : TOK P T) {t e : Nat} {s b : Nat} {z : List X} (ht : T t = some ⟨.slice e, s, b, z⟩) {x : Operand} (hx : evO bs.gl st.r x = .nil) (hd : dstOK st.n dst) (hK : K (st.put dst (.val (.int .i64 0)) st.h)) :
    OpW P bs ops ⟨dst, .call ⟨.builtin .cap, #[x], #[t]⟩, ty, pos, af, none⟩ st K := by
  refine OpW.at rfl hd (.val (.int .i64 0)) (fun g a w R => ?_) hK
  have hv := R.ev x
  rw [hx] at hv
  simp only [RelX] at hv
  refine ⟨.int .i64 0, ?_, by simp [RelX, RepV]⟩
  simp [execOp, resolve, invoke, builtin, Builtin.cap_, hv, run_underlying (hT.slice ht), goInt]

theorem zeros_cells {S : Stab} {z : Value} {sz k cap : Nat} {cs : List C} (hz : z.cells.size = sz) (hc : k ≤ cap) (hr : RepL S cs (Builtin.zeroCells z.cells k).toList) :
    (Builtin.zeroCells z.cells k ++ Builtin.zeroCells z.cells (cap - k)).size = cap * sz ∧ RepL S cs ((Builtin.zeroCells z.cells k ++ Builtin.zeroCells z.cells (cap - k)).toList.take (k * sz)) := by
  constructor
  · simp only [Array.size_append, size_zeroCells, hz, ← Nat.add_mul]
    congr 1; omega
  · simp only [Array.toList_append]
    rw [List.take_left' (by
      have : (Builtin.zeroCells z.cells k).toList.length = (Builtin.zeroCells z.cells k).size := rfl
      rw [this, size_zeroCells, hz])]
    exact hr

theorem OpW.appMake (hT : TOK P T) {t tn e : Nat} {s b s' b' : Nat} {z z' : List X} {kn kq : IntKind} {ei : TI} (ht : T t = some ⟨.slice e, s, b, z⟩) (htn : T tn = some ⟨.int kn, s', b', z'⟩) (hei : T e = some ei) {x y : Operand} {k : Nat}
    (hx : evO bs.gl st.r x = .nil) (hy : evO bs.gl st.r y = .val (.int kq k)) (h0 : 0 < k) (hb : k * ei.bytes ≤ 140737488355328) (hm : k ≤ maxLen) (hs : 0 < ei.size) (hd : dstOK st.n dst)
    (hK : K (st.put dst (.ref st.h.length 0) (st.h ++ [.sl e 0 true ei.size k (rep k (ei.zero.map zC))]))) :
    OpW P bs ops ⟨dst, .call ⟨.builtin .append, #[x, y], #[t, tn]⟩, ty, pos, af, none⟩ st K := by
  refine OpW.does rfl hd _ _ (fun g a w R => ?_) hK
  have hv := R.ev x
  have hu := R.ev y
  rw [hx] at hv
  rw [hy, rel_int] at hu
  simp only [RelX] at hv
  obtain ⟨d, i, zv, hdd, hi, hf, hsz, hby, hz, hc, hzok, hzl⟩ := hT.get hei
  have hzs : zv.cells.size = ei.size := by rw [← hzl]; have : zv.cells.size = zv.cells.toList.length := rfl; rw [this, hc]; simp
  unfold maxLen at hm
  have hrun := Go.Lib.run_append_nil_zeros (P := P) w t tn ty e i zv kq kn (hT.slice ht) (hT.int htn) hi hz k h0 (by omega) (by omega) (by rw [hby]; omega)
  have hge := grownCap_ge w k 0 e
  have hle := grownCap_le_maxLen w k 0 e (by unfold maxLen; omega)
  have hzr : RepL g.S (rep k (ei.zero.map zC)) (Builtin.zeroCells zv.cells k).toList := by
    have e1 : (Builtin.zeroCells zv.cells k).toList = rep k zv.cells.toList := by
      have := made_rep zv.cells k ei.size hzs hs
      rw [← this]; simp [Builtin.zeroCells, hzs]
    rw [e1]
    exact repL_rep (by rw [hc]; exact zeroC_rel g.S hzok) _
  obtain ⟨q1, q2⟩ := zeros_cells hzs hge hzr
  obtain ⟨g', E, H', hr⟩ := push_own R.heap.drew (cells := rep k (ei.zero.map zC)) (n := k) true hs (by rw [rep_length, List.length_map, hzl]) hge hle q1 q2 (w' := w.drew.alloc (.cells (Builtin.zeroCells zv.cells k ++ Builtin.zeroCells zv.cells (grownCap w k 0 e - k)) e)) rfl rfl rfl rfl
  refine ⟨_, _, g', ?_, E, H', hr⟩
  unfold execOp
  simp only [resolve, invoke, builtin, Sem.run_bind, Sem.run_pure, Result.andThen_ok, List.map_toArray, List.map_cons, List.map_nil, hv, hu, hrun]

theorem OpW.trunc (hT : TOK P T) {t e : Nat} {s b : Nat} {z : List X} {ei : TI} (ht : T t = some ⟨.slice e, s, b, z⟩) (hei : T e = some ei) {x y : Operand} {id ver sz n e' : Nat} {cs : List C} (hx : evO bs.gl st.r x = .ref id ver) (hy : evO bs.gl st.r y = .val (.int .i64 0))
    (hb : st.h[id]? = some (.sl e' ver true sz n cs)) (hd : dstOK st.n dst) (hK : K (st.put dst (.ref id (ver + 1)) (st.h.set id (.sl e' (ver + 1) true sz 0 [])))) :
    OpW P bs ops ⟨dst, .slice t x none (some y) none, ty, pos, af, none⟩ st K := by
  refine OpW.does rfl hd _ _ (fun g a w R => ?_) hK
  have H := R.heap
  have hv := R.ev x
  have hu := R.ev y
  rw [hx] at hv
  rw [hy, rel_int] at hu
  have hve := rel_ref H hb hv
  have hlt := lt_of_get hb
  have hk := H.blk id _ hb
  simp only [BlkOK] at hk
  obtain ⟨h0, hl, hk⟩ := hk
  -- how the header is cut
  have run : ∀ (ad : Option Addr) (len cap : Nat), a.eval x = .slice ad len cap → len ≤ cap → ∃ ad', (execOp a.eval ⟨dst, .slice t x none (some y) none, ty, pos, af, none⟩).run P w = .ok (.value (.slice ad' 0 cap)) w ∧ (ad' = ad ∨ ad' = ad.map (·.add 0)) := fun ad len cap e1 hc => by
    refine ⟨if cap = 0 then ad else ad.map (·.add 0), ?_, by split <;> simp⟩
    have q := run_sliceAt_sl (P := P) (w := w) t e ad len cap (hT.slice ht) (hT.sizeOf hei) (run_bounds true len cap (lo := none) (hi := some (.int .i64 0)) (a := 0) (b := 0) (.inl ⟨rfl, rfl⟩) (.inr ⟨_, rfl⟩) (by omega) (by omega) (by omega) hc)
    simp only [Int.toNat_zero, Nat.zero_mul, Nat.sub_zero] at q
    unfold execOp
    simp only [Sem.run_bind, Sem.run_pure, Option.map_none, Option.map_some, e1, hu, q, Result.andThen_ok]
  have fin : ∀ v, (∃ ad0 c0, v = .slice ad0 0 c0) → SlOK g.S w e' true sz 0 [] v (g.ad id) (g.ex id) → (execOp a.eval ⟨dst, .slice t x none (some y) none, ty, pos, af, none⟩).run P w = .ok (.value v) w →
      ∃ v w' g', (execOp a.eval ⟨dst, .slice t x none (some y) none, ty, pos, af, none⟩).run P w = .ok (.value v) w' ∧ Ext g st.h g' (st.h.set id (.sl e' (ver + 1) true sz 0 [])) ∧ HeapOK bs g' (st.h.set id (.sl e' (ver + 1) true sz 0 [])) w' ∧ RelX g' (st.h.set id (.sl e' (ver + 1) true sz 0 [])) (.ref id (ver + 1)) v := fun v hv0 hsl hr => by
    obtain ⟨E, H'⟩ := H.renew (w' := w) (b' := .sl e' (ver + 1) true sz 0 []) hb rfl rfl (Nat.lt_succ_self _) (g.ad id) v (g.ex id) rfl rfl rfl (Nat.le_refl _) (fun _ _ _ => rfl) H.stable
      (by simpa [BlkOK, Gh.upd, Gh.push] using hsl) (fun hx => ⟨fun k hk hne hei e => hne (H.inj k id hk hlt hei hx e), H.loc id hlt hx⟩)
    obtain ⟨ad0, c0, rfl⟩ := hv0
    refine ⟨_, w, _, hr, E, H', ?_⟩
    simp only [RelX]
    exact ⟨_, get_set_eq hlt, rfl, Nat.le_refl _, ⟨_, _, _, rfl⟩, fun _ => by simp [Gh.upd, Gh.push]⟩
  rcases hk with ⟨⟨z0, h1⟩, h2, h3⟩ | ⟨hex, ha, cap, cur, k1, k2, k3, k4, k5, k6, k7⟩ | ⟨_, hpf, _⟩
  · obtain ⟨ad', hr, _⟩ := run z0 0 0 (hve.trans h1) (Nat.le_refl _)
    exact fin _ ⟨_, _, rfl⟩ ⟨h0, by simp, .inl ⟨⟨_, rfl⟩, rfl, h3⟩⟩ hr
  · obtain ⟨ad', hr, hq⟩ := run _ n cap (hve.trans k1) k2
    have hq : ad' = some ⟨(g.ad id).1, 0, none⟩ := by
      rcases hq with rfl | rfl
      · rfl
      · simp [Addr.add]
    subst hq
    refine fin _ ⟨_, _, rfl⟩ ⟨h0, by simp, .inr (.inl ⟨hex, ha, cap, cur, rfl, Nat.zero_le _, k3, k4, k5, by simp [RepL], fun o ho => ?_⟩)⟩ hr
    cases (k7 o ho).1
  · cases hpf
end

/-- a list of operations, of which the k-th is done by hand -/
def wpRH (E : Env) (ops : Array Oper) : Nat → List Oper → (St → Prop) → St → Prop
  | _, [], K, st => K st
  | 0, o :: l, K, st => OpW E.P E.bs ops o st (wpR E ops l K)
  | k + 1, o :: l, K, st =>
    match opG E.T E.G E.bs.gl ops o st.r st.h with
    | some e => dstOK st.n o.dst ∧ e.pre ∧ wpRH E ops k l K (st.put o.dst e.x e.h)
    | none => OpW E.P E.bs ops o st (wpRH E ops k l K)
section
variable {E : Env}
theorem wpRH_ok (hE : E.OK) (ops : Array Oper) (Q : Exit → Act → World → Prop) : ∀ (k : Nat) (l : List Oper) (K : St → Prop) (st : St), wpRH E ops k l K st → ∀ a w, Rel E.bs st a w →
    (∀ st' a' w', K st' → Rel E.bs st' a' w' → Q .normal a' w') → wpListIn (fen E.bs.ro) 0 E.P ops Q l a w
  | k, [], K, st, h, a, w, R, hQ => by
    cases k <;> exact hQ _ _ _ h R
  | 0, o :: l, K, st, h, a, w, R, hQ => by
    have h := h a w Q R
    unfold wpListIn
    split at h
    · rename_i hw
      rw [if_pos hw]
      refine Oper.wpIn_mono (fun a' w' hq => ?_) h
      obtain ⟨st', hk, R'⟩ := hq
      exact wpR_ok hE ops Q l K _ hk _ _ R' hQ
    · rename_i hw
      rw [if_neg hw]
      obtain ⟨st', hk, R'⟩ := h
      exact ⟨fun _ _ => trivial, wpR_ok hE ops Q l K _ hk _ _ R' hQ⟩
  | k + 1, o :: l, K, st, h, a, w, R, hQ => by
    simp only [wpRH] at h
    split at h
    · rename_i e he
      obtain ⟨hd, hp, hk⟩ := h
      obtain ⟨g, R⟩ := R
      have hd' : ∀ t, o.dst = some t → t < st.n := fun t ht => by rw [ht] at hd; exact hd
      have := opG_sound (Q := Q) hE.T hE.G R.heap R.ev R.slot he hp
      unfold wpListIn
      split at this
      · rename_i hw
        rw [if_pos hw]
        refine Oper.wpIn_mono (fun a' w' hq => ?_) this
        obtain ⟨v, rfl, A⟩ := hq
        exact wpRH_ok hE ops Q k l K _ hk _ _ (R.put A o.dst hd') hQ
      · rename_i hw
        rw [if_neg hw]
        exact ⟨fun _ _ => trivial, wpRH_ok hE ops Q k l K _ hk _ _ (R.put this o.dst hd') hQ⟩
    · have h := h a w Q R
      unfold wpListIn
      split at h
      · rename_i hw
        rw [if_pos hw]
        refine Oper.wpIn_mono (fun a' w' hq => ?_) h
        obtain ⟨st', hk, R'⟩ := hq
        exact wpRH_ok hE ops Q k l K _ hk _ _ R' hQ
      · rename_i hw
        rw [if_neg hw]
        obtain ⟨st', hk, R'⟩ := h
        exact ⟨fun _ _ => trivial, wpRH_ok hE ops Q k l K _ hk _ _ R' hQ⟩

/-- a region in the text's order, its k-th operation done by hand -/
theorem AWP.regionH (hE : E.OK) {id : Nat} {l : List Oper} {Q : Exit → St → Prop} {st : St} (k : Nat) (h : wpRH E l.toArray k l (Q .normal) st) : AWP E.P E.bs (.region id l.toArray false) Q st :=
  fun a w R => wpIn_region_list (wpRH_ok hE l.toArray _ k l _ st h a w R fun st' _ _ hk R' => ⟨st', hk, R'⟩)
end

def stepRH (E : Env) (ops : Array Oper) (k : Nat) (d : Option Tmp) (o : Oper) (l : List Oper) (K : St → Prop) (st : St) : Option Eff → Prop
  | some e => dstOK st.n d ∧ e.pre ∧ wpRH E ops k l K (st.put d e.x e.h)
  | none => OpW E.P E.bs ops o st (wpRH E ops k l K)
section
variable {E : Env} {ops : Array Oper} {l : List Oper} {K : St → Prop} {st st' : St} {d : Option Tmp} {o : Oper} {ty : TypeId} {pos : String} {af : Array Edge} {g : Option (Nat × Bool)} {op : Op} {k : Nat}
@[congr] theorem wpRH_congr {k' : Nat} (hk : k = k') (h : st = st') : wpRH E ops k l K st = wpRH E ops k' l K st' := by rw [hk, h]
@[congr] theorem stepRH_congr {e e' : Option Eff} (h : e = e') : stepRH E ops k d o l K st e = stepRH E ops k d o l K st e' := by rw [h]
@[simp] theorem wpRH_nil : wpRH E ops k [] K st = K st := by cases k <;> rfl
@[simp] theorem wpRH_zero : wpRH E ops 0 (o :: l) K st = OpW E.P E.bs ops o st (wpR E ops l K) := rfl
@[simp] theorem wpRH_succ : wpRH E ops (k + 1) (⟨d, op, ty, pos, af, g⟩ :: l) K st = stepRH E ops k d ⟨d, op, ty, pos, af, g⟩ l K st (opG E.T E.G E.bs.gl ops ⟨d, op, ty, pos, af, g⟩ st.r st.h) := by
  simp only [wpRH]; generalize opG _ _ _ _ _ _ _ = e; cases e <;> rfl
@[simp] theorem stepRH_some (e : Eff) : stepRH E ops k d o l K st (some e) = (dstOK st.n d ∧ e.pre ∧ wpRH E ops k l K (st.put d e.x e.h)) := rfl
@[simp] theorem stepRH_none : stepRH E ops k d o l K st none = OpW E.P E.bs ops o st (wpRH E ops k l K) := rfl
end

theorem sound_heapA {P : Program} {T : TT} {gl : Gl} (hT : TOK P T) {f : FuncId} {fn : Func} {c : Code} (hf : P.funcs[f]? = some fn) (hb : fn.body = some c) (hn : (fn.name == "runtime.NumGoroutine") = false) {s : Spec} {hs : HS} (hh : s.hp = some hs) {N : Nat} (hN : fn.ntmps = N) {rs : List ResultVar} (hrs : fn.results = rs.toArray)
    (hlen : ∀ xs h, (hs.eff xs h).1 → xs.length ≤ N)
    (hw : ∀ xs h, (hs.eff xs h).1 → ∀ bs : Base, bs.gl = gl → bs.h0 = h → bs.ro = none → AWP P bs c (endsH T rs bs fun x h' => x = (hcEff hs xs h).x ∧ h' = (hcEff hs xs h).h) ⟨N, argsX 0 xs, h⟩) : Sound P gl f s := by
  refine ⟨enters_of hf (by simp [hb]) hn, fun hno => (by rw [hh] at hno; cases hno), fun hs' e xs h hp => ?_⟩
  rw [hh] at e; cases e
  exact onHeap_of hT hf hb hN hrs (hlen xs h hp) fun bs h1 h2 h3 => hw xs h hp bs h1 h2 h3
end Fen

/- Part 51: blocks in the heap's middle that nothing names any more are taken out, and what lies behind them moves up. -/
namespace Fen
open Go Go.RowKit

def shN (n m i : Nat) : Nat := if i < n then i else i + m
mutual
def shX (n m : Nat) : X → X
  | .tup xs => .tup (shXs n m xs)
  | .recd xs => .recd (shXs n m xs)
  | .clos f xs => .clos f (shXs n m xs)
  | .ifb c x => .ifb c (shX n m x)
  | .ref i v => .ref (shN n m i) v
  | .view i v o k => .view (shN n m i) v o k
  | .ptr i v o => .ptr (shN n m i) v o
  | .yld i => .yld (shN n m i)
  | .mp i => .mp (shN n m i)
  | .dead => .dead
  | .val c => .val c
  | .agg cs => .agg cs
  | .nil => .nil
  | .ex s k cs => .ex s k cs
  | .fptr cs => .fptr cs
def shXs (n m : Nat) : List X → List X
  | [] => []
  | x :: xs => shX n m x :: shXs n m xs
end
def shB (n m : Nat) : Blk → Blk
  | .box ty xs => .box ty (shXs n m xs)
  | .slx ty v sz k xs => .slx ty v sz k (shXs n m xs)
  | b => b
theorem shB_ver (n m : Nat) (b : Blk) : (shB n m b).ver = b.ver := by cases b <;> rfl
theorem shB_isBox (n m : Nat) (b : Blk) : (shB n m b).isBox = b.isBox := by cases b <;> rfl
theorem shXs_len (n m : Nat) : ∀ xs : List X, (shXs n m xs).length = xs.length
  | [] => by simp [shXs]
  | x :: xs => by simp [shXs, shXs_len n m xs]
theorem shN_lt {n m i : Nat} (h : i < n) : shN n m i = i := by simp [shN, h]
theorem shN_inj {n m i j : Nat} (h : shN n m i = shN n m j) : i = j := by
  unfold shN at h; split at h <;> split at h <;> omega

mutual
theorem shX_closed {n m : Nat} : ∀ x : X, refsX n x → shX n m x = x
  | .tup xs, h => by simp only [refsX] at h; simp only [shX]; rw [shXs_closed xs h]
  | .recd xs, h => by simp only [refsX] at h; simp only [shX]; rw [shXs_closed xs h]
  | .clos f xs, h => by simp only [refsX] at h; simp only [shX]; rw [shXs_closed xs h]
  | .ifb c x, h => by simp only [refsX] at h; simp only [shX]; rw [shX_closed x h]
  | .ref i v, h => by simp only [refsX] at h; simp only [shX]; rw [shN_lt h]
  | .view i v o k, h => by simp only [refsX] at h; simp only [shX]; rw [shN_lt h]
  | .ptr i v o, h => by simp only [refsX] at h; simp only [shX]; rw [shN_lt h]
  | .yld i, h => by simp only [refsX] at h; simp only [shX]; rw [shN_lt h]
  | .mp i, h => by simp only [refsX] at h; simp only [shX]; rw [shN_lt h]
  | .dead, _ => by simp only [shX]
  | .val c, _ => by simp only [shX]
  | .agg cs, _ => by simp only [shX]
  | .nil, _ => by simp only [shX]
  | .ex s k cs, _ => by simp only [shX]
  | .fptr cs, _ => by simp only [shX]
theorem shXs_closed {n m : Nat} : ∀ xs : List X, refsXs n xs → shXs n m xs = xs
  | [], _ => by simp only [shXs]
  | x :: xs, h => by simp only [refsXs] at h; simp only [shXs]; rw [shX_closed x h.1, shXs_closed xs h.2]
end
theorem shB_closed {n m : Nat} {b : Blk} (h : refsB n b) : shB n m b = b := by
  cases b with
  | box ty xs => simp only [refsB_box] at h; simp only [shB]; rw [shXs_closed xs h]
  | slx ty v sz k xs => simp only [refsB_slx] at h; simp only [shB]; rw [shXs_closed xs h]
  | _ => rfl
theorem map_closed {m : Nat} {h : List Blk} (hc : ClosedH h) : h.map (shB h.length m) = h := by
  refine List.ext_getElem? fun i => ?_
  rw [List.getElem?_map]
  cases e : h[i]? with
  | none => rfl
  | some b => simp [shB_closed (hc i b e)]

def shG (n m : Nat) (g : Gh) : Gh where
  S := g.S
  ad i := g.ad (shN n m i)
  hd i := g.hd (shN n m i)
  ex i := g.ex (shN n m i)
  marks := g.marks

/-- a heap, and the same with blocks put into its middle -/
def ShH (n m : Nat) (s t : List Blk) : Prop := (∀ i, s[shN n m i]? = (t[i]?).map (shB n m)) ∧ (∀ i, i < t.length → shN n m i < s.length)
theorem ShH.mk {T mid post : List Blk} {n m : Nat} (hn : T.length = n) (hm : mid.length = m) : ShH n m (T.map (shB n m) ++ mid ++ post.map (shB n m)) (T ++ post) := by
  subst hn hm
  refine ⟨fun i => ?_, fun i hi => ?_⟩
  · unfold shN
    split
    · rename_i c
      rw [List.append_assoc, List.getElem?_append_left (by simpa using c), List.getElem?_append_left c, List.getElem?_map]
    · rename_i c
      rw [List.getElem?_append_right (by simp; omega), List.getElem?_append_right (by omega), List.getElem?_map]
      congr 2
      simp
      omega
  · unfold shN
    simp at hi ⊢
    split <;> omega

mutual
theorem shX_ok {n m : Nat} {g : Gh} {s t : List Blk} (H : ShH n m s t) : ∀ (x : X) (v : Value), RelX g s (shX n m x) v → RelX (shG n m g) t x v
  | .dead, _, _ => by simp only [RelX]
  | .val _, _, r => by simp only [shX, RelX] at r ⊢; exact r
  | .agg _, _, r => by simp only [shX, RelX] at r ⊢; exact r
  | .nil, _, r => by simp only [shX, RelX] at r ⊢; exact r
  | .ex _ _ _, _, r => by simp only [shX, RelX] at r ⊢; exact r
  | .fptr _, _, r => by simp only [shX, RelX] at r ⊢; exact r
  | .recd xs, _, r => by
    simp only [shX, RelX] at r ⊢
    obtain ⟨vs, rfl, r, ho⟩ := r
    exact ⟨vs, rfl, shXs_ok H xs vs r, ho⟩
  | .tup xs, _, r => by
    simp only [shX, RelX] at r ⊢
    obtain ⟨vs, rfl, r⟩ := r
    exact ⟨vs, rfl, shXs_ok H xs vs r⟩
  | .clos f xs, _, r => by
    simp only [shX, RelX] at r ⊢
    obtain ⟨vs, rfl, r⟩ := r
    exact ⟨vs, rfl, shXs_ok H xs vs r⟩
  | .ifb c x, v, r => by
    simp only [shX, RelX] at r ⊢
    exact ⟨fun hc => shX_ok H x v (r.1 hc), r.2⟩
  | .ref id ver, _, r => by
    simp only [shX, RelX] at r ⊢
    rw [H.1] at r
    obtain ⟨b, hb, r⟩ := r
    cases e : t[id]? with
    | none => simp [e] at hb
    | some b' =>
      simp only [e, Option.map_some] at hb; cases hb
      rw [shB_ver, shB_isBox] at r
      exact ⟨b', rfl, r⟩
  | .view id ver off n, _, r => by
    simp only [shX, RelX] at r ⊢
    rw [H.1] at r
    obtain ⟨b, hb, r⟩ := r
    cases e : t[id]? with
    | none => simp [e] at hb
    | some b' =>
      simp only [e, Option.map_some] at hb; cases hb
      rw [shB_ver, shB_isBox] at r
      exact ⟨b', rfl, r⟩
  | .ptr id ver off, _, r => by
    simp only [shX, RelX] at r ⊢
    rw [H.1] at r
    obtain ⟨b, hb, r⟩ := r
    cases e : t[id]? with
    | none => simp [e] at hb
    | some b' =>
      simp only [e, Option.map_some] at hb; cases hb
      rw [shB_ver] at r
      exact ⟨b', rfl, r⟩
  | .yld id, _, r => by
    simp only [shX, RelX] at r ⊢
    rw [H.1] at r
    obtain ⟨b, hb, r⟩ := r
    cases e : t[id]? with
    | none => simp [e] at hb
    | some b' =>
      simp only [e, Option.map_some] at hb; cases hb
      rw [shB_ver, shB_isBox] at r
      exact ⟨b', rfl, r⟩
  | .mp id, _, r => by
    simp only [shX, RelX] at r ⊢
    rw [H.1] at r
    obtain ⟨b, hb, r⟩ := r
    cases e : t[id]? with
    | none => simp [e] at hb
    | some b' =>
      simp only [e, Option.map_some] at hb; cases hb
      rw [shB_ver, shB_isBox] at r
      exact ⟨b', rfl, r⟩
theorem shXs_ok {n m : Nat} {g : Gh} {s t : List Blk} (H : ShH n m s t) : ∀ (xs : List X) (vs : List Value), RelXs g s (shXs n m xs) vs → RelXs (shG n m g) t xs vs
  | [], _, r => by simp only [shXs, RelXs] at r ⊢; exact r
  | x :: xs, _, r => by
    simp only [shXs, RelXs] at r ⊢
    obtain ⟨u, us, rfl, h1, h2⟩ := r
    exact ⟨u, us, rfl, shX_ok H x u h1, shXs_ok H xs us h2⟩
end

def shR (n m : Nat) (r : List (Nat × X)) : List (Nat × X) := r.map fun p => (p.1, shX n m p.2)
theorem lk_shR (n m : Nat) : ∀ (r : List (Nat × X)) (t : Nat), lk (shR n m r) t = shX n m (lk r t)
  | [], t => by simp [shR, lk, shX]
  | (k, x) :: l, t => by
    have := lk_shR n m l t
    simp only [shR, List.map_cons, lk] at this ⊢
    split
    · rfl
    · exact this

/-- BLOCKS IN THE MIDDLE ARE TAKEN OUT -/
theorem Weak.mid {bs : Base} {N n m : Nat} {s t : List Blk} {r : List (Nat × X)} (H : ShH n m s t) (hl : bs.h0.length ≤ n) : Weak bs ⟨N, shR n m r, s⟩ ⟨N, r, t⟩ := by
  rintro a w ⟨g, R⟩
  refine ⟨shG n m g, ⟨R.ext.S, fun id b hb => ?_, R.ext.marks⟩, ?_, R.defers, R.size, fun t' => shX_ok H _ _ (by rw [← lk_shR]; exact R.slot t')⟩
  · obtain ⟨b', h1, h2⟩ := R.ext.blk id b hb
    have hi : shN n m id = id := shN_lt (Nat.lt_of_lt_of_le (lt_of_get hb) hl)
    have k := H.1 id
    rw [hi] at k
    rw [h1] at k
    cases e : t[id]? with
    | none => simp [e] at k
    | some b2 =>
      simp only [e, Option.map_some] at k; cases k
      rw [shB_ver, shB_isBox] at h2
      refine ⟨b2, rfl, h2.1, h2.2.1, fun q => ?_⟩
      have := h2.2.2 q
      simpa [shG, hi] using this
  · have K := R.heap
    refine ⟨K.stable, fun id b hb => ?_, fun i j hi hj h1 h2 he => shN_inj (K.inj _ _ (H.2 i hi) (H.2 j hj) h1 h2 he), fun i hi h1 => K.loc _ (H.2 i hi) h1, K.os, K.tape, K.output, K.size, K.frame, K.stab, K.gl, K.marks⟩
    have hB := K.blk (shN n m id) (shB n m b) (by rw [H.1, hb]; rfl)
    cases b with
    | box ty cells =>
      obtain ⟨h1, h2, h3, cs, h4, h5⟩ := hB
      exact ⟨h1, h2, h3, cs, h4, shXs_ok H _ _ h5⟩
    | sl => exact hB
    | slx ty v sz k cells =>
      obtain ⟨h1, h2, h3⟩ := hB
      rw [shXs_len] at h2
      refine ⟨h1, h2, ?_⟩
      rcases h3 with h3 | ⟨a1, a2, cap, cur, a3, a4, a5, a6, a7, a8, a9⟩
      · exact .inl h3
      · exact .inr ⟨a1, a2, cap, cur, a3, a4, a5, a6, a7, shXs_ok H _ _ a8, a9⟩
    | obj => exact hB
    | mp => exact hB
    | sb => exact hB
    | gone => exact hB
    | hid => exact hB

theorem RetTo.mid {bs : Base} {R : X → List Blk → Prop} {s : List Blk} {x : X} {n m : Nat} (y : X) (t : List Blk) (H : ShH n m s t) (hl : bs.h0.length ≤ n) (e : x = shX n m y) (hr : R y t) : RetTo bs R s x :=
  ⟨y, t, hr, by subst e; exact Weak.mid (r := [(0, y)]) H hl⟩
theorem RetTo.drop {bs : Base} {R : X → List Blk → Prop} {h ex : List Blk} {x : X} (hc : ClosedH h) (hl : bs.h0.length ≤ h.length) (hx : refsX h.length x) (hr : R x h) : RetTo bs R (h ++ ex) x :=
  ⟨x, h, hr, Weak.drop hc hl ⟨by simp [lk], trivial⟩ ⟨hx, trivial⟩⟩
mutual
theorem refsX_mono {n m : Nat} (h : n ≤ m) : ∀ x : X, refsX n x → refsX m x
  | .tup xs, k => by simp only [refsX] at k ⊢; exact refsXs_mono h xs k
  | .recd xs, k => by simp only [refsX] at k ⊢; exact refsXs_mono h xs k
  | .clos f xs, k => by simp only [refsX] at k ⊢; exact refsXs_mono h xs k
  | .ifb c x, k => by simp only [refsX] at k ⊢; exact refsX_mono h x k
  | .ref i v, k => by simp only [refsX] at k ⊢; omega
  | .view i v o q, k => by simp only [refsX] at k ⊢; omega
  | .ptr i v o, k => by simp only [refsX] at k ⊢; omega
  | .yld i, k => by simp only [refsX] at k ⊢; omega
  | .mp i, k => by simp only [refsX] at k ⊢; omega
  | .dead, _ => by simp
  | .val c, _ => by simp
  | .agg cs, _ => by simp
  | .nil, _ => by simp
  | .ex s k cs, _ => by simp
  | .fptr cs, _ => by simp
theorem refsXs_mono {n m : Nat} (h : n ≤ m) : ∀ xs : List X, refsXs n xs → refsXs m xs
  | [], _ => by simp
  | x :: xs, k => by simp only [refsXs] at k ⊢; exact ⟨refsX_mono h x k.1, refsXs_mono h xs k.2⟩
end
theorem refsB_mono {n m : Nat} (h : n ≤ m) {b : Blk} (k : refsB n b) : refsB m b := by
  cases b with
  | box ty xs => simp only [refsB_box] at k ⊢; exact refsXs_mono h xs k
  | slx ty v sz q xs => simp only [refsB_slx] at k ⊢; exact refsXs_mono h xs k
  | _ => simp
theorem ClosedH.set {h : List Blk} (hc : ClosedH h) (i : Nat) {b : Blk} (k : refsB h.length b) : ClosedH (h.set i b) := fun id c e => by
  rw [List.length_set]
  rw [List.getElem?_set] at e
  split at e
  · split at e
    · cases e; exact k
    · cases e
  · exact hc id c e
theorem ClosedH.snoc {h : List Blk} (hc : ClosedH h) {b : Blk} (k : refsB (h.length + 1) b) : ClosedH (h ++ [b]) := fun id c e => by
  rw [List.length_append]
  rcases Nat.lt_or_ge id h.length with q | q
  · rw [List.getElem?_append_left q] at e
    exact refsB_mono (by simp) (hc id c e)
  · rw [List.getElem?_append_right q] at e
    rcases Nat.lt_or_ge (id - h.length) 1 with q2 | q2
    · have : id - h.length = 0 := by omega
      rw [this] at e; simp at e; subst e; exact k
    · rw [List.getElem?_eq_none (by simpa using q2)] at e; cases e
end Fen

/- Part 52: a record built with its nil parts nil. -/
namespace Fen
open Go Go.RowKit

section
variable {P : Program} {T : TT} {bs : Base} {ops : Array Oper} {dst : Option Tmp} {ty : TypeId} {pos : String} {af : Array Edge} {st : St} {K : St → Prop}
def effK (st : St) (dst : Option Tmp) (K : St → Prop) : Option Eff → Prop
  | some e => e.pre ∧ K (st.put dst e.x e.h)
  | none => False
@[simp] theorem effK_some (e : Eff) : effK st dst K (some e) = (e.pre ∧ K (st.put dst e.x e.h)) := rfl
@[congr] theorem effK_congr {e e' : Option Eff} (h : e = e') : effK st dst K e = effK st dst K e' := by rw [h]
/-- a record is built with its nil parts nil -/
theorem OpW.buildL (hT : TOK P T) {t : Nat} {parts : Array (Nat × Operand)} (hd : dstOK st.n dst) (hk : effK st dst K (opBuildL T (evO bs.gl st.r) st.h t parts.toList)) : OpW P bs ops ⟨dst, .build t parts, ty, pos, af, none⟩ st K := by
  unfold effK at hk
  split at hk
  · rename_i e he
    refine OpW.does rfl hd e.x e.h (fun g a w R => ?_) hk.2
    obtain ⟨v, w', h1, h2⟩ := buildL_ok hT R.heap (fun p _ => R.ev p.2) he hk.1
    refine ⟨v, w', h2.choose, ?_, h2.choose_spec.1, h2.choose_spec.2.1, h2.choose_spec.2.2⟩
    simp [execOp, h1]
  · exact hk.elim
end
end Fen

/- Part 53: a slice built as one's own; []byte(x) of a slice of bytes of one's own. -/
namespace Fen
open Go Go.RowKit

section
variable {P : Program} {T : TT} {bs : Base} {ops : Array Oper} {dst : Option Tmp} {ty : TypeId} {pos : String} {af : Array Edge} {st : St} {K : St → Prop}
/-- a slice literal as a block of one's own -/
theorem OpW.buildSliceL (hT : TOK P T) {t len : Nat} {parts : Array (Nat × Operand)} (hd : dstOK st.n dst) (hk : effK st dst K (opBuildSliceL T false (evO bs.gl st.r) st.h t len parts.toList)) : OpW P bs ops ⟨dst, .buildSlice t len parts, ty, pos, af, none⟩ st K := by
  unfold effK at hk
  split at hk
  · rename_i e he
    refine OpW.does rfl hd e.x e.h (fun g a w R => ?_) hk.2
    obtain ⟨v, w', h1, h2⟩ := buildSliceL_ok (ρ := a.eval) hT R.heap (fun p _ => R.ev p.2) he hk.1
    refine ⟨v, w', h2.choose, ?_, h2.choose_spec.1, h2.choose_spec.2.1, h2.choose_spec.2.2⟩
    simp [execOp, h1]
  · exact hk.elim
theorem relXs_vals {g : Gh} {h : List Blk} : ∀ (cs : List C) (vs : List Value), RelXs g h (cs.map .val) vs → RepL g.S cs vs
  | [], vs, h => by simpa [RelXs, RepL] using h
  | c :: cs, vs, h => by
    simp only [List.map_cons, RelXs] at h
    obtain ⟨u, us, rfl, h1, h2⟩ := h
    simp only [RelX] at h1
    simp only [RepL]
    exact ⟨u, us, rfl, h1, relXs_vals cs us h2⟩
/-- []byte(x): the memory is marked; it is a value from here on -/
theorem OpW.convOwn (hT : TOK P T) {t e : Nat} {s b s' b' : Nat} {z z' : List X} (ht : T t = some ⟨.slice e, s, b, z⟩) (hte : T e = some ⟨.int .u8, s', b', z'⟩) {x : Operand} {id ver sz n e' : Nat} {cs : List C} (hx : evO bs.gl st.r x = .ref id ver)
    (hb : st.h[id]? = some (.slx e' ver sz n (cs.map .val))) (hn : 0 < n) (hd : dstOK st.n dst) (hK : K (st.put dst (.val (.sl n cs)) (st.h.set id (.sl e' (ver + 1) false sz n cs)))) :
    OpW P bs ops ⟨dst, .convert t t x, ty, pos, af, none⟩ st K := by
  refine OpW.does rfl hd _ _ (fun g a w R => ?_) hK
  have H := R.heap
  have hv := R.ev x
  rw [hx] at hv
  have hv' := relx_ref H hb hv
  have hblk := H.blk id _ hb
  have hlt := lt_of_get hb
  simp only [BlkOK] at hblk
  obtain ⟨h0, hl, hk⟩ := hblk
  rcases hk with ⟨_, hn0, _⟩ | ⟨he, ha, cap, cur, h1, h2, h3, h4, h5, h6, h7⟩
  · omega
  have h6' := relXs_vals _ _ h6
  let S' : Stab := fun b o => if b = (g.ad id).1 then (if o < n * sz then cur[o]? else none) else g.S b o
  have hS : ∀ b o v, g.S b o = some v → S' b o = some v := fun b o u hu => by
    by_cases c1 : b = (g.ad id).1
    · rw [c1, h7] at hu; cases hu
    · simp only [S']; rw [if_neg c1]; exact hu
  have hne : ∀ b o, b ≠ (g.ad id).1 → S' b o = g.S b o := fun b o c => by simp only [S']; rw [if_neg c]
  have hat : ∀ j u, (cur.toList.take (n * sz))[j]? = some u → S' (g.ad id).1 j = some u := fun j u hj => by
    rw [List.getElem?_take] at hj
    split at hj
    · rename_i c
      simp only [S', if_true]; rw [if_pos c]; simpa using hj
    · cases hj
  let g' : Gh := { S := S', ad := g.ad, hd := fun i => if i = id then .slice (some ⟨(g.ad id).1, 0, none⟩) n n else g.hd i, ex := fun i => if i = id then false else g.ex i, marks := g.marks }
  have E : Ext g st.h g' (st.h.set id (.sl e' (ver + 1) false sz n cs)) := ⟨hS, fun i b hi => by
      by_cases ci : i = id
      · subst ci
        rw [hb] at hi
        cases hi
        exact ⟨_, get_set_eq hlt, rfl, by simp [Blk.ver], fun q => by simp [Blk.ver] at q⟩
      · exact ⟨b, by rw [get_set_ne ci]; exact hi, rfl, Nat.le_refl _, fun _ => ⟨rfl, by simp only [g']; rw [if_neg ci]⟩⟩, fun _ h => h⟩
  let w' := w.freeze ⟨(g.ad id).1, cur.size, none⟩ 1
  have hfr : w' = { w with heap := w.heap.modify (g.ad id).1 fun
      | .cells c elem (lo, hi) => .cells c elem (if lo == hi then (cur.size, cur.size + 1) else (min lo cur.size, max hi (cur.size + 1)))
      | o => o } := (if_neg (by decide)).trans rfl
  have hhe : ∀ k, k ≠ (g.ad id).1 → w'.heap[k]? = w.heap[k]? := fun k hk => by
    rw [hfr]
    exact (Array.getElem?_modify ..).trans (if_neg (Ne.symm hk))
  have hce : ∀ b o, w'.cell? ⟨b, o, none⟩ = w.cell? ⟨b, o, none⟩ := fun b o => by
    by_cases c1 : b = (g.ad id).1
    · subst c1
      rw [cell_of h4]
      have : w'.heap[(g.ad id).1]? = some (.cells cur e' (cur.size, cur.size + 1)) := by
        rw [hfr]
        refine (Array.getElem?_modify ..).trans ?_
        rw [if_pos rfl, h4]; rfl
      rw [cell_of this]
    · exact cell_block (hhe b c1)
  have hval : a.eval x = .slice (some ⟨(g.ad id).1, 0, none⟩) n cap := hv'.trans h1
  have hloc := H.loc id hlt he
  refine ⟨.slice (some ⟨(g.ad id).1, 0, none⟩) n cap, w', g', ?_, E, ⟨fun b o u hu => ?_, fun i b hi => ?_, fun i j hi hj ei ej => ?_, fun i hi ei => ?_, H.os, H.tape, H.output, ?_, fun k hk ho => ?_, fun b o hb' ho => ?_, fun k cs hk => ?_, fun m hm => ?_⟩, ?_⟩
  · have hsh : w.shape? (g.ad id).1 = some (e', cur.size) := by simp [World.shape?, h4]
    simp [execOp, hval, convert, run_underlying (hT.slice ht), run_underlying (hT.int hte), markStringish, hsh]
    rfl
  · rw [hce]
    by_cases c1 : b = (g.ad id).1
    · simp only [g', S'] at hu
      rw [if_pos c1] at hu
      split at hu
      · rw [c1, cell_of h4]; exact hu
      · cases hu
    · exact H.stable b o u (by rw [← hne b o c1]; exact hu)
  · rcases set_get hi with ⟨rfl, _, rfl⟩ | ⟨hni, hi'⟩
    · simp only [BlkOK, g', if_true]
      exact ⟨h0, by simpa using hl, .inr (.inr ⟨by trivial, rfl, by rw [ha], by omega, cur.toList.take (n * sz), fun j u hj => by rw [ha, Nat.zero_add]; exact hat j u hj, RepL.mono hS _ _ h6'⟩)⟩
    · refine (H.blk i b hi').mono E rfl (by simp only [g']; rw [if_neg hni]) (by simp only [g']; rw [if_neg hni]) fun hei _ => ?_
      have hd' : (g.ad i).1 ≠ (g.ad id).1 := fun q => hni (H.inj i id (lt_of_get hi') hlt hei he q)
      exact ⟨hhe _ hd', fun o => hne _ _ hd'⟩
  · simp only [g'] at ei ej
    split at ei
    · cases ei
    split at ej
    · cases ej
    exact H.inj i j (by simpa using hi) (by simpa using hj) ei ej
  · simp only [g'] at ei
    split at ei
    · cases ei
    exact H.loc i (by simpa using hi) ei
  · have : w'.heap.size = w.heap.size := by rw [hfr]; simp
    rw [this]; exact H.size
  · have : k ≠ (g.ad id).1 := fun q => by rcases hloc with c | c; omega; exact ho (q ▸ c)
    exact (hhe k this).trans (H.frame k hk ho)
  · have : b ≠ (g.ad id).1 := fun q => by rcases hloc with c | c; omega; exact ho (q ▸ c)
    exact (hne b o this).trans (H.stab b o hb' ho)
  · obtain ⟨vs, q1, q2⟩ := H.gl k cs hk
    exact ⟨vs, fun j u hj => hS _ _ _ (q1 j u hj), RepL.mono hS cs vs q2⟩
  · have : m ≠ (g.ad id).1 := fun q => by have := H.marks m hm; rw [q, h4] at this; cases this
    exact (hhe m this).trans (H.marks m hm)
  · simp only [RelX, RepV]
    exact .inr ⟨_, 0, cap, cur.toList.take (n * sz), rfl, h2, h3, fun j u hj => by rw [Nat.zero_add]; exact hat j u hj, RepL.mono hS _ _ h6'⟩
end
end Fen

/- Part 54: a cell of a slice of live cells comes to hold its slice's value. -/
namespace Fen
open Go Go.RowKit

section
variable {bs : Base} {g : Gh} {h : List Blk} {w : World}
theorem HeapOK.reslx (H : HeapOK bs g h w) {id : Nat} {ty : TypeId} {v sz n : Nat} {xs ys : List X} (hb : h[id]? = some (.slx ty v sz n xs)) (hln : ys.length = xs.length) (hr : ∀ vs, RelXs g h xs vs → RelXs g h ys vs) :
    Ext g h g (h.set id (.slx ty v sz n ys)) ∧ HeapOK bs g (h.set id (.slx ty v sz n ys)) w := by
  have E : Ext g h g (h.set id (.slx ty v sz n ys)) := Ext.recd g hb rfl rfl
  refine ⟨E, ⟨H.stable, fun i k hi => ?_, fun i j hi hj => H.inj i j (by simpa using hi) (by simpa using hj), fun i hi => H.loc i (by simpa using hi), H.os, H.tape, H.output, H.size, H.frame, H.stab, H.gl, H.marks⟩⟩
  rcases set_get hi with ⟨rfl, _, rfl⟩ | ⟨hne, hi'⟩
  · have k := H.blk _ _ hb
    simp only [BlkOK] at k ⊢
    obtain ⟨k0, kl, k⟩ := k
    refine ⟨k0, hln.trans kl, ?_⟩
    rcases k with k | ⟨he, ha, cap, cur, h1, h2, h3, h4, h5, h6, h7⟩
    · exact .inl k
    · exact .inr ⟨he, ha, cap, cur, h1, h2, h3, h4, h5, RelXs.mono E _ _ (hr _ h6), h7⟩
  · exact (H.blk i k hi').mono E rfl rfl rfl fun _ _ => ⟨rfl, fun _ => rfl⟩

theorem Weak.solidX {n : Nat} {r : List (Nat × X)} (i j k : Nat) {ty ty' : TypeId} {v0 sz0 n0 : Nat} {xs : List X} {ver sz m : Nat} {p : Bool} {cs : List C} (hb : h[i]? = some (.slx ty v0 sz0 n0 xs)) (hk : xs[k]? = some (.ref j ver)) (hj : h[j]? = some (.sl ty' ver p sz m cs)) :
    Weak bs ⟨n, r, h⟩ ⟨n, r, (h.set j (.sl ty' ver false sz m cs)).set i (.slx ty v0 sz0 n0 (xs.set k (.val (.sl m cs))))⟩ := by
  intro a w ⟨g, R⟩
  have H := R.heap
  have hne : i ≠ j := by rintro rfl; rw [hj] at hb; cases hb
  have k0 := H.blk i _ hb
  simp only [BlkOK] at k0
  obtain ⟨z0, zl, k0⟩ := k0
  rcases k0 with ⟨_, hn0, _⟩ | ⟨_, _, _, cur, _, _, _, _, _, k5, _⟩
  · have := (List.getElem?_eq_some_iff.1 hk).1
    rw [zl, hn0] at this
    omega
  obtain ⟨u, _, hu⟩ := k5.at hk
  have e : toV1 h (.ref j ver) = some (.c (.sl m cs), h.set j (.sl ty' ver false sz m cs)) := by simp only [toV1, hj, if_true]
  obtain ⟨S', E, H', hrep⟩ := toV1_ok H hu e
  have hb1 : (h.set j (.sl ty' ver false sz m cs))[i]? = some (.slx ty v0 sz0 n0 xs) := by rw [get_set_ne hne]; exact hb
  have hu0 : u = g.hd j := by
    simp only [RelX] at hu
    obtain ⟨b, h1, _, _, _, h2⟩ := hu
    rw [hj] at h1; cases h1
    exact h2 rfl
  obtain ⟨E2, H2⟩ := H'.reslx (ys := xs.set k (.val (.sl m cs))) hb1 (by simp) fun vs hvs => by
    obtain ⟨v, hv, hv2⟩ := hvs.at hk
    have hv0 : v = g.hd j := by
      simp only [RelX] at hv2
      obtain ⟨b, h1, _, _, _, h2⟩ := hv2
      rw [get_set_eq (lt_of_get hj)] at h1; cases h1
      exact h2 rfl
    have q := RelXs.set (.val (.sl m cs)) v (by simp only [RelX]; rw [hv0, ← hu0]; exact hrep) k hvs
    have : vs.set k v = vs := by
      refine List.ext_getElem? fun t => ?_
      rw [List.getElem?_set]
      split
      · rename_i c
        subst c
        rw [hv]
        simp [(List.getElem?_eq_some_iff.1 hv).1]
      · rfl
    rwa [this] at q
  exact ⟨_, (R.ext.trans E).trans E2, H2, R.defers, R.size, fun t => RelX.mono E2 _ _ (RelX.mono E _ _ (R.slot t))⟩
end
end Fen

/- Part 55: a slice literal of values as a block of one's own. -/
namespace Fen
open Go Go.RowKit

section
variable {bs : Base} {g : Gh} {h : List Blk} {w : World}
theorem HeapOK.slv (H : HeapOK bs g h w) {id : Nat} {ty : TypeId} {v sz n : Nat} {cs : List C} (hb : h[id]? = some (.slx ty v sz n (cs.map .val))) :
    Ext g h g (h.set id (.sl ty v true sz n cs)) ∧ HeapOK bs g (h.set id (.sl ty v true sz n cs)) w := by
  have E : Ext g h g (h.set id (.sl ty v true sz n cs)) := Ext.recd g hb rfl rfl
  refine ⟨E, ⟨H.stable, fun i k hi => ?_, fun i j hi hj => H.inj i j (by simpa using hi) (by simpa using hj), fun i hi => H.loc i (by simpa using hi), H.os, H.tape, H.output, H.size, H.frame, H.stab, H.gl, H.marks⟩⟩
  rcases set_get hi with ⟨rfl, _, rfl⟩ | ⟨hne, hi'⟩
  · have k := H.blk _ _ hb
    simp only [BlkOK] at k ⊢
    obtain ⟨k0, kl, k⟩ := k
    refine ⟨k0, by simpa using kl, ?_⟩
    rcases k with k | ⟨he, ha, cap, cur, h1, h2, h3, h4, h5, h6, h7⟩
    · exact .inl k
    · exact .inr (.inl ⟨he, ha, cap, cur, h1, h2, h3, h4, h5, relXs_vals _ _ h6, fun o ho => absurd (h7 o) ho⟩)
  · exact (H.blk i k hi').mono E rfl rfl rfl fun _ _ => ⟨rfl, fun _ => rfl⟩
end
section
variable {P : Program} {T : TT} {bs : Base} {ops : Array Oper} {dst : Option Tmp} {ty : TypeId} {pos : String} {af : Array Edge} {st : St} {K : St → Prop}
theorem OpW.buildSliceV (hT : TOK P T) {t len : Nat} {parts : Array (Nat × Operand)} {e sz n : Nat} (cs : List C) {p : Prop} (hd : dstOK st.n dst)
    (he : opBuildSliceL T false (evO bs.gl st.r) st.h t len parts.toList = some ⟨p, .ref st.h.length 0, .write, st.h ++ [.slx e 0 sz n (cs.map .val)]⟩) (hp : p)
    (hK : K (st.put dst (.ref st.h.length 0) (st.h ++ [.sl e 0 true sz n cs]))) : OpW P bs ops ⟨dst, .buildSlice t len parts, ty, pos, af, none⟩ st K := by
  refine OpW.does rfl hd _ _ (fun g a w R => ?_) hK
  obtain ⟨v, w', h1, h2⟩ := buildSliceL_ok (ρ := a.eval) hT R.heap (fun p _ => R.ev p.2) he hp
  obtain ⟨g', E, H', r⟩ := h2
  have hs : (st.h ++ [Blk.slx e 0 sz n (cs.map .val)]).set st.h.length (.sl e 0 true sz n cs) = st.h ++ [.sl e 0 true sz n cs] := by
    rw [List.set_append_right _ _ (Nat.le_refl _)]; simp
  obtain ⟨E2, H2⟩ := H'.slv (id := st.h.length) (ty := e) (v := 0) (sz := sz) (n := n) (cs := cs) (by simp)
  rw [hs] at E2 H2
  exact ⟨v, w', g', by simp [execOp, h1], E.trans E2, H2, RelX.mono E2 _ _ r⟩
end
end Fen
