/- A part of the proof; no statement is proved here: Kora11, Kora12, Kora13, Kora14, Kora15, Kora16, Kora17, Kora18, Kora19, Kora20. -/
import Derived.Test.YtcjkcoekjfbcgaaDoorKorA
import Derived.RangeFuncNested
import Derived.RangeFuncLeaves

set_option linter.unusedVariables false
set_option linter.unusedSimpArgs false

/- Part 11: slices in new memory; append. -/
namespace Fen
open Go Go.RowKit

theorem rep_length {α : Type} (l : List α) : ∀ n : Nat, (rep n l).length = n * l.length
  | 0 => by simp [rep]
  | n + 1 => by simp [rep, rep_length l n, Nat.succ_mul]; omega

theorem repL_rep {S : Stab} {cs : List C} {vs : List Value} (r : RepL S cs vs) : ∀ n : Nat, RepL S (rep n cs) (rep n vs)
  | 0 => by simp [rep, RepL]
  | n + 1 => r.append (repL_rep r n)

theorem rep_get {α : Type} (l : List α) (hl : 0 < l.length) : ∀ (n i : Nat), i < n * l.length → (rep n l)[i]? = l[i % l.length]?
  | 0, i, h => by simp at h
  | n + 1, i, h => by
    simp only [rep]
    by_cases c : i < l.length
    · rw [List.getElem?_append_left c, Nat.mod_eq_of_lt c]
    · rw [List.getElem?_append_right (by omega), rep_get l hl n _ (by rw [Nat.succ_mul] at h; omega)]
      congr 1
      rw [← Nat.mod_eq_sub_mod (by omega)]

/-- n zero elements, as the model lays them -/
theorem made_rep (z : Array Value) (n k : Nat) (hz : z.size = k) (hk : 0 < k) : ((Array.range (n * k)).map (z[· % z.size]!)).toList = rep n z.toList := by
  apply List.ext_getElem?
  intro i
  have hzl : z.toList.length = k := hz
  by_cases c : i < n * k
  · rw [rep_get z.toList (by omega) n i (by rw [hzl]; exact c)]
    have hm : i % k < z.size := by rw [hz]; exact Nat.mod_lt _ hk
    have hm' : i % k < z.toList.length := hm
    simp [hz, c, getElem!_pos z (i % k) hm, getElem?_pos z (i % k) hm]
  · have h1 : (rep n z.toList).length ≤ i := by rw [rep_length, hzl]; omega
    rw [List.getElem?_eq_none h1, List.getElem?_eq_none]
    simp; omega

section
variable {P : Program} {T : TT} {bs : Base} {g : Gh} {h : List Blk} {w : World}

theorem fillC_length (place : Nat → Option (Nat × Nat)) : ∀ (ps : List (Nat × V)) (cells : List C), (fillC place cells ps).1 → (fillC place cells ps).2.length = cells.length
  | [], cells, _ => rfl
  | (i, a) :: ps, cells, hf => by
    simp only [fillC] at hf ⊢
    cases hpl : place i with
    | none => simp [hpl] at hf
    | some x =>
      obtain ⟨off, n⟩ := x
      rw [hpl] at hf
      simp only at hf ⊢
      obtain ⟨hf1, hf2, hf3⟩ := hf
      rw [fillC_length place ps _ hf3]
      simp [setSeg] <;> omega

/-- memory that is new, read by value from here on -/
theorem world_new (H : HeapOK bs g h w) {cs : Array Value} {ty : TypeId} {w' : World} (hos : w'.os = w.os) (htape : w'.tape = w.tape) (hout : w'.output = w.output) (hheap : w'.heap = w.heap.push (.cells cs ty (0, 0))) (n : Nat) :
    ∃ S', Ext g h { g with S := S' } h ∧ HeapOK bs { g with S := S' } h w' ∧ (∀ j u, (cs.toList.take n)[j]? = some u → S' w.heap.size j = some u) := by
  have hold : ∀ k, k < w.heap.size → w'.heap[k]? = w.heap[k]? := fun k hk => by rw [hheap, Array.getElem?_push, if_neg (by omega)]
  have hnew : w'.heap[w.heap.size]? = some (.cells cs ty (0, 0)) := by rw [hheap]; simp
  let S' : Stab := fun b o => if b = w.heap.size then (cs.toList.take n)[o]? else g.S b o
  obtain ⟨E, H'⟩ := H.world S' hos htape hout (by rw [hheap]; simp) hold (fun b o hb => by simp only [S']; rw [if_neg (by omega)]) (fun b o v hv => by
    by_cases c : b = w.heap.size
    · subst c
      simp only [S', if_true] at hv
      rw [cell_of hnew]
      rw [List.getElem?_take] at hv
      split at hv
      · simpa using hv
      · cases hv
    · simp only [S'] at hv; rw [if_neg c] at hv
      have := H.stable b o v hv
      rw [cell_block (hold b (cell_lt this))]; exact this)
  exact ⟨S', E, H', fun j u hj => by simp only [S', if_true]; exact hj⟩

theorem buildSlice_ok (hT : TOK P T) (H : HeapOK bs g h w) {ev : Operand → X} {ρ : Operand → Value} {t len : Nat} {parts : Array (Nat × Operand)} {e : Eff} (r : ∀ p ∈ parts.toList, RelX g h (ev p.2) (ρ p.2)) (he : opBuildSlice T ev h t len parts.toList = some e) (hp : e.pre) :
    VOK P bs g h w (Instr.buildSlice t len (parts.map fun (i, x) => (i, ρ x))) e := by
  unfold opBuildSlice at he
  split at he
  · rename_i el s b z0 ht
    split at he
    · rename_i ei ps h' hei hps
      obtain ⟨S', E, H', rp⟩ := partVs_ok H r hps
      obtain ⟨d, i, z, hd, hi, hf, hs, hby, hz, hc, hzok, hzl⟩ := hT.get hei
      have hmap : (parts.map fun (i, x) => (i, ρ x)).toList = parts.toList.map fun p => (p.1, ρ p.2) := by simp
      have hzs : z.cells.size = ei.size := by rw [← hzl]; have : z.cells.size = z.cells.toList.length := rfl; rw [this, hc]; simp
      have key : ∀ x : Prop × List C, x = fillC (fun i => some (i * ei.size, ei.size)) (rep len (ei.zero.map zC)) ps → x.1 → 0 < ei.size → len * ei.size ≤ 16777216 →
          ∃ r' : Array Value, (Instr.buildSlice t len (parts.map fun (i, x) => (i, ρ x))).run P w = .ok (.slice (some ⟨w.heap.size, 0, none⟩) len len) { w with heap := w.heap.push (.cells r' el) } ∧ RepL S' x.2 r'.toList ∧ r'.toList.length = len * ei.size ∧ x.2.length = len * ei.size := fun x hx hp1 hp2 hp3 => by
        subst hx
        have hzr : RepL S' (rep len (ei.zero.map zC)) ((Array.range (len * ei.size)).map (z.cells[· % z.cells.size]!)).toList := by
          rw [made_rep z.cells len ei.size hzs hp2]
          exact repL_rep (by rw [hc]; exact zeroC_rel S' hzok) len
        obtain ⟨r', h1, h2⟩ := fill_ok _ rp hzr hp1
        have hlen : (fillC (fun i => some (i * ei.size, ei.size)) (rep len (ei.zero.map zC)) ps).2.length = len * ei.size := by
          rw [fillC_length _ _ _ hp1, rep_length, List.length_map, hzl]
        refine ⟨r', ?_, h2, by rw [h2.length, hlen], hlen⟩
        by_cases h0 : len * ei.size = 0
        · have hl0 : len = 0 := by rcases Nat.mul_eq_zero.1 h0 with h | h <;> omega
          subst hl0
          have e0 : ∀ f : Nat → Value, Array.map f (Array.range (0 * ei.size)) = #[] := fun f => by apply Array.ext'; simp
          rw [e0] at h1
          simp only [Instr.buildSlice, Sem.run_bind, run_underlying (hT.slice ht), hT.sizeOf hei, Result.andThen_ok, Sem.run_ite, hmap, e0, h0, if_true, Sem.run_pure]
          have e2 : ¬ (0 : Nat) > 2 ^ 24 := by omega
          have e3 : ∀ f : Nat → Value, Array.map f (Array.range 0) = #[] := fun f => by apply Array.ext'; simp
          simp only [e2, e3, if_false, Sem.run_pure, Result.andThen_ok, h1, newRow, Sem.run_bind, run_newObj]
        · have hgt : ¬ (len * ei.size > 16777216) := by omega
          have e2 : (2 : Nat) ^ 24 = 16777216 := rfl
          simp only [Instr.buildSlice, Sem.run_bind, run_underlying (hT.slice ht), hT.sizeOf hei, Result.andThen_ok, Sem.run_ite, hmap, e2, hgt, if_false, h0, zeroValue, typeInfo, run_program, hi, Sem.run_pure, hz]
          simp [h1, newRow]
      simp only [Option.some.injEq] at he; subst he
      simp only at hp
      obtain ⟨r', h1, h2, h3, h4⟩ := key _ rfl hp.1 hp.2.1 hp.2.2
      obtain ⟨S2, E2, H2, hst⟩ := world_new H' (cs := r') (ty := el) (w' := { w with heap := w.heap.push (.cells r' el) }) rfl rfl rfl rfl (len * ei.size)
      refine ⟨_, _, h1, _, E.trans E2, H2, ?_⟩
      simp only [RelX]
      refine ⟨hp.2.1, h4, .inr ⟨_, _, r'.toList, rfl, ?_, fun j u hj => ?_, RepL.mono E2.S _ _ h2⟩⟩
      · have : len ≤ len * ei.size := Nat.le_mul_of_pos_right _ hp.2.1
        unfold maxLen; omega
      · rw [Nat.zero_add]; exact hst j u (by rw [List.take_of_length_le (by omega)]; exact hj)
    · cases he
  · cases he

theorem relXs_rep {g : Gh} {h : List Blk} {cs : List X} {vs : List Value} (r : RelXs g h cs vs) : ∀ n : Nat, RelXs g h (rep n cs) (rep n vs)
  | 0 => by simp [rep, RelXs]
  | n + 1 => r.append (relXs_rep r n)

theorem mem_rep {α : Type} {l : List α} {x : α} : ∀ {n : Nat}, x ∈ rep n l → x ∈ l
  | 0, h => by simp [rep] at h
  | n + 1, h => by
    simp only [rep, List.mem_append] at h
    exact h.elim id mem_rep

theorem fillX_length (place : Nat → Option (Nat × Nat)) : ∀ (ps : List (Nat × X)) (cells : List X), (fillX place cells ps).1 → (fillX place cells ps).2.length = cells.length
  | [], cells, _ => rfl
  | (i, a) :: ps, cells, hf => by
    simp only [fillX] at hf ⊢
    cases hpl : place i with
    | none => simp [hpl] at hf
    | some x =>
      obtain ⟨off, n⟩ := x
      cases hs : storeXs a with
      | none => simp [hpl, hs] at hf
      | some xs =>
        rw [hpl, hs] at hf
        simp only at hf ⊢
        obtain ⟨hf1, hf2, hf3⟩ := hf
        rw [fillX_length place ps _ hf3]
        simp [setSeg] <;> omega

theorem buildSliceL_ok (hT : TOK P T) (H : HeapOK bs g h w) {gd : Bool} {ev : Operand → X} {ρ : Operand → Value} {t len : Nat} {parts : Array (Nat × Operand)} {e : Eff} (r : ∀ p ∈ parts.toList, RelX g h (ev p.2) (ρ p.2)) (he : opBuildSliceL T gd ev h t len parts.toList = some e) (hp : e.pre) :
    VOK P bs g h w (Instr.buildSlice t len (parts.map fun (i, x) => (i, ρ x))) e := by
  unfold opBuildSliceL at he
  split at he
  · rename_i el s b z0 ht
    split at he
    · rename_i ei hei
      split at he
      · cases he
      · obtain ⟨d, i, z, hd, hi, hf, hs, hby, hz, hc, hzok, hzl⟩ := hT.get hei
        have hmap : (parts.map fun (i, x) => (i, ρ x)).toList = parts.toList.map fun p => (p.1, ρ p.2) := by simp
        have hzs : z.cells.size = ei.size := by rw [← hzl]; have : z.cells.size = z.cells.toList.length := rfl; rw [this, hc]; simp
        simp only [Option.some.injEq] at he; subst he
        simp only at hp
        obtain ⟨hp1, hp2, hp3, hp4⟩ := hp
        have hmade := made_rep z.cells len ei.size hzs hp2
        have hzr : RelXs g h (rep len ei.zero) ((Array.range (len * ei.size)).map (z.cells[· % z.cells.size]!)).toList := by
          rw [hmade]
          exact relXs_rep (by rw [hc]; exact zero_rel g h hzok) len
        have hzo : ∀ u ∈ ((Array.range (len * ei.size)).map (z.cells[· % z.cells.size]!)).toList, u.oneCell' = true := fun u hu => by
          rw [hmade] at hu
          have hu := mem_rep hu
          rw [hc] at hu
          obtain ⟨x, hx, rfl⟩ := List.mem_map.1 hu
          exact zval_one (List.all_eq_true.1 hzok x hx)
        obtain ⟨r', h1, h2, h3⟩ := fillX_ok _ r hzr hzo hp1
        have hlen : (fillX (fun i => some (i * ei.size, ei.size)) (rep len ei.zero) (parts.toList.map fun p => (p.1, ev p.2))).2.length = len * ei.size := by
          rw [fillX_length _ _ _ hp1, rep_length, hzl]
        have hrl : r'.toList.length = len * ei.size := by rw [h2.length, hlen]
        have hpos : 0 < len * ei.size := Nat.mul_pos hp4 hp2
        have h0 : ¬ (len * ei.size = 0) := by omega
        have hgt : ¬ (len * ei.size > 16777216) := by omega
        have e2 : (2 : Nat) ^ 24 = 16777216 := rfl
        have hrun : (Instr.buildSlice t len (parts.map fun (i, x) => (i, ρ x))).run P w = .ok (.slice (some ⟨w.heap.size, 0, none⟩) len len) { w with heap := w.heap.push (.cells r' el) } := by
          simp only [Instr.buildSlice, Sem.run_bind, run_underlying (hT.slice ht), hT.sizeOf hei, Result.andThen_ok, Sem.run_ite, hmap, e2, hgt, if_false, h0, zeroValue, typeInfo, run_program, hi, Sem.run_pure, hz]
          simp [h1, newRow]
        obtain ⟨g', E, H', hr⟩ := push_ownX H (cells := (fillX (fun i => some (i * ei.size, ei.size)) (rep len ei.zero) (parts.toList.map fun p => (p.1, ev p.2))).2) (n := len) (cap := len) hp2 hlen (Nat.le_refl _) (by
            have : len ≤ len * ei.size := Nat.le_mul_of_pos_right _ hp2
            unfold maxLen; omega) (cs := r') (ty := el) (show r'.toList.length = _ from hrl) (by rw [List.take_of_length_le (by omega)]; exact h2) (w' := { w with heap := w.heap.push (.cells r' el) }) rfl rfl rfl rfl
        exact ⟨_, _, hrun, g', E, H', hr⟩
    · cases he
  · cases he

theorem take_rep {α : Type} (l : List α) : ∀ (n m : Nat), n ≤ m → (rep m l).take (n * l.length) = rep n l
  | 0, m, _ => by simp [rep]
  | n + 1, 0, h => by omega
  | n + 1, m + 1, h => by
    simp only [rep]
    rw [Nat.succ_mul, Nat.add_comm, List.take_append, List.take_of_length_le (by omega)]
    congr 1
    rw [Nat.add_sub_cancel_left]
    exact take_rep l n m (by omega)

theorem makeSlice_ok (hT : TOK P T) (H : HeapOK bs g h w) {gd : Bool} {t : Nat} {x y : X} {v u : Value} {e : Eff} (r : RelX g h x v) (r2 : RelX g h y u) (he : opMakeSlice T gd h t x y = some e) (hp : e.pre) :
    VOK P bs g h w (Instr.makeSlice t v u) e := by
  unfold opMakeSlice at he
  split at he
  · rename_i el s b z0 kl n kc m ht
    rw [rel_int] at r r2; subst r; subst r2
    split at he
    · rename_i ei hei
      split at he
      · cases he
      · simp only [Option.some.injEq] at he; subst he
        simp only at hp
        obtain ⟨hp1, hp2, hp3, hp4, hp5⟩ := hp
        obtain ⟨d, i, z, hd, hi, hf, hs, hby, hz, hc, hzok, hzl⟩ := hT.get hei
        have hzs : z.cells.size = ei.size := by rw [← hzl]; have : z.cells.size = z.cells.toList.length := rfl; rw [this, hc]; simp
        have hrun := run_make (P := P) w t el i z (hT.slice ht) hi hz kl kc n m hp1 hp2 (by rw [hby, Int.mul_comm]; omega) hp4
        rw [hs] at hrun
        have hmade : madeCells z.cells (m.toNat * ei.size) = ((Array.range (m.toNat * ei.size)).map (z.cells[· % z.cells.size]!)) := rfl
        have hlist := made_rep z.cells m.toNat ei.size hzs hp5
        have hzl' : z.cells.toList.length = ei.size := hzs
        obtain ⟨g', E2, H2, r2⟩ := push_own H (cells := rep n.toNat (ei.zero.map zC)) true hp5 (by rw [rep_length, List.length_map, hzl]) (show n.toNat ≤ m.toNat by omega) (by unfold maxLen; omega)
          (cs := madeCells z.cells (m.toNat * ei.size)) (ty := el) (w' := w.alloc (.cells (madeCells z.cells (m.toNat * ei.size)) el)) (by rw [hmade]; simp) (by
            rw [hmade, hlist]
            have := take_rep z.cells.toList n.toNat m.toNat (by omega)
            rw [hzl'] at this
            rw [this]
            exact repL_rep (by rw [hc]; exact zeroC_rel g.S hzok) _) rfl rfl rfl rfl
        exact ⟨_, _, hrun, g', E2, H2, r2⟩
    · cases he
  · cases he

theorem makeSliceV_ok (hT : TOK P T) (H : HeapOK bs g h w) {t : Nat} {x y : X} {v u : Value} {e : Eff} (r : RelX g h x v) (r2 : RelX g h y u) (he : opMakeSliceV T h t x y = some e) (hp : e.pre) :
    VOK P bs g h w (Instr.makeSlice t v u) e := by
  unfold opMakeSliceV at he
  split at he
  · rename_i el s b z0 kl n kc m ht
    rw [rel_int] at r r2; subst r; subst r2
    split at he
    · rename_i ei hei
      simp only [Option.some.injEq] at he; subst he
      simp only at hp
      obtain ⟨hp1, hp2, hp3, hp4, hp5, rfl⟩ := hp
      obtain ⟨d, i, z, hd, hi, hf, hs, hby, hz, hc, hzok, hzl⟩ := hT.get hei
      have hzs : z.cells.size = ei.size := by rw [← hzl]; have : z.cells.size = z.cells.toList.length := rfl; rw [this, hc]; simp
      have hrun := run_make (P := P) w t el i z (hT.slice ht) hi hz kl kc n n hp1 hp2 (by rw [hby, Int.mul_comm]; omega) hp4
      rw [hs] at hrun
      have hmade : madeCells z.cells (n.toNat * ei.size) = ((Array.range (n.toNat * ei.size)).map (z.cells[· % z.cells.size]!)) := rfl
      have hlist := made_rep z.cells n.toNat ei.size hzs hp5
      have hrel : RepL g.S (rep n.toNat (ei.zero.map zC)) (madeCells z.cells (n.toNat * ei.size)).toList := by
        rw [hmade, hlist]
        exact repL_rep (by rw [hc]; exact zeroC_rel g.S hzok) _
      obtain ⟨S2, E2, H2, hst⟩ := world_new H (cs := madeCells z.cells (n.toNat * ei.size)) (ty := el) (w' := w.alloc (.cells (madeCells z.cells (n.toNat * ei.size)) el)) rfl rfl rfl rfl (n.toNat * ei.size)
      refine ⟨_, _, hrun, _, E2, H2, ?_⟩
      simp only [RelX]
      refine ⟨hp5, by rw [rep_length, List.length_map, hzl], .inr ⟨_, _, (madeCells z.cells (n.toNat * ei.size)).toList, rfl, by unfold maxLen; omega, fun j u hj => ?_, RepL.mono E2.S _ _ hrel⟩⟩
      rw [Nat.zero_add]
      exact hst j u (by rw [List.take_of_length_le (by rw [hmade]; simp)]; exact hj)
    · cases he
  · cases he

theorem makeSliceL_ok (hT : TOK P T) (H : HeapOK bs g h w) {gd : Bool} {t : Nat} {x y : X} {v u : Value} {e : Eff} (r : RelX g h x v) (r2 : RelX g h y u) (he : opMakeSliceL T gd h t x y = some e) (hp : e.pre) :
    VOK P bs g h w (Instr.makeSlice t v u) e := by
  unfold opMakeSliceL at he
  split at he
  · rename_i el s b z0 kl n kc m ht
    rw [rel_int] at r r2; subst r; subst r2
    split at he
    · rename_i ei hei
      split at he
      · cases he
      · simp only [Option.some.injEq] at he; subst he
        simp only at hp
        obtain ⟨hp1, hp2, hp3, hp4, hp5⟩ := hp
        obtain ⟨d, i, z, hd, hi, hf, hs, hby, hz, hc, hzok, hzl⟩ := hT.get hei
        have hzs : z.cells.size = ei.size := by rw [← hzl]; have : z.cells.size = z.cells.toList.length := rfl; rw [this, hc]; simp
        have hrun := run_make (P := P) w t el i z (hT.slice ht) hi hz kl kc n m hp1 hp2 (by rw [hby, Int.mul_comm]; omega) hp4
        rw [hs] at hrun
        have hmade : madeCells z.cells (m.toNat * ei.size) = ((Array.range (m.toNat * ei.size)).map (z.cells[· % z.cells.size]!)) := rfl
        have hlist := made_rep z.cells m.toNat ei.size hzs hp5
        have hzl' : z.cells.toList.length = ei.size := hzs
        obtain ⟨g', E2, H2, r2⟩ := push_ownX H (cells := rep n.toNat ei.zero) hp5 (by rw [rep_length, hzl]) (show n.toNat ≤ m.toNat by omega) (by unfold maxLen; omega)
          (cs := madeCells z.cells (m.toNat * ei.size)) (ty := el) (w' := w.alloc (.cells (madeCells z.cells (m.toNat * ei.size)) el)) (by rw [hmade]; simp) (by
            rw [hmade, hlist]
            have := take_rep z.cells.toList n.toNat m.toNat (by omega)
            rw [hzl'] at this
            rw [this]
            exact relXs_rep (by rw [hc]; exact zero_rel g h hzok) _) rfl rfl rfl rfl
        exact ⟨_, _, hrun, g', E2, H2, r2⟩
    · cases he
  · cases he

end
end Fen

/- Part 12: append and copy. -/
namespace Fen
open Go Go.RowKit

def Gh.upd (g : Gh) (k : Nat) (ad : Nat × Nat) (hd : Value) (ex : Bool) : Gh := g.push k ad hd ex

/-- a block of the private heap, made anew: another version, perhaps another place -/
theorem HeapOK.renew {bs : Base} {g : Gh} {h : List Blk} {w w' : World} (H : HeapOK bs g h w) {id : Nat} {b b' : Blk} (hb : h[id]? = some b) (hsl : b.isBox = false) (hbox : b.isBox = b'.isBox) (hver : b.ver < b'.ver) (ad : Nat × Nat) (hd : Value) (ex : Bool)
    (hos : w'.os = w.os) (htape : w'.tape = w.tape) (hout : w'.output = w.output) (hsz : w.heap.size ≤ w'.heap.size)
    (hkeep : ∀ k, k < w.heap.size → (g.ex id = true → k ≠ (g.ad id).1) → w'.heap[k]? = w.heap[k]?)
    (hst : ∀ b o v, g.S b o = some v → w'.cell? ⟨b, o, none⟩ = some v)
    (hok : BlkOK (g.upd id ad hd ex) (h.set id b') w' id b')
    (hnew : ex = true → (∀ i, i < h.length → i ≠ id → g.ex i = true → (g.ad i).1 ≠ ad.1) ∧ (bs.w0.heap.size ≤ ad.1 ∨ bs.own ad.1)) :
    Ext g h (g.upd id ad hd ex) (h.set id b') ∧ HeapOK bs (g.upd id ad hd ex) (h.set id b') w' := by
  have hlt := lt_of_get hb
  have E : Ext g h (g.upd id ad hd ex) (h.set id b') := ⟨fun _ _ _ h => h, fun i k hi => by
    by_cases ci : i = id
    · subst ci
      rw [hb] at hi; cases hi
      exact ⟨b', get_set_eq hlt, hbox, Nat.le_of_lt hver, fun e => by omega⟩
    · exact ⟨k, by rw [get_set_ne ci]; exact hi, rfl, Nat.le_refl _, fun _ => by simp [Gh.upd, Gh.push, ci]⟩, fun _ h => h⟩
  refine ⟨E, ⟨hst, fun i k hi => ?_, fun i j hi hj ei ej e => ?_, fun i hi ei => ?_, hos.trans H.os, htape.trans H.tape, hout.trans H.output, Nat.le_trans H.size hsz, fun k hk ho => ?_, H.stab, H.gl, fun m hm => (hkeep m (Array.getElem?_eq_some_iff.1 (H.marks m hm)).1 fun hx e => ?_).trans (H.marks m hm)⟩⟩
  · rcases set_get hi with ⟨rfl, _, rfl⟩ | ⟨hne, hi'⟩
    · exact hok
    · refine (H.blk i k hi').mono E (by simp [Gh.upd, Gh.push, hne]) (by simp [Gh.upd, Gh.push, hne]) (by simp [Gh.upd, Gh.push, hne]) fun hei hl => ⟨hkeep _ hl fun hx e => ?_, fun _ => rfl⟩
      exact hne (H.inj i id (lt_of_get hi') hlt hei hx e)
  · simp only [List.length_set] at hi hj
    by_cases ci : i = id <;> by_cases cj : j = id
    · omega
    · have := (hnew (by simpa [Gh.upd, Gh.push, ci] using ei)).1 j hj cj (by simpa [Gh.upd, Gh.push, cj] using ej)
      simp [Gh.upd, Gh.push, ci, cj] at e
      exact absurd e.symm this
    · have := (hnew (by simpa [Gh.upd, Gh.push, cj] using ej)).1 i hi ci (by simpa [Gh.upd, Gh.push, ci] using ei)
      simp [Gh.upd, Gh.push, ci, cj] at e
      exact absurd e this
    · exact H.inj i j hi hj (by simpa [Gh.upd, Gh.push, ci] using ei) (by simpa [Gh.upd, Gh.push, cj] using ej) (by simpa [Gh.upd, Gh.push, ci, cj] using e)
  · simp only [List.length_set] at hi
    by_cases ci : i = id
    · have := (hnew (by simpa [Gh.upd, Gh.push, ci] using ei)).2
      simpa [Gh.upd, Gh.push, ci] using this
    · have := H.loc i hi (by simpa [Gh.upd, Gh.push, ci] using ei)
      simpa [Gh.upd, Gh.push, ci] using this
  · rw [hkeep k (Nat.lt_of_lt_of_le hk H.size) fun hx e => ?_]
    · exact H.frame k hk ho
    · subst e
      rcases H.loc id hlt hx with hl | hl
      · omega
      · exact ho hl
  · have hk := H.blk id b hb
    have hm' := H.marks m hm
    cases b with
    | sl ty v p sz n c =>
      obtain ⟨_, _, hk⟩ := hk
      rcases hk with ⟨_, _, he⟩ | ⟨_, _, _, _, _, _, _, h4, _⟩ | ⟨he, _⟩
      · rw [hx] at he; cases he
      · rw [e, h4] at hm'; cases hm'
      · rw [hx] at he; cases he
    | slx ty v sz n c =>
      obtain ⟨_, _, hk⟩ := hk
      rcases hk with ⟨_, _, he⟩ | ⟨_, _, _, _, _, _, _, h4, _⟩
      · rw [hx] at he; cases he
      · rw [e, h4] at hm'; cases hm'
    | _ => simp [Blk.isBox] at hsl

theorem blk_lt {bs : Base} {g : Gh} {h : List Blk} {w : World} (H : HeapOK bs g h w) {i : Nat} (hi : i < h.length) (hei : g.ex i = true) : (g.ad i).1 < w.heap.size := by
  obtain ⟨bi, hbi⟩ : ∃ bi, h[i]? = some bi := ⟨_, List.getElem?_eq_getElem hi⟩
  have hk := H.blk i bi hbi
  cases bi with
  | box bt cells => obtain ⟨_, _, _, _, h4, _⟩ := hk; exact (Array.getElem?_eq_some_iff.1 h4).1
  | sl ty v p sz n c =>
    obtain ⟨_, _, hk⟩ := hk
    rcases hk with ⟨_, _, he⟩ | ⟨_, _, _, _, _, _, _, h4, _⟩ | ⟨he, _⟩
    · rw [hei] at he; cases he
    · exact (Array.getElem?_eq_some_iff.1 h4).1
    · rw [hei] at he; cases he
  | slx ty v sz n c =>
    obtain ⟨_, _, hk⟩ := hk
    rcases hk with ⟨_, _, he⟩ | ⟨_, _, _, _, _, _, _, h4, _⟩
    · rw [hei] at he; cases he
    · exact (Array.getElem?_eq_some_iff.1 h4).1
  | obj o => exact (Array.getElem?_eq_some_iff.1 hk.2.2).1
  | mp kk vk es => obtain ⟨_, _, _, _, _, h4, _⟩ := hk; exact (Array.getElem?_eq_some_iff.1 h4).1
  | sb ty n c => obtain ⟨_, _, _, _, _, _, _, _, _, h4, _⟩ := hk; exact (Array.getElem?_eq_some_iff.1 h4).1
  | gone => exact hk.1 hei
  | hid => exact hk hei

section
variable {P : Program} {T : TT} {bs : Base} {g : Gh} {h : List Blk} {w : World}

theorem bytes_rep (S : Stab) (l : List UInt8) : RepL S (l.map byteC) (l.map (fun b => Value.int .u8 b.toNat)) := rep_bytes S l

theorem src_ok (H : HeapOK bs g h w) {x : X} {v : Value} {m sz : Nat} {new : List C} (r : RelX g h x v) (e : srcOf h x = some (m, new)) (hl : new.length = m * sz) (hsz : 0 < sz) :
    ∃ news, RepL g.S new news ∧ (∀ w2, (Builtin.lenOf v).run P w2 = .ok m w2) ∧ ∀ n, n ≤ m → ∀ w2 : World, w2.heap = w.heap → (Builtin.firstCells sz n v).run P w2 = .ok (news.take (n * sz)).toArray w2 := by
  unfold srcOf at e
  split at e
  · rename_i l
    simp only [Option.some.injEq, Prod.mk.injEq] at e; obtain ⟨rfl, rfl⟩ := e
    rw [rel_str] at r; subst r
    have h1 : l.length = 0 ∨ sz = 1 := by
      rw [List.length_map] at hl
      rcases Nat.eq_zero_or_pos l.length with h0 | h0
      · exact .inl h0
      · right
        have : l.length * 1 = l.length * sz := by omega
        exact (Nat.eq_of_mul_eq_mul_left h0 this).symm
    refine ⟨_, bytes_rep g.S l, fun w2 => by simp [Builtin.lenOf, bytes_size], fun n hn w2 _ => ?_⟩
    simp only [Builtin.firstCells, Sem.run_pure, extract_bytes]
    congr 1
    apply Array.ext'
    rcases h1 with h0 | h1
    · have : l = [] := List.eq_nil_of_length_eq_zero h0
      subst this; simp
    · subst h1; simp [List.map_take]
  · simp only [Option.map_eq_some_iff, Prod.mk.injEq] at e
    obtain ⟨⟨n0, cs, acc⟩, hs, rfl, rfl⟩ := e
    rcases slOf_ok H r hs with ⟨⟨zz, rfl⟩, h2, h3⟩ | ⟨b, o, cap, vs, rfl, h2, h3, h4, h5⟩
    · simp only at h2 h3 hl ⊢
      subst h2; subst h3
      refine ⟨[], by simp [RepL], fun w2 => by simp [Builtin.lenOf], fun n hn w2 _ => ?_⟩
      obtain rfl : n = 0 := by omega
      cases zz with
      | none => simp [Builtin.firstCells]
      | some zz =>
        have := run_loadCells_list (P := P) (w := w2) zz [] (fun j u hj => by simp at hj)
        simpa [Builtin.firstCells] using this
    · refine ⟨vs, h5, fun w2 => by simp [Builtin.lenOf], fun n hn w2 hw2 => ?_⟩
      have hlen := h5.length
      have := run_loadCells_list (P := P) (w := w2) ⟨b, o, none⟩ (vs.take (n * sz)) (fun j u hj => by
        rw [List.getElem?_take] at hj
        split at hj
        · rw [addr_add]
          have := h4 j u hj
          simpa [World.cell?, hw2] using this
        · cases hj)
      have hlt : (vs.take (n * sz)).length = n * sz := by
        rw [List.length_take, hlen]
        simp only at hl
        rw [hl]
        exact Nat.min_eq_left (Nat.mul_le_mul_right _ hn)
      rw [hlt] at this
      simp only [Builtin.firstCells]
      exact this

theorem first_zero (z : Option Addr) (sz : Nat) : (Builtin.firstCells sz 0 (.slice z 0 0)).run P w = .ok ([] : List Value).toArray w := by
  cases z with
  | none => simp [Builtin.firstCells]
  | some z =>
    have := run_loadCells_list (P := P) (w := w) z [] (fun j u hj => by simp at hj)
    simpa [Builtin.firstCells] using this

theorem app_room {t u ty e : TypeId} {i : TypeInfo} {du : TypeDesc} {a : Option Addr} {x : Value} {n cap m : Nat} {news : List Value} {w' : World} (ht : P.underlying t = some (.slice e)) (hu : P.underlying u = some du) (hdu : (∃ e', du = .slice e') ∨ du = .string) (hi : P.info? e = some i)
    (hx : (Builtin.lenOf x).run P w = .ok m w) (hf : (Builtin.firstCells i.size m x).run P w = .ok news.toArray w) (hroom : n + m ≤ cap)
    (hst : match a with | some b => (storeCells (b.add (n * i.size)) news).run P w = .ok () w' | none => w' = w) :
    (Builtin.append_ #[t, u] ty #[.slice a n cap, x]).run P w = .ok (.slice a (n + m) cap) w' := by
  cases a with
  | none =>
    simp only at hst; subst hst
    rcases hdu with ⟨e', rfl⟩ | rfl <;> simp [Builtin.append_, run_underlying ht, run_underlying hu, Go.sizeOf, typeInfo, hi, hx, hf, hroom]
  | some b =>
    simp only at hst
    rcases hdu with ⟨e', rfl⟩ | rfl <;> simp [Builtin.append_, run_underlying ht, run_underlying hu, Go.sizeOf, typeInfo, hi, hx, hf, hroom, hst]

theorem app_grow {t u ty e : TypeId} {i : TypeInfo} {z : Value} {du : TypeDesc} {a : Option Addr} {x : Value} {n cap m : Nat} {news olds : List Value} (ht : P.underlying t = some (.slice e)) (hu : P.underlying u = some du) (hdu : (∃ e', du = .slice e') ∨ du = .string) (hi : P.info? e = some i) (hz : i.zero = some z)
    (hx : (Builtin.lenOf x).run P w = .ok m w) (hf : (Builtin.firstCells i.size m x).run P w.drew = .ok news.toArray w.drew) (hfo : (Builtin.firstCells i.size n (.slice a n cap)).run P w.drew = .ok olds.toArray w.drew)
    (hn : cap < n + m) (h63 : n + m ≤ 9223372036854775807) (hby : (n + m) * i.bytes ≤ 140737488355328) :
    (Builtin.append_ #[t, u] ty #[.slice a n cap, x]).run P w = .ok (.slice (some ⟨w.heap.size, 0, none⟩) (n + m) (grownCap w (n + m) cap e))
      (w.drew.alloc (.cells (olds.toArray ++ news.toArray ++ Builtin.zeroCells z.cells (grownCap w (n + m) cap e - (n + m))) e)) := by
  have hfit := growslice_fits hn hby
  have hn' : ¬ (n + m ≤ cap) := by omega
  have h63' : ¬ (9223372036854775807 < ((n : Int) + (m : Int))) := by omega
  have h48' : ¬ (281474976710656 < Builtin.nextslicecap (n + m) cap * i.bytes) := by omega
  rcases hdu with ⟨e', rfl⟩ | rfl <;> simp [Builtin.append_, run_underlying ht, run_underlying hu, Go.sizeOf, typeInfo, zeroValue, hi, hz, hx, hn', h63', h48', Question.forced, hf, hfo, newRow, grownCap] <;> (congr 2; apply Array.ext'; simp)

theorem set_self {h : List Blk} {id : Nat} {b : Blk} (hb : h[id]? = some b) : h.set id b = h := by
  apply List.ext_getElem?
  intro i
  rw [List.getElem?_set]
  split
  · rename_i e; subst e; rw [if_pos (lt_of_get hb), hb]
  · rfl

/-- cells written into a part of a slice of one's own -/
theorem seg_ok (H : HeapOK bs g h w) {id ver sz n off : Nat} {ty : TypeId} {cs new : List C} {nv : List Value} (hb : h[id]? = some (.sl ty ver true sz n cs)) (hr2 : RepL g.S new nv) (hfit : off + new.length ≤ cs.length) (hex : g.ex id = true) :
    ∃ w', (storeCells ⟨(g.ad id).1, off, none⟩ nv 0).run P w = .ok () w' ∧ Ext g h g (h.set id (.sl ty ver true sz n (setSeg cs off new.length new))) ∧ HeapOK bs g (h.set id (.sl ty ver true sz n (setSeg cs off new.length new))) w' := by
  have h1 := repL_one hr2
  have hlen := hr2.length
  have hk := H.blk id _ hb
  simp only [BlkOK] at hk
  obtain ⟨h0, hl, hk⟩ := hk
  rcases hk with ⟨_, _, hx⟩ | ⟨_, ha, cap, cur, k1, k2, k3, k4, k5, k6, k7⟩ | ⟨hx, _⟩
  · rw [hex] at hx; cases hx
  · have hnS : ∀ o, g.S (g.ad id).1 o = none := fun o => by
      rcases hq : g.S (g.ad id).1 o with _ | v
      · rfl
      · have := (k7 o (by simp [hq])).1; cases this
    have hcl : cs.length ≤ cur.size := by rw [hl, k5]; exact Nat.mul_le_mul_right _ k2
    have hfit2 : off + 0 + nv.length ≤ cur.size := by omega
    have hst := run_storeCells_at P (g.ad id).1 off ty nv 0 cur w k4 hfit2 h1
    simp only [Nat.add_zero] at hst
    rw [hlen] at hst
    have hlen3 : (setSeg cs off new.length new).length = cs.length := by simp [setSeg]; omega
    obtain ⟨E, H'⟩ := H.modify (b' := .sl ty ver true sz n (setSeg cs off new.length new)) hb hex rfl rfl k4 (cs := (setSeg cur.toList off new.length nv).toArray) (fun o v hv => by have hq := (hnS o).symm.trans hv; cases hq) (by
      refine ⟨h0, hlen3.trans hl, .inr (.inl ⟨hex, ha, cap, (setSeg cur.toList off new.length nv).toArray, k1, k2, k3, setRow_heap w _ cur _ ty _ k4, ?_, ?_, fun o ho => absurd (hnS o) ho⟩)⟩
      · rw [← k5]; simp [setSeg]; have : cur.size = cur.toList.length := rfl; omega
      · have := k6.setSeg off new.length hr2
        have e : setSeg (cur.toList.take (n * sz)) off new.length nv = (setSeg cur.toList off new.length nv).toArray.toList.take (n * sz) := by
          rw [hl] at hfit
          simp only [setSeg]
          rw [List.take_take, List.drop_take, List.take_append, List.take_append]
          have a1 : min off (n * sz) = off := by omega
          have a2 : (cur.toList.take off).length = off := by simp; have : cur.size = cur.toList.length := rfl; omega
          have a3 : List.take (n * sz) (List.take off cur.toList) = List.take off cur.toList := by rw [List.take_take]; congr 1; omega
          have a4 : List.take (n * sz - (List.take off cur.toList).length) nv = nv := by apply List.take_of_length_le; omega
          rw [a1, a3, a4, List.length_append, a2, hlen, Nat.sub_add_eq]
        rw [← e]; exact this)
    exact ⟨_, hst, E, H'⟩
  · rw [hex] at hx; cases hx

theorem copy_ok (hT : TOK P T) (H : HeapOK bs g h w) {gd : Bool} {t u ty : Nat} {d s : X} {v x : Value} {e : Eff} (r : RelX g h d v) (r2 : RelX g h s x) (he : opCopy T gd h t d s = some e) (hp : e.pre) :
    VOK P bs g h w (Builtin.copy_ #[t, u] ty #[v, x]) e := by
  unfold opCopy at he
  split at he
  · rename_i el s0 b0 z0 ht
    unfold copyE at he
    split at he
    · rename_i ei m new hei hs
      split at he
      · cases he
      · have key : ∀ (id ver off : Nat) (k : Option Nat), copyB h ei id ver off k m new (h[id]?) = some e →
            (∀ ty sz n cs, h[id]? = some (.sl ty ver true sz n cs) → 0 < sz → off + k.getD n * sz ≤ cs.length → ∃ a c, v = .slice a (k.getD n) c ∧ ((g.ex id = true ∧ a = some ⟨(g.ad id).1, off, none⟩) ∨ k.getD n = 0)) →
            VOK P bs g h w (Builtin.copy_ #[t, u] ty #[v, x]) e := fun id ver off k he hv => by
          unfold copyB at he
          split at he
          · rename_i bty v0 p sz n cs hb
            split at he
            · rename_i hver
              subst hver
              simp only [Option.some.injEq] at he; subst he
              simp only at hp
              obtain ⟨rfl, rfl, hp1, hp2⟩ := hp
              have h0 : 0 < ei.size := by have hk := H.blk id _ hb; exact hk.1
              obtain ⟨a, c, rfl, hcase⟩ := hv _ _ _ _ hb h0 hp2
              obtain ⟨news, rn, hlen, hfc⟩ := src_ok (P := P) H r2 hs hp1 h0
              have hf := hfc (Nat.min m (k.getD n)) (Nat.min_le_left ..) w rfl
              have hle : Nat.min m (k.getD n) * ei.size ≤ new.length := by rw [hp1]; exact Nat.mul_le_mul_right _ (Nat.min_le_left ..)
              have hle2 : Nat.min m (k.getD n) * ei.size ≤ k.getD n * ei.size := Nat.mul_le_mul_right _ (Nat.min_le_right ..)
              have hnl : (new.take (Nat.min m (k.getD n) * ei.size)).length = Nat.min m (k.getD n) * ei.size := by rw [List.length_take]; exact Nat.min_eq_left hle
              rcases hcase with ⟨hex, rfl⟩ | hz
              · obtain ⟨w', q1, q2, q3⟩ := seg_ok (P := P) H hb (rn.take (Nat.min m (k.getD n) * ei.size)) (off := off) (by rw [hnl]; omega) hex
                rw [hnl] at q2 q3
                refine ⟨.int .i64 ((min m (k.getD n) : Nat) : Int), w', ?_, g, q2, q3, by simp only [RelX, RepV]⟩
                simp [Builtin.copy_, run_underlying (hT.slice ht), hlen w, hT.sizeOf hei, hf, q1, goInt]
              · have hm0 : Nat.min m (k.getD n) = 0 := by rw [hz]; exact Nat.min_zero m
                have hset : h.set id (.sl bty ver true ei.size n (setSeg cs off (min m (k.getD n) * ei.size) (new.take (min m (k.getD n) * ei.size)))) = h := by
                  have : min m (k.getD n) = 0 := hm0
                  rw [this]
                  simp only [Nat.zero_mul, List.take_zero, setSeg, List.append_nil, Nat.add_zero, List.take_append_drop]
                  exact set_self hb
                refine ⟨.int .i64 0, w, ?_, ?_⟩
                · rw [hm0] at hf
                  simp only [Nat.zero_mul, List.take_zero] at hf
                  cases a <;> simp [Builtin.copy_, run_underlying (hT.slice ht), hlen w, hT.sizeOf hei, hm0, hf, storeCells, goInt]
                · have : min m (k.getD n) = 0 := hm0
                  refine ⟨g, ?_, ?_, by simp [RelX, RepV, this]⟩
                  · simp only; rw [hset]; exact Ext.refl _ _
                  · simp only; rw [hset]; exact H
            · cases he
          · cases he
        split at he
        · rename_i id ver
          refine key id ver 0 none he fun bty sz n cs hb h0 hle => ?_
          simp only [RelX, hb, Option.some.injEq] at r
          obtain ⟨_, rfl, _, _, _, hh⟩ := r
          have hv := hh rfl
          have hk := H.blk id _ hb
          simp only [BlkOK] at hk
          obtain ⟨_, hl, hk⟩ := hk
          rcases hk with ⟨⟨z, h1⟩, h2, he⟩ | ⟨hex, ha, cap, cur, h1, _⟩ | ⟨_, hpf, _⟩
          · exact ⟨z, 0, by rw [hv, h1, h2]; rfl, .inr h2⟩
          · exact ⟨_, cap, by rw [hv, h1]; rfl, .inl ⟨hex, rfl⟩⟩
          · cases hpf
        · rename_i id ver off k
          refine key id ver off (some k) he fun bty sz n cs hb h0 hle => ?_
          simp only [RelX, hb, Option.some.injEq] at r
          obtain ⟨_, rfl, _, _, ⟨a0, n0, c0, hs0⟩, hh⟩ := r
          have hk := H.blk id _ hb
          simp only [BlkOK] at hk
          obtain ⟨_, hl, hk⟩ := hk
          simp only [Option.getD_some] at hle ⊢
          rcases hh rfl with ⟨hz, hn⟩ | ⟨cap, hv, _⟩
          · subst hn
            rcases hz with ⟨z, rfl⟩ | ⟨b, o, cap, rfl, _⟩
            · exact ⟨_, _, rfl, .inr rfl⟩
            · exact ⟨_, _, rfl, .inr rfl⟩
          · rcases hk with ⟨h1, h2, he⟩ | ⟨hex, ha, _⟩ | ⟨_, hpf, _⟩
            · have : k = 0 := by
                subst h2
                rw [hl] at hle
                rcases Nat.eq_zero_or_pos k with c | c
                · exact c
                · have := Nat.mul_pos c h0; omega
              exact ⟨_, _, hv, .inr this⟩
            · exact ⟨_, cap, hv, .inl ⟨hex, by rw [ha, Nat.zero_add]⟩⟩
            · cases hpf
        · cases he
    · cases he
  · cases he

theorem srcType_ok (hT : TOK P T) {u : Nat} (h : srcType T u = true) : ∃ du, P.underlying u = some du ∧ ((∃ e', du = .slice e') ∨ du = .string) := by
  unfold srcType at h
  split at h
  · rename_i e s b z hu; exact ⟨_, hT.slice hu, .inl ⟨_, rfl⟩⟩
  · rename_i s b z hu; exact ⟨_, hT.str hu, .inr rfl⟩
  · cases h

/-- memory that an append makes: what a slice of one's own holds there -/
theorem grown_cells {S : Stab} {cells new : List C} {olds news : List Value} {z : Value} {sz n m cap : Nat} (r1 : RepL S cells olds) (r2 : RepL S new news) (h1 : olds.length = n * sz) (h2 : news.length = m * sz) (hz : z.cells.size = sz) (hcap : n + m ≤ cap) :
    (olds.toArray ++ news.toArray ++ Builtin.zeroCells z.cells (cap - (n + m))).size = cap * sz ∧ RepL S (cells ++ new) ((olds.toArray ++ news.toArray ++ Builtin.zeroCells z.cells (cap - (n + m))).toList.take ((n + m) * sz)) := by
  constructor
  · simp only [Array.size_append, List.size_toArray, size_zeroCells, hz, h1, h2, ← Nat.add_mul]
    congr 1; omega
  · simp only [Array.toList_append]
    rw [List.take_left' (by simp [h1, h2, Nat.add_mul])]
    exact r1.append r2

theorem append_ok (hT : TOK P T) (H : HeapOK bs g h w) {gd : Bool} {t u ty : Nat} {d s : X} {v x : Value} {e : Eff} (r : RelX g h d v) (r2 : RelX g h s x) (hsrc : srcType T u = true) (he : opAppend T gd h t d s = some e) (hp : e.pre) :
    VOK P bs g h w (Builtin.append_ #[t, u] ty #[v, x]) e := by
  obtain ⟨du, hu, hdu⟩ := srcType_ok hT hsrc
  unfold opAppend at he
  split at he
  · rename_i el s0 b0 z0 ht
    split at he
    · rename_i ei m new hei hs
      obtain ⟨d0, i, z, hd, hi, hf, hsz, hby, hz, hc, hzok, hzl⟩ := hT.get hei
      have hzs : z.cells.size = ei.size := by rw [← hzl]; have : z.cells.size = z.cells.toList.length := rfl; rw [this, hc]; simp
      have hut := hT.slice ht
      split at he
      · cases he
      · split at he
        · simp only [Option.some.injEq] at he; subst he
          simp only at hp
          obtain ⟨hp1, hp2, hp3, hp4⟩ := hp
          obtain ⟨news, rn, hlen, hfc⟩ := src_ok (P := P) H r2 hs hp1 hp2
          have hnl := rn.length
          have htk : news.take (m * ei.size) = news := List.take_of_length_le (by omega)
          simp only [RelX] at r; subst r
          by_cases hm : m = 0
          · subst hm
            have hn0 : new = [] := List.eq_nil_of_length_eq_zero (by simpa using hp1)
            have hnn : news = [] := List.eq_nil_of_length_eq_zero (by rw [hnl, hn0]; rfl)
            have hrun := app_room (ty := ty) (a := none) (n := 0) (cap := 0) (w' := w) (news := news) hut hu hdu hi (hlen w) (by rw [hsz]; have := hfc 0 (Nat.le_refl _) w rfl; rw [hnn] at this ⊢; simpa using this) (by omega) rfl
            subst hn0
            obtain ⟨g', E, H', hr⟩ : ∃ g', Ext g h g' (h ++ [.sl el 0 true ei.size 0 []]) ∧ HeapOK bs g' (h ++ [.sl el 0 true ei.size 0 []]) w ∧ RelX g' (h ++ [.sl el 0 true ei.size 0 []]) (.ref h.length 0) (.slice none 0 0) := by
              refine ⟨g.push h.length (0, 0) (.slice none 0 0) false, Ext.push .., H.push _ _ _ _ ?_ (by simp), ?_⟩
              · simp only [BlkOK]; exact ⟨hp2, by simp, .inl ⟨by simp [Gh.push], rfl, by simp [Gh.push]⟩⟩
              · simp only [RelX]; exact ⟨.sl el 0 true ei.size 0 [], by simp, rfl, Nat.le_refl _, ⟨_, _, _, rfl⟩, fun _ => by simp [Gh.push]⟩
            exact ⟨_, w, hrun, g', E, H', hr⟩
          · have hrun := app_grow (ty := ty) (a := none) (n := 0) (cap := 0) (news := news) (olds := []) hut hu hdu hi hz (hlen w) (by rw [hsz]; have := hfc m (Nat.le_refl _) w.drew rfl; rw [htk] at this; exact this) (by simp [Builtin.firstCells]) (by omega) (by omega) (by rw [hby]; simpa using hp3)
            have hge := grownCap_ge w (0 + m) 0 el
            have hle := grownCap_le_maxLen w (0 + m) 0 el (by unfold maxLen; omega)
            obtain ⟨q1, q2⟩ := grown_cells (S := g.S) (cells := []) (olds := []) (n := 0) (z := z) (by simp [RepL]) rn (by simp) (hnl.trans hp1) hzs hge
            obtain ⟨g', E, H', hr⟩ := push_own H.drew (cells := new) (n := m) true hp2 hp1 (by omega) hle q1 (by simpa using q2) (w' := w.drew.alloc (.cells ([].toArray ++ news.toArray ++ Builtin.zeroCells z.cells (grownCap w (0 + m) 0 el - (0 + m))) el)) rfl rfl rfl rfl
            simp only [Nat.zero_add] at hrun hr H'
            exact ⟨_, _, hrun, g', E, H', hr⟩
        · rename_i sz n cs
          simp only [Option.some.injEq] at he; subst he
          simp only at hp
          obtain ⟨hp1, hp2, hp3, hp4⟩ := hp
          subst hp2
          simp only [RelX] at r
          obtain ⟨h0, hl, r⟩ := r
          obtain ⟨news, rn, hlen, hfc⟩ := src_ok (P := P) H r2 hs hp1 h0
          have hnl := rn.length
          have htk : news.take (m * ei.size) = news := List.take_of_length_le (by omega)
          have hcl : (cs ++ new).length = (n + m) * ei.size := by rw [List.length_append, hl, hp1, Nat.add_mul]
          by_cases hm : m = 0
          · subst hm
            have hn0 : new = [] := List.eq_nil_of_length_eq_zero (by simpa using hp1)
            have hnn : news = [] := List.eq_nil_of_length_eq_zero (by rw [hnl, hn0]; rfl)
            subst hn0
            obtain ⟨g', E, H', hr⟩ := push_exact (p := n == 0) H (fun e => by simpa using e) h0 hl (by
              rcases r with r | ⟨b, o, vs, k1, k2, k3, k4⟩
              · exact .inl r
              · exact .inr ⟨b, o, k1, k2, vs, k3, k4⟩)
            have hrun : ∀ a, v = .slice a n n → (Builtin.append_ #[t, u] ty #[v, x]).run P w = .ok v w := fun a e1 => by
              have := app_room (ty := ty) (a := a) (n := n) (cap := n) (w' := w) (news := []) hut hu hdu hi (hlen w) (by rw [hsz]; have := hfc 0 (Nat.le_refl _) w rfl; rw [hnn] at this; simpa using this) (by omega) (by cases a <;> simp [storeCells])
              rw [e1]; exact this
            simp only [Nat.add_zero, List.append_nil]
            rcases r with ⟨k1, k2⟩ | ⟨b, o, vs, k1, k2, k3, k4⟩
            · obtain ⟨z, k1⟩ := k1
              exact ⟨_, w, hrun z (by rw [k1, k2]), g', E, H', hr⟩
            · exact ⟨_, w, hrun _ k1, g', E, H', hr⟩
          · have grow : ∀ (a : Option Addr) (olds : List Value), v = .slice a n n → (Builtin.firstCells i.size n (.slice a n n)).run P w.drew = .ok olds.toArray w.drew → RepL g.S cs olds →
                VOK P bs g h w (Builtin.append_ #[t, u] ty #[v, x]) ⟨True, .ref h.length 0, .write, h ++ [.sl el 0 (n == 0) ei.size (n + m) (cs ++ new)]⟩ := fun a olds e1 e2 e3 => by
              have hol := e3.length
              have hrun := app_grow (ty := ty) (news := news) (olds := olds) hut hu hdu hi hz (hlen w) (by rw [hsz]; have := hfc m (Nat.le_refl _) w.drew rfl; rw [htk] at this; exact this) e2 (show n < n + m by omega) hp4 (by rw [hby]; exact hp3)
              have hge := grownCap_ge w (n + m) n el
              have hle := grownCap_le_maxLen w (n + m) n el (by unfold maxLen; omega)
              obtain ⟨q1, q2⟩ := grown_cells (S := g.S) (z := z) e3 rn (hol.trans hl) (hnl.trans hp1) hzs hge
              obtain ⟨g', E, H', hr⟩ := push_own H.drew (cells := cs ++ new) (n := n + m) (n == 0) h0 hcl hge hle q1 q2 (w' := w.drew.alloc (.cells (olds.toArray ++ news.toArray ++ Builtin.zeroCells z.cells (grownCap w (n + m) n el - (n + m))) el)) rfl rfl rfl rfl
              rw [e1]
              exact ⟨_, _, hrun, g', E, H', hr⟩
            rcases r with ⟨k1, k2⟩ | ⟨b, o, vs, k1, k2, k3, k4⟩
            · subst k2
              have hcs : cs = [] := by simpa using hl
              obtain ⟨zz, k1⟩ := k1
              exact grow zz [] k1 (first_zero zz _) (by rw [hcs]; simp [RepL])
            · refine grow _ vs k1 ?_ k4
              simp only [Builtin.firstCells]
              have := run_loadCells_list (P := P) (w := w.drew) ⟨b, o, none⟩ vs (fun j v hj => by
                rw [addr_add]; exact H.stable _ _ _ (k3 j v hj))
              rw [k4.length, hl, ← hsz] at this
              exact this
        · rename_i id ver
          split at he
          · rename_i tb v0 p sz n cs hb
            split at he
            · rename_i hv
              subst hv
              simp only [Option.some.injEq] at he; subst he
              simp only at hp
              obtain ⟨hp0, hp1, hp2, hp3, hp4⟩ := hp
              subst hp0
              subst hp2
              have hk := H.blk id _ hb
              simp only [BlkOK] at hk
              obtain ⟨h0, hl, hk⟩ := hk
              obtain ⟨news, rn, hlen, hfc⟩ := src_ok (P := P) H r2 hs hp1 h0
              have hnl := rn.length
              have htk : news.take (m * ei.size) = news := List.take_of_length_le (by omega)
              have hv := rel_ref H hb r
              subst hv
              have hcl : (cs ++ new).length = (n + m) * ei.size := by rw [List.length_append, hl, hp1, Nat.add_mul]
              have hlt := lt_of_get hb
              -- how it ends where new memory is made
              have grow : ∀ (a : Option Addr) (cap : Nat) (olds : List Value), g.hd id = .slice a n cap → (Builtin.firstCells i.size n (.slice a n cap)).run P w.drew = .ok olds.toArray w.drew → RepL g.S cs olds → cap < n + m →
                  VOK P bs g h w (Builtin.append_ #[t, u] ty #[g.hd id, x]) ⟨True, .ref id (ver + 1), .write, h.set id (.sl el (ver + 1) p ei.size (n + m) (cs ++ new))⟩ := fun a cap olds e1 e2 e3 e4 => by
                have hol := e3.length
                have hrun := app_grow (ty := ty) (news := news) (olds := olds) hut hu hdu hi hz (hlen w) (by rw [hsz]; have := hfc m (Nat.le_refl _) w.drew rfl; rw [htk] at this; exact this) e2 e4 hp4 (by rw [hby]; exact hp3)
                have hge := grownCap_ge w (n + m) cap el
                have hle := grownCap_le_maxLen w (n + m) cap el (by unfold maxLen; omega)
                obtain ⟨q1, q2⟩ := grown_cells (S := g.S) (z := z) e3 rn (hol.trans hl) (hnl.trans hp1) hzs hge
                have hold : ∀ k, k < w.heap.size → (w.drew.alloc (.cells (olds.toArray ++ news.toArray ++ Builtin.zeroCells z.cells (grownCap w (n + m) cap el - (n + m))) el)).heap[k]? = w.heap[k]? := fun k hk => by
                  show (w.heap.push _)[k]? = _
                  rw [Array.getElem?_push, if_neg (by omega)]
                obtain ⟨E, H'⟩ := H.renew (b' := .sl el (ver + 1) p ei.size (n + m) (cs ++ new)) hb rfl rfl (Nat.lt_succ_self _) (w.heap.size, 0) (.slice (some ⟨w.heap.size, 0, none⟩) (n + m) (grownCap w (n + m) cap el)) true
                  (w' := w.drew.alloc (.cells (olds.toArray ++ news.toArray ++ Builtin.zeroCells z.cells (grownCap w (n + m) cap el - (n + m))) el)) rfl rfl rfl (by simp) (fun k hk _ => hold k hk) (fun b o v hv => by
                    have := H.stable b o v hv
                    rw [cell_block (hold b (cell_lt this))]; exact this) (by
                    simp only [BlkOK]
                    refine ⟨h0, hcl, .inr (.inl ⟨by simp [Gh.upd, Gh.push], by simp [Gh.upd, Gh.push], grownCap w (n + m) cap el, _, by simp [Gh.upd, Gh.push], hge, hle, ?_, q1, q2, fun o ho => ?_⟩)⟩
                    · simp only [Gh.upd, Gh.push, if_true]
                      show (w.heap.push _)[w.heap.size]? = _
                      simp
                    · exfalso
                      simp only [Gh.upd, Gh.push, if_true] at ho
                      rcases hq : g.S w.heap.size o with _ | v
                      · exact ho hq
                      · have := cell_lt (H.stable _ _ _ hq); omega)
                    (fun _ => ⟨fun k hk hne hei => Nat.ne_of_lt (blk_lt H hk hei), .inl H.size⟩)
                rw [e1]
                refine ⟨_, _, hrun, _, E, H', ?_⟩
                simp only [RelX]
                exact ⟨_, get_set_eq hlt, rfl, Nat.le_refl _, ⟨_, _, _, rfl⟩, fun _ => by simp [Gh.upd, Gh.push]⟩
              -- .. and where nothing is added
              have none' : ∀ (a : Option Addr) (cap : Nat), g.hd id = .slice a n cap → m = 0 → n ≤ cap → SlOK g.S w el p ei.size n cs (g.hd id) (g.ad id) (g.ex id) →
                  VOK P bs g h w (Builtin.append_ #[t, u] ty #[g.hd id, x]) ⟨True, .ref id (ver + 1), .write, h.set id (.sl el (ver + 1) p ei.size (n + m) (cs ++ new))⟩ := fun a cap e1 e2 e3 e4 => by
                subst e2
                have hn0 : new = [] := List.eq_nil_of_length_eq_zero (by simpa using hp1)
                have hnn : news = [] := List.eq_nil_of_length_eq_zero (by rw [hnl, hn0]; rfl)
                subst hn0
                have hrun := app_room (ty := ty) (a := a) (n := n) (cap := cap) (w' := w) (news := []) hut hu hdu hi (hlen w) (by rw [hsz]; have := hfc 0 (Nat.le_refl _) w rfl; rw [hnn] at this; simpa using this) (by omega) (by cases a <;> simp [storeCells])
                simp only [Nat.add_zero, List.append_nil] at hrun ⊢
                rw [e1]
                have hupd : g.upd id (g.ad id) (g.hd id) (g.ex id) = g := by
                  cases g
                  simp only [Gh.upd, Gh.push, Gh.mk.injEq, true_and, and_true]
                  refine ⟨?_, ?_, ?_⟩ <;> (funext i; split <;> simp_all)
                obtain ⟨E, H'⟩ := H.renew (w' := w) (b' := .sl el (ver + 1) p ei.size n cs) hb rfl rfl (Nat.lt_succ_self _) (g.ad id) (g.hd id) (g.ex id) rfl rfl rfl (Nat.le_refl _) (fun _ _ _ => rfl) H.stable
                  (by rw [hupd]; simpa only [BlkOK] using e4) (fun hx => ⟨fun k hk hne hei e => hne (H.inj k id hk hlt hei hx e), H.loc id hlt hx⟩)
                rw [hupd] at E H'
                refine ⟨_, w, hrun, g, E, H', ?_⟩
                simp only [RelX]
                exact ⟨_, get_set_eq hlt, rfl, Nat.le_refl _, ⟨_, _, _, rfl⟩, fun _ => e1.symm⟩
              have hkk : SlOK g.S w el p ei.size n cs (g.hd id) (g.ad id) (g.ex id) := ⟨h0, hl, hk⟩
              have fin : ∀ {e : Eff}, VOK P bs g h w (Builtin.append_ #[t, u] ty #[g.hd id, x]) ⟨True, .ref id (ver + 1), .write, h.set id (.sl el (ver + 1) p ei.size (n + m) (cs ++ new))⟩ → e.x = .ref id (ver + 1) → e.h = h.set id (.sl el (ver + 1) p ei.size (n + m) (cs ++ new)) →
                  VOK P bs g h w (Builtin.append_ #[t, u] ty #[g.hd id, x]) e := fun {e} q ex eh => by
                obtain ⟨v', w', a1, g', a2, a3, a4⟩ := q
                exact ⟨v', w', a1, g', by rw [eh]; exact a2, by rw [eh]; exact a3, by rw [ex, eh]; exact a4⟩
              refine fin ?_ rfl rfl
              rcases hk with ⟨k1, k2, k3⟩ | ⟨hex, ha, cap, cur, k1, k2, k3, k4, k5, k6, k7⟩ | ⟨hex, hpf, k1, k2, vs, k3, k4⟩
              · subst k2
                have hcs : cs = [] := by simpa using hl
                by_cases hm : m = 0
                · exact none' _ 0 k1.choose_spec hm (Nat.le_refl _) hkk
                · exact grow _ 0 [] k1.choose_spec (first_zero _ _) (by rw [hcs]; simp [RepL]) (by omega)
              · have hfo : (Builtin.firstCells i.size n (.slice (some ⟨(g.ad id).1, 0, none⟩) n cap)).run P w.drew = .ok (cur.toList.take (n * ei.size)).toArray w.drew := by
                  have hlt2 : (cur.toList.take (n * ei.size)).length = n * i.size := by rw [k6.length, hl, hsz]
                  simp only [Builtin.firstCells]
                  have := run_loadCells_list (P := P) (w := w.drew) ⟨(g.ad id).1, 0, none⟩ (cur.toList.take (n * ei.size)) (fun j v hj => by
                    rw [addr_add, Nat.zero_add]
                    rw [List.getElem?_take] at hj
                    split at hj
                    · show w.cell? _ = _
                      rw [cell_of k4]; simpa using hj
                    · cases hj)
                  rw [hlt2] at this
                  exact this
                by_cases hroom : n + m ≤ cap
                · have h1 := repL_one rn
                  have hnl' : news.length = m * ei.size := hnl.trans hp1
                  have hmul : (n + m) * ei.size ≤ cap * ei.size := Nat.mul_le_mul_right _ hroom
                  rw [Nat.add_mul] at hmul
                  have hst := run_storeCells_at P (g.ad id).1 (n * ei.size) el news 0 cur w k4 (by omega) h1
                  simp only [Nat.add_zero] at hst
                  have hrun := app_room (ty := ty) (a := some ⟨(g.ad id).1, 0, none⟩) (n := n) (cap := cap) (news := news) hut hu hdu hi (hlen w) (by rw [hsz]; have := hfc m (Nat.le_refl _) w rfl; rw [htk] at this; exact this) hroom (by
                    simp only [addr_add, Nat.zero_add, hsz]; exact hst)
                  have hcsz : cur.size = cur.toList.length := rfl
                  obtain ⟨E, H'⟩ := H.renew (b' := .sl el (ver + 1) p ei.size (n + m) (cs ++ new)) hb rfl rfl (Nat.lt_succ_self _) (g.ad id) (.slice (some ⟨(g.ad id).1, 0, none⟩) (n + m) cap) true
                    (w' := w.setRow (g.ad id).1 (cur.toList.take (n * ei.size) ++ news ++ cur.toList.drop (n * ei.size + news.length)).toArray) rfl rfl rfl (by simp) (fun k hk hx => setRow_other w _ k _ (hx hex)) (fun b o v hv => by
                      by_cases c : b = (g.ad id).1
                      · subst c
                        have ho := (k7 o (by simp [hv])).2
                        rw [cell_setRow_same w _ o cur _ el (0, 0) k4]
                        have := H.stable _ o v hv
                        rw [cell_of k4] at this
                        simp only [List.getElem?_toArray]
                        rw [List.append_assoc, List.getElem?_append_left (by simp; omega), List.getElem?_take, if_pos ho]
                        simpa using this
                      · rw [cell_setRow_other w _ _ ⟨b, o, none⟩ c]; exact H.stable b o v hv) (by
                      simp only [BlkOK]
                      refine ⟨h0, hcl, .inr (.inl ⟨by simp [Gh.upd, Gh.push], by simpa [Gh.upd, Gh.push] using ha, cap, (cur.toList.take (n * ei.size) ++ news ++ cur.toList.drop (n * ei.size + news.length)).toArray, by simp [Gh.upd, Gh.push], hroom, k3, ?_, ?_, ?_, fun o ho => ?_⟩)⟩
                      · simp only [Gh.upd, Gh.push, if_true]
                        exact setRow_heap w _ cur _ el _ k4
                      · simp; omega
                      · have : (cur.toList.take (n * ei.size) ++ news).length = (n + m) * ei.size := by rw [List.length_append, k6.length, hl, hnl', Nat.add_mul]
                        simp only [Gh.upd, Gh.push]
                        rw [List.take_left' this]
                        exact k6.append rn
                      · simp only [Gh.upd, Gh.push, if_true] at ho
                        have := k7 o ho
                        exact ⟨this.1, by rw [Nat.add_mul]; omega⟩)
                      (fun _ => ⟨fun k hk hne hei e => hne (H.inj k id hk hlt hei hex e), H.loc id hlt hex⟩)
                  rw [k1]
                  refine ⟨_, _, hrun, _, E, H', ?_⟩
                  simp only [RelX]
                  exact ⟨_, get_set_eq hlt, rfl, Nat.le_refl _, ⟨_, _, _, rfl⟩, fun _ => by simp [Gh.upd, Gh.push]⟩
                · exact grow _ cap _ k1 hfo k6 (by omega)
              · by_cases hm : m = 0
                · exact none' _ n k1 hm (Nat.le_refl _) hkk
                · refine grow _ n vs k1 ?_ k4 (by omega)
                  simp only [Builtin.firstCells]
                  have := run_loadCells_list (P := P) (w := w.drew) ⟨(g.ad id).1, (g.ad id).2, none⟩ vs (fun j v hj => by
                    rw [addr_add]; exact H.stable _ _ _ (k3 j v hj))
                  rw [k4.length, hl, ← hsz] at this
                  exact this
            · cases he
          · cases he
        · cases he
    · cases he
  · cases he


/-! ### slices whose cells lie on the private heap -/
theorem relX_cell {x : X} {v : Value} (r : RelX g h x v) (c : cellX x = true) : v.oneCell' = true := by
  cases x with
  | val c => simp only [RelX] at r; exact (repV_one r).1
  | nil => simp only [RelX] at r; subst r; rfl
  | ex sz n cs => exact (repV_one (rep_ex r)).1
  | ref id ver => simp only [RelX] at r; obtain ⟨_, _, _, _, ⟨_, _, _, rfl⟩, _⟩ := r; rfl
  | view id ver off n => simp only [RelX] at r; obtain ⟨_, _, _, _, ⟨_, _, _, rfl⟩, _⟩ := r; rfl
  | ptr id ver off => simp only [RelX] at r; obtain ⟨_, _, _, ⟨_, rfl⟩, _⟩ := r; rfl
  | fptr cs => simp only [RelX] at r; obtain ⟨_, _, _, rfl, _⟩ := r; rfl
  | clos f caps => simp only [RelX] at r; obtain ⟨_, rfl, _⟩ := r; rfl
  | yld id => simp only [RelX] at r; obtain ⟨_, _, _, ⟨_, rfl⟩, _⟩ := r; rfl
  | mp id => simp only [RelX] at r; rcases r with ⟨_, _, _, ⟨_, rfl⟩ | ⟨_, _, _, rfl⟩, _⟩ <;> rfl
  | _ => cases c

theorem relXs_cells : ∀ {xs : List X} {vs : List Value}, RelXs g h xs vs → xs.all cellX = true → ∀ v ∈ vs, v.oneCell' = true
  | [], _, r, _, v, hv => by simp only [RelXs] at r; subst r; cases hv
  | x :: xs, _, r, c, v, hv => by
    simp only [RelXs] at r
    obtain ⟨u, us, rfl, h1, h2⟩ := r
    simp only [List.all_cons, Bool.and_eq_true] at c
    rcases List.mem_cons.1 hv with rfl | hv
    · exact relX_cell h1 c.1
    · exact relXs_cells h2 c.2 v hv

theorem Ext.anew {id : Nat} {b b' : Blk} (hb : h[id]? = some b) (hbox : b.isBox = b'.isBox) (hver : b.ver < b'.ver) (ad : Nat × Nat) (hd : Value) (ex : Bool) : Ext g h (g.upd id ad hd ex) (h.set id b') :=
  ⟨fun _ _ _ h => h, fun i k hi => by
    by_cases ci : i = id
    · subst ci
      rw [hb] at hi; cases hi
      exact ⟨b', get_set_eq (lt_of_get hb), hbox, Nat.le_of_lt hver, fun e => by omega⟩
    · exact ⟨k, by rw [get_set_ne ci]; exact hi, rfl, Nat.le_refl _, fun _ => by simp [Gh.upd, Gh.push, ci]⟩, fun _ h => h⟩

theorem srcY_ok (H : HeapOK bs g h w) {x : X} {v : Value} {m sz : Nat} {new : List X} (r : RelX g h x v) (e : srcY h x = some (m, new)) (hl : new.length = m * sz) (hsz : 0 < sz) :
    ∃ news, RelXs g h new news ∧ (∀ w2, (Builtin.lenOf v).run P w2 = .ok m w2) ∧ ∀ n, n ≤ m → ∀ w2 : World, w2.heap = w.heap → (Builtin.firstCells sz n v).run P w2 = .ok (news.take (n * sz)).toArray w2 := by
  unfold srcY at e
  split at e
  · rename_i m0 cs hs
    simp only [Option.some.injEq, Prod.mk.injEq] at e; obtain ⟨rfl, rfl⟩ := e
    obtain ⟨news, h1, h2, h3⟩ := src_ok (P := P) H r hs (by simpa using hl) hsz
    exact ⟨news, RelXs.of_vals h1, h2, h3⟩
  · cases x with
    | ref id ver =>
      simp only [srcX] at e
      split at e
      · rename_i ty v0 sz0 n0 cs hb
        split at e
        · rename_i hv
          subst hv
          simp only [Option.some.injEq, Prod.mk.injEq] at e; obtain ⟨rfl, rfl⟩ := e
          have hv := relx_ref H hb r
          subst hv
          obtain ⟨h0, hl0, hk⟩ := H.blk id _ hb
          rcases hk with ⟨⟨z, h1⟩, h2, _⟩ | ⟨hex, ha, cap, cur, k1, k2, k3, k4, k5, k6, k7⟩
          · subst h2
            have hc : cs = [] := by simpa using hl
            subst hc
            refine ⟨[], by simp [RelXs], fun w2 => by rw [h1]; simp [Builtin.lenOf], fun n hn w2 _ => ?_⟩
            obtain rfl : n = 0 := by omega
            rw [h1]
            have := first_zero (P := P) (w := w2) z sz
            simpa using this
          · refine ⟨_, k6, fun w2 => by rw [k1]; simp [Builtin.lenOf], fun n hn w2 hw2 => ?_⟩
            have hszz : n0 * sz = n0 * sz0 := hl.symm.trans hl0
            rw [hszz.symm]
            have hle : n * sz ≤ n0 * sz := Nat.mul_le_mul_right _ hn
            rw [k1]
            have hlen := k6.length
            have := run_loadCells_list (P := P) (w := w2) ⟨(g.ad id).1, 0, none⟩ ((cur.toList.take (n0 * sz)).take (n * sz)) (fun j u hj => by
              rw [List.getElem?_take] at hj
              split at hj
              · rw [List.getElem?_take] at hj
                split at hj
                · rw [addr_add, Nat.zero_add]
                  have : w.cell? ⟨(g.ad id).1, j, none⟩ = some u := by rw [cell_of k4]; simpa using hj
                  simpa [World.cell?, hw2] using this
                · cases hj
              · cases hj)
            have hlt : ((cur.toList.take (n0 * sz)).take (n * sz)).length = n * sz := by
              rw [List.length_take, hszz, hlen, hl]
              exact Nat.min_eq_left hle
            rw [hlt] at this
            simp only [Builtin.firstCells]
            exact this
        · cases e
      · cases e
    | _ => cases e

theorem grown_cellsX {cells new : List X} {olds news : List Value} {z : Value} {sz n m cap : Nat} (r1 : RelXs g h cells olds) (r2 : RelXs g h new news) (h1 : olds.length = n * sz) (h2 : news.length = m * sz) (hz : z.cells.size = sz) (hcap : n + m ≤ cap) :
    (olds.toArray ++ news.toArray ++ Builtin.zeroCells z.cells (cap - (n + m))).size = cap * sz ∧ RelXs g h (cells ++ new) ((olds.toArray ++ news.toArray ++ Builtin.zeroCells z.cells (cap - (n + m))).toList.take ((n + m) * sz)) := by
  constructor
  · simp only [Array.size_append, List.size_toArray, size_zeroCells, hz, h1, h2, ← Nat.add_mul]
    congr 1; omega
  · simp only [Array.toList_append]
    rw [List.take_left' (by simp [h1, h2, Nat.add_mul])]
    exact r1.append r2

theorem appendX_ref (hT : TOK P T) (H : HeapOK bs g h w) {t u ty el s0 b0 id m n : Nat} {z0 : List X} {ei : TI} {s : X} {x : Value} {du : TypeDesc} {cs new : List X} {b : Blk} (ht : T t = some ⟨.slice el, s0, b0, z0⟩) (hu : P.underlying u = some du) (hdu : (∃ e', du = .slice e') ∨ du = .string) (hei : T el = some ei)
    (r2 : RelX g h s x) (hs : srcY h s = some (m, new)) (hb : h[id]? = some b) (hbox : b.isBox = false) (hok : SlxOK g h w el ei.size n cs (g.hd id) (g.ad id) (g.ex id))
    (hp1 : new.length = m * ei.size) (hp3 : (n + m) * ei.bytes ≤ 140737488355328) (hp4 : n + m ≤ 9223372036854775807) (hp5 : new.all cellX = true) :
    VOK P bs g h w (Builtin.append_ #[t, u] ty #[g.hd id, x]) ⟨True, .ref id (b.ver + 1), .write, h.set id (.slx el (b.ver + 1) ei.size (n + m) (cs ++ new))⟩ := by
  obtain ⟨d0, i, z, hd, hi, hf, hsz, hby, hz, hc, hzok, hzl⟩ := hT.get hei
  have hzs : z.cells.size = ei.size := by rw [← hzl]; have : z.cells.size = z.cells.toList.length := rfl; rw [this, hc]; simp
  have hut := hT.slice ht
  obtain ⟨h0, hl, hk⟩ := hok
  obtain ⟨news, rn, hlen, hfc⟩ := srcY_ok (P := P) H r2 hs hp1 h0
  have hnl := rn.length
  have htk : news.take (m * ei.size) = news := List.take_of_length_le (by omega)
  have hcl : (cs ++ new).length = (n + m) * ei.size := by rw [List.length_append, hl, hp1, Nat.add_mul]
  have hlt := lt_of_get hb
  have grow : ∀ (a : Option Addr) (cap : Nat) (olds : List Value), g.hd id = .slice a n cap → (Builtin.firstCells i.size n (.slice a n cap)).run P w.drew = .ok olds.toArray w.drew → RelXs g h cs olds → cap < n + m →
      VOK P bs g h w (Builtin.append_ #[t, u] ty #[g.hd id, x]) ⟨True, .ref id (b.ver + 1), .write, h.set id (.slx el (b.ver + 1) ei.size (n + m) (cs ++ new))⟩ := fun a cap olds e1 e2 e3 e4 => by
    have hol := e3.length
    have hrun := app_grow (ty := ty) (news := news) (olds := olds) hut hu hdu hi hz (hlen w) (by rw [hsz]; have := hfc m (Nat.le_refl _) w.drew rfl; rw [htk] at this; exact this) e2 e4 hp4 (by rw [hby]; exact hp3)
    have hge := grownCap_ge w (n + m) cap el
    have hle := grownCap_le_maxLen w (n + m) cap el (by unfold maxLen; omega)
    obtain ⟨q1, q2⟩ := grown_cellsX (z := z) e3 rn (hol.trans hl) (hnl.trans hp1) hzs hge
    have hold : ∀ k, k < w.heap.size → (w.drew.alloc (.cells (olds.toArray ++ news.toArray ++ Builtin.zeroCells z.cells (grownCap w (n + m) cap el - (n + m))) el)).heap[k]? = w.heap[k]? := fun k hk => by
      show (w.heap.push _)[k]? = _
      rw [Array.getElem?_push, if_neg (by omega)]
    obtain ⟨E, H'⟩ := H.renew (b' := .slx el (b.ver + 1) ei.size (n + m) (cs ++ new)) hb hbox (by rw [hbox]; rfl) (Nat.lt_succ_self _) (w.heap.size, 0) (.slice (some ⟨w.heap.size, 0, none⟩) (n + m) (grownCap w (n + m) cap el)) true
      (w' := w.drew.alloc (.cells (olds.toArray ++ news.toArray ++ Builtin.zeroCells z.cells (grownCap w (n + m) cap el - (n + m))) el)) rfl rfl rfl (by simp) (fun k hk _ => hold k hk) (fun b o v hv => by
        have := H.stable b o v hv
        rw [cell_block (hold b (cell_lt this))]; exact this) (by
        simp only [BlkOK]
        refine ⟨h0, hcl, .inr ⟨by simp [Gh.upd, Gh.push], by simp [Gh.upd, Gh.push], grownCap w (n + m) cap el, _, by simp [Gh.upd, Gh.push], hge, hle, ?_, q1, RelXs.mono (Ext.anew hb (by rw [hbox]; rfl) (Nat.lt_succ_self _) _ _ _) _ _ q2, fun o => ?_⟩⟩
        · simp only [Gh.upd, Gh.push, if_true]
          show (w.heap.push _)[w.heap.size]? = _
          simp
        · simp only [Gh.upd, Gh.push, if_true]
          rcases hq : g.S w.heap.size o with _ | v
          · rfl
          · have := cell_lt (H.stable _ _ _ hq); omega)
        (fun _ => ⟨fun k hk hne hei => Nat.ne_of_lt (blk_lt H hk hei), .inl H.size⟩)
    rw [e1]
    refine ⟨_, _, hrun, _, E, H', ?_⟩
    simp only [RelX]
    exact ⟨_, get_set_eq hlt, rfl, Nat.le_refl _, ⟨_, _, _, rfl⟩, fun _ => by simp [Gh.upd, Gh.push]⟩
  have room : ∀ (a : Option Addr) (cap : Nat), g.hd id = .slice a n cap → g.ex id = false → n = 0 → m = 0 →
      VOK P bs g h w (Builtin.append_ #[t, u] ty #[g.hd id, x]) ⟨True, .ref id (b.ver + 1), .write, h.set id (.slx el (b.ver + 1) ei.size (n + m) (cs ++ new))⟩ := fun a cap e1 e2 e3 e4 => by
    subst e3; subst e4
    have hn0 : new = [] := List.eq_nil_of_length_eq_zero (by simpa using hp1)
    have hc0 : cs = [] := List.eq_nil_of_length_eq_zero (by simpa using hl)
    have hnn : news = [] := List.eq_nil_of_length_eq_zero (by rw [hnl, hn0]; rfl)
    subst hn0; subst hc0
    have hrun := app_room (ty := ty) (a := a) (n := 0) (cap := cap) (w' := w) (news := []) hut hu hdu hi (hlen w) (by rw [hsz]; have := hfc 0 (Nat.le_refl _) w rfl; rw [hnn] at this; simpa using this) (by omega) (by cases a <;> simp [storeCells])
    have hupd : g.upd id (g.ad id) (g.hd id) (g.ex id) = g := by
      cases g
      simp only [Gh.upd, Gh.push, Gh.mk.injEq, true_and, and_true]
      refine ⟨?_, ?_, ?_⟩ <;> (funext i; split <;> simp_all)
    rw [e1]
    rcases hk with k | ⟨hex, _⟩
    · obtain ⟨E, H'⟩ := H.renew (w' := w) (b' := .slx el (b.ver + 1) ei.size 0 []) hb hbox (by rw [hbox]; rfl) (Nat.lt_succ_self _) (g.ad id) (g.hd id) (g.ex id) rfl rfl rfl (Nat.le_refl _) (fun _ _ _ => rfl) H.stable
        (by rw [hupd]; simp only [BlkOK]; exact ⟨h0, by simp, .inl k⟩) (fun hx => by rw [e2] at hx; cases hx)
      rw [hupd] at E H'
      refine ⟨_, w, hrun, g, E, H', ?_⟩
      simp only [RelX]
      exact ⟨_, get_set_eq hlt, rfl, Nat.le_refl _, ⟨_, _, _, rfl⟩, fun _ => e1.symm⟩
    · rw [e2] at hex; cases hex
  have hk' := hk
  rcases hk with ⟨k1, k2, k3⟩ | ⟨hex, ha, cap, cur, k1, k2, k3, k4, k5, k6, k7⟩
  · have hcs : cs = [] := by apply List.eq_nil_of_length_eq_zero; rw [hl, k2]; simp
    obtain ⟨zz, k1⟩ := k1
    by_cases hm : m = 0
    · exact room zz 0 (by rw [k1, k2]) k3 k2 hm
    · refine grow zz 0 [] (by rw [k1, k2]) (by rw [k2]; exact first_zero _ _) (by rw [hcs]; simp [RelXs]) (by omega)
  · have hfo : (Builtin.firstCells i.size n (.slice (some ⟨(g.ad id).1, 0, none⟩) n cap)).run P w.drew = .ok (cur.toList.take (n * ei.size)).toArray w.drew := by
      have hlt2 : (cur.toList.take (n * ei.size)).length = n * i.size := by rw [k6.length, hl, hsz]
      simp only [Builtin.firstCells]
      have := run_loadCells_list (P := P) (w := w.drew) ⟨(g.ad id).1, 0, none⟩ (cur.toList.take (n * ei.size)) (fun j v hj => by
        rw [addr_add, Nat.zero_add]
        rw [List.getElem?_take] at hj
        split at hj
        · show w.cell? _ = _
          rw [cell_of k4]; simpa using hj
        · cases hj)
      rw [hlt2] at this
      exact this
    by_cases hroom : n + m ≤ cap
    · have h1 := relXs_cells rn hp5
      have hnl' : news.length = m * ei.size := hnl.trans hp1
      have hmul : (n + m) * ei.size ≤ cap * ei.size := Nat.mul_le_mul_right _ hroom
      rw [Nat.add_mul] at hmul
      have hst := run_storeCells_at P (g.ad id).1 (n * ei.size) el news 0 cur w k4 (by omega) h1
      simp only [Nat.add_zero] at hst
      have hrun := app_room (ty := ty) (a := some ⟨(g.ad id).1, 0, none⟩) (n := n) (cap := cap) (news := news) hut hu hdu hi (hlen w) (by rw [hsz]; have := hfc m (Nat.le_refl _) w rfl; rw [htk] at this; exact this) hroom (by
        simp only [addr_add, Nat.zero_add, hsz]; exact hst)
      have hcsz : cur.size = cur.toList.length := rfl
      obtain ⟨E, H'⟩ := H.renew (b' := .slx el (b.ver + 1) ei.size (n + m) (cs ++ new)) hb hbox (by rw [hbox]; rfl) (Nat.lt_succ_self _) (g.ad id) (.slice (some ⟨(g.ad id).1, 0, none⟩) (n + m) cap) true
        (w' := w.setRow (g.ad id).1 (cur.toList.take (n * ei.size) ++ news ++ cur.toList.drop (n * ei.size + news.length)).toArray) rfl rfl rfl (by simp) (fun k hk hx => setRow_other w _ k _ (hx hex)) (fun b o v hv => by
          by_cases c : b = (g.ad id).1
          · subst c
            rw [k7] at hv; cases hv
          · rw [cell_setRow_other w _ _ ⟨b, o, none⟩ c]; exact H.stable b o v hv) (by
          simp only [BlkOK]
          refine ⟨h0, hcl, .inr ⟨by simp [Gh.upd, Gh.push], by simpa [Gh.upd, Gh.push] using ha, cap, (cur.toList.take (n * ei.size) ++ news ++ cur.toList.drop (n * ei.size + news.length)).toArray, by simp [Gh.upd, Gh.push], hroom, k3, ?_, ?_, ?_, fun o => by simpa [Gh.upd, Gh.push] using k7 o⟩⟩
          · simp only [Gh.upd, Gh.push, if_true]
            exact setRow_heap w _ cur _ el _ k4
          · simp; omega
          · have : (cur.toList.take (n * ei.size) ++ news).length = (n + m) * ei.size := by rw [List.length_append, k6.length, hl, hnl', Nat.add_mul]
            simp only
            rw [List.take_left' this]
            exact RelXs.mono (Ext.anew hb (by rw [hbox]; rfl) (Nat.lt_succ_self _) _ _ _) _ _ (k6.append rn))
          (fun _ => ⟨fun k hk hne hei e => hne (H.inj k id hk hlt hei hex e), H.loc id hlt hex⟩)
      rw [k1]
      refine ⟨_, _, hrun, _, E, H', ?_⟩
      simp only [RelX]
      exact ⟨_, get_set_eq hlt, rfl, Nat.le_refl _, ⟨_, _, _, rfl⟩, fun _ => by simp [Gh.upd, Gh.push]⟩
    · exact grow _ cap _ k1 hfo k6 (by omega)

theorem appendX_ok (hT : TOK P T) (H : HeapOK bs g h w) {gd : Bool} {t u ty : Nat} {d s : X} {v x : Value} {e : Eff} (r : RelX g h d v) (r2 : RelX g h s x) (hsrc : srcType T u = true) (he : opAppendX T gd h t d s = some e) (hp : e.pre) :
    VOK P bs g h w (Builtin.append_ #[t, u] ty #[v, x]) e := by
  obtain ⟨du, hu, hdu⟩ := srcType_ok hT hsrc
  unfold opAppendX at he
  split at he
  · rename_i el s0 b0 z0 ht
    split at he
    · rename_i ei hei
      obtain ⟨d0, i, z, hd, hi, hf, hsz, hby, hz, hc, hzok, hzl⟩ := hT.get hei
      have hzs : z.cells.size = ei.size := by rw [← hzl]; have : z.cells.size = z.cells.toList.length := rfl; rw [this, hc]; simp
      have hut := hT.slice ht
      generalize hs : srcY h s = q at he
      unfold apY at he
      split at he
      · rename_i m new
        split at he
        · cases he
        · split at he
          · simp only [Option.some.injEq] at he; subst he
            simp only at hp
            obtain ⟨hp1, hp2, hp3, hp4, hp5⟩ := hp
            obtain ⟨news, rn, hlen, hfc⟩ := srcY_ok (P := P) H r2 hs hp1 hp2
            have hnl := rn.length
            have htk : news.take (m * ei.size) = news := List.take_of_length_le (by omega)
            simp only [RelX] at r; subst r
            by_cases hm : m = 0
            · subst hm
              have hn0 : new = [] := List.eq_nil_of_length_eq_zero (by simpa using hp1)
              have hnn : news = [] := List.eq_nil_of_length_eq_zero (by rw [hnl, hn0]; rfl)
              have hrun := app_room (ty := ty) (a := none) (n := 0) (cap := 0) (w' := w) (news := news) hut hu hdu hi (hlen w) (by rw [hsz]; have := hfc 0 (Nat.le_refl _) w rfl; rw [hnn] at this ⊢; simpa using this) (by omega) rfl
              subst hn0
              obtain ⟨g', E, H', hr⟩ : ∃ g', Ext g h g' (h ++ [.slx el 0 ei.size 0 []]) ∧ HeapOK bs g' (h ++ [.slx el 0 ei.size 0 []]) w ∧ RelX g' (h ++ [.slx el 0 ei.size 0 []]) (.ref h.length 0) (.slice none 0 0) := by
                refine ⟨g.push h.length (0, 0) (.slice none 0 0) false, Ext.push .., H.push _ _ _ _ ?_ (by simp), ?_⟩
                · simp only [BlkOK]; exact ⟨hp2, by simp, .inl ⟨by simp [Gh.push], rfl, by simp [Gh.push]⟩⟩
                · simp only [RelX]; exact ⟨.slx el 0 ei.size 0 [], by simp, rfl, Nat.le_refl _, ⟨_, _, _, rfl⟩, fun _ => by simp [Gh.push]⟩
              exact ⟨_, w, hrun, g', E, H', hr⟩
            · have hrun := app_grow (ty := ty) (a := none) (n := 0) (cap := 0) (news := news) (olds := []) hut hu hdu hi hz (hlen w) (by rw [hsz]; have := hfc m (Nat.le_refl _) w.drew rfl; rw [htk] at this; exact this) (by simp [Builtin.firstCells]) (by omega) (by omega) (by rw [hby]; simpa using hp3)
              have hge := grownCap_ge w (0 + m) 0 el
              have hle := grownCap_le_maxLen w (0 + m) 0 el (by unfold maxLen; omega)
              obtain ⟨q1, q2⟩ := grown_cellsX (g := g) (h := h) (cells := []) (olds := []) (n := 0) (z := z) (by simp [RelXs]) rn (by simp) (hnl.trans hp1) hzs hge
              obtain ⟨g', E, H', hr⟩ := push_ownX H.drew (cells := new) (n := m) hp2 hp1 (by omega) hle q1 (by simpa using q2) (w' := w.drew.alloc (.cells ([].toArray ++ news.toArray ++ Builtin.zeroCells z.cells (grownCap w (0 + m) 0 el - (0 + m))) el)) rfl rfl rfl rfl
              simp only [Nat.zero_add] at hrun hr H'
              exact ⟨_, _, hrun, g', E, H', hr⟩
          · rename_i id ver
            split at he
            · rename_i tb v0 p sz n cs hb
              split at he
              · rename_i hv
                subst hv
                simp only [Option.some.injEq] at he; subst he
                simp only at hp
                obtain ⟨hpp, hp0, hp1, hp2, hp3, hp4, hp5⟩ := hp
                subst hpp; subst hp0; subst hp2
                have hv := rel_ref H hb r
                subst hv
                obtain ⟨h0, hl, hk⟩ := H.blk id _ hb
                refine appendX_ref hT H ht hu hdu hei r2 hs hb rfl ⟨h0, by simpa using hl, ?_⟩ hp1 hp3 hp4 hp5
                rcases hk with k2 | ⟨a1, a2, cap, cur, a3, a4, a5, a6, a7, a8, a9⟩ | ⟨_, a2, _⟩
                · exact .inl k2
                · refine .inr ⟨a1, a2, cap, cur, a3, a4, a5, a6, a7, RelXs.of_vals a8, fun o => ?_⟩
                  rcases q : g.S (g.ad id).1 o with _ | z
                  · rfl
                  · have := (a9 o (by simp [q])).1; cases this
                · cases a2
              · cases he
            · rename_i tb v0 sz n cs hb
              split at he
              · rename_i hv
                subst hv
                simp only [Option.some.injEq] at he; subst he
                simp only at hp
                obtain ⟨hp0, hp1, hp2, hp3, hp4, hp5⟩ := hp
                subst hp0; subst hp2
                have hv := relx_ref H hb r
                subst hv
                exact appendX_ref hT H ht hu hdu hei r2 hs hb rfl (H.blk id _ hb) hp1 hp3 hp4 hp5
              · cases he
            · cases he
          · cases he
      · cases he
    · cases he
  · cases he

end
end Fen

/- Part 13: contracts of functions that take and give values; one operation, whole. -/
namespace Fen
open Go Go.RowKit

def Stable (S : Stab) (w : World) : Prop := ∀ b o v, S b o = some v → w.cell? ⟨b, o, none⟩ = some v

abbrev Gl := List (Nat × List C)

def GlOK (gl : Gl) (S : Stab) : Prop := ∀ k cs, (k, cs) ∈ gl → ∃ vs, (∀ j u, vs[j]? = some u → S k j = some u) ∧ RepL S cs vs

/-- one result; the block of memory that comes with it, if it is the caller's own -/
def RelComp (S : Stab) (w : World) (B : Nat) : Comp → Value → Option Nat → Prop
  | .val a, v, ob => RepA S a v ∧ ob = none
  | .own ty p sz n cells, v, ob => ∃ ad ex, SlOK S w ty p sz n cells v ad ex ∧ ob = (if ex then some ad.1 else none) ∧ (ex = true → B ≤ ad.1)

def RelComps (S : Stab) (w : World) (B : Nat) : List Nat → List Comp → List Value → Prop
  | _, [], vs => vs = []
  | used, c :: cs, vs => ∃ u us ob, vs = u :: us ∧ RelComp S w B c u ob ∧ (∀ b, ob = some b → b ∉ used) ∧ RelComps S w B (ob.toList ++ used) cs us

def RVOK (S : Stab) (w : World) (B : Nat) : RV → Value → Prop
  | .one c, v => ∃ ob, RelComp S w B c v ob
  | .many cs, v => ∃ vs, v = .tuple vs.toArray ∧ RelComps S w B [] cs vs

/-- a call by values: nothing that was there turns; the result is what rv says -/
def ByVal (P : Program) (gl : Gl) (f : FuncId) (args : List V) (rv : RV) : Prop :=
  ∀ (S : Stab) (w : World) (vs : List Value), Stable S w → GlOK gl S → RepAs S args vs →
    Calls P f vs.toArray w fun e w' => ∃ v S', e = .returned v ∧ Below w.heap.size w w' ∧ (∀ b o, b < w.heap.size → S' b o = S b o) ∧ Stable S' w' ∧ RVOK S' w' w.heap.size rv v

def Enters (P : Program) (f : FuncId) : Prop := ∀ (w : World) (args : Array Value), (callFunc f args).run P w = .ok (.enter f args) w

def hcEff (hs : HS) (xs : List X) (h : List Blk) : Eff := ⟨(hs.eff xs h).1, (hs.eff xs h).2.1, if hs.wr then .write else .read, if hs.wr then (hs.eff xs h).2.2 else h⟩

/-- a call on the private heap -/
def OnHeap (P : Program) (gl : Gl) (f : FuncId) (xs : List X) (h : List Blk) (R : X → List Blk → Prop) : Prop :=
  ∀ (bs : Base) (g : Gh) (w : World) (vs : List Value), bs.gl = gl → HeapOK bs g h w → RelXs g h xs vs →
    Calls P f vs.toArray w fun en w' => ∃ v x h' g', en = .returned v ∧ R x h' ∧ Ext g h g' h' ∧ HeapOK bs g' h' w' ∧ RelX g' h' x v

def Sound (P : Program) (gl : Gl) (f : FuncId) (s : Spec) : Prop := Enters P f ∧ (s.hp = none → ∀ args, s.pre args → ByVal P gl f args (s.res args)) ∧
  ∀ hs, s.hp = some hs → ∀ xs h, (hs.eff xs h).1 → OnHeap P gl f xs h fun x h' => x = (hcEff hs xs h).x ∧ h' = (hcEff hs xs h).h

def SpecsOK (P : Program) (gl : Gl) (G : Specs) : Prop := ∀ f s, G.find f = some s → Sound P gl f s

theorem SpecsOK.nil (P : Program) (gl : Gl) : SpecsOK P gl [] := fun f s h => by simp [Specs.find] at h

theorem SpecsOK.cons {P : Program} {gl : Gl} {G : Specs} {f : FuncId} {s : Spec} (h : Sound P gl f s) (hG : SpecsOK P gl G) : SpecsOK P gl ((f, s) :: G) := fun k t hk => by
  simp only [Specs.find] at hk
  split at hk
  · rename_i e; subst e; cases hk; exact h
  · exact hG k t hk

theorem enters_of {P : Program} {f : FuncId} {fn : Func} (hf : P.funcs[f]? = some fn) (hb : fn.body.isSome = true) (hn : (fn.name == "runtime.NumGoroutine") = false) : Enters P f := fun w args => by
  have h1 : fn.body.isNone = false := by cases h : fn.body <;> simp_all
  simp only [callFunc, Sem.run_bind, run_program, Result.andThen_ok, hf, hn, h1, Bool.false_eq_true, if_false, Sem.run_pure]

section
variable {P : Program} {T : TT} {bs : Base} {g : Gh} {h : List Blk} {w : World}

theorem repA_x {S : Stab} {a : V} {v : Value} (r : RepA S a v) (g : Gh) (h : List Blk) (hS : g.S = S) : RelX g h a.x v := by
  subst hS
  cases a with
  | c k => cases k <;> simpa only [V.x, C.x, RelX, RepA, RepV] using r
  | agg ks => simpa only [V.x, RelX, RepA] using r

theorem RelXs.of_cx {g : Gh} {h : List Blk} : ∀ {cs : List C} {vs : List Value}, RepL g.S cs vs → RelXs g h (cs.map C.x) vs
  | [], _, r => by simp only [RepL] at r; subst r; simp [RelXs]
  | c :: cs, _, r => by
    simp only [RepL] at r
    obtain ⟨u, us, rfl, h1, h2⟩ := r
    simp only [List.map_cons, RelXs]
    exact ⟨u, us, rfl, repA_x (a := .c c) h1 g h rfl, RelXs.of_cx h2⟩

theorem impC_ok {B : Nat} {used : List Nat} (H : HeapOK bs g h w) (hB : bs.w0.heap.size ≤ B) (hu : ∀ i, i < h.length → g.ex i = true → (g.ad i).1 < B ∨ (g.ad i).1 ∈ used) {c : Comp} {v : Value} {ob : Option Nat} (r : RelComp g.S w B c v ob) (hob : ∀ b, ob = some b → b ∉ used) :
    ∃ g', g'.S = g.S ∧ Ext g h g' (impC h c).2 ∧ HeapOK bs g' (impC h c).2 w ∧ RelX g' (impC h c).2 (impC h c).1 v ∧ (∀ i, i < (impC h c).2.length → g'.ex i = true → (g'.ad i).1 < B ∨ (g'.ad i).1 ∈ ob.toList ++ used) := by
  cases c with
  | val a =>
    obtain ⟨r, rfl⟩ := r
    exact ⟨g, rfl, Ext.refl g h, H, repA_x r g h rfl, by simpa [impC] using hu⟩
  | own ty p sz n cells =>
    obtain ⟨ad, ex, hs, rfl, hx⟩ := r
    refine ⟨g.push h.length ad v ex, rfl, Ext.push .., H.push _ _ _ _ ?_ (fun hex => ⟨fun i hi hei e => ?_, .inl (Nat.le_trans hB (hx hex))⟩), ?_, fun i hi hei => ?_⟩
    · simpa [BlkOK, Gh.push] using hs
    · subst hex
      rcases hu i hi hei with h1 | h1
      · have := hx rfl; omega
      · exact hob ad.1 rfl (e ▸ h1)
    · simp only [impC, RelX]
      have hv : ∃ a n c, v = .slice a n c := by
        obtain ⟨_, _, hs⟩ := hs
        rcases hs with ⟨⟨_, e⟩, _⟩ | ⟨_, _, _, _, e, _⟩ | ⟨_, _, e, _⟩ <;> exact ⟨_, _, _, e⟩
      exact ⟨.sl ty 0 p sz n cells, by simp, rfl, Nat.le_refl _, hv, fun _ => by simp [Gh.push]⟩
    · simp only [impC, List.length_append, List.length_singleton] at hi
      by_cases ci : i = h.length
      · subst ci
        simp only [Gh.push, if_true] at hei ⊢
        subst hei
        right; simp
      · have := hu i (by omega) (by simpa [Gh.push, ci] using hei)
        simp only [Gh.push, ci, if_false]
        rcases this with h1 | h1
        · exact .inl h1
        · exact .inr (by simp [h1])

theorem impCs_ok {B : Nat} (hB : bs.w0.heap.size ≤ B) : ∀ {cs : List Comp} {used : List Nat} {g : Gh} {h : List Blk} {vs : List Value}, HeapOK bs g h w → (∀ i, i < h.length → g.ex i = true → (g.ad i).1 < B ∨ (g.ad i).1 ∈ used) → RelComps g.S w B used cs vs →
    ∃ g', g'.S = g.S ∧ Ext g h g' (impCs h cs).2 ∧ HeapOK bs g' (impCs h cs).2 w ∧ RelXs g' (impCs h cs).2 (impCs h cs).1 vs
  | [], used, g, h, vs, H, hu, r => by
    simp only [RelComps] at r; subst r
    exact ⟨g, rfl, Ext.refl g h, H, by simp [impCs, RelXs]⟩
  | c :: cs, used, g, h, vs, H, hu, r => by
    obtain ⟨u, us, ob, rfl, r1, r2, r3⟩ := r
    obtain ⟨g1, hS1, E1, H1, x1, u1⟩ := impC_ok H hB hu r1 r2
    obtain ⟨g2, hS2, E2, H2, x2⟩ := impCs_ok hB H1 u1 (by rw [hS1]; exact r3)
    refine ⟨g2, hS2.trans hS1, E1.trans E2, H2, ?_⟩
    simp only [impCs, RelXs]
    exact ⟨u, us, rfl, RelX.mono E2 _ _ x1, x2⟩

theorem imp_ok {B : Nat} (H : HeapOK bs g h w) (hB : bs.w0.heap.size ≤ B) (hu : ∀ i, i < h.length → g.ex i = true → (g.ad i).1 < B) {rv : RV} {v : Value} (r : RVOK g.S w B rv v) :
    ∃ g', Ext g h g' (imp h rv).2 ∧ HeapOK bs g' (imp h rv).2 w ∧ RelX g' (imp h rv).2 (imp h rv).1 v := by
  cases rv with
  | one c =>
    obtain ⟨ob, r⟩ := r
    obtain ⟨g', _, E, H', x, _⟩ := impC_ok H hB (used := []) (fun i hi hei => .inl (hu i hi hei)) r (by simp)
    exact ⟨g', E, H', x⟩
  | many cs =>
    obtain ⟨vs, rfl, r⟩ := r
    obtain ⟨g', _, E, H', x⟩ := impCs_ok hB H (fun i hi hei => .inl (hu i hi hei)) r
    exact ⟨g', E, H', by simp only [imp, RelX]; exact ⟨vs, rfl, x⟩⟩

/-- a slice of the call's own, frozen as it comes -/
theorem frz_ok {B : Nat} (H : HeapOK bs g h w) (hB : bs.w0.heap.size ≤ B) {c : Comp} {v : Value} {ob : Option Nat} (r : RelComp g.S w B c v ob) :
    ∃ S', Ext g h { g with S := S' } h ∧ ((∀ i, i < h.length → g.ex i = true → (g.ad i).1 < B) → HeapOK bs { g with S := S' } h w) ∧ RepA S' c.frz v ∧ (∀ b o, b < B → S' b o = g.S b o) ∧ (∀ b o v, g.S b o = some v → S' b o = some v) ∧ Stable S' w := by
  have keep : ∀ S' : Stab, (∀ b o v, g.S b o = some v → S' b o = some v) → (∀ b o, b < B → S' b o = g.S b o) → Stable S' w →
      Ext g h { g with S := S' } h ∧ ((∀ i, i < h.length → g.ex i = true → (g.ad i).1 < B) → HeapOK bs { g with S := S' } h w) := fun S' hS hlt hst => by
    have E : Ext g h { g with S := S' } h := ⟨hS, fun id b hb => ⟨b, hb, rfl, Nat.le_refl _, fun _ => ⟨rfl, rfl⟩⟩, fun _ h => h⟩
    refine ⟨E, fun hu => ⟨hst, fun id b hb => (H.blk id b hb).mono E rfl rfl rfl fun hex _ => ⟨rfl, fun o => hlt _ _ (hu id (lt_of_get hb) hex)⟩, H.inj, H.loc, H.os, H.tape, H.output, H.size, H.frame, fun b o hb ho => ?_, fun k cs hk => ?_, H.marks⟩⟩
    · exact (hlt b o (by omega)).trans (H.stab b o hb ho)
    · obtain ⟨vs, h1, h2⟩ := H.gl k cs hk
      exact ⟨vs, fun j u hj => hS _ _ _ (h1 j u hj), RepL.mono hS cs vs h2⟩
  cases c with
  | val a =>
    obtain ⟨r, _⟩ := r
    obtain ⟨E, K⟩ := keep g.S (fun _ _ _ h => h) (fun _ _ _ => rfl) H.stable
    exact ⟨g.S, E, K, r, fun _ _ _ => rfl, fun _ _ _ h => h, H.stable⟩
  | own ty p sz n cells =>
    obtain ⟨ad, ex, ⟨h0, hl, hs⟩, _, hx⟩ := r
    rcases hs with ⟨h1, h2, h3⟩ | ⟨he, ha, cap, cur, k1, k2, k3, k4, k5, k6, k7⟩ | ⟨he, hp, k1, k2, vs, k3, k4⟩
    · obtain ⟨E, K⟩ := keep g.S (fun _ _ _ h => h) (fun _ _ _ => rfl) H.stable
      refine ⟨g.S, E, K, ?_, fun _ _ _ => rfl, fun _ _ _ h => h, H.stable⟩
      simp only [Comp.frz, RepA, RepV]
      exact .inl ⟨h1, h2, by subst h2; simpa using hl⟩
    · let S' : Stab := fun b o => if b = ad.1 ∧ o < n * sz then cur[o]? else g.S b o
      have hS : ∀ b o v, g.S b o = some v → S' b o = some v := fun b o u hu => by
        by_cases c1 : b = ad.1 ∧ o < n * sz
        · have := H.stable b o u hu
          rw [c1.1, cell_of k4] at this
          simp only [S']
          rw [if_pos c1, this]
        · simp only [S']; rw [if_neg c1]; exact hu
      have hB' : ∀ b o, b < B → S' b o = g.S b o := fun b o hb => by
        simp only [S']; rw [if_neg (fun c => ?_)]
        have := hx he; omega
      have hst : Stable S' w := fun b o u hu => by
        by_cases c1 : b = ad.1 ∧ o < n * sz
        · simp only [S'] at hu; rw [if_pos c1] at hu; rw [c1.1, cell_of k4]; exact hu
        · simp only [S'] at hu; rw [if_neg c1] at hu; exact H.stable b o u hu
      obtain ⟨E, K⟩ := keep S' hS hB' hst
      refine ⟨S', E, K, ?_, hB', hS, hst⟩
      simp only [Comp.frz, RepA, RepV]
      refine .inr ⟨_, _, cap, _, k1, k2, k3, fun j u hj => ?_, RepL.mono hS _ _ k6⟩
      rw [List.getElem?_take] at hj
      split at hj
      · rw [Nat.zero_add]
        exact (if_pos ⟨rfl, ‹_›⟩ : S' ad.1 j = cur[j]?).trans (by simpa using hj)
      · cases hj
    · obtain ⟨E, K⟩ := keep g.S (fun _ _ _ h => h) (fun _ _ _ => rfl) H.stable
      refine ⟨g.S, E, K, ?_, fun _ _ _ => rfl, fun _ _ _ h => h, H.stable⟩
      simp only [Comp.frz, RepA, RepV]
      exact .inr ⟨_, _, n, vs, k1, Nat.le_refl _, k2, k3, k4⟩

end
end Fen

/- Part 14: one operation is sound. -/
namespace Fen
open Go Go.RowKit

section
variable {P : Program} {T : TT} {G : Specs} {bs : Base} {g : Gh} {h : List Blk} {w : World}

theorem toVs_append {h : List Blk} : ∀ {xs ys : List X} {as : List V} {h' : List Blk}, toVs h (xs ++ ys) = some (as, h') → ∃ as1 as2 h1, toVs h xs = some (as1, h1) ∧ toVs h1 ys = some (as2, h') ∧ as = as1 ++ as2
  | [], ys, as, h', e => ⟨[], as, h, rfl, e, rfl⟩
  | x :: xs, ys, as, h', e => by
    simp only [List.cons_append, toVs] at e
    split at e
    · cases e
    · rename_i v h1 e1
      split at e
      · cases e
      · rename_i vs h2 e2
        simp only [Option.some.injEq, Prod.mk.injEq] at e; obtain ⟨rfl, rfl⟩ := e
        obtain ⟨a1, a2, h3, q1, q2, rfl⟩ := toVs_append e2
        exact ⟨v :: a1, a2, h3, by simp [toVs, e1, q1], q2, rfl⟩

theorem callS_sound {k : FuncId} {s : Spec} (hs : Sound P bs.gl k s) (H : HeapOK bs g h w) {gd : Bool} {xs ys : List X} {vs : List Value} {e : Eff} (r : RelXs g h xs vs) (r2 : RelXs g h ys vs) (he : opCallS s gd h xs ys = some e) (hp : e.pre) :
    Calls P k vs.toArray w fun en w' => ∃ v, en = .returned v ∧ After bs g h e v w' := by
  obtain ⟨hent, hby, hheap⟩ := hs
  unfold opCallS at he
  split at he
  · rename_i hs hhs
    unfold hcE at he
    split at he
    · cases he
    · simp only [Option.some.injEq] at he; subst he
      refine (hheap hs hhs ys h hp bs g w vs rfl H r2).mono ?_
      rintro en w' ⟨v, x, h', g', rfl, ⟨rfl, rfl⟩, E, H', rx⟩
      exact ⟨v, rfl, g', E, H', rx⟩
  · rename_i hnone
    unfold cvE at he
    split at he
    · rename_i as h' hv
      obtain ⟨S1, E1, H1, ra⟩ := toVs_ok H r hv
      have hpre : s.pre as := by
        split at he
        · split at he
          · simp only [Option.some.injEq] at he; subst he; exact hp
          · cases he
        · simp only [Option.some.injEq] at he; subst he; exact hp
      have hc := hby hnone as hpre S1 w vs H1.stable (fun k cs hk => H1.gl k cs hk) ra
      refine hc.mono ?_
      rintro en w' ⟨v, S', rfl, hb, hS, hst, hrv⟩
      refine ⟨v, rfl, ?_⟩
      obtain ⟨E2, H2⟩ := H1.world S' hb.os hb.tape hb.output hb.size hb.block hS hst
      have hu : ∀ i, i < h'.length → g.ex i = true → (g.ad i).1 < w.heap.size := fun i hi hei => blk_lt (g := { g with S := S1 }) H1 hi hei
      split at he
      · split at he
        · rename_i c hc
          simp only [Option.some.injEq] at he; subst he
          rw [hc] at hrv
          obtain ⟨ob, hrv⟩ := hrv
          obtain ⟨S3, E3, H3, r3, _⟩ := frz_ok (B := w.heap.size) H2 H1.size hrv
          exact ⟨_, E1.trans (E2.trans E3), H3 hu, repA_x r3 _ _ rfl⟩
        · cases he
      · simp only [Option.some.injEq] at he; subst he
        obtain ⟨g3, E3, H3, x3⟩ := imp_ok (B := w.heap.size) H2 H1.size hu hrv
        exact ⟨g3, E1.trans (E2.trans E3), H3, x3⟩
    · cases he

theorem opCall_sound (hG : SpecsOK P bs.gl G) (H : HeapOK bs g h w) {gd : Bool} {fx : X} {xs : List X} {fv : Value} {vs : List Value} {e : Eff} (rf : RelX g h fx fv) (r : RelXs g h xs vs) (he : opCall G gd h fx xs = some e) (hp : e.pre) :
    ∃ k caps, fv = .func (.func k) #[] caps ∧ Enters P k ∧ Calls P k (vs.toArray ++ caps) w fun en w' => ∃ v, en = .returned v ∧ After bs g h e v w' := by
  unfold opCall at he
  split at he
  · rename_i k cs
    simp only [RelX, RepV] at rf
    obtain ⟨caps, rfl, rc⟩ := rf
    split at he
    · rename_i s hs
      refine ⟨k, caps.toArray, rfl, (hG k s hs).1, ?_⟩
      rw [List.append_toArray]
      exact callS_sound (hG k s hs) H (r.append (RelXs.of_vals rc)) (r.append (RelXs.of_cx rc)) he hp
    · cases he
  · rename_i k cs
    simp only [RelX] at rf
    obtain ⟨caps, rfl, rc⟩ := rf
    split at he
    · rename_i s hs
      refine ⟨k, caps.toArray, rfl, (hG k s hs).1, ?_⟩
      rw [List.append_toArray]
      exact callS_sound (hG k s hs) H (r.append rc) (r.append rc) he hp
    · cases he
  · cases he

theorem relXs_map {ev : Operand → X} {ρ : Operand → Value} : ∀ {l : List Operand}, (∀ x ∈ l, RelX g h (ev x) (ρ x)) → RelXs g h (l.map ev) (l.map ρ)
  | [], _ => by simp [RelXs]
  | x :: l, hr => by
    simp only [List.map_cons, RelXs]
    exact ⟨_, _, rfl, hr x (List.mem_cons_self ..), relXs_map fun y hy => hr y (List.mem_cons_of_mem _ hy)⟩

theorem vok_wp {o : Oper} {a : Act} {Q : Exit → Act → World → Prop} {s : Sem Value} {e : Eff} (hs : ∀ v w', s.run P w = .ok v w' → (execOp a.eval o).run P w = .ok (.value v) w') (k : VOK P bs g h w s e) :
    o.wpIn (fen bs.ro) 0 P a w (fun a' w' => ∃ v, a' = a.put o.dst v ∧ After bs g h e v w') Q := by
  obtain ⟨v, w', h1, h2⟩ := k
  exact wp_value (hs v w' h1) ⟨v, rfl, h2⟩

theorem relO_map {ev : Operand → X} {ρ : Operand → Value} {o : Option Operand} (hr : ∀ x, o = some x → RelX g h (ev x) (ρ x)) : RelO g h (o.map ev) (o.map ρ) := by
  cases o with
  | none => trivial
  | some x => exact hr x rfl

theorem op_sound (hT : TOK P T) (hG : SpecsOK P bs.gl G) (H : HeapOK bs g h w) {gd : Bool} {o : Oper} {a : Act} {Q : Exit → Act → World → Prop} {ev : Operand → X} {e : Eff}
    (hE : ∀ x ∈ o.op.operands.toList, RelX g h (ev x) (a.eval x)) (he : opF T G gd ev h o.op = some e) (hp : e.pre) :
    o.wpIn (fen bs.ro) 0 P a w (fun a' w' => ∃ v, a' = a.put o.dst v ∧ After bs g h e v w') Q := by
  obtain ⟨dst, op, ty, pos, after, guard⟩ := o
  simp only at hE he
  unfold opF at he
  split at he
  -- move, assign
  · rename_i x
    simp only [Option.some.injEq] at he; subst he
    exact wp_value (w' := w) (v := a.eval x) (by simp [execOp]) ⟨_, rfl, After.same H (hE x (by simp [Op.operands]))⟩
  · rename_i x
    simp only [Option.some.injEq] at he; subst he
    exact wp_value (w' := w) (v := a.eval x) (by simp [execOp]) ⟨_, rfl, After.same H (hE x (by simp [Op.operands]))⟩
  -- extract
  · rename_i x i
    have hx := hE x (by simp [Op.operands])
    split at he
    · rename_i xs hxs
      split at he
      · rename_i y hy
        simp only [Option.some.injEq] at he; subst he
        rw [hxs] at hx
        simp only [RelX] at hx
        obtain ⟨vs, hv, hr⟩ := hx
        obtain ⟨u, hu, hru⟩ := hr.at hy
        exact wp_value (w' := w) (v := u) (by simp [execOp, Instr.extract, hv, hu]) ⟨_, rfl, After.same H hru⟩
      · cases he
    · cases he
  -- not
  · rename_i t x
    have hx := hE x (by simp [Op.operands])
    split at he
    · rename_i b hb
      simp only [Option.some.injEq] at he; subst he
      rw [hb, rel_bool] at hx
      exact wp_value (w' := w) (v := .bool !b) (by simp [execOp, Op.unary, hx]) ⟨_, rfl, After.same H (rel_bool.2 rfl)⟩
    · cases he
  -- neg
  · rename_i t x
    have hx := hE x (by simp [Op.operands])
    split at he
    · rename_i k n hb
      simp only [Option.some.injEq] at he; subst he
      rw [hb, rel_int] at hx
      exact wp_value (w' := w) (v := .int k (k.wrap (0 - n))) (by simp [execOp, Op.unary, Op.intArith, hx]) ⟨_, rfl, After.same H (rel_int.2 rfl)⟩
    · cases he
  -- binary
  · rename_i bop t x y t2
    refine vok_wp (fun v w' hr => ?_) (bin_ok hT H x y (hE x (by simp [Op.operands])) (hE y (by simp [Op.operands])) he hp)
    simp only [execOp, Sem.run_bind] at hr ⊢
    simp [hr]
  -- convert
  · rename_i s d x
    refine vok_wp (fun v w' hr => ?_) (convert_ok hT H (hE x (by simp [Op.operands])) he hp)
    simp [execOp, hr]
  -- alloc
  · rename_i t
    split at he
    · rename_i ti ht
      split at he
      · cases he
      · simp only [Option.some.injEq] at he; subst he
        refine vok_wp (fun v w' hr => ?_) (alloc_ok hT H ht)
        simp [execOp, hr]
    · cases he
  -- box
  · rename_i t x
    split at he
    · rename_i xs hxs
      split at he
      · cases he
      · simp only [Option.some.injEq] at he; subst he
        refine vok_wp (fun v w' hr => ?_) (box_ok (P := P) (t := t) H (hE x (by simp [Op.operands])) hxs)
        simp [execOp, hr]
    · cases he
  -- build
  · rename_i t parts
    split at he
    · refine vok_wp (fun v w' hr => ?_) (buildL_ok (parts := parts) hT H (fun p hp => hE p.2 (by simp [Op.operands]; exact ⟨p.1, by simpa using hp⟩)) he hp)
      simp [execOp, hr]
    refine vok_wp (fun v w' hr => ?_) (build_ok (parts := parts) hT H (fun p hp => hE p.2 (by simp [Op.operands]; exact ⟨p.1, by simpa using hp⟩)) he hp)
    simp [execOp, hr]
  -- buildSlice
  · rename_i t len parts
    split at he
    · refine vok_wp (fun v w' hr => ?_) (buildSliceL_ok (parts := parts) hT H (fun p hp => hE p.2 (by simp [Op.operands]; exact ⟨p.1, by simpa using hp⟩)) he hp)
      simp [execOp, hr]
    · refine vok_wp (fun v w' hr => ?_) (buildSlice_ok (parts := parts) hT H (fun p hp => hE p.2 (by simp [Op.operands]; exact ⟨p.1, by simpa using hp⟩)) he hp)
      simp [execOp, hr]
  -- load
  · rename_i t x
    refine vok_wp (fun v w' hr => ?_) (load_ok hT H (hE x (by simp [Op.operands])) he hp)
    simp [execOp, hr]
  -- store
  · rename_i t x y
    split at he
    · cases he
    · obtain ⟨w', h1, g', E, H', hx⟩ := store_ok hT H (hE x (by simp [Op.operands])) (hE y (by simp [Op.operands])) he hp
      exact wp_skip' (w' := w') (by simp [execOp, h1]) ⟨undef, rfl, g', E, H', by rw [hx]; trivial⟩
  -- nilCheck
  · rename_i x
    have hx := hE x (by simp [Op.operands])
    split at he
    · rename_i i v o hv
      simp only [Option.some.injEq] at he; subst he
      rw [hv] at hx
      obtain ⟨ad, hq⟩ : ∃ ad, a.eval x = .pointer (some ad) := by have := hx; simp only [RelX] at this; obtain ⟨_, _, _, ha, _⟩ := this; exact ha
      exact wp_value (w' := w) (v := a.eval x) (by simp [execOp, hq]) ⟨_, rfl, After.same H hx⟩
    · rename_i cs hv
      simp only [Option.some.injEq] at he; subst he
      rw [hv] at hx
      obtain ⟨ad, hq⟩ : ∃ ad, a.eval x = .pointer (some ad) := by have := hx; simp only [RelX] at this; obtain ⟨_, _, _, ha, _⟩ := this; exact ⟨_, ha⟩
      exact wp_value (w' := w) (v := a.eval x) (by simp [execOp, hq]) ⟨_, rfl, After.same H hx⟩
    · cases he
  -- makeFunc
  · rename_i f first captured
    split at he
    · rename_i hf
      have hfe : first = #[] := by simpa using hf
      subst hfe
      have hr : RelXs g h (captured.toList.map ev) (captured.toList.map a.eval) := relXs_map fun x hx => hE x (by simpa [Op.operands] using hx)
      have hrun : (execOp a.eval ⟨dst, .makeFunc (.func f) #[] captured, ty, pos, after, guard⟩).run P w = .ok (.value (.func (.func f) #[] (captured.map a.eval))) w := by simp [execOp, Instr.makeFunc]
      have hcap : captured.map a.eval = (captured.toList.map a.eval).toArray := by apply Array.ext'; simp
      split at he
      · rename_i cs hcs
        simp only [Option.some.injEq] at he; subst he
        exact wp_value hrun ⟨_, rfl, After.same H (by simp only [RelX, RepV]; exact ⟨_, by rw [hcap], allC_ok hcs hr⟩)⟩
      · simp only [Option.some.injEq] at he; subst he
        exact wp_value hrun ⟨_, rfl, After.same H (by simp only [RelX]; exact ⟨_, by rw [hcap], hr⟩)⟩
    · cases he
  -- makeSlice
  · rename_i t l c
    split at he
    · refine vok_wp (fun v w' hr => ?_) (makeSliceV_ok hT H (hE l (by simp [Op.operands])) (hE c (by simp [Op.operands])) he hp)
      simp [execOp, hr]
    split at he
    · refine vok_wp (fun v w' hr => ?_) (makeSliceL_ok hT H (hE l (by simp [Op.operands])) (hE c (by simp [Op.operands])) he hp)
      simp [execOp, hr]
    · refine vok_wp (fun v w' hr => ?_) (makeSlice_ok hT H (hE l (by simp [Op.operands])) (hE c (by simp [Op.operands])) he hp)
      simp [execOp, hr]
  -- slice
  · rename_i t x lo hi mx
    refine vok_wp (fun v w' hr => ?_) (slice_ok hT H (hE x (by simp [Op.operands])) (relO_map (ρ := a.eval) fun y hy => hE y (by simp [Op.operands, hy])) (relO_map (ρ := a.eval) fun y hy => hE y (by simp [Op.operands, hy])) (relO_map (ρ := a.eval) fun y hy => hE y (by simp [Op.operands, hy])) he hp)
    simp [execOp, hr]
  -- fieldAddr
  · rename_i t x f
    refine vok_wp (fun v w' hr => ?_) (fieldAddr_ok hT H (hE x (by simp [Op.operands])) he hp)
    simp [execOp, hr]
  -- field
  · rename_i t x f
    refine vok_wp (fun v w' hr => ?_) (field_ok hT H (hE x (by simp [Op.operands])) he hp)
    simp [execOp, hr]
  -- indexAddr
  · rename_i t x i
    refine vok_wp (fun v w' hr => ?_) (indexAddr_ok hT H (hE x (by simp [Op.operands])) (hE i (by simp [Op.operands])) he hp)
    simp [execOp, hr]
  -- index
  · rename_i t x i
    refine vok_wp (fun v w' hr => ?_) (index_ok hT H (hE x (by simp [Op.operands])) (hE i (by simp [Op.operands])) he hp)
    simp [execOp, hr]
  -- len
  · rename_i args argTypes
    split at he
    · rename_i x t hargs htypes
      have e1 : args = #[x] := by apply Array.ext'; simpa using hargs
      have e2 : argTypes = #[t] := by apply Array.ext'; simpa using htypes
      subst e1; subst e2
      refine vok_wp (fun v w' hr => ?_) (len_ok (ty := ty) hT H (hE x (by simp [Op.operands, Call.operands])) he)
      simp [execOp, resolve, invoke, builtin, hr]
    · cases he
  -- append
  · rename_i args argTypes
    split at he
    · rename_i x y t u hargs htypes
      have e1 : args = #[x, y] := by apply Array.ext'; simpa using hargs
      have e2 : argTypes = #[t, u] := by apply Array.ext'; simpa using htypes
      subst e1; subst e2
      split at he
      · rename_i hsrc
        split at he
        · refine vok_wp (fun v w' hr => ?_) (appendX_ok (ty := ty) hT H (hE x (by simp [Op.operands, Call.operands])) (hE y (by simp [Op.operands, Call.operands])) hsrc he hp)
          simp [execOp, resolve, invoke, builtin, hr]
        · refine vok_wp (fun v w' hr => ?_) (append_ok (ty := ty) hT H (hE x (by simp [Op.operands, Call.operands])) (hE y (by simp [Op.operands, Call.operands])) hsrc he hp)
          simp [execOp, resolve, invoke, builtin, hr]
      · cases he
    · cases he
  -- copy
  · rename_i args argTypes
    split at he
    · rename_i x y t u hargs htypes
      have e1 : args = #[x, y] := by apply Array.ext'; simpa using hargs
      have e2 : argTypes = #[t, u] := by apply Array.ext'; simpa using htypes
      subst e1; subst e2
      refine vok_wp (fun v w' hr => ?_) (copy_ok (u := u) (ty := ty) hT H (hE x (by simp [Op.operands, Call.operands])) (hE y (by simp [Op.operands, Call.operands])) he hp)
      simp [execOp, resolve, invoke, builtin, hr]
    · cases he
  -- min
  · rename_i args argTypes
    refine vok_wp (fun v w' hr => ?_) (min_ok (P := P) (ts := argTypes) (ty := ty) H (relXs_map (ρ := a.eval) fun x hx => hE x (by simpa [Op.operands, Call.operands] using hx)) he)
    have : args.map a.eval = (args.toList.map a.eval).toArray := by apply Array.ext'; simp
    simp only [execOp, resolve, invoke, builtin, Sem.run_bind, Sem.run_pure, Result.andThen_ok]
    rw [this, hr]
    rfl
  -- max
  · rename_i args argTypes
    refine vok_wp (fun v w' hr => ?_) (max_ok (P := P) (ts := argTypes) (ty := ty) H (relXs_map (ρ := a.eval) fun x hx => hE x (by simpa [Op.operands, Call.operands] using hx)) he)
    have : args.map a.eval = (args.toList.map a.eval).toArray := by apply Array.ext'; simp
    simp only [execOp, resolve, invoke, builtin, Sem.run_bind, Sem.run_pure, Result.andThen_ok]
    rw [this, hr]
    rfl
  -- a call
  · rename_i f args argTypes
    obtain ⟨k, caps, hf, hent, hc⟩ := opCall_sound (P := P) hG H (hE f (by simp [Op.operands, Call.operands])) (relXs_map (ρ := a.eval) fun x hx => hE x (by simp [Op.operands, Call.operands]; right; simpa using hx)) he hp
    have hcap : (args.toList.map a.eval).toArray = args.map a.eval := by apply Array.ext'; simp
    rw [hcap] at hc
    have hrun : (execOp a.eval ⟨dst, .call { callee := .value f, args, argTypes }, ty, pos, after, guard⟩).run P w = .ok (.enter k (args.map a.eval ++ caps)) w := by
      have := hent w (args.map a.eval ++ caps)
      simp only [execOp, resolve, hf, Deferred.ofValue, invoke, Sem.run_bind, Sem.run_pure, Result.andThen_ok, Array.empty_append]
      exact this
    exact wp_enter hrun (hc.mono fun en w' ⟨v, e1, ha⟩ => ⟨v, e1, v, rfl, ha⟩)
  · cases he

end
end Fen

/- Part 15: states; guarded operations. -/
namespace Fen
open Go Go.RowKit

/-- an activation's abstract state: how many slots, what is known of some of them (the newest first), the private heap -/
structure St where
  n : Nat
  r : List (Nat × X)
  h : List Blk

def lk : List (Nat × X) → Nat → X
  | [], _ => .dead
  | (k, x) :: l, t => if k = t then x else lk l t

def glk : Gl → Nat → X
  | [], _ => .dead
  | (k, cs) :: l, t => if k = t then .fptr cs else glk l t

def constX : Value → X
  | .int k n => .val (.int k n)
  | .bool b => .val (.bool b)
  | .string s => .val (.str s.data.toList)
  | .nilFunc => .val .nilf
  | .pointer none => .val .nilp
  | .slice none 0 0 => .nil
  | _ => .dead

def evO (gl : Gl) (r : List (Nat × X)) : Operand → X
  | .tmp t => lk r t
  | .const v => constX v
  | .global g => glk gl g
  | .func f => .val (.fn f [])

structure RelG (bs : Base) (st : St) (a : Act) (w : World) (g : Gh) : Prop where
  ext : Ext bs.g0 bs.h0 g st.h
  heap : HeapOK bs g st.h w
  defers : ∃ ms : List Nat, a.defers = ms.map (fun m => { target := .collected m, args := #[] }) ∧ ms.Nodup ∧ ∀ m, m ∈ ms → m ∈ g.marks ∧ bs.w0.heap.size ≤ m
  size : a.tmps.size = st.n
  slot : ∀ t, RelX g st.h (lk st.r t) (a.tmps.getD t undef)

def Rel (bs : Base) (st : St) (a : Act) (w : World) : Prop := ∃ g, RelG bs st a w g

theorem constX_ok (g : Gh) (h : List Blk) (v : Value) : RelX g h (constX v) v := by
  unfold constX
  split <;> simp [RelX, RepV]

theorem glk_ok {bs : Base} {g : Gh} {h : List Blk} {w : World} (H : HeapOK bs g h w) (t : Nat) : RelX g h (glk bs.gl t) (.pointer (some ⟨t, 0, none⟩)) := by
  have key : ∀ gl : Gl, (∀ x ∈ gl, x ∈ bs.gl) → RelX g h (glk gl t) (.pointer (some ⟨t, 0, none⟩)) := fun gl => by
    induction gl with
    | nil => intro _; simp [glk, RelX]
    | cons x gl ih =>
      obtain ⟨k, cs⟩ := x
      intro hsub
      simp only [glk]
      split
      · rename_i e
        subst e
        obtain ⟨vs, h1, h2⟩ := H.gl k cs (hsub _ (List.mem_cons_self ..))
        simp only [RelX]
        exact ⟨k, 0, vs, rfl, fun j u hj => by rw [Nat.zero_add]; exact h1 j u hj, h2⟩
      · exact ih fun x hx => hsub x (List.mem_cons_of_mem _ hx)
  exact key bs.gl fun _ h => h

theorem RelG.ev {bs : Base} {st : St} {a : Act} {w : World} {g : Gh} (R : RelG bs st a w g) (o : Operand) : RelX g st.h (evO bs.gl st.r o) (a.eval o) := by
  cases o with
  | tmp t => exact R.slot t
  | const v => exact constX_ok g st.h v
  | global k => exact glk_ok R.heap k
  | func f => simp only [evO, RelX, RepV]; exact ⟨[], rfl, by simp [RepL]⟩

def strip : X → Bool × X
  | .ifb c x => (c, x)
  | x => (true, x)

theorem strip_ok {g : Gh} {h : List Blk} {x : X} {v : Value} (r : RelX g h x v) (hc : (strip x).1 = true) : RelX g h (strip x).2 v := by
  cases x with
  | ifb c x => simp only [RelX] at r; exact r.1 hc
  | _ => exact r

def condsP (ev : Operand → X) : List Operand → Prop
  | [] => True
  | o :: l => (strip (ev o)).1 = true ∧ condsP ev l

theorem condsP_mem {ev : Operand → X} : ∀ {l : List Operand}, condsP ev l → ∀ o ∈ l, (strip (ev o)).1 = true
  | [], _, o, ho => by cases ho
  | x :: l, hc, o, ho => by
    rcases List.mem_cons.1 ho with rfl | ho
    · exact hc.1
    · exact condsP_mem hc.2 o ho

def opPick (ev : Operand → X) (h : List Blk) (c a b : Operand) : Option Eff :=
  match strip (ev c), strip (ev a), strip (ev b) with
  | (cc, .val (.bool c0)), (ca, .val (.bool x)), (cb, .val (.bool y)) => some ⟨cc = true ∧ (c0 = true → ca = true) ∧ (c0 = false → cb = true), .val (.bool (if c0 then x else y)), .pure, h⟩
  | _, _, _ => none

/-- an operation whose operands may have been skipped -/
def opX (T : TT) (G : Specs) (gd : Bool) (ev : Operand → X) (h : List Blk) (op : Op) : Option Eff :=
  match op with
  | .pick c a b => opPick ev h c a b
  | op =>
    match opF T G gd (fun o => (strip (ev o)).2) h op with
    | some e => some ⟨condsP ev op.operands.toList ∧ e.pre, e.x, e.acc, e.h⟩
    | none => none

/-- a guard: the slot that it asks, and what it is true of -/
def guardC (ops : Array Oper) (r : List (Nat × X)) : Nat × Bool → Option Bool
  | (j, b) =>
    match (ops[j]?).bind (·.dst) with
    | some d =>
      match strip (lk r d) with
      | (c, .val (.bool y)) => some (c && (y == b))
      | _ => none
    | none => none

def opG (T : TT) (G : Specs) (gl : Gl) (ops : Array Oper) (o : Oper) (r : List (Nat × X)) (h : List Blk) : Option Eff :=
  match o.guard with
  | none => opX T G false (evO gl r) h o.op
  | some g =>
    match guardC ops r g with
    | none => none
    | some c =>
      match opX T G true (evO gl r) h o.op with
      | some e => some ⟨c = true → e.pre, .ifb c e.x, e.acc, e.h⟩
      | none => none

/-- freezing alone -/
def FreezeOK (h h' : List Blk) : Prop := ∀ (bs : Base) (g : Gh) (w : World), HeapOK bs g h w → ∃ S', Ext g h { g with S := S' } h' ∧ HeapOK bs { g with S := S' } h' w

theorem FreezeOK.refl (h : List Blk) : FreezeOK h h := fun _ g _ H => ⟨g.S, Ext.refl g h, H⟩
theorem FreezeOK.trans {h h' h'' : List Blk} (a : FreezeOK h h') (b : FreezeOK h' h'') : FreezeOK h h'' := fun bs g w H => by
  obtain ⟨S1, E1, H1⟩ := a bs g w H
  obtain ⟨S2, E2, H2⟩ := b bs _ w H1
  exact ⟨S2, E1.trans E2, H2⟩

theorem toV1_frz {h h' : List Blk} {x : X} {a : V} (e : toV1 h x = some (a, h')) : FreezeOK h h' := by
  unfold toV1 at e
  split at e
  · cases e; exact FreezeOK.refl h
  · cases e; exact FreezeOK.refl h
  · cases e; exact FreezeOK.refl h
  · cases e; exact FreezeOK.refl h
  · split at e
    · rename_i hb
      split at e
      · cases e
        intro bs g w H
        obtain ⟨S', E, H', _⟩ := H.freeze hb
        exact ⟨S', E, H'⟩
      · cases e
    · cases e
  · split at e
    · rename_i hb
      split at e
      · cases e
        intro bs g w H
        obtain ⟨S', E, H', _⟩ := H.freeze hb
        exact ⟨S', E, H'⟩
      · cases e
    · cases e
  · cases e; exact FreezeOK.refl h
  · unfold frzB at e
    split at e
    · rename_i hb
      split at e
      · unfold frzP at e
        split at e
        · rename_i hl
          cases e
          intro bs g w H
          obtain ⟨S', vs, E, H', _⟩ := H.freezeBox hb (fun hr => allF_ok hl hr)
          exact ⟨S', E, H'⟩
        · cases e
      · cases e
    · split at e
      · cases e; exact FreezeOK.refl h
      · cases e
    · cases e
  · cases e

theorem toCs1_frz : ∀ {xs : List X} {h h' : List Blk} {as : List C}, toCs1 h xs = some (as, h') → FreezeOK h h'
  | [], h, h', as, e => by cases e; exact FreezeOK.refl h
  | x :: xs, h, h', as, e => by
    simp only [toCs1] at e
    split at e
    · rename_i e1
      split at e
      · cases e
      · rename_i e2
        cases e
        exact (toV1_frz e1).trans (toCs1_frz e2)
    · cases e

theorem toV_frz {h h' : List Blk} {x : X} {a : V} (e : toV h x = some (a, h')) : FreezeOK h h' := by
  unfold toV at e
  split at e
  · unfold frzF at e
    split at e
    · rename_i hc
      cases e; exact toCs1_frz hc
    · cases e
  · unfold frzR at e
    split at e
    · rename_i hc
      cases e; exact toCs1_frz hc
    · cases e
  · rename_i id ver
    unfold frzY at e
    split at e
    · rename_i hb
      exact toV1_frz (x := .ref id ver) (a := a) (by simp only [toV1, hb]; exact e)
    · rename_i hb
      split at e
      · unfold frzX at e
        split at e
        · rename_i hc
          cases e
          intro bs g w H
          obtain ⟨S', E, H', _⟩ := H.freezeX hb hc
          exact ⟨S', E, H'⟩
        · cases e
      · cases e
    · cases e
  · exact toV1_frz e

theorem toVs_frz : ∀ {xs : List X} {h h' : List Blk} {as : List V}, toVs h xs = some (as, h') → FreezeOK h h'
  | [], h, h', as, e => by cases e; exact FreezeOK.refl h
  | x :: xs, h, h', as, e => by
    simp only [toVs] at e
    split at e
    · cases e
    · rename_i e1
      split at e
      · cases e
      · rename_i e2
        cases e
        exact (toV_frz e1).trans (toVs_frz e2)

theorem toCs_frz : ∀ {xs : List X} {h h' : List Blk} {as : List C}, toCs h xs = some (as, h') → FreezeOK h h'
  | [], h, h', as, e => by cases e; exact FreezeOK.refl h
  | x :: xs, h, h', as, e => by
    simp only [toCs] at e
    split at e
    · rename_i e1
      split at e
      · cases e
      · rename_i e2
        cases e
        exact (toV_frz e1).trans (toCs_frz e2)
    · cases e

theorem partVs_frz {ev : Operand → X} : ∀ {ps : List (Nat × Operand)} {h h' : List Blk} {vs : List (Nat × V)}, partVs h ev ps = some (vs, h') → FreezeOK h h'
  | [], h, h', as, e => by cases e; exact FreezeOK.refl h
  | (i, o) :: ps, h, h', as, e => by
    simp only [partVs] at e
    split at e
    · cases e
    · rename_i e1
      split at e
      · cases e
      · rename_i e2
        cases e
        exact (toV_frz e1).trans (partVs_frz e2)

theorem callS_frz {s : Spec} {h : List Blk} {xs ys : List X} {e : Eff} (he : opCallS s true h xs ys = some e) : FreezeOK h e.h := by
  unfold opCallS at he
  split at he
  · rename_i hs _
    unfold hcE at he
    cases hw : hs.wr with
    | true => simp [hw] at he
    | false => simp [hw] at he; subst he; exact FreezeOK.refl h
  · unfold cvE at he
    split at he
    · rename_i hv
      simp only [if_true] at he
      split at he
      · cases he; exact toVs_frz hv
      · cases he
    · cases he

/-- under a guard an operation does no more to the private heap than freeze -/
theorem opF_frz {T : TT} {G : Specs} {ev : Operand → X} {h : List Blk} {op : Op} {e : Eff} (he : opF T G true ev h op = some e) : FreezeOK h e.h := by
  unfold opF at he
  split at he
  · cases he; exact FreezeOK.refl h
  · cases he; exact FreezeOK.refl h
  · split at he
    · split at he
      · cases he; exact FreezeOK.refl h
      · cases he
    · cases he
  · split at he
    · cases he; exact FreezeOK.refl h
    · cases he
  · split at he
    · cases he; exact FreezeOK.refl h
    · cases he
  · unfold opBin at he
    split at he
    · cases he; exact FreezeOK.refl h
    · cases he; exact FreezeOK.refl h
    · split at he <;> cases he <;> exact FreezeOK.refl h
    · rw [Option.bind_eq_some_iff] at he
      obtain ⟨ks, _, he⟩ := he
      unfold aggEq at he
      split at he <;> cases he <;> exact FreezeOK.refl h
    · cases he; exact FreezeOK.refl h
    · cases he; exact FreezeOK.refl h
    · cases he
  · unfold opConvert at he
    split at he
    · split at he
      · cases he; exact FreezeOK.refl h
      · cases he; exact FreezeOK.refl h
      · split at he <;> cases he <;> exact FreezeOK.refl h
      · split at he <;> cases he <;> exact FreezeOK.refl h
      · cases he
    · cases he
  · split at he
    · simp at he
    · cases he
  · split at he
    · simp at he
    · cases he
  · split at he
    · unfold opBuildL at he
      split at he
      · split at he
        · cases he; exact FreezeOK.refl h
        · cases he
      · cases he
    unfold opBuild at he
    split at he
    · rename_i hps
      split at he
      · split at he
        · cases he; exact partVs_frz hps
        · cases he
      · split at he
        · cases he; exact partVs_frz hps
        · cases he
      · cases he
    · cases he
  · split at he
    · unfold opBuildSliceL at he
      split at he
      · split at he
        · simp at he
        · cases he
      · cases he
    unfold opBuildSlice at he
    split at he
    · split at he
      · rename_i hps
        cases he; exact partVs_frz hps
      · cases he
    · cases he
  · unfold opLoad at he
    split at he
    · split at he <;> cases he <;> exact FreezeOK.refl h
    · split at he
      · split at he
        · rename_i hc
          cases he; exact toCs_frz hc
        · cases he
      · split at he
        · cases he; exact FreezeOK.refl h
        · cases he
    · cases he
  · simp at he
  · split at he
    · cases he; exact FreezeOK.refl h
    · cases he; exact FreezeOK.refl h
    · cases he
  · split at he
    · split at he <;> cases he <;> exact FreezeOK.refl h
    · cases he
  · split at he
    · unfold opMakeSliceV at he
      split at he
      · split at he
        · cases he; exact FreezeOK.refl h
        · cases he
      · cases he
    split at he
    · unfold opMakeSliceL at he
      split at he
      · split at he
        · simp at he
        · cases he
      · cases he
    unfold opMakeSlice at he
    split at he
    · split at he
      · simp at he
      · cases he
    · cases he
  · unfold opSlice at he
    split at he
    · split at he
      · split at he
        · cases he; exact FreezeOK.refl h
        · cases he
      · cases he
    · split at he
      · cases he
      · split at he
        · split at he
          · split at he
            · cases he; exact FreezeOK.refl h
            · cases he
          · split at he
            · cases he; exact FreezeOK.refl h
            · cases he
          · split at he
            · cases he; exact FreezeOK.refl h
            · cases he
          · split at he
            · split at he
              · split at he
                · cases he; exact FreezeOK.refl h
                · cases he
              · cases he
            · cases he
          · split at he
            · split at he
              · split at he
                · cases he; exact FreezeOK.refl h
                · cases he
              · cases he
            · cases he
          · cases he
        · split at he
          · rename_i hv
            split at he
            · cases he; exact toV_frz hv
            · cases he
          · cases he
    · cases he
  · unfold opFieldAddr at he
    split at he
    · split at he
      · split at he
        · split at he <;> cases he <;> exact FreezeOK.refl h
        · cases he
      · cases he
    · cases he
  · unfold opField at he
    split at he
    · split at he
      · split at he
        · cases he
          have : ∀ (ti : TI) (cs : List C) (off : Nat), (partX ti cs off h).h = h := fun ti cs off => by unfold partX; split <;> rfl
          rw [this]; exact FreezeOK.refl h
        · cases he
      · cases he
    · cases he
  · unfold opIndexAddr at he
    split at he
    · split at he
      · split at he
        · split at he <;> cases he <;> exact FreezeOK.refl h
        · cases he
      · split at he
        · split at he
          · cases he; exact FreezeOK.refl h
          · cases he; exact FreezeOK.refl h
          · split at he
            · split at he <;> cases he <;> exact FreezeOK.refl h
            · split at he <;> cases he <;> exact FreezeOK.refl h
            · cases he
          · split at he
            · split at he <;> cases he <;> exact FreezeOK.refl h
            · cases he
          · cases he
        · cases he
      · cases he
    · cases he
  · unfold opIndex at he
    split at he
    · split at he
      · cases he; exact FreezeOK.refl h
      · cases he
    · cases he; exact FreezeOK.refl h
    · cases he
  · split at he
    · unfold opLen at he
      split at he
      · cases he; exact FreezeOK.refl h
      · split at he <;> cases he <;> exact FreezeOK.refl h
      · split at he
        · cases he; exact FreezeOK.refl h
        · split at he <;> cases he <;> exact FreezeOK.refl h
      · cases he
    · cases he
  · split at he
    · split at he
      · split at he
        · unfold opAppendX at he
          split at he
          · split at he
            · unfold apY at he
              split at he
              · simp at he
              · cases he
            · cases he
          · cases he
        unfold opAppend at he
        split at he
        · split at he
          · simp at he
          · cases he
        · cases he
      · cases he
    · cases he
  · split at he
    · unfold opCopy at he
      split at he
      · unfold copyE at he
        split at he
        · simp at he
        · cases he
      · cases he
    · cases he
  · unfold opMinMax at he
    split at he
    · simp only [Option.map_eq_some_iff] at he
      obtain ⟨_, _, rfl⟩ := he
      exact FreezeOK.refl h
    · cases he
  · unfold opMinMax at he
    split at he
    · simp only [Option.map_eq_some_iff] at he
      obtain ⟨_, _, rfl⟩ := he
      exact FreezeOK.refl h
    · cases he
  · unfold opCall at he
    split at he
    · split at he
      · exact callS_frz he
      · cases he
    · split at he
      · exact callS_frz he
      · cases he
    · cases he
  · cases he

end Fen

/- Part 16: guarded operations are sound; regions whose order is the text's; the rules of the code. -/
namespace Fen
open Go Go.RowKit

section
variable {P : Program} {T : TT} {G : Specs} {bs : Base}

theorem opPick_sound {g : Gh} {h : List Blk} {w : World} (H : HeapOK bs g h w) {o : Oper} {a : Act} {Q : Exit → Act → World → Prop} {ev : Operand → X} {e : Eff} {c x y : Operand} (ho : o.op = .pick c x y)
    (hE : ∀ z, RelX g h (ev z) (a.eval z)) (he : opPick ev h c x y = some e) (hp : e.pre) :
    o.wpIn (fen bs.ro) 0 P a w (fun a' w' => ∃ v, a' = a.put o.dst v ∧ After bs g h e v w') Q := by
  unfold opPick at he
  split at he
  · rename_i cc c0 ca b1 cb b2 e1 e2 e3
    simp only [Option.some.injEq] at he; subst he
    simp only at hp
    obtain ⟨h1, h2, h3⟩ := hp
    have r1 := strip_ok (hE c) (by rw [e1]; exact h1)
    rw [e1, rel_bool] at r1
    cases c0 with
    | true =>
      have r2 := strip_ok (hE x) (by rw [e2]; exact h2 rfl)
      rw [e2, rel_bool] at r2
      exact wp_value (w' := w) (v := .bool b1) (by simp [execOp, ho, r1, asBool, r2]) ⟨_, rfl, After.same H (rel_bool.2 (by simp))⟩
    | false =>
      have r2 := strip_ok (hE y) (by rw [e3]; exact h3 rfl)
      rw [e3, rel_bool] at r2
      exact wp_value (w' := w) (v := .bool b2) (by simp [execOp, ho, r1, asBool, r2]) ⟨_, rfl, After.same H (rel_bool.2 (by simp))⟩
  · cases he

theorem opX_sound (hT : TOK P T) (hG : SpecsOK P bs.gl G) {g : Gh} {h : List Blk} {w : World} (H : HeapOK bs g h w) {gd : Bool} {o : Oper} {a : Act} {Q : Exit → Act → World → Prop} {ev : Operand → X} {e : Eff}
    (hE : ∀ z, RelX g h (ev z) (a.eval z)) (he : opX T G gd ev h o.op = some e) (hp : e.pre) :
    o.wpIn (fen bs.ro) 0 P a w (fun a' w' => ∃ v, a' = a.put o.dst v ∧ After bs g h e v w') Q := by
  unfold opX at he
  split at he
  · rename_i c x y ho
    exact opPick_sound H ho hE he hp
  · rename_i hne
    split at he
    · rename_i e0 he0
      simp only [Option.some.injEq] at he; subst he
      have := op_sound (Q := Q) (e := e0) hT hG H (fun z hz => strip_ok (hE z) (condsP_mem hp.1 z hz)) he0 hp.2
      exact this
    · cases he

theorem opX_frz {ev : Operand → X} {h : List Blk} {op : Op} {e : Eff} (he : opX T G true ev h op = some e) : FreezeOK h e.h := by
  unfold opX at he
  split at he
  · unfold opPick at he
    split at he
    · cases he; exact FreezeOK.refl h
    · cases he
  · split at he
    · rename_i e0 he0
      cases he
      have := opF_frz (e := e0) he0
      exact this
    · cases he

theorem guard_ok {ops : Array Oper} {r : List (Nat × X)} {g : Gh} {h : List Blk} {tmps : Array Value} (hs : ∀ t, RelX g h (lk r t) (tmps.getD t undef)) {j : Nat} {b c : Bool} (hc : guardC ops r (j, b) = some c) :
    (yielded ops tmps j == some b) = c := by
  cases hd : (ops[j]?).bind (·.dst) with
  | none => simp [guardC, hd] at hc
  | some d =>
    cases hl : strip (lk r d) with
    | mk c0 x0 =>
      simp only [guardC, hd, hl] at hc
      split at hc
      · rename_i c1 y heq
        simp only [Prod.mk.injEq] at heq
        obtain ⟨rfl, rfl⟩ := heq
        simp only [Option.some.injEq] at hc; subst hc
        have hr := hs d
        have hy : yielded ops tmps j = (match (tmps[d]? : Option Value) with | some (.bool b) => some b | _ => none) := by
          unfold yielded; rw [hd]; rfl
        rw [hy]
        cases c0 with
        | true =>
          have := strip_ok hr (by rw [hl])
          rw [hl, rel_bool] at this
          have hq : tmps[d]? = some (.bool y) := by
            rcases hx : tmps[d]? with _ | v
            · simp [Array.getD_eq_getD_getElem?, hx, undef] at this
            · simp [Array.getD_eq_getD_getElem?, hx] at this; rw [this]
          simp [hq]
        | false =>
          have hv : tmps.getD d undef = .tuple #[] := by
            cases hx : lk r d with
            | ifb c1 x1 =>
              rw [hx] at hr hl
              simp only [strip, Prod.mk.injEq] at hl
              simp only [RelX] at hr
              exact hr.2 hl.1
            | _ => rw [hx] at hl; simp [strip] at hl
          have hq : (match (tmps[d]? : Option Value) with | some (.bool b) => some b | _ => none) = (none : Option Bool) := by
            rcases hx : tmps[d]? with _ | v
            · rfl
            · simp [Array.getD_eq_getD_getElem?, hx] at hv; rw [hv]
          rw [hq]
          rfl
      · cases hc

theorem defers_mono {g g' : Gh} {B : Nat} {ds : List Deferred} (hm : ∀ m, m ∈ g.marks → m ∈ g'.marks) (h : ∃ ms : List Nat, ds = ms.map (fun m => { target := .collected m, args := #[] }) ∧ ms.Nodup ∧ ∀ m, m ∈ ms → m ∈ g.marks ∧ B ≤ m) :
    ∃ ms : List Nat, ds = ms.map (fun m => { target := .collected m, args := #[] }) ∧ ms.Nodup ∧ ∀ m, m ∈ ms → m ∈ g'.marks ∧ B ≤ m := by
  obtain ⟨ms, h1, h2, h3⟩ := h
  exact ⟨ms, h1, h2, fun m hx => ⟨hm m (h3 m hx).1, (h3 m hx).2⟩⟩

/-- one operation of a region, its guard looked at -/
theorem opG_sound (hT : TOK P T) (hG : SpecsOK P bs.gl G) {ops : Array Oper} {g : Gh} {h : List Blk} {w : World} {r : List (Nat × X)} (H : HeapOK bs g h w) {o : Oper} {a : Act} {Q : Exit → Act → World → Prop} {e : Eff}
    (hE : ∀ z, RelX g h (evO bs.gl r z) (a.eval z)) (hs : ∀ t, RelX g h (lk r t) (a.tmps.getD t undef)) (he : opG T G bs.gl ops o r h = some e) (hp : e.pre) :
    if Region.wanted o (yielded ops a.tmps) then o.wpIn (fen bs.ro) 0 P a w (fun a' w' => ∃ v, a' = a.put o.dst v ∧ After bs g h e v w') Q else After bs g h e undef w := by
  unfold opG at he
  split at he
  · rename_i hg
    simp only [Region.wanted, hg, if_true]
    exact opX_sound hT hG H hE he hp
  · rename_i gj hg
    obtain ⟨j, b⟩ := gj
    split at he
    · cases he
    · rename_i c hc
      have hw := guard_ok hs hc
      split at he
      · rename_i e0 he0
        simp only [Option.some.injEq] at he; subst he
        simp only [Region.wanted, hg]
        rw [hw]
        cases c with
        | true =>
          simp only [if_true]
          have := opX_sound (Q := Q) hT hG H hE he0 (hp rfl)
          refine Oper.wpIn_mono (fun a' w' hq => ?_) this
          obtain ⟨v, h1, g', E, H', x'⟩ := hq
          refine ⟨v, h1, g', E, H', ?_⟩
          simp only [RelX]
          exact ⟨fun _ => x', fun h => by cases h⟩
        | false =>
          simp only [Bool.false_eq_true, if_false]
          obtain ⟨S', E, H'⟩ := opX_frz he0 bs g w H
          exact ⟨_, E, H', by simp only [RelX]; exact ⟨(fun h => by cases h), fun _ => rfl⟩⟩
      · cases he

def putR (d : Option Tmp) (x : X) (r : List (Nat × X)) : List (Nat × X) :=
  match d with
  | none => r
  | some t => (t, x) :: r

def St.put (st : St) (d : Option Tmp) (x : X) (h : List Blk) : St := ⟨st.n, putR d x st.r, h⟩

theorem RelG.put {st : St} {a : Act} {w w' : World} {g : Gh} (R : RelG bs st a w g) {e : Eff} {v : Value} (A : After bs g st.h e v w') (d : Option Tmp) (hd : ∀ t, d = some t → t < st.n) : Rel bs (st.put d e.x e.h) (a.put d v) w' := by
  obtain ⟨g', E, H', x'⟩ := A
  cases d with
  | none => exact ⟨g', R.ext.trans E, H', defers_mono E.marks R.defers, R.size, fun t => RelX.mono E _ _ (R.slot t)⟩
  | some d =>
    refine ⟨g', R.ext.trans E, H', defers_mono E.marks R.defers, by simpa [Act.put, St.put] using R.size, fun t => ?_⟩
    simp only [St.put, putR, lk, Act.put]
    by_cases c : d = t
    · subst c
      rw [if_pos rfl]
      have hlt : d < a.tmps.size := by rw [R.size]; exact hd d rfl
      rw [show (a.tmps.setIfInBounds d v).getD d undef = v from by simp [hlt]]; exact x'
    · rw [if_neg c]
      rw [show (a.tmps.setIfInBounds d v).getD t undef = a.tmps.getD t undef from by simp [Array.getD_eq_getD_getElem?, Array.getElem?_setIfInBounds, c]]
      exact RelX.mono E _ _ (R.slot t)

end
end Fen

/- Part 17: what code does to abstract states. -/
namespace Fen
open Go Go.RowKit

/-- code, from every act and world that the state describes -/
def AWP (P : Program) (bs : Base) (c : Code) (Q : Exit → St → Prop) (st : St) : Prop :=
  ∀ a w, Rel bs st a w → c.wpIn (fen bs.ro) 0 P (fun e a' w' => ∃ st', Q e st' ∧ Rel bs st' a' w') a w

/-- one operation, likewise: for operations that opF does not know -/
def OpW (P : Program) (bs : Base) (ops : Array Oper) (o : Oper) (st : St) (K : St → Prop) : Prop :=
  ∀ a w (Q : Exit → Act → World → Prop), Rel bs st a w →
    if Region.wanted o (yielded ops a.tmps) then o.wpIn (fen bs.ro) 0 P a w (fun a' w' => ∃ st', K st' ∧ Rel bs st' a' w') Q else ∃ st', K st' ∧ Rel bs st' (a.put o.dst undef) w

def dstOK (n : Nat) : Option Tmp → Prop
  | none => True
  | some d => d < n

/-- everything that a walk takes along -/
structure Env where
  P : Program
  T : TT
  G : Specs
  bs : Base

def wpR (E : Env) (ops : Array Oper) : List Oper → (St → Prop) → St → Prop
  | [], K, st => K st
  | o :: l, K, st =>
    match opG E.T E.G E.bs.gl ops o st.r st.h with
    | some e => dstOK st.n o.dst ∧ e.pre ∧ wpR E ops l K (st.put o.dst e.x e.h)
    | none => OpW E.P E.bs ops o st (wpR E ops l K)

def thenA (K : St → Prop) (Q : Exit → St → Prop) : Exit → St → Prop
  | .normal, st => K st
  | e, st => Q e st

def inBlockA (id : Nat) (Q : Exit → St → Prop) : Exit → St → Prop
  | .exit id', st => if id' = id then Q .normal st else Q (.exit id') st
  | e, st => Q e st

def noGotoA (Q : Exit → St → Prop) : Exit → St → Prop
  | .goto _, _ => False
  | e, st => Q e st

def condA (x : X) (A B : Prop) : Prop :=
  match x with
  | .val (.bool b) => (b = true → A) ∧ (b = false → B)
  | _ => False

structure Env.OK (E : Env) : Prop where
  T : TOK E.P E.T
  G : SpecsOK E.P E.bs.gl E.G

section
variable {E : Env}

theorem AWP.mono {P : Program} {bs : Base} {c : Code} {Q Q' : Exit → St → Prop} {st : St} (h : AWP P bs c Q st) (hq : ∀ e st, Q e st → Q' e st) : AWP P bs c Q' st :=
  fun a w R => wpIn_mono (h a w R) fun e a' w' ⟨st', q, r⟩ => ⟨st', hq _ _ q, r⟩

theorem AWP.weaken {P : Program} {bs : Base} {c : Code} {Q : Exit → St → Prop} {st st' : St} (hr : ∀ a w, Rel bs st a w → Rel bs st' a w) (h : AWP P bs c Q st') : AWP P bs c Q st :=
  fun a w R => h a w (hr a w R)

theorem wpR_ok (hE : E.OK) (ops : Array Oper) (Q : Exit → Act → World → Prop) : ∀ (l : List Oper) (K : St → Prop) (st : St), wpR E ops l K st → ∀ a w, Rel E.bs st a w →
    (∀ st' a' w', K st' → Rel E.bs st' a' w' → Q .normal a' w') → wpListIn (fen E.bs.ro) 0 E.P ops Q l a w
  | [], K, st, h, a, w, R, hQ => hQ _ _ _ h R
  | o :: l, K, st, h, a, w, R, hQ => by
    simp only [wpR] at h
    split at h
    · rename_i e he
      obtain ⟨hd, hp, hk⟩ := h
      obtain ⟨g, R⟩ := R
      have hd' : ∀ t, o.dst = some t → t < st.n := fun t ht => by rw [ht] at hd; exact hd
      have := opG_sound (Q := Q) hE.T hE.G R.heap R.ev R.slot he hp
      unfold wpListIn
      split at this
      · rename_i hw
        rw [if_pos hw]
        refine Oper.wpIn_mono (fun a' w' hq => ?_) this
        obtain ⟨v, rfl, A⟩ := hq
        exact wpR_ok hE ops Q l K _ hk _ _ (R.put A o.dst hd') hQ
      · rename_i hw
        rw [if_neg hw]
        exact ⟨fun _ _ => trivial, wpR_ok hE ops Q l K _ hk _ _ (R.put this o.dst hd') hQ⟩
    · have h := h a w Q R
      unfold wpListIn
      split at h
      · rename_i hw
        rw [if_pos hw]
        refine Oper.wpIn_mono (fun a' w' hq => ?_) h
        obtain ⟨st', hk, R'⟩ := hq
        exact wpR_ok hE ops Q l K _ hk _ _ R' hQ
      · rename_i hw
        rw [if_neg hw]
        obtain ⟨st', hk, R'⟩ := h
        exact ⟨fun _ _ => trivial, wpR_ok hE ops Q l K _ hk _ _ R' hQ⟩

theorem AWP.region (hE : E.OK) {id : Nat} {ops : Array Oper} {Q : Exit → St → Prop} {st : St} (h : wpR E ops ops.toList (Q .normal) st) : AWP E.P E.bs (.region id ops false) Q st :=
  fun a w R => wpIn_region_list (wpR_ok hE ops _ ops.toList _ st h a w R fun st' _ _ hk R' => ⟨st', hk, R'⟩)

theorem AWP.seq {P : Program} {bs : Base} {x y : Code} {Q : Exit → St → Prop} {st : St} (h : AWP P bs x (thenA (AWP P bs y Q) Q) st) : AWP P bs (.seq x y) Q st :=
  fun a w R => wpIn_seq (wpIn_mono (h a w R) fun e a' w' ⟨st', q, r⟩ => by
    cases e with
    | normal => exact q a' w' r
    | _ => exact ⟨st', q, r⟩)

theorem AWP.block {P : Program} {bs : Base} {id : Nat} {c : Code} {Q : Exit → St → Prop} {st : St} (h : AWP P bs c (inBlockA id Q) st) : AWP P bs (.block id c) Q st :=
  fun a w R => wpIn_block (wpIn_mono (h a w R) fun e a' w' ⟨st', q, r⟩ => by
    cases e with
    | exit i =>
      simp only [inBlockA] at q
      simp only [Exit.inBlock]
      split
      · rename_i hi; rw [if_pos hi] at q; exact ⟨st', q, r⟩
      · rename_i hi; rw [if_neg hi] at q; exact ⟨st', q, r⟩
    | _ => exact ⟨st', q, r⟩)

theorem stepR_scope {P : Program} {b : Frame} {a : Act} {k : List Item} {cs : List Frame} {w : World} {c : Code} : step P (lone (b.atR a (.code (.scope c) :: k)) cs w) = .next (lone (b.atR a (.code c :: .inScope c :: k)) cs w) :=
  step_lone_go (by simp [stepG, stepG.exec, Frame.atR])
theorem stepR_inScope {P : Program} {b : Frame} {a : Act} {k : List Item} {cs : List Frame} {w : World} {c : Code} : step P (lone (b.atR a (.inScope c :: k)) cs w) = .next (lone (b.atR a k) cs w) :=
  step_lone_go (by simp [stepG, stepG.exec, Frame.atR])

theorem wpIn_scope_straight {F : Fence} {n : Nat} {P : Program} {c : Code} {Q : Exit → Act → World → Prop} {a : Act} {w : World} (h : c.wpIn F n P (Exit.noGoto Q) a w) : (Code.scope c).wpIn F n P Q a w := by
  intro b k cs hro hb hr
  have h0 : (lone (b.atR a (.code (.scope c) :: k)) cs w).fenced P F := fenced_calm hb hr rfl
  obtain ⟨e, a₁, w₁, hq, harr⟩ := h b (.inScope c :: k) cs hro hb hr
  have hx : ∀ id, exitTo id (.inScope c :: k) = exitTo id k := fun id => by simp [exitTo]
  cases e with
  | normal => exact ⟨.normal, a₁, w₁, hq, .head h0 stepR_scope (StepsIn.trans harr (.one (fenced_calm hb hr rfl) stepR_inScope))⟩
  | exit id => exact ⟨.exit id, a₁, w₁, hq, fun k' hk => .head h0 stepR_scope (harr.1 k' (by rw [hx]; exact hk)), fun hr' hk => let ⟨k₁, h1, h2⟩ := harr.2 hr' (by rw [hx]; exact hk); ⟨k₁, h1, .head h0 stepR_scope h2⟩⟩
  | goto l => exact hq.elim
  | ret => exact ⟨_, a₁, w₁, hq, .of_steps (.one h0 stepR_scope) harr⟩
  | panic ch => exact ⟨_, a₁, w₁, hq, .of_steps (.one h0 stepR_scope) harr⟩
  | outgrown => exact ⟨_, a₁, w₁, hq, .of_steps (.one h0 stepR_scope) harr⟩

theorem AWP.scope {P : Program} {bs : Base} {c : Code} {Q : Exit → St → Prop} {st : St} (h : AWP P bs c (noGotoA Q) st) : AWP P bs (.scope c) Q st :=
  fun a w R => wpIn_scope_straight (wpIn_mono (h a w R) fun e a' w' ⟨st', q, r⟩ => by
    cases e with
    | goto l => exact q
    | _ => exact ⟨st', q, r⟩)

/-- a loop: a number goes down round by round -/
theorem AWP.loop {P : Program} {bs : Base} {c : Code} {Q : Exit → St → Prop} (I : Nat → St → Prop) (round : ∀ n st, I n st → AWP P bs c (thenA (fun st' => ∃ m, m < n ∧ ∀ a w, Rel bs st' a w → ∃ st'', I m st'' ∧ Rel bs st'' a w) Q) st) {n : Nat} {st : St} (h : I n st) :
    AWP P bs (.loop c) Q st := by
  intro a w R b k cs hro hb hr
  have key : ∀ n a w st, I n st → Rel bs st a w → ∃ e a' w', (∃ st', Q e st' ∧ Rel bs st' a' w') ∧ ArrivesIn (Machine.fenced P (fen bs.ro)) P (lone (b.atR a (.code c :: .inLoop c :: k)) cs w) b k cs e a' w' := by
    intro n
    induction n using Nat.strongRecOn with
    | _ n ih =>
      intro a w st hI hR
      obtain ⟨e, a₁, w₁, ⟨st₁, hq, hr1⟩, harr⟩ := round n st hI a w hR b (.inLoop c :: k) cs hro hb hr
      cases e with
      | normal =>
        obtain ⟨m, hm, hw⟩ := hq
        obtain ⟨st₂, hI₂, hR₂⟩ := hw a₁ w₁ hr1
        obtain ⟨e₂, a₂, w₂, hq₂, harr₂⟩ := ih m hm a₁ w₁ st₂ hI₂ hR₂
        exact ⟨e₂, a₂, w₂, hq₂, .of_steps (StepsIn.trans harr (.one (fenced_calm hb hr rfl) stepR_inLoop)) harr₂⟩
      | exit id => exact ⟨_, a₁, w₁, ⟨st₁, hq, hr1⟩, .pass (x := .inLoop c) rfl (fun _ _ => .inl (by simp)) harr⟩
      | goto l => exact ⟨_, a₁, w₁, ⟨st₁, hq, hr1⟩, .pass (x := .inLoop c) rfl (fun _ _ => .inl (by simp)) harr⟩
      | ret => exact ⟨_, a₁, w₁, ⟨st₁, hq, hr1⟩, .pass (x := .inLoop c) rfl (fun _ _ => .inl (by simp)) harr⟩
      | panic ch => exact ⟨_, a₁, w₁, ⟨st₁, hq, hr1⟩, .pass (x := .inLoop c) rfl (fun _ _ => .inl (by simp)) harr⟩
      | outgrown => exact ⟨_, a₁, w₁, ⟨st₁, hq, hr1⟩, .pass (x := .inLoop c) rfl (fun _ _ => .inl (by simp)) harr⟩
  obtain ⟨e, a', w', hq, harr⟩ := key n a w st h R
  exact ⟨e, a', w', hq, .of_steps (.one (fenced_calm hb hr rfl) stepR_loop) harr⟩

end
end Fen

/- Part 18: a function's contract from its body; states made weaker. -/
namespace Fen
open Go Go.RowKit

def argsR : Nat → List V → List (Nat × X)
  | _, [] => []
  | k, a :: as => (k, a.x) :: argsR (k + 1) as

theorem argsR_ok {g : Gh} {h : List Blk} : ∀ (as : List V) (vs : List Value) (k : Nat) (f : Nat → Value), (∀ j u, vs[j]? = some u → f (k + j) = u) → RepAs g.S as vs → ∀ t, RelX g h (lk (argsR k as) t) (f t)
  | [], vs, k, f, hf, r, t => by simp [argsR, lk, RelX]
  | a :: as, vs, k, f, hf, r, t => by
    obtain ⟨u, us, rfl, h1, h2⟩ := r
    simp only [argsR, lk]
    split
    · rename_i e
      subst e
      have := hf 0 u (by simp)
      rw [Nat.add_zero] at this
      rw [this]; exact repA_x h1 g h rfl
    · exact argsR_ok as us (k + 1) f (fun j v hj => by have := hf (j + 1) v (by simpa using hj); rw [← this]; congr 1; omega) h2 t

/-- a slot of one cell -/
def oneX : X → Bool
  | .val _ | .nil | .ref _ _ => true
  | _ => false

/-- a variable of a struct whose parts live: as it stands -/
def recL (T : TT) (h : List Blk) (t : Nat) (p : X) : Option (Prop × X) :=
  match T t, cellsAt h p with
  | some ti, some (.x xs, _) => if ti.k.agg && xs.all oneX then some (xs.length = ti.size, .recd xs) else none
  | _, _ => none

/-- a result variable's value -/
def resX (T : TT) (st : St) : ResultVar → Option (Prop × X)
  | .tmp t => some (True, lk st.r t)
  | .cell a t =>
    match opLoad T st.h t (lk st.r a) with
    | some e => if e.acc = .write then recL T st.h t (lk st.r a) else some (e.pre, e.x)
    | none => recL T st.h t (lk st.r a)

def ressX (T : TT) (st : St) : List ResultVar → Option (Prop × List X)
  | [] => some (True, [])
  | r :: rs =>
    match resX T st r, ressX T st rs with
    | some (p, x), some (ps, xs) => some (p ∧ ps, x :: xs)
    | _, _ => none

/-- the results that are handed back by value, frozen one after the other -/
def frzAll (h : List Blk) : List X → List Comp → Option (Prop × List Blk)
  | x :: xs, .val a :: cs =>
    match toV h x with
    | some (b, h') =>
      match frzAll h' xs cs with
      | some (p, h'') => some (b = a ∧ p, h'')
      | none => none
    | none => none
  | _ :: xs, .own .. :: cs => frzAll h xs cs
  | [], [] => some (True, h)
  | _, _ => none

/-- .. and those that become the caller's own -/
def ownAll (h : List Blk) : List Nat → List X → List Comp → Prop
  | used, x :: xs, .own ty p sz n cells :: cs =>
    match x with
    | .nil => 0 < sz ∧ n = 0 ∧ cells = [] ∧ ownAll h used xs cs
    | .ex sz' n' cs' => p = false ∧ sz' = sz ∧ n' = n ∧ cs' = cells ∧ ownAll h used xs cs
    | .ref id ver =>
      match h[id]? with
      | some (.sl ty' v p' sz' n' cs') => id ∉ used ∧ ver = v ∧ ty' = ty ∧ (p = true → p' = true) ∧ sz' = sz ∧ n' = n ∧ cs' = cells ∧ ownAll h (id :: used) xs cs
      | _ => False
    | _ => False
  | used, _ :: xs, .val _ :: cs => ownAll h used xs cs
  | _, [], [] => True
  | _, _, _ => False

def RV.comps : RV → List Comp
  | .one c => [c]
  | .many cs => cs

def retOK (T : TT) (rs : List ResultVar) (rv : RV) (st : St) : Prop :=
  match ressX T st rs with
  | some (p, xs) =>
    match frzAll st.h xs rv.comps with
    | some (q, h') => p ∧ q ∧ ownAll h' [] xs rv.comps
    | none => False
  | none => False

/-- how a body may end -/
def endsA (T : TT) (rs : List ResultVar) (rv : RV) : Exit → St → Prop
  | .normal, st | .ret, st => retOK T rs rv st
  | _, _ => False

section
variable {P : Program} {T : TT} {bs : Base} {w : World}

/-- a load that freezes nothing -/
theorem load_same (hT : TOK P T) {g : Gh} {h : List Blk} (H : HeapOK bs g h w) {t : Nat} {x : X} {v : Value} {e : Eff} (r : RelX g h x v) (he : opLoad T h t x = some e) (hacc : ¬ e.acc = .write) (hp : e.pre) :
    ∃ ad u, v = .pointer (some ad) ∧ (loadVar t ad).run P w = .ok u w ∧ RelX g h e.x u := by
  unfold opLoad at he
  split at he
  · rename_i ti cs acc ht hc
    obtain ⟨b, o, vs, rfl, hcell, hr⟩ := cellsAt_ok H r hc
    simp only [CsOK] at hr
    have hlen := hr.length
    split at he
    · rename_i hagg
      simp only [Option.some.injEq] at he; subst he
      simp only at hp
      refine ⟨_, .agg (vs.take ti.size).toArray, rfl, ?_, by simp only [RelX]; exact ⟨_, rfl, hr.take _⟩⟩
      have hl := run_loadCells_list (P := P) (w := w) ⟨b, o, none⟩ (vs.take ti.size) (fun j u hj => by
        rw [List.getElem?_take] at hj
        split at hj
        · rw [addr_add]; exact hcell j u hj
        · cases hj)
      have hsz : (vs.take ti.size).length = ti.size := by rw [List.length_take, hlen]; omega
      rw [hsz] at hl
      simp [loadVar, hT.isAgg ht, hT.sizeOf ht, hagg, hl]
    · rename_i hagg
      simp only [Option.some.injEq] at he; subst he
      simp only at hp
      obtain ⟨u, hu, hru⟩ := hr.at (headD_get cs (zC (ti.zero.headD .nil)) hp)
      have hc0 := hcell 0 u hu
      rw [Nat.add_zero] at hc0
      exact ⟨_, u, rfl, by simp [loadVar, hT.isAgg ht, hagg, hc0], by simpa only [RelX] using hru⟩
  · rename_i ti xs acc ht hc
    obtain ⟨b, o, vs, rfl, hcell, hr⟩ := cellsAt_ok H r hc
    simp only [CsOK] at hr
    split at he
    · split at he
      · simp only [Option.some.injEq] at he; subst he
        exact absurd rfl hacc
      · cases he
    · rename_i hagg
      split at he
      · rename_i x' xs'
        simp only [Option.some.injEq] at he; subst he
        simp only [RelXs] at hr
        obtain ⟨u, us, rfl, hu, _⟩ := hr
        have hc0 := hcell 0 u (by simp)
        rw [Nat.add_zero] at hc0
        exact ⟨_, u, rfl, by simp [loadVar, hT.isAgg ht, hagg, hc0], hu⟩
      · cases he
  · cases he

theorem relX_one {g : Gh} {h : List Blk} {x : X} {v : Value} (r : RelX g h x v) (ho : oneX x = true) : v.oneCell' = true := by
  cases x with
  | val c => exact (repV_one r).1
  | nil => simp only [RelX] at r; subst r; rfl
  | ref i k => simp only [RelX] at r; obtain ⟨_, _, _, _, ⟨_, _, _, rfl⟩, _⟩ := r; rfl
  | _ => cases ho
theorem relXs_one {g : Gh} {h : List Blk} : ∀ {xs : List X} {vs : List Value}, RelXs g h xs vs → xs.all oneX = true → ∀ u ∈ vs, u.oneCell' = true
  | [], _, r, _, u, hu => by simp only [RelXs] at r; subst r; cases hu
  | x :: xs, _, r, ho, u, hu => by
    simp only [RelXs] at r
    obtain ⟨w, us, rfl, h1, h2⟩ := r
    simp only [List.all_cons, Bool.and_eq_true] at ho
    rcases List.mem_cons.1 hu with rfl | hu
    · exact relX_one h1 ho.1
    · exact relXs_one h2 ho.2 u hu
theorem rec_same (hT : TOK P T) {g : Gh} {h : List Blk} (H : HeapOK bs g h w) {t : Nat} {x y : X} {v : Value} {p : Prop} (r : RelX g h x v) (he : recL T h t x = some (p, y)) (hp : p) :
    ∃ ad u, v = .pointer (some ad) ∧ (loadVar t ad).run P w = .ok u w ∧ RelX g h y u := by
  unfold recL at he
  split at he
  · rename_i ti xs acc ht hc
    obtain ⟨b, o, vs, rfl, hcell, hr⟩ := cellsAt_ok H r hc
    simp only [CsOK] at hr
    split at he
    · rename_i q
      simp only [Bool.and_eq_true] at q
      simp only [Option.some.injEq, Prod.mk.injEq] at he
      obtain ⟨rfl, rfl⟩ := he
      refine ⟨_, .agg vs.toArray, rfl, ?_, by simp only [RelX]; exact ⟨vs, rfl, hr, relXs_one hr q.2⟩⟩
      have hl := run_loadCells_list (P := P) (w := w) ⟨b, o, none⟩ vs (fun j u hj => by rw [addr_add]; exact hcell j u hj)
      have hsz : vs.length = ti.size := by rw [hr.length, hp]
      rw [hsz] at hl
      simp [loadVar, hT.isAgg ht, hT.sizeOf ht, q.1, hl]
    · cases he
  · cases he

theorem resX_ok (hT : TOK P T) {st : St} {g : Gh} (H : HeapOK bs g st.h w) {tmps : Array Value} (hs : ∀ t, RelX g st.h (lk st.r t) (tmps.getD t undef)) {r : ResultVar} {p : Prop} {x : X} (e : resX T st r = some (p, x)) (hp : p) :
    ∃ v, (match r with | .tmp t => pure (tmps.getD t undef) | .cell a t => do loadVar t (← asAddr (tmps.getD a undef)) : Sem Value).run P w = .ok v w ∧ RelX g st.h x v := by
  cases r with
  | tmp t =>
    simp only [resX, Option.some.injEq, Prod.mk.injEq] at e
    obtain ⟨_, rfl⟩ := e
    exact ⟨_, rfl, hs t⟩
  | cell a t =>
    have viaRec : recL T st.h t (lk st.r a) = some (p, x) → ∃ v, ((do loadVar t (← asAddr (tmps.getD a undef))) : Sem Value).run P w = .ok v w ∧ RelX g st.h x v := fun e => by
      obtain ⟨ad, v, had, hrun, hx⟩ := rec_same hT H (hs a) e hp
      refine ⟨v, ?_, hx⟩
      simp only [had, asAddr, Sem.run_bind, Sem.run_pure, Result.andThen_ok]
      exact hrun
    simp only [resX] at e
    split at e
    · rename_i ef he
      split at e
      · exact viaRec e
      · rename_i hacc
        simp only [Option.some.injEq, Prod.mk.injEq] at e
        obtain ⟨rfl, rfl⟩ := e
        obtain ⟨ad, v, had, hrun, hx⟩ := load_same hT H (hs a) he hacc hp
        refine ⟨v, ?_, hx⟩
        simp only [had, asAddr, Sem.run_bind, Sem.run_pure, Result.andThen_ok]
        exact hrun
    · exact viaRec e

theorem ressX_ok (hT : TOK P T) {st : St} {g : Gh} (H : HeapOK bs g st.h w) {tmps : Array Value} (hs : ∀ t, RelX g st.h (lk st.r t) (tmps.getD t undef)) : ∀ {rs : List ResultVar} {p : Prop} {xs : List X}, ressX T st rs = some (p, xs) → p →
    ∃ vs, (rs.mapM (fun | .tmp t => pure (tmps.getD t undef) | .cell a t => do loadVar t (← asAddr (tmps.getD a undef)) : ResultVar → Sem Value)).run P w = .ok vs w ∧ RelXs g st.h xs vs
  | [], p, xs, e, hp => by
    simp only [ressX, Option.some.injEq, Prod.mk.injEq] at e
    obtain ⟨_, rfl⟩ := e
    exact ⟨[], by simp, by simp [RelXs]⟩
  | r :: rs, p, xs, e, hp => by
    simp only [ressX] at e
    split at e
    · rename_i p1 x ps xs' e1 e2
      simp only [Option.some.injEq, Prod.mk.injEq] at e
      obtain ⟨rfl, rfl⟩ := e
      obtain ⟨v, hv, hx⟩ := resX_ok hT H hs e1 hp.1
      obtain ⟨vs, hvs, hxs⟩ := ressX_ok hT H hs e2 hp.2
      refine ⟨v :: vs, ?_, by simp only [RelXs]; exact ⟨v, vs, rfl, hx, hxs⟩⟩
      rw [List.mapM_cons]
      simp only [Sem.run_bind, Sem.run_pure]
      cases r with
      | tmp t => simp only at hv ⊢; rw [hv]; simp only [Result.andThen_ok, hvs]
      | cell a t =>
        simp only [Sem.run_bind] at hv ⊢
        rw [hv]; simp only [Result.andThen_ok, hvs]
    · cases e

theorem ressX_len {st : St} : ∀ {rs : List ResultVar} {p : Prop} {xs : List X}, ressX T st rs = some (p, xs) → xs.length = rs.length
  | [], p, xs, e => by simp only [ressX, Option.some.injEq, Prod.mk.injEq] at e; rw [← e.2]; rfl
  | r :: rs, p, xs, e => by
    simp only [ressX] at e
    split at e
    · rename_i e1 e2
      simp only [Option.some.injEq, Prod.mk.injEq] at e
      rw [← e.2]; simp [ressX_len e2]
    · cases e

theorem RepAs.length {S : Stab} : ∀ {as : List V} {vs : List Value}, RepAs S as vs → vs.length = as.length
  | [], _, h => by simp only [RepAs] at h; subst h; rfl
  | a :: as, _, h => by obtain ⟨u, us, rfl, _, h2⟩ := h; simp [RepAs.length h2]

def ValsOK (S : Stab) : List Comp → List Value → Prop
  | .val a :: cs, v :: vs => RepA S a v ∧ ValsOK S cs vs
  | .own .. :: cs, _ :: vs => ValsOK S cs vs
  | [], [] => True
  | _, _ => False

theorem ValsOK.mono {S S' : Stab} (hS : ∀ b o v, S b o = some v → S' b o = some v) : ∀ {cs : List Comp} {vs : List Value}, ValsOK S cs vs → ValsOK S' cs vs
  | .val a :: cs, v :: vs, h => ⟨h.1.mono hS, h.2.mono hS⟩
  | .own .. :: cs, _ :: vs, h => ValsOK.mono (cs := cs) hS h
  | [], [], h => h

theorem frzAll_ok : ∀ {cs : List Comp} {xs : List X} {g : Gh} {h h' : List Blk} {vs : List Value} {p : Prop}, HeapOK bs g h w → RelXs g h xs vs → frzAll h xs cs = some (p, h') → p →
    ∃ S', Ext g h { g with S := S' } h' ∧ HeapOK bs { g with S := S' } h' w ∧ ValsOK S' cs vs
  | [], [], g, h, h', vs, p, H, r, e, hp => by
    simp only [frzAll, Option.some.injEq, Prod.mk.injEq] at e
    obtain ⟨_, rfl⟩ := e
    simp only [RelXs] at r; subst r
    exact ⟨g.S, Ext.refl g h, H, trivial⟩
  | .val a :: cs, x :: xs, g, h, h', vs, p, H, r, e, hp => by
    simp only [RelXs] at r
    obtain ⟨u, us, rfl, h1, h2⟩ := r
    simp only [frzAll] at e
    split at e
    · rename_i b h1' e1
      split at e
      · rename_i p2 h2' e2
        simp only [Option.some.injEq, Prod.mk.injEq] at e
        obtain ⟨rfl, rfl⟩ := e
        obtain ⟨hp1, hp2⟩ := hp
        obtain ⟨S1, E1, H1, r1⟩ := toV_ok H h1 e1
        obtain ⟨S2, E2, H2, r2⟩ := frzAll_ok H1 (RelXs.mono E1 _ _ h2) e2 hp2
        exact ⟨S2, E1.trans E2, H2, hp1 ▸ r1.mono E2.S, r2⟩
      · cases e
    · cases e
  | .own ty p0 sz n cells :: cs, x :: xs, g, h, h', vs, p, H, r, e, hp => by
    simp only [RelXs] at r
    obtain ⟨u, us, rfl, h1, h2⟩ := r
    simp only [frzAll] at e
    obtain ⟨S2, E2, H2, r2⟩ := frzAll_ok H h2 e hp
    exact ⟨S2, E2, H2, r2⟩
  | [], _ :: _, g, h, h', vs, p, H, r, e, hp => by simp [frzAll] at e
  | .val _ :: _, [], g, h, h', vs, p, H, r, e, hp => by simp [frzAll] at e
  | .own .. :: _, [], g, h, h', vs, p, H, r, e, hp => by simp [frzAll] at e

theorem relComps_of {g : Gh} {h : List Blk} (H : HeapOK bs g h w) (hown : ∀ k, ¬ bs.own k) : ∀ {cs : List Comp} {xs : List X} {vs : List Value} {ids usedB : List Nat}, ValsOK g.S cs vs → RelXs g h xs vs → ownAll h ids xs cs →
    (∀ b ∈ usedB, ∃ id ∈ ids, id < h.length ∧ g.ex id = true ∧ (g.ad id).1 = b) → RelComps g.S w bs.w0.heap.size usedB cs vs
  | [], xs, vs, ids, usedB, hv, r, ho, hu => by
    cases vs with
    | nil => rfl
    | cons v vs => simp [ValsOK] at hv
  | .val a :: cs, [], vs, ids, usedB, hv, r, ho, hu => by simp [ownAll] at ho
  | .own .. :: cs, [], vs, ids, usedB, hv, r, ho, hu => by simp [ownAll] at ho
  | .val a :: cs, x :: xs, vs, ids, usedB, hv, r, ho, hu => by
    simp only [RelXs] at r
    obtain ⟨u, us, rfl, h1, h2⟩ := r
    simp only [ownAll] at ho
    exact ⟨u, us, none, rfl, ⟨hv.1, rfl⟩, by simp, relComps_of H hown hv.2 h2 ho hu⟩
  | .own ty p sz n cells :: cs, x :: xs, vs, ids, usedB, hv, r, ho, hu => by
    simp only [RelXs] at r
    obtain ⟨u, us, rfl, h1, h2⟩ := r
    cases x with
    | nil =>
      simp only [ownAll] at ho
      obtain ⟨o1, o2, o3, o4⟩ := ho
      subst o2; subst o3
      simp only [RelX] at h1; subst h1
      exact ⟨_, us, none, rfl, ⟨(0, 0), false, ⟨o1, by simp, .inl ⟨⟨none, rfl⟩, rfl, rfl⟩⟩, rfl, by simp⟩, by simp, relComps_of H hown hv h2 o4 hu⟩
    | ex sz' n' cs' =>
      simp only [ownAll] at ho
      obtain ⟨rfl, rfl, rfl, rfl, o5⟩ := ho
      simp only [RelX] at h1
      obtain ⟨k0, k1, k2⟩ := h1
      rcases k2 with k2 | ⟨b, o, vs0, k2, k3, k4, k5⟩
      · exact ⟨_, us, none, rfl, ⟨(0, 0), false, ⟨k0, k1, .inl ⟨k2.1, k2.2, rfl⟩⟩, rfl, by simp⟩, by simp, relComps_of H hown hv h2 o5 hu⟩
      · exact ⟨_, us, none, rfl, ⟨(b, o), false, ⟨k0, k1, .inr (.inr ⟨rfl, rfl, k2, k3, vs0, k4, k5⟩)⟩, rfl, by simp⟩, by simp, relComps_of H hown hv h2 o5 hu⟩
    | ref id ver =>
      simp only [ownAll] at ho
      split at ho
      · rename_i ty' v p' sz' n' cs' hb
        obtain ⟨o1, rfl, rfl, o3, rfl, rfl, rfl, o7⟩ := ho
        have hv' := rel_ref H hb h1
        subst hv'
        have hk := H.blk id _ hb
        simp only [BlkOK] at hk
        have hk' : SlOK g.S w ty' p sz' n' cs' (g.hd id) (g.ad id) (g.ex id) := by
          obtain ⟨k0, k1, k2⟩ := hk
          refine ⟨k0, k1, ?_⟩
          rcases k2 with k2 | ⟨a1, a2, cap, cur, a3, a4, a5, a6, a7, a8, a9⟩ | ⟨a1, a2, a3, a4, a5⟩
          · exact .inl k2
          · refine .inr (.inl ⟨a1, a2, cap, cur, a3, a4, a5, a6, a7, a8, fun o ho => ⟨?_, (a9 o ho).2⟩⟩)
            have := (a9 o ho).1
            cases hpp : p with
            | false => rfl
            | true => rw [o3 hpp] at this; cases this
          · refine .inr (.inr ⟨a1, ?_, a3, a4, a5⟩)
            cases hpp : p with
            | false => rfl
            | true => rw [o3 hpp] at a2; cases a2
        refine ⟨_, us, if g.ex id then some (g.ad id).1 else none, rfl, ⟨g.ad id, g.ex id, hk', rfl, fun hex => ?_⟩, fun b hb' hin => ?_, relComps_of H hown hv h2 o7 ?_⟩
        · rcases H.loc id (lt_of_get hb) hex with hl | hl
          · exact hl
          · exact (hown _ hl).elim
        · split at hb'
          · rename_i hex
            simp only [Option.some.injEq] at hb'; subst hb'
            obtain ⟨j, hj, hjl, hjx, hje⟩ := hu _ hin
            have := H.inj j id hjl (lt_of_get hb) hjx hex hje
            subst this
            exact o1 hj
          · cases hb'
        · intro b hb'
          rcases List.mem_append.1 hb' with hb' | hb'
          · split at hb'
            · rename_i hex
              simp only [Option.toList_some, List.mem_singleton] at hb'
              exact ⟨id, List.mem_cons_self .., lt_of_get hb, hex, hb'.symm⟩
            · simp at hb'
          · obtain ⟨j, hj, hq⟩ := hu b hb'
            exact ⟨j, List.mem_cons_of_mem _ hj, hq⟩
      · exact ho.elim
    | _ => simp [ownAll] at ho

/-- a mark's block is shut -/
theorem HeapOK.close {g : Gh} {h : List Blk} {w : World} (H : HeapOK bs g h w) {m : Nat} (hm : m ∈ g.marks) (hB : bs.w0.heap.size ≤ m) :
    HeapOK bs { g with marks := g.marks.filter (· != m) } h (w.putObj m (.deferred none)) := by
  have hc := H.marks m hm
  have hcell : ∀ o, w.cell? ⟨m, o, none⟩ = none := fun o => by simp [World.cell?, hc]
  have hS : ∀ o, g.S m o = none := fun o => by
    rcases hq : g.S m o with _ | v
    · rfl
    · have := H.stable m o v hq; rw [hcell] at this; cases this
  have E : Ext0 g h { g with marks := g.marks.filter (· != m) } h := ⟨fun _ _ _ h => h, fun id b hb => ⟨b, hb, rfl, Nat.le_refl _, fun _ => ⟨rfl, rfl⟩⟩⟩
  refine ⟨fun b o v hv => ?_, fun id b hb => ?_, H.inj, H.loc, H.os, H.tape, H.output, by simpa using H.size, fun k hk ho => ?_, H.stab, H.gl, fun k hk => ?_⟩
  · have hne : b ≠ m := fun e => by subst e; have := (hS o).symm.trans hv; cases this
    rw [cell_block (World.putObj_heap_other hne)]; exact H.stable b o v hv
  · have hk := H.blk id b hb
    cases b with
    | gone => exact ⟨fun he => by simpa using hk.1 he, hk.2⟩
    | hid => intro he; simpa using hk he
    | _ =>
      refine hk.mono0 E rfl rfl rfl fun he _ => ⟨World.putObj_heap_other fun e => ?_, fun _ => rfl⟩
      simp only [BlkOK, SlOK, SlxOK] at hk
      rw [e] at hk
      simp [hc, he] at hk
  · exact (World.putObj_heap_other (by omega)).trans (H.frame k hk ho)
  · simp at hk
    exact (World.putObj_heap_other hk.2).trans (H.marks k hk.1)

/-- all of an activation's marks are come to, one by one -/
theorem leaves_marks {P : Program} {ro : Option Nat} {fn : Func} {tmps : Array Value} {R : Ending → World → Prop} {h : List Blk} (hm0 : ∀ m, m ∈ bs.g0.marks → m < bs.w0.heap.size) : ∀ (ms : List Nat) (g : Gh) (w : World), ms.Nodup → (∀ m, m ∈ ms → m ∈ g.marks ∧ bs.w0.heap.size ≤ m) → HeapOK bs g h w → (∀ m, m ∈ bs.g0.marks → m ∈ g.marks) →
    (∀ (ks : List Nat) (w' : World), HeapOK bs { g with marks := ks } h w' → (∀ m, m ∈ bs.g0.marks → m ∈ ks) → ∃ v, (results fn tmps).run P w' = .ok v w' ∧ R (.returned v) w') →
    LeavesInM (fen ro) 0 P fn tmps R (ms.map (fun m => { target := .collected m, args := #[] })) .returning w
  | [], g, w, _, _, H, hk, hR => by
    obtain ⟨v, h1, h2⟩ := hR g.marks w H hk
    exact ⟨v, h1, h2⟩
  | m :: ms, g, w, hn, hms, H, hk, hR => by
    have hm := hms m (List.mem_cons_self ..)
    have hn' := List.nodup_cons.1 hn
    refine ⟨by simp, .inl ⟨m, _, rfl, run_takeDeferred (H.marks m hm.1), ?_⟩⟩
    refine leaves_marks hm0 ms { g with marks := g.marks.filter (· != m) } _ hn'.2 (fun k hk' => ?_) (H.close hm.1 hm.2) (fun k hk' => ?_) (fun ks w' H' hks => hR ks w' H' hks)
    · have := hms k (List.mem_cons_of_mem _ hk')
      refine ⟨?_, this.2⟩
      simp only [List.mem_filter, bne_iff_ne, ne_eq]
      exact ⟨this.1, fun e => hn'.1 (e ▸ hk')⟩
    · simp only [List.mem_filter, bne_iff_ne, ne_eq]
      exact ⟨hk k hk', fun e => by have := hm0 k hk'; have := hm.2; omega⟩

/-- where a call by values begins -/
def base0 (w : World) (S : Stab) (gl : Gl) : Base :=
  { w0 := w, own := fun _ => False, g0 := { S := S, ad := fun _ => (0, 0), hd := fun _ => .slice none 0 0, ex := fun _ => false }, h0 := [], gl := gl }

/-- A FUNCTION's CONTRACT, from its body. -/
theorem sound_of {gl : Gl} (hT : TOK P T) {f : FuncId} {fn : Func} {c : Code} (hf : P.funcs[f]? = some fn) (hb : fn.body = some c) (hn : (fn.name == "runtime.NumGoroutine") = false) {s : Spec} (hnh : s.hp = none) {N : Nat} (hN : fn.ntmps = N) {rs : List ResultVar} (hrs : fn.results = rs.toArray)
    (hlen : ∀ args, s.pre args → args.length ≤ N) (hshape : ∀ args, s.pre args → match s.res args with | .one _ => rs.length = 1 | .many cs => rs.length = cs.length ∧ rs.length ≠ 1)
    (h : ∀ args, s.pre args → ∀ w S, AWP P (base0 w S gl) c (endsA T rs (s.res args)) ⟨N, argsR 0 args, []⟩) : Sound P gl f s := by
  refine ⟨enters_of hf (by simp [hb]) hn, fun _ args hpre S w vs hst hgl hr => ?_, fun hs hhs => by rw [hnh] at hhs; cases hhs⟩
  have hlen2 : vs.length = args.length := hr.length
  have hsz : vs.toArray.size + (N - vs.toArray.size) = N := by have := hlen args hpre; simp [hlen2]; omega
  refine calls_fen.1 (callsIn_of_wp_marks (F := fen none) hf hb trivial ?_ rfl)
  rw [hN]
  have R : Rel (base0 w S gl) ⟨N, argsR 0 args, []⟩ { tmps := vs.toArray ++ Array.replicate (N - vs.toArray.size) undef, defers := [] } w := by
    refine ⟨(base0 w S gl).g0, Ext.refl _ _, ⟨hst, fun id b hb => by simp at hb, fun i j hi => by simp at hi, fun i hi => by simp at hi, rfl, rfl, rfl, Nat.le_refl _, fun _ _ _ => rfl, fun _ _ _ _ => rfl, hgl, fun m hm => by simp [base0] at hm⟩, ⟨[], rfl, List.nodup_nil, fun m hm => by simp at hm⟩, by simpa using hsz, fun t => ?_⟩
    refine argsR_ok (g := (base0 w S gl).g0) (h := []) args vs 0 (fun t => (vs.toArray ++ Array.replicate (N - vs.toArray.size) undef).getD t undef) (fun j u hj => ?_) hr t
    have hjl := (List.getElem?_eq_some_iff.1 hj).1
    rw [Nat.zero_add, Array.getD_eq_getD_getElem?, Array.getElem?_append_left (by simpa using hjl)]
    simp [hj]
  have hw := h args hpre w S _ w R
  refine wpIn_mono hw fun e a' w' ⟨st', q, R'⟩ => ?_
  have fin : retOK T rs (s.res args) st' → LeavesInM (fen none) 0 P fn a'.tmps (fun e w' => ∃ v S', e = .returned v ∧ Below w.heap.size w w' ∧ (∀ b o, b < w.heap.size → S' b o = S b o) ∧ Stable S' w' ∧ RVOK S' w' w.heap.size (s.res args) v) a'.defers .returning w' := fun hret => by
    obtain ⟨g, R'⟩ := R'
    unfold retOK at hret
    split at hret
    · rename_i p xs hx
      split at hret
      · rename_i q h' hfz
        obtain ⟨hp, hq, ho⟩ := hret
        obtain ⟨ms, hms, hnd, hmm⟩ := R'.defers
        rw [hms]
        refine leaves_marks (bs := base0 w S gl) (fun m hm => by simp [base0] at hm) ms g w' hnd hmm R'.heap (fun m hm => by simp [base0] at hm) fun ks w2 H2 _ => ?_
        have hslot : ∀ t, RelX { g with marks := ks } st'.h (lk st'.r t) (a'.tmps.getD t undef) := fun t => RelX.mono0 (g := g) (h := st'.h) (g' := { g with marks := ks }) ⟨fun _ _ _ h => h, fun id b hb => ⟨b, hb, rfl, Nat.le_refl _, fun _ => ⟨rfl, rfl⟩⟩⟩ _ _ (R'.slot t)
        obtain ⟨us, hrun, hxs⟩ := ressX_ok hT H2 hslot hx hp
        obtain ⟨S', E', H', hv⟩ := frzAll_ok H2 hxs hfz hq
        have hrc := relComps_of (usedB := []) H' (fun k hk => hk) hv (RelXs.mono E' _ _ hxs) ho (by simp)
        have hbelow : Below w.heap.size w w2 := ⟨H'.os, H'.tape, H'.output, H'.size, fun k hk => H'.frame k hk (fun h => h)⟩
        have hS : ∀ b o, b < w.heap.size → S' b o = S b o := fun b o hb => H'.stab b o hb (fun h => h)
        have hmap : (fn.results.mapM (fun | .tmp t => pure (a'.tmps.getD t undef) | .cell a t => do loadVar t (← asAddr (a'.tmps.getD a undef)) : ResultVar → Sem Value)).run P w2 = .ok us.toArray w2 := by
          rw [hrs, Array.mapM_eq_mapM_toList]
          simp only [Sem.run_map, hrun, Result.andThen_ok]
        have hul : us.length = rs.length := hxs.length.trans (ressX_len hx)
        have hsh := hshape args hpre
        cases hrv : s.res args with
        | one c =>
          rw [hrv] at hsh hrc
          simp only [RV.comps, RelComps] at hrc
          obtain ⟨u, us', ob, rfl, hc, _, rfl⟩ := hrc
          refine ⟨u, ?_, u, S', rfl, hbelow, hS, H'.stable, ob, hc⟩
          unfold results
          rw [Sem.run_bind]
          refine (congrArg (fun r => Result.andThen r _) (show _ = Result.ok [u].toArray w2 from hmap)).trans ?_
          simp
        | many cs =>
          rw [hrv] at hsh hrc
          simp only [RV.comps] at hrc
          have hne : us.toArray.size ≠ 1 := by simpa [hul] using hsh.2
          refine ⟨.tuple us.toArray, ?_, _, S', rfl, hbelow, hS, H'.stable, us, rfl, hrc⟩
          unfold results
          rw [Sem.run_bind]
          refine (congrArg (fun r => Result.andThen r _) (show _ = Result.ok us.toArray w2 from hmap)).trans ?_
          simp only [Result.andThen_ok, Sem.run_pure, hne, dite_false]
      · exact hret.elim
    · exact hret.elim
  cases e with
  | normal => exact fin q
  | ret => exact fin q
  | _ => exact q.elim

end
end Fen

/- Part 19: tables of types; the words for simp. -/
namespace Fen
open Go Go.RowKit

def ttFind : List (Nat × TI) → Nat → Option TI
  | [], _ => none
  | (k, ti) :: l, t => if k = t then some ti else ttFind l t

def TRow (P : Program) (t : Nat) (ti : TI) : Prop := ∃ d i z, P.underlying t = some d ∧ P.info? t = some i ∧ ti.k.fits d ∧
  i.size = ti.size ∧ i.bytes = ti.bytes ∧ i.zero = some z ∧ z.cells.toList = ti.zero.map zval ∧ ti.zero.all zok = true ∧ ti.zero.length = ti.size

theorem ttFind_mem : ∀ {l : List (Nat × TI)} {t : Nat} {ti : TI}, ttFind l t = some ti → ∃ p ∈ l, p.1 = t
  | [], _, _, h => by simp [ttFind] at h
  | (k, ti') :: l, t, ti, h => by
    simp only [ttFind] at h
    split at h
    · exact ⟨_, List.mem_cons_self .., by assumption⟩
    · obtain ⟨p, hp, e⟩ := ttFind_mem h
      exact ⟨p, List.mem_cons_of_mem _ hp, e⟩

theorem tok_of {P : Program} {T : TT} {l : List (Nat × TI)} (hT : T = ttFind l) (h : ∀ p ∈ l, TRow P p.1 p.2) (he : ∀ p ∈ l, (eqK T 8 p.1).isSome = true → eqOK P p.1 = true) : TOK P T := by
  refine ⟨?_, fun t ht => by
    cases q : ttFind l t with
    | none => simp only [eqK, hT, q, eqStep] at ht; cases ht
    | some ti =>
      obtain ⟨p, hp, rfl⟩ := ttFind_mem q
      exact he p hp ht⟩
  clear he
  subst hT
  intro t ti ht
  induction l with
  | nil => simp [ttFind] at ht
  | cons p l ih =>
    obtain ⟨k, ti'⟩ := p
    simp only [ttFind] at ht
    split at ht
    · rename_i e; subst e; cases ht
      exact h _ (List.mem_cons_self ..)
    · exact ih (fun p hp => h p (List.mem_cons_of_mem _ hp)) ht

theorem eq_not {T : TT} {t : Nat} {p : Prop} (h : eqK T 8 t = none) : (eqK T 8 t).isSome = true → p := fun e => by rw [h] at e; cases e

theorem tokRow {P : Program} {t : Nat} {ti : TI} {d : TypeDesc} {z : Value} (hu : P.underlying t = some d) (hi : (P.info? t).map (fun i => (i.zero, i.size, i.bytes)) = some (some z, ti.size, ti.bytes)) (hf : ti.k.fits d)
    (hz : z.cells.toList = ti.zero.map zval) (hzo : ti.zero.all zok = true) (hl : ti.zero.length = ti.size) : TRow P t ti := by
  rw [Option.map_eq_some_iff] at hi
  obtain ⟨i, h1, h2⟩ := hi
  simp only [Prod.mk.injEq] at h2
  exact ⟨d, i, z, hu, h1, hf, h2.2.1, h2.2.2, h2.1, hz, hzo, hl⟩

end Fen

/- Part 20: what an operation's effect hangs on: the slots that it looks at; the private heap only where it says so. -/
namespace Fen
open Go Go.RowKit

def AccOK (f : List Blk → Option Eff) (h : List Blk) (e : Eff) : Prop :=
  (e.acc ≠ .write → e.h = h) ∧ (e.acc = .pure → ∀ h2, f h2 = some ⟨e.pre, e.x, .pure, h2⟩)

theorem AccOK.of_map {f : List Blk → Option Eff} {h : List Blk} {e : Eff} (F : Option (Prop × X)) (hf : ∀ h, f h = F.map fun p => ⟨p.1, p.2, .pure, h⟩) (he : f h = some e) : AccOK f h e := by
  rw [hf] at he
  cases F with
  | none => cases he
  | some p => cases he; exact ⟨fun _ => rfl, fun _ h2 => by rw [hf]; rfl⟩

theorem toV_plain {h : List Blk} {x : X} (hx : plainX x = true) : ∃ a, ∀ h, toV h x = some (a, h) := by
  cases x <;> simp [plainX] at hx <;> simp [toV, toV1]

theorem toVs_plain : ∀ {xs : List X}, xs.all plainX = true → ∃ as, ∀ h, toVs h xs = some (as, h)
  | [], _ => ⟨[], fun _ => rfl⟩
  | x :: xs, hx => by
    simp only [List.all_cons, Bool.and_eq_true] at hx
    obtain ⟨a, ha⟩ := toV_plain (h := []) hx.1
    obtain ⟨as, has⟩ := toVs_plain hx.2
    exact ⟨a :: as, fun h => by simp [toVs, ha, has]⟩

theorem partVs_plain {ev : Operand → X} : ∀ {ps : List (Nat × Operand)}, partsPlain ev ps = true → ∃ vs, ∀ h, partVs h ev ps = some (vs, h)
  | [], _ => ⟨[], fun _ => rfl⟩
  | (i, o) :: ps, hx => by
    simp only [partsPlain, Bool.and_eq_true] at hx
    obtain ⟨a, ha⟩ := toV_plain (h := []) hx.1
    obtain ⟨as, has⟩ := partVs_plain hx.2
    exact ⟨(i, a) :: as, fun h => by simp [partVs, ha, has]⟩

theorem imp_vals {rv : RV} (hv : onlyVals rv = true) : ∃ x, ∀ h, imp h rv = (x, h) := by
  cases rv with
  | one c =>
    cases c with
    | val a => exact ⟨a.x, fun h => rfl⟩
    | own _ _ _ _ _ => simp [onlyVals] at hv
  | many cs =>
    have key : ∀ cs : List Comp, (cs.all fun c => match c with | .val _ => true | _ => false) = true → ∃ xs, ∀ h, impCs h cs = (xs, h) := fun cs => by
      induction cs with
      | nil => intro _; exact ⟨[], fun _ => rfl⟩
      | cons c cs ih =>
        intro hc
        simp only [List.all_cons, Bool.and_eq_true] at hc
        obtain ⟨xs, hxs⟩ := ih hc.2
        cases c with
        | val a => exact ⟨a.x :: xs, fun h => by simp [impCs, impC, hxs]⟩
        | own _ _ _ _ _ => simp at hc
    obtain ⟨xs, hxs⟩ := key cs hv
    exact ⟨.tup xs, fun h => by simp [imp, hxs]⟩

section
variable {T : TT} {G : Specs} {gd : Bool} {ev : Operand → X} {h : List Blk} {e : Eff}

theorem bin_acc {op : BinOp} {t : Nat} {x y : X} (he : opBin T h op t x y = some e) : AccOK (fun h => opBin T h op t x y) h e := by
  refine AccOK.of_map ((opBin T [] op t x y).map fun e => (e.pre, e.x)) (fun h => ?_) he
  unfold opBin
  split <;> (try rfl)
  · split <;> rfl
  · generalize eqK T 8 t = q
    cases q with
    | none => rfl
    | some ks => simp only [Option.bind_some, aggEq]; split <;> rfl

theorem minmax_acc {f : Int → Int → Int} {xs : List X} (he : opMinMax f h xs = some e) : AccOK (fun h => opMinMax f h xs) h e := by
  refine AccOK.of_map ((opMinMax f [] xs).map fun e => (e.pre, e.x)) (fun h => ?_) he
  unfold opMinMax
  split
  · simp [Option.map_map, Function.comp_def]
  · rfl

theorem field_acc {t : Nat} {x : X} {f : Nat} (he : opField T h t x f = some e) : AccOK (fun h => opField T h t x f) h e := by
  refine AccOK.of_map ((opField T [] t x f).map fun e => (e.pre, e.x)) (fun h => ?_) he
  unfold opField
  split
  · split
    · split
      · unfold partX; split <;> rfl
      · rfl
    · rfl
  · rfl

theorem fieldAddr_acc {t : Nat} {x : X} {f : Nat} (he : opFieldAddr T h t x f = some e) : AccOK (fun h => opFieldAddr T h t x f) h e := by
  refine AccOK.of_map ((opFieldAddr T [] t x f).map fun e => (e.pre, e.x)) (fun h => ?_) he
  unfold opFieldAddr
  split
  · split
    · split
      · split <;> rfl
      · rfl
    · rfl
  · rfl

theorem index_acc {t : Nat} {x i : X} (he : opIndex T h t x i = some e) : AccOK (fun h => opIndex T h t x i) h e := by
  refine AccOK.of_map ((opIndex T [] t x i).map fun e => (e.pre, e.x)) (fun h => ?_) he
  unfold opIndex
  split
  · split
    · unfold partX; split <;> rfl
    · rfl
  · rfl
  · rfl

theorem slOf_pure {x : X} {n : Nat} {cs : List C} {acc : Acc} (he : slOf h x = some (n, cs, acc)) : acc ≠ .write ∧ (acc = .pure → ∀ h2, slOf h2 x = some (n, cs, .pure)) := by
  unfold slOf at he
  split at he
  · cases he; exact ⟨by simp, fun _ _ => rfl⟩
  · cases he; exact ⟨by simp, fun _ _ => rfl⟩
  · cases he; exact ⟨by simp, fun _ _ => rfl⟩
  · split at he
    · split at he
      · cases he; exact ⟨by simp, fun h => by cases h⟩
      · cases he
    · cases he
  · split at he
    · split at he
      · cases he; exact ⟨by simp, fun h => by cases h⟩
      · cases he
    · cases he
  · cases he

theorem convert_acc {s d : Nat} {x : X} (he : opConvert T h s d x = some e) : AccOK (fun h => opConvert T h s d x) h e := by
  unfold opConvert at he
  split at he
  · rename_i si di hs hd
    split at he
    · rename_i h1 h2; cases he; exact ⟨fun _ => rfl, fun _ h2' => by simp [opConvert, hs, hd, h1, h2]⟩
    · rename_i h1 h2; cases he; exact ⟨fun _ => rfl, fun _ h2' => by simp [opConvert, hs, hd, h1, h2]⟩
    · rename_i el x0 hn h1 h2
      split at he
      · rename_i b z n cs acc hel hsl
        cases he
        obtain ⟨q1, q2⟩ := slOf_pure hsl
        refine ⟨fun _ => rfl, fun ha h2' => ?_⟩
        simp only at ha
        have := q2 ha h2'
        simp only [opConvert, hs, hd, h1, h2]
        simp [hel, this]
      · cases he
    · rename_i h1 h2
      split at he
      · rename_i hel; cases he; exact ⟨fun _ => rfl, fun _ h2' => by simp [opConvert, hs, hd, h1, h2, hel]⟩
      · cases he
    · cases he
  · cases he

theorem len_acc {t : Nat} {x : X} (he : opLen T h t x = some e) : AccOK (fun h => opLen T h t x) h e := by
  unfold opLen at he
  split at he
  · rename_i ht; cases he; exact ⟨fun _ => rfl, fun _ h2 => by simp [opLen, ht]⟩
  · rename_i ht
    split at he
    · cases he; exact ⟨fun _ => rfl, fun _ h2 => by simp [opLen, ht]⟩
    · cases he
  · rename_i ht
    split at he
    · rename_i n cs acc hsl
      cases he
      obtain ⟨q1, q2⟩ := slOf_pure hsl
      exact ⟨fun _ => rfl, fun ha h2 => by simp [opLen, ht, q2 ha h2]⟩
    · split at he
      · cases he; exact ⟨fun _ => rfl, fun h => by cases h⟩
      · cases he
  · cases he

theorem cellsAt_pure {x : X} {cs : Cs} {acc : Acc} (he : cellsAt h x = some (cs, acc)) : acc ≠ .write ∧ (acc = .pure → ∀ h2, cellsAt h2 x = some (cs, .pure)) := by
  unfold cellsAt at he
  split at he
  · cases he; exact ⟨by simp, fun _ _ => rfl⟩
  · split at he
    · split at he
      · split at he
        · cases he; exact ⟨by simp, fun h => by cases h⟩
        · cases he; exact ⟨by simp, fun h => by cases h⟩
      · cases he
    · split at he
      · cases he; exact ⟨by simp, fun h => by cases h⟩
      · cases he
    · split at he
      · cases he; exact ⟨by simp, fun h => by cases h⟩
      · cases he
    · split at he
      · cases he; exact ⟨by simp, fun h => by cases h⟩
      · cases he
    · cases he
  · cases he

theorem load_acc {t : Nat} {x : X} (he : opLoad T h t x = some e) : AccOK (fun h => opLoad T h t x) h e := by
  unfold opLoad at he
  split at he
  · rename_i ti cs acc ht hc
    obtain ⟨q1, q2⟩ := cellsAt_pure hc
    split at he
    · rename_i ha; cases he; exact ⟨fun _ => rfl, fun hp h2 => by simp [opLoad, ht, q2 hp h2, ha]⟩
    · rename_i ha; cases he; exact ⟨fun _ => rfl, fun hp h2 => by simp [opLoad, ht, q2 hp h2, ha]⟩
  · rename_i ti xs acc ht hc
    obtain ⟨q1, q2⟩ := cellsAt_pure hc
    split at he
    · split at he
      · cases he; exact ⟨fun h => absurd rfl h, fun h => by cases h⟩
      · cases he
    · rename_i ha
      split at he
      · cases he; exact ⟨fun _ => rfl, fun hp h2 => by simp [opLoad, ht, q2 hp h2, ha]⟩
      · cases he
  · cases he

theorem write_acc {f : List Blk → Option Eff} (hw : e.acc = .write) : AccOK f h e := ⟨fun h => absurd hw h, fun h => by rw [hw] at h; cases h⟩

theorem build_acc {t : Nat} {ps : List (Nat × Operand)} (he : opBuild T ev h t ps = some e) : AccOK (fun h => opBuild T ev h t ps) h e := by
  cases hpl : partsPlain ev ps with
  | true =>
    obtain ⟨vs, hvs⟩ := partVs_plain hpl
    refine AccOK.of_map ((opBuild T ev [] t ps).map fun e => (e.pre, e.x)) (fun h => ?_) he
    unfold opBuild
    simp only [hvs, hpl, if_true]
    cases T t with
    | none => rfl
    | some ti =>
      simp only
      split
      · split <;> rfl
      · split <;> rfl
      · rfl
  | false =>
    unfold opBuild at he
    simp only [hpl, Bool.false_eq_true, if_false] at he
    split at he
    · split at he
      · split at he
        · cases he; exact write_acc rfl
        · cases he
      · split at he
        · cases he; exact write_acc rfl
        · cases he
      · cases he
    · cases he

theorem buildL_acc {t : Nat} {ps : List (Nat × Operand)} (he : opBuildL T ev h t ps = some e) : AccOK (fun h => opBuildL T ev h t ps) h e := by
  unfold opBuildL at he ⊢
  split at he
  · rename_i fs sz by_ z ht
    split at he
    · rename_i pl hpl
      cases he
      exact AccOK.of_map (some ((fillX (fun i => pl[i]?) z (ps.map fun p => (p.1, ev p.2))).1, .recd (fillX (fun i => pl[i]?) z (ps.map fun p => (p.1, ev p.2))).2)) (fun h => by simp only [ht, hpl, Option.map_some]) (by simp only [ht, hpl])
    · cases he
  · cases he

theorem buildSlice_acc {t len : Nat} {ps : List (Nat × Operand)} (he : opBuildSlice T ev h t len ps = some e) : AccOK (fun h => opBuildSlice T ev h t len ps) h e := by
  cases hpl : partsPlain ev ps with
  | true =>
    obtain ⟨vs, hvs⟩ := partVs_plain hpl
    refine AccOK.of_map ((opBuildSlice T ev [] t len ps).map fun e => (e.pre, e.x)) (fun h => ?_) he
    unfold opBuildSlice
    simp only [hvs, hpl, if_true]
    split
    · split <;> simp_all
    · rfl
  | false =>
    unfold opBuildSlice at he
    simp only [hpl, Bool.false_eq_true, if_false] at he
    split at he
    · split at he
      · cases he; exact write_acc rfl
      · cases he
    · cases he

theorem callS_acc {s : Spec} {xs ys : List X} (he : opCallS s gd h xs ys = some e) : AccOK (fun h => opCallS s gd h xs ys) h e := by
  unfold opCallS at he
  split at he
  · rename_i hs hhs
    unfold hcE at he
    split at he
    · cases he
    · rename_i hc
      cases hw : hs.wr with
      | true => simp [hw] at he; subst he; exact write_acc rfl
      | false => simp [hw] at he; subst he; exact ⟨fun _ => rfl, fun q => by simp at q⟩
  · rename_i hnone
    unfold cvE at he
    split at he
    · rename_i vs h' hv
      cases hpl : xs.all plainX with
      | false =>
        simp only [hpl, Bool.false_eq_true, if_false, Bool.false_and] at he
        split at he
        · split at he
          · cases he; exact write_acc rfl
          · cases he
        · cases he; exact write_acc rfl
      | true =>
        obtain ⟨as, has⟩ := toVs_plain hpl
        rw [has] at hv
        cases hv
        simp only [hpl, if_true, Bool.true_and] at he
        split at he
        · rename_i hg
          split at he
          · rename_i c hc
            cases he
            exact ⟨fun _ => rfl, fun _ h2 => by simp [opCallS, hnone, cvE, has, hg, hc, hpl]⟩
          · cases he
        · rename_i hg
          cases hov : onlyVals (s.res vs) with
          | false =>
            simp only [hov, Bool.false_eq_true, if_false] at he
            cases he; exact write_acc rfl
          | true =>
            obtain ⟨x, hx⟩ := imp_vals hov
            simp only [hov, if_true, hx] at he
            cases he
            exact ⟨fun _ => rfl, fun _ h2 => by simp [opCallS, hnone, cvE, has, hg, hpl, hov, hx]⟩
    · cases he

theorem call_acc {f : X} {xs : List X} (he : opCall G gd h f xs = some e) : AccOK (fun h => opCall G gd h f xs) h e := by
  unfold opCall at he
  split at he
  · rename_i k caps
    split at he
    · rename_i s hs
      have := callS_acc he
      refine ⟨this.1, fun q h2 => ?_⟩
      have := this.2 q h2
      simp only [opCall, hs]; exact this
    · cases he
  · rename_i k caps
    split at he
    · rename_i s hs
      have := callS_acc he
      refine ⟨this.1, fun q h2 => ?_⟩
      have := this.2 q h2
      simp only [opCall, hs]; exact this
    · cases he
  · cases he

theorem indexAddr_acc {t : Nat} {x i : X} (he : opIndexAddr T h t x i = some e) : AccOK (fun h => opIndexAddr T h t x i) h e := by
  unfold opIndexAddr at he
  split at he
  · rename_i ti k n ht
    split at he
    · rename_i len el hk
      split at he
      · rename_i hei
        split at he
        · cases he; exact ⟨fun _ => rfl, fun _ h2 => by simp [opIndexAddr, ht, hk, hei]⟩
        · cases he; exact ⟨fun _ => rfl, fun _ h2 => by simp [opIndexAddr, ht, hk, hei]⟩
        · cases he
      · cases he
    · rename_i el hk
      split at he
      · rename_i hei
        split at he
        · cases he; exact ⟨fun _ => rfl, fun _ h2 => by simp [opIndexAddr, ht, hk, hei]⟩
        · cases he; exact ⟨fun _ => rfl, fun _ h2 => by simp [opIndexAddr, ht, hk, hei]⟩
        · split at he
          · split at he
            · cases he; exact ⟨fun _ => rfl, fun h => by cases h⟩
            · cases he
          · split at he
            · cases he; exact ⟨fun _ => rfl, fun h => by cases h⟩
            · cases he
          · cases he
        · split at he
          · split at he
            · cases he; exact ⟨fun _ => rfl, fun h => by cases h⟩
            · cases he
          · cases he
        · cases he
      · cases he
    · cases he
  · cases he

theorem slice_acc {t : Nat} {x : X} {lo hi mx : Option X} (he : opSlice T h t x lo hi mx = some e) : AccOK (fun h => opSlice T h t x lo hi mx) h e := by
  unfold opSlice at he
  split at he
  · rename_i ht
    split at he
    · split at he
      · rename_i h1 h2; cases he; exact ⟨fun _ => rfl, fun _ h3 => by simp [opSlice, ht, h1, h2]⟩
      · cases he
    · cases he
  · rename_i ht
    split at he
    · cases he
    · rename_i hei
      split at he
      · split at he
        · split at he
          · rename_i h1 h2; cases he; exact ⟨fun _ => rfl, fun _ h3 => by simp [opSlice, ht, hei, h1, h2]⟩
          · cases he
        · split at he
          · rename_i h1 h2; cases he; exact ⟨fun _ => rfl, fun _ h3 => by simp [opSlice, ht, hei, h1, h2]⟩
          · cases he
        · split at he
          · rename_i h1 h2; cases he; exact ⟨fun _ => rfl, fun _ h3 => by simp [opSlice, ht, hei, h1, h2]⟩
          · cases he
        · split at he
          · split at he
            · split at he
              · cases he; exact ⟨fun _ => rfl, fun h => by cases h⟩
              · cases he
            · cases he
          · cases he
        · split at he
          · split at he
            · split at he
              · cases he; exact ⟨fun _ => rfl, fun h => by cases h⟩
              · cases he
            · cases he
          · cases he
        · cases he
      · rename_i m
        cases hpl : plainX x with
        | false =>
          simp only [hpl, Bool.false_eq_true, if_false] at he
          split at he
          · split at he
            · cases he; exact write_acc rfl
            · cases he
          · cases he
        | true =>
          obtain ⟨a, ha⟩ := toV_plain (h := []) hpl
          refine AccOK.of_map ((opSlice T [] t x lo hi (some m)).map fun e => (e.pre, e.x)) (fun h => ?_) (e := e) ?_
          · simp only [opSlice, ht, hei, ha, hpl, if_true]
            cases a with
            | agg ks => rfl
            | c k =>
              cases k with
              | sl n cs => simp only; split <;> rfl
              | _ => rfl
          · simp only [opSlice, ht, hei]
            exact he
  · cases he

end
end Fen
