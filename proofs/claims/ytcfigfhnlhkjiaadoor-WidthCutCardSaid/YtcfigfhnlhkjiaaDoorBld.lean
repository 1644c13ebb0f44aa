/- A part of the proof; no statement is proved here: WBldA, WBldB, WBldC, WBldDx. -/
import Derived.Test.YtcfigfhnlhkjiaaDoorUtfA
import Derived.Test.YtcfigfhnlhkjiaaDoorCoreD
import Derived.WalkKit
import Derived.ProofKit
import Derived.Lib.Builder
import Derived.Lib.UnsafeStr
import Derived.Lib.Strings
import Derived.Lib.Slices
import Derived.Lib.Walk
import Derived.Laws.Externs
import Derived.Shelf.RegionOpenPlain

set_option linter.unusedVariables false
set_option linter.unusedSimpArgs false

namespace Fen
open Go Go.Proofs Go.RowKit

theorem sizeBld : (Tryd.prog.info? 53).map (·.size) = some 2 := by kernel_rfl
theorem cellsByte : Tryd.prog.cellsOf 5 = 1 := by kernel_rfl
theorem liesBld : liesAt Tryd.prog Tryd.prog.depth 53 (2 / Tryd.prog.cellsOf 53) 0 53 1 = true := by kernel_rfl

set_option maxHeartbeats 1000000 in
set_option maxRecDepth 100000 in
theorem cc_used (b : Nat) (w : World) (h0 : w.cell? ⟨b, 0, none⟩ = some (.pointer (some ⟨b, 0, none⟩))) :
    Calls Tryd.prog 36 #[.pointer (some ⟨b, 0, none⟩)] w fun e w' => e = .returned (.tuple #[]) ∧ w' = w := by
  obtain ⟨j, hj, _⟩ := Option.map_eq_some_iff.1 sizeBld
  go_enter Tryd.func36, Tryd.ntmps36
  go_wp2
  rw [Lib.run_neq_ptr_same w _ Tryd.underlying50 hj]
  go_wp2
  go_end0
  exact ⟨rfl, rfl⟩

set_option maxHeartbeats 1000000 in
set_option maxRecDepth 100000 in
theorem cc_fresh (b : Nat) (w : World) (h0 : w.cell? ⟨b, 0, none⟩ = some (.pointer none)) (hsh : w.shape? b = some (53, 2)) (hfz : w.frozen? ⟨b, 0, none⟩ = false) :
    Calls Tryd.prog 36 #[.pointer (some ⟨b, 0, none⟩)] w fun e w' => e = .returned (.tuple #[]) ∧ w' = w.setCell ⟨b, 0, none⟩ (.pointer (some ⟨b, 0, none⟩)) := by
  obtain ⟨j, hj, hjs⟩ := Option.map_eq_some_iff.1 sizeBld
  go_enter Tryd.func36, Tryd.ntmps36
  go_wp2
  rw [Lib.run_to_unsafe w ⟨b, 0, none⟩ Tryd.underlying50 Tryd.underlying74 hj (by rw [hjs]; decide) hsh (Nat.zero_lt_succ 1)]
  simp only [Result.andThen]
  rw [Oper.upon_value]
  go_wp2
  rw [run_callFunc_extern Tryd.func45 (by kernel_rfl) (by kernel_rfl) (by kernel_rfl) (e := Extern.AbiNoEscape.same) (by kernel_rfl)]
  rw [Lib.run_noEscape]
  simp only [Result.andThen]
  rw [Oper.upon_value]
  go_wp2
  rw [Lib.run_from_unsafe w ⟨b, 0, none⟩ Tryd.underlying74 Tryd.underlying50 hj hsh liesBld]
  simp only [Result.andThen]
  rw [Oper.upon_value]
  go_wp2
  go_end0
  exact ⟨rfl, rfl⟩

set_option maxHeartbeats 1000000 in
set_option maxRecDepth 100000 in
theorem bld_string (b g : Nat) (l : List UInt8) (cap : Nat) (cur : Array Value) (p : Value) (w : World) (hbk : w.heap[b]? = some (.cells #[p, .slice (some ⟨g, 0, none⟩) l.length cap] 53 (0, 0)))
    (hg : w.heap[g]? = some (.cells cur 5 (0, 0))) (h0 : l ≠ []) (hnc : l.length ≤ cap) (hcm : cap ≤ maxLen) (hcs : cur.size = cap * 1) (hcell : ∀ (j : Nat) (x : UInt8), l[j]? = some x → cur.toList[j]? = some (Value.int .u8 x.toNat)) :
    Calls Tryd.prog 30 #[.pointer (some ⟨b, 0, none⟩)] w fun e w' => e = .returned (.string ⟨l.toArray⟩) ∧ w' = w.drew.freeze ⟨g, 0, none⟩ l.length := by
  have hl0 : l.length ≠ 0 := by simpa using h0
  have c1 : w.drew.cell? ⟨b, 1, none⟩ = some (.slice (some ⟨g, 0, none⟩) l.length cap) := by
    have : w.drew.heap[b]? = some (.cells #[p, .slice (some ⟨g, 0, none⟩) l.length cap] 53 (0, 0)) := hbk
    rw [Lib.cell_of_heap this]; rfl
  have hSD : (Builtin.unsafeSliceData_ #[51] 67 #[.slice (some ⟨g, 0, none⟩) l.length cap]).run Tryd.prog w.drew = .ok (.pointer (some ⟨g, 0, none⟩)) w.drew :=
    Lib.run_unsafeSliceData_row _ _ _ _ _ _ (by omega)
  have hUS : (Builtin.unsafeString_ #[67, 3] 9 #[.pointer (some ⟨g, 0, none⟩), .int .i64 l.length]).run Tryd.prog w.drew = .ok (.string ⟨l.toArray⟩) (w.drew.freeze ⟨g, 0, none⟩ l.length) := by
    refine Lib.run_unsafeString_row w.drew 67 3 9 5 Tryd.underlying67 cellsByte g cur.size (by have hg' : w.drew.heap[g]? = some (.cells cur 5 (0, 0)) := hg; simp [World.shape?, hg']) l h0 (by omega) (by unfold maxLen at hcm; omega) ?_
    intro j x hx
    have hg' : w.drew.heap[g]? = some (.cells cur 5 (0, 0)) := hg
    rw [Go.WideShapes.add_plain, Lib.cell_of_heap hg']
    simpa using hcell j x hx
  have mixed := mixed
  go_enter Tryd.func30, Tryd.ntmps30
  go_wp2
  go_region_o
  all_goals (go_wp2; go_ret; exact ⟨rfl, rfl⟩)

set_option maxHeartbeats 1000000 in
set_option maxRecDepth 100000 in
theorem bld_string_nil (b : Nat) (p : Value) (w : World) (hbk : w.heap[b]? = some (.cells #[p, .slice none 0 0] 53 (0, 0))) :
    Calls Tryd.prog 30 #[.pointer (some ⟨b, 0, none⟩)] w fun e w' => e = .returned (.string ⟨#[]⟩) ∧ w' = w.drew := by
  have hUS := fun (W : World) (q : Option Addr) => Lib.run_unsafeString_none (P := Tryd.prog) W 67 3 9 q
  have c1 : w.drew.cell? ⟨b, 1, none⟩ = some (.slice none 0 0) := by
    have : w.drew.heap[b]? = some (.cells #[p, .slice none 0 0] 53 (0, 0)) := hbk
    rw [Lib.cell_of_heap this]; rfl
  have hSD : (Builtin.unsafeSliceData_ #[51] 67 #[.slice none 0 0]).run Tryd.prog w.drew = .ok (.pointer none) w.drew := rfl
  have mixed := mixed
  go_enter Tryd.func30, Tryd.ntmps30
  go_wp2
  go_region_o
  all_goals (go_wp2; go_ret; exact ⟨rfl, rfl⟩)
end Fen

namespace Fen
open Go Go.Proofs Go.RowKit

def ccHS : HS := { wr := true, eff := fun xs h => match xs with
  | [.ptr id 0 0] => (match h[id]? with
    | some (.box 53 [a, b]) => (a = .val .nilp ∨ a = .ptr id 0 0, .tup [], h.set id (.box 53 [.ptr id 0 0, b]))
    | _ => (False, .dead, h))
  | _ => (False, .dead, h) }
def ccSpec : Spec := { pre := fun _ => False, res := fun _ => .many [], hp := some ccHS }

theorem cc_sound (gl : Gl) : Sound Tryd.prog gl 36 ccSpec := by
  refine ⟨enters_of Tryd.func36 rfl rfl, fun h => (by cases h), fun hs e xs h hp => ?_⟩
  cases e
  simp only [ccHS] at hp
  split at hp
  · rename_i id
    split at hp
    · rename_i a b hb
      intro bs g w vs hgl H r
      simp only [RelXs] at r
      obtain ⟨v, us, rfl, r, rfl⟩ := r
      have hk := H.blk id _ hb
      simp only [BlkOK] at hk
      obtain ⟨hex, ha, hS, cs, hcur, hr⟩ := hk
      simp only [RelXs] at hr
      obtain ⟨va, us, e1, r1, vb, us', rfl, r2, rfl⟩ := hr
      obtain rfl : cs = #[va, vb] := by apply Array.ext'; simpa using e1
      have hself : RelX g (h.set id (.box 53 [.ptr id 0 0, b])) (.ptr id 0 0) (.pointer (some ⟨(g.ad id).1, 0, none⟩)) := by
        simp only [RelX]
        exact ⟨_, get_set_eq (lt_of_get hb), Nat.le_refl _, ⟨_, rfl⟩, fun _ => by rw [ha]⟩
      have hv : v = .pointer (some ⟨(g.ad id).1, 0, none⟩) := by
        simp only [RelX] at r
        obtain ⟨b', hb', _, _, hq⟩ := r
        rw [hb] at hb'; cases hb'
        rw [hq rfl, ha]
      subst hv
      have c0 : w.cell? ⟨(g.ad id).1, 0, none⟩ = some va := by rw [cell_of hcur]; rfl
      have hx : (hcEff ccHS [.ptr id 0 0] h).x = .tup [] ∧ (hcEff ccHS [.ptr id 0 0] h).h = h.set id (.box 53 [.ptr id 0 0, b]) := by simp [hcEff, ccHS, hb]
      rw [hx.1, hx.2]
      rcases hp with rfl | rfl
      · simp only [RelX, RepV] at r1
        subst r1
        refine (cc_fresh _ w c0 (by simp [World.shape?, hcur]) (Lib.frozen_of_heap hcur 0)).mono ?_
        rintro e w' ⟨rfl, rfl⟩
        obtain ⟨E, H'⟩ := H.first (a' := .ptr id 0 0) hb (v := .pointer (some ⟨(g.ad id).1, 0, none⟩)) hself
        exact ⟨_, _, _, g, rfl, ⟨rfl, rfl⟩, E, H', by simp [RelX, RelXs]⟩
      · have hva : va = .pointer (some ⟨(g.ad id).1, 0, none⟩) := by
          simp only [RelX] at r1
          obtain ⟨b', hb', _, _, hq⟩ := r1
          rw [hb] at hb'; cases hb'
          rw [hq rfl, ha]
        subst hva
        refine (cc_used _ w c0).mono ?_
        rintro e w' ⟨rfl, rfl⟩
        have hse : h.set id (.box 53 [.ptr id 0 0, b]) = h := by
          apply List.ext_getElem?; intro i
          rw [List.getElem?_set]
          split
          · rename_i e; subst e; rw [hb, if_pos (lt_of_get hb)]
          · rfl
        rw [hse]
        exact ⟨_, _, _, g, rfl, ⟨rfl, rfl⟩, Ext.refl _ _, H, by simp [RelX, RelXs]⟩
    · exact hp.elim
  · exact hp.elim

def strHS : HS := { wr := true, eff := fun xs h => match xs with
  | [.ptr id 0 0] => (match h[id]? with
    | some (.box 53 [_, .nil]) => (True, .val (.str []), h)
    | some (.box 53 [_, .ref j v]) => (match h[j]? with
      | some (.sl 5 v' p 1 n cs) => (p = true ∧ v = v' ∧ 0 < n ∧ (cs.map byteOf).map byteC = cs, .val (.str (cs.map byteOf)), h.set j (.sl 5 (v' + 1) false 1 0 []))
      | _ => (False, .dead, h))
    | _ => (False, .dead, h))
  | _ => (False, .dead, h) }
def strSpec : Spec := { pre := fun _ => False, res := fun _ => .many [], hp := some strHS }

theorem str_sound (gl : Gl) : Sound Tryd.prog gl 30 strSpec := by
  refine ⟨enters_of Tryd.func30 rfl rfl, fun h => (by cases h), fun hs e xs h hp => ?_⟩
  cases e
  simp only [strHS] at hp
  split at hp
  · rename_i id
    have self : ∀ {bs : Base} {g : Gh} {w : World} {a b : X} {v : Value}, HeapOK bs g h w → h[id]? = some (.box 53 [a, b]) → RelX g h (.ptr id 0 0) v →
        v = .pointer (some ⟨(g.ad id).1, 0, none⟩) ∧ ∃ va vb, w.heap[(g.ad id).1]? = some (.cells #[va, vb] 53 (0, 0)) ∧ RelX g h a va ∧ RelX g h b vb := fun {bs g w a b v} H hb r => by
      have hk := H.blk id _ hb
      simp only [BlkOK] at hk
      obtain ⟨hex, ha, hS, cs, hcur, hr⟩ := hk
      simp only [RelXs] at hr
      obtain ⟨va, us, e1, r1, vb, us', rfl, r2, rfl⟩ := hr
      obtain rfl : cs = #[va, vb] := by apply Array.ext'; simpa using e1
      refine ⟨?_, va, vb, hcur, r1, r2⟩
      simp only [RelX] at r
      obtain ⟨b', hb', _, _, hq⟩ := r
      rw [hb] at hb'; cases hb'
      rw [hq rfl, ha]
    split at hp
    · rename_i a hb
      intro bs g w vs hgl H r
      simp only [RelXs] at r
      obtain ⟨v, us, rfl, r, rfl⟩ := r
      obtain ⟨rfl, va, vb, hcur, _, r2⟩ := self H hb r
      simp only [RelX] at r2; subst r2
      have hx : (hcEff strHS [.ptr id 0 0] h).x = .val (.str []) ∧ (hcEff strHS [.ptr id 0 0] h).h = h := by simp [hcEff, strHS, hb]
      rw [hx.1, hx.2]
      refine (bld_string_nil _ va w hcur).mono ?_
      rintro e w' ⟨rfl, rfl⟩
      exact ⟨_, _, _, g, rfl, ⟨rfl, rfl⟩, Ext.refl _ _, H.drew, by simp [RelX, RepV]⟩
    · rename_i a j v0 hb
      split at hp
      · rename_i v' p n cs hj
        obtain ⟨rfl, rfl, hn, hcs⟩ := hp
        intro bs g w vs hgl H r
        simp only [RelXs] at r
        obtain ⟨v, us, rfl, r, rfl⟩ := r
        obtain ⟨rfl, va, vb, hcur, _, r2⟩ := self H hb r
        have hvb := rel_ref H hj r2
        have hk := H.blk j _ hj
        simp only [BlkOK] at hk
        obtain ⟨h0, hl, hk⟩ := hk
        have hx : (hcEff strHS [.ptr id 0 0] h).x = .val (.str (cs.map byteOf)) ∧ (hcEff strHS [.ptr id 0 0] h).h = h.set j (.sl 5 (v0 + 1) false 1 0 []) := by simp [hcEff, strHS, hb, hj]
        rw [hx.1, hx.2]
        rcases hk with ⟨k1, k2, k3⟩ | ⟨hex, ha, cap, cur, k1, k2, k3, k4, k5, k6, k7⟩ | ⟨hex, hpf, k1, k2, vs, k3, k4⟩
        · omega
        · have hlen : (cs.map byteOf).length = n := by simp; omega
          have hne : cs.map byteOf ≠ [] := fun e => by rw [e] at hlen; simp at hlen; omega
          rw [hvb, k1] at hcur
          have hcell : ∀ (i : Nat) (x : UInt8), (cs.map byteOf)[i]? = some x → cur.toList[i]? = some (Value.int .u8 x.toNat) := fun i x hi => by
            have hc : cs[i]? = some (byteC x) := by rw [← hcs, List.getElem?_map, hi]; rfl
            obtain ⟨u, hu, ru⟩ := k6.at hc
            rw [List.getElem?_take] at hu
            split at hu
            · simp only [byteC, RepV] at ru; rw [hu, ru]
            · cases hu
          rw [← hlen] at hcur k2
          refine (bld_string _ _ (cs.map byteOf) cap cur va w hcur k4 hne k2 k3 k5 hcell).mono ?_
          rintro e w' ⟨rfl, rfl⟩
          obtain ⟨g', E, H'⟩ := H.drew.shut (m := (cs.map byteOf).length) hj hex
          exact ⟨_, _, _, g', rfl, ⟨rfl, rfl⟩, E, H', by simp [RelX, RepV]⟩
        · cases hpf
      · exact hp.elim
    · exact hp.elim
  · exact hp.elim
end Fen

namespace Fen
open Go Go.Proofs

/-- strings.Builder's WriteString, of a heap that holds the builder alone -/
def wsHS : HS := { wr := true, eff := fun xs h => match xs, h with
  | [.ptr 0 0 0, .val (.str s)], [.box 53 [a, .nil]] => ((a = .val .nilp ∨ a = .ptr 0 0 0) ∧ s.length ≤ 140737488355328, .tup [.val (.int .i64 s.length), .dead], [.box 53 [.ptr 0 0 0, .ref 1 0], .sl 5 0 true 1 s.length (s.map byteC)])
  | [.ptr 0 0 0, .val (.str s)], [.box 53 [a, .ref 1 v], .sl 5 v' p 1 n cs] => ((a = .val .nilp ∨ a = .ptr 0 0 0) ∧ v = v' ∧ n + s.length ≤ 140737488355328, .tup [.val (.int .i64 s.length), .dead],
      [.box 53 [.ptr 0 0 0, .ref 1 (v + 1)], .sl 5 (v + 1) p 1 (n + s.length) (cs ++ s.map byteC)])
  | _, _ => (False, .dead, h) }
def wsSpec : Spec := { pre := fun _ => False, res := fun _ => .many [], hp := some wsHS }

def GWs : Specs := [(36, ccSpec)]
@[simp] theorem GWs_39 : GWs.find 36 = some ccSpec := rfl
theorem GWs_ok (gl : Gl) : SpecsOK Tryd.prog gl GWs := .cons (cc_sound gl) (.nil _ _)

set_option maxRecDepth 10000 in
theorem ws_sound (gl : Gl) : Sound Tryd.prog gl 28 wsSpec := by
  refine sound_heap (hs := wsHS) (N := Tryd.f28.ntmps) (rs := Tryd.f28.results.toList) mixed tok (GWs_ok gl) Tryd.func28 rfl rfl rfl rfl rfl ?_ ?_
  · intro xs h hp
    simp only [wsHS] at hp
    split at hp
    · simp [Tryd.f28]
    · simp [Tryd.f28]
    · exact hp.elim
  · intro xs h hp bs hgl hh hro
    simp only [wsHS] at hp
    split at hp
    · rename_i s a
      obtain ⟨h1, h2⟩ := hp
      simp [Tryd.f28, ccSpec, hcEff, wsHS, ccHS]
      exact ⟨rfl, h1, ⟨h2, by omega⟩, rfl, RetTo.same ⟨rfl, rfl⟩⟩
    · rename_i s a v v' p n cs
      obtain ⟨h1, h2, h3⟩ := hp
      subst h2
      simp [Tryd.f28, ccSpec, hcEff, wsHS, ccHS]
      exact ⟨rfl, h1, ⟨h3, by omega⟩, rfl, RetTo.same ⟨rfl, rfl⟩⟩
    · exact hp.elim
end Fen

namespace Fen
open Go Go.Proofs

/-- the bytes of many -/
def textF : List Int → List UInt8
  | [] => []
  | n :: l => bytesS (putI n) ++ textF l
theorem textF_app (l m : List Int) : textF (l ++ m) = textF l ++ textF m := by
  induction l with
  | nil => rfl
  | cons n l ih => simp [textF, ih]
theorem putI_len1 (n : Int) : 1 ≤ (putI n).length ∧ (putI n).length ≤ 4 := by unfold putI; simp only; (repeat' split) <;> simp
theorem textF_len (l : List Int) : l.length ≤ (textF l).length ∧ (textF l).length ≤ 4 * l.length := by
  induction l with
  | nil => simp [textF]
  | cons n l ih => have := putI_len1 n; simp [textF, bytesS]; omega

def textSpec : Spec := { pre := fun args => ∃ l : List Int, args = [intsV l] ∧ (∀ x ∈ l, I64 x) ∧ l.length ≤ 1000000, res := fun args => .one (.val (.c (.str (textF (args.headD default).ints)))) }

def GTx : Specs := [(29, putSpec), (28, wsSpec), (30, strSpec)]
@[simp] theorem GTx_19 : GTx.find 29 = some putSpec := rfl
@[simp] theorem GTx_33 : GTx.find 28 = some wsSpec := rfl
@[simp] theorem GTx_34 : GTx.find 30 = some strSpec := rfl
theorem GTx_ok (gl : Gl) : SpecsOK Tryd.prog gl GTx := .cons (put_sound gl) (.cons (ws_sound gl) (.cons (str_sound gl) (.nil _ _)))

theorem nums_back (s : List UInt8) : (numsS s).map (fun n => UInt8.ofNat n.toNat) = s := by
  unfold numsS
  rw [List.map_map]
  conv => rhs; rw [← List.map_id s]
  apply List.map_congr_left
  intro x _
  simp

theorem nums_back2 (s : List UInt8) : (ints .u8 (numsS s)).map (byteC ∘ byteOf) = ints .u8 (numsS s) := by
  unfold numsS ints
  simp only [List.map_map]
  apply List.map_congr_left
  intro x _
  simp [byteC, byteOf]

def textH (l : List Int) (k : Nat) : List Blk :=
  if k = 0 then [.box 53 [.val .nilp, .nil]] else [.box 53 [.ptr 0 0 0, .ref 1 (k - 1)], .sl 5 (k - 1) true 1 (textF (l.take k)).length ((textF (l.take k)).map byteC)]

def textS (l : List Int) (k : Nat) : St :=
  ⟨17, [(3, .ptr 0 0 0), (6, .val (.sl l.length (ints .i64 l))), (7, .val (.int .i64 l.length)), (8, .val (.int .i64 k))], textH l k⟩

theorem byteOf_byteC (l : List UInt8) : (l.map byteC).map byteOf = l := by
  rw [List.map_map]
  conv => rhs; rw [← List.map_id l]
  apply List.map_congr_left
  intro x _
  simp [byteC, byteOf]

set_option maxRecDepth 10000 in
theorem text_sound (gl : Gl) : Sound Tryd.prog gl 15 textSpec := by
  refine sound_fn (N := Tryd.f15.ntmps) (rs := Tryd.f15.results.toList) mixed tok (GTx_ok gl) Tryd.func15 rfl rfl rfl rfl rfl ?_ ?_ ?_
  · rintro args ⟨l, rfl, h0, h1⟩; simp [Tryd.f15]
  · rintro args ⟨l, rfl, h0, h1⟩; simp [textSpec, Tryd.f15]
  · rintro args ⟨l, rfl, h0, h1⟩ bs hgl hh hro
    have hE : Env.OK ⟨Tryd.prog, T, GTx, bs⟩ := ⟨tok, by rw [hgl]; exact GTx_ok gl⟩
    simp [textSpec, Tryd.f15, and_assoc]
    refine AWP.rounds (fun k => k ≤ l.length) (textS l) (fun k => l.length - k) 0 (by omega) ?_ ?_
    · refine Weak.keep ?_
      simp [textS]
    · intro k hk
      refine wpc_ok hE mixed _ _ _ ?_
      rcases Nat.lt_or_ge k l.length with h | h
      · have hx : I64 l[k] := h0 _ (List.getElem_mem h)
        have hg : l[k]? = some l[k] := List.getElem?_eq_getElem h
        have w1 : IntKind.i64.wrap ((k : Int) + 1) = k + 1 := wrap64 _ (by omega) (by omega)
        have ht : textF (l.take (k + 1)) = textF (l.take k) ++ bytesS (putI l[k]) := by
          rw [List.take_add_one, hg, textF_app]; simp [textF]
        have hl1 := textF_len (l.take k)
        have hl2 := (putI_len1 l[k])
        have hl3 : (bytesS (putI l[k])).length = (putI l[k]).length := by simp [bytesS]
        have hl4 : (l.take k).length = k := by simp; omega
        have hhd : (ints .i64 (l.drop k)).head?.getD C.nilf = C.int .i64 l[k] := by rw [List.drop_eq_getElem_cons h]; rfl
        by_cases h00 : k = 0
        · subst h00
          rw [List.drop_zero] at hhd
          have ht1 : textF (l.take 1) = bytesS (putI l[0]) := by rw [ht]; rfl
          simp [textS, textH, putSpec, wsSpec, wsHS, hcEff, and_assoc, h, hg, hx, hhd]
          refine ⟨by omega, Next.mk 1 (by omega) (by omega) (Weak.heap ?_ ?_)⟩
          · simp [textH, ht1]
          · simp
        · have e1 : k - 1 + 1 = k := by omega
          simp [textS, textH, h00, putSpec, wsSpec, wsHS, hcEff, and_assoc, h, hg, hx, w1, hhd, e1]
          refine ⟨by omega, by omega, Next.mk (k + 1) (by omega) (by omega) (Weak.heap ?_ ?_)⟩
          · simp [textH, ht]
          · simp
      · have : k = l.length := by omega
        subst this
        by_cases h00 : l.length = 0
        · have : l = [] := List.eq_nil_of_length_eq_zero h00
          subst this
          simp [textS, textH, strSpec, strHS, hcEff, textF]
        · simp [textS, textH, h00, strSpec, strHS, hcEff]
          have := textF_len l
          exact ⟨⟨by omega, nums_back2 _⟩, nums_back _⟩
end Fen
