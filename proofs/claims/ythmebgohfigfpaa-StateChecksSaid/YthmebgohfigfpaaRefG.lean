/- A part of the proof; no statement is proved here: Kore53, Kore54, Kore55, SRefG, SRefI, SRefJ. -/
import Derived.Test.YthmebgohfigfpaaCoreE
import Derived.Test.YthmebgohfigfpaaRefF

set_option linter.unusedVariables false
set_option linter.unusedSimpArgs false

/- Part 53: a slice built as one's own; []byte(x) of a slice of bytes of one's own. -/
namespace Fen
open Go Go.RowKit

section
variable {P : Program} {T : TT} {bs : Base} {ops : Array Oper} {dst : Option Tmp} {ty : TypeId} {pos : String} {af : Array Edge} {st : St} {K : St → Prop}
/-- a slice literal as a block of one's own -/
theorem OpW.buildSliceL (hT : TOK P T) {t len : Nat} {parts : Array (Nat × Operand)} (hd : dstOK st.n dst) (hk : effK st dst K (opBuildSliceL T false (evO bs.gl st.r) st.h t len parts.toList)) : OpW P bs ops ⟨dst, .buildSlice t len parts, ty, pos, af, none⟩ st K := by
  unfold effK at hk
  split at hk
  · rename_i e he
    refine OpW.does rfl hd e.x e.h (fun g a w R => ?_) hk.2
    obtain ⟨v, w', h1, h2⟩ := buildSliceL_ok (ρ := a.eval) hT R.heap (fun p _ => R.ev p.2) he hk.1
    refine ⟨v, w', h2.choose, ?_, h2.choose_spec.1, h2.choose_spec.2.1, h2.choose_spec.2.2⟩
    simp [execOp, h1]
  · exact hk.elim
theorem relXs_vals {g : Gh} {h : List Blk} : ∀ (cs : List C) (vs : List Value), RelXs g h (cs.map .val) vs → RepL g.S cs vs
  | [], vs, h => by simpa [RelXs, RepL] using h
  | c :: cs, vs, h => by
    simp only [List.map_cons, RelXs] at h
    obtain ⟨u, us, rfl, h1, h2⟩ := h
    simp only [RelX] at h1
    simp only [RepL]
    exact ⟨u, us, rfl, h1, relXs_vals cs us h2⟩
/-- []byte(x): the memory is marked; it is a value from here on -/
theorem OpW.convOwn (hT : TOK P T) {t e : Nat} {s b s' b' : Nat} {z z' : List X} (ht : T t = some ⟨.slice e, s, b, z⟩) (hte : T e = some ⟨.int .u8, s', b', z'⟩) {x : Operand} {id ver sz n e' : Nat} {cs : List C} (hx : evO bs.gl st.r x = .ref id ver)
    (hb : st.h[id]? = some (.slx e' ver sz n (cs.map .val))) (hn : 0 < n) (hd : dstOK st.n dst) (hK : K (st.put dst (.val (.sl n cs)) (st.h.set id (.sl e' (ver + 1) false sz n cs)))) :
    OpW P bs ops ⟨dst, .convert t t x, ty, pos, af, none⟩ st K := by
  refine OpW.does rfl hd _ _ (fun g a w R => ?_) hK
  have H := R.heap
  have hv := R.ev x
  rw [hx] at hv
  have hv' := relx_ref H hb hv
  have hblk := H.blk id _ hb
  have hlt := lt_of_get hb
  simp only [BlkOK] at hblk
  obtain ⟨h0, hl, hk⟩ := hblk
  rcases hk with ⟨_, hn0, _⟩ | ⟨he, ha, cap, cur, h1, h2, h3, h4, h5, h6, h7⟩
  · omega
  have h6' := relXs_vals _ _ h6
  let S' : Stab := fun b o => if b = (g.ad id).1 then (if o < n * sz then cur[o]? else none) else g.S b o
  have hS : ∀ b o v, g.S b o = some v → S' b o = some v := fun b o u hu => by
    by_cases c1 : b = (g.ad id).1
    · rw [c1, h7] at hu; cases hu
    · simp only [S']; rw [if_neg c1]; exact hu
  have hne : ∀ b o, b ≠ (g.ad id).1 → S' b o = g.S b o := fun b o c => by simp only [S']; rw [if_neg c]
  have hat : ∀ j u, (cur.toList.take (n * sz))[j]? = some u → S' (g.ad id).1 j = some u := fun j u hj => by
    rw [List.getElem?_take] at hj
    split at hj
    · rename_i c
      simp only [S', if_true]; rw [if_pos c]; simpa using hj
    · cases hj
  let g' : Gh := { S := S', ad := g.ad, hd := fun i => if i = id then .slice (some ⟨(g.ad id).1, 0, none⟩) n n else g.hd i, ex := fun i => if i = id then false else g.ex i, marks := g.marks }
  have E : Ext g st.h g' (st.h.set id (.sl e' (ver + 1) false sz n cs)) := ⟨hS, fun i b hi => by
      by_cases ci : i = id
      · subst ci
        rw [hb] at hi
        cases hi
        exact ⟨_, get_set_eq hlt, rfl, by simp [Blk.ver], fun q => by simp [Blk.ver] at q⟩
      · exact ⟨b, by rw [get_set_ne ci]; exact hi, rfl, Nat.le_refl _, fun _ => ⟨rfl, by simp only [g']; rw [if_neg ci]⟩⟩, fun _ h => h⟩
  let w' := w.freeze ⟨(g.ad id).1, cur.size, none⟩ 1
  have hfr : w' = { w with heap := w.heap.modify (g.ad id).1 fun
      | .cells c elem (lo, hi) => .cells c elem (if lo == hi then (cur.size, cur.size + 1) else (min lo cur.size, max hi (cur.size + 1)))
      | o => o } := (if_neg (by decide)).trans rfl
  have hhe : ∀ k, k ≠ (g.ad id).1 → w'.heap[k]? = w.heap[k]? := fun k hk => by
    rw [hfr]
    exact (Array.getElem?_modify ..).trans (if_neg (Ne.symm hk))
  have hce : ∀ b o, w'.cell? ⟨b, o, none⟩ = w.cell? ⟨b, o, none⟩ := fun b o => by
    by_cases c1 : b = (g.ad id).1
    · subst c1
      rw [cell_of h4]
      have : w'.heap[(g.ad id).1]? = some (.cells cur e' (cur.size, cur.size + 1)) := by
        rw [hfr]
        refine (Array.getElem?_modify ..).trans ?_
        rw [if_pos rfl, h4]; rfl
      rw [cell_of this]
    · exact cell_block (hhe b c1)
  have hval : a.eval x = .slice (some ⟨(g.ad id).1, 0, none⟩) n cap := hv'.trans h1
  have hloc := H.loc id hlt he
  refine ⟨.slice (some ⟨(g.ad id).1, 0, none⟩) n cap, w', g', ?_, E, ⟨fun b o u hu => ?_, fun i b hi => ?_, fun i j hi hj ei ej => ?_, fun i hi ei => ?_, H.os, H.tape, H.output, ?_, fun k hk ho => ?_, fun b o hb' ho => ?_, fun k cs hk => ?_, fun m hm => ?_⟩, ?_⟩
  · have hsh : w.shape? (g.ad id).1 = some (e', cur.size) := by simp [World.shape?, h4]
    simp [execOp, hval, convert, run_underlying (hT.slice ht), run_underlying (hT.int hte), markStringish, hsh]
    rfl
  · rw [hce]
    by_cases c1 : b = (g.ad id).1
    · simp only [g', S'] at hu
      rw [if_pos c1] at hu
      split at hu
      · rw [c1, cell_of h4]; exact hu
      · cases hu
    · exact H.stable b o u (by rw [← hne b o c1]; exact hu)
  · rcases set_get hi with ⟨rfl, _, rfl⟩ | ⟨hni, hi'⟩
    · simp only [BlkOK, g', if_true]
      exact ⟨h0, by simpa using hl, .inr (.inr ⟨by trivial, rfl, by rw [ha], by omega, cur.toList.take (n * sz), fun j u hj => by rw [ha, Nat.zero_add]; exact hat j u hj, RepL.mono hS _ _ h6'⟩)⟩
    · refine (H.blk i b hi').mono E rfl (by simp only [g']; rw [if_neg hni]) (by simp only [g']; rw [if_neg hni]) fun hei _ => ?_
      have hd' : (g.ad i).1 ≠ (g.ad id).1 := fun q => hni (H.inj i id (lt_of_get hi') hlt hei he q)
      exact ⟨hhe _ hd', fun o => hne _ _ hd'⟩
  · simp only [g'] at ei ej
    split at ei
    · cases ei
    split at ej
    · cases ej
    exact H.inj i j (by simpa using hi) (by simpa using hj) ei ej
  · simp only [g'] at ei
    split at ei
    · cases ei
    exact H.loc i (by simpa using hi) ei
  · have : w'.heap.size = w.heap.size := by rw [hfr]; simp
    rw [this]; exact H.size
  · have : k ≠ (g.ad id).1 := fun q => by rcases hloc with c | c; omega; exact ho (q ▸ c)
    exact (hhe k this).trans (H.frame k hk ho)
  · have : b ≠ (g.ad id).1 := fun q => by rcases hloc with c | c; omega; exact ho (q ▸ c)
    exact (hne b o this).trans (H.stab b o hb' ho)
  · obtain ⟨vs, q1, q2⟩ := H.gl k cs hk
    exact ⟨vs, fun j u hj => hS _ _ _ (q1 j u hj), RepL.mono hS cs vs q2⟩
  · have : m ≠ (g.ad id).1 := fun q => by have := H.marks m hm; rw [q, h4] at this; cases this
    exact (hhe m this).trans (H.marks m hm)
  · simp only [RelX, RepV]
    exact .inr ⟨_, 0, cap, cur.toList.take (n * sz), rfl, h2, h3, fun j u hj => by rw [Nat.zero_add]; exact hat j u hj, RepL.mono hS _ _ h6'⟩
end
end Fen

/- Part 54: a cell of a slice of live cells comes to hold its slice's value. -/
namespace Fen
open Go Go.RowKit

section
variable {bs : Base} {g : Gh} {h : List Blk} {w : World}
theorem HeapOK.reslx (H : HeapOK bs g h w) {id : Nat} {ty : TypeId} {v sz n : Nat} {xs ys : List X} (hb : h[id]? = some (.slx ty v sz n xs)) (hln : ys.length = xs.length) (hr : ∀ vs, RelXs g h xs vs → RelXs g h ys vs) :
    Ext g h g (h.set id (.slx ty v sz n ys)) ∧ HeapOK bs g (h.set id (.slx ty v sz n ys)) w := by
  have E : Ext g h g (h.set id (.slx ty v sz n ys)) := Ext.recd g hb rfl rfl
  refine ⟨E, ⟨H.stable, fun i k hi => ?_, fun i j hi hj => H.inj i j (by simpa using hi) (by simpa using hj), fun i hi => H.loc i (by simpa using hi), H.os, H.tape, H.output, H.size, H.frame, H.stab, H.gl, H.marks⟩⟩
  rcases set_get hi with ⟨rfl, _, rfl⟩ | ⟨hne, hi'⟩
  · have k := H.blk _ _ hb
    simp only [BlkOK] at k ⊢
    obtain ⟨k0, kl, k⟩ := k
    refine ⟨k0, hln.trans kl, ?_⟩
    rcases k with k | ⟨he, ha, cap, cur, h1, h2, h3, h4, h5, h6, h7⟩
    · exact .inl k
    · exact .inr ⟨he, ha, cap, cur, h1, h2, h3, h4, h5, RelXs.mono E _ _ (hr _ h6), h7⟩
  · exact (H.blk i k hi').mono E rfl rfl rfl fun _ _ => ⟨rfl, fun _ => rfl⟩

theorem Weak.solidX {n : Nat} {r : List (Nat × X)} (i j k : Nat) {ty ty' : TypeId} {v0 sz0 n0 : Nat} {xs : List X} {ver sz m : Nat} {p : Bool} {cs : List C} (hb : h[i]? = some (.slx ty v0 sz0 n0 xs)) (hk : xs[k]? = some (.ref j ver)) (hj : h[j]? = some (.sl ty' ver p sz m cs)) :
    Weak bs ⟨n, r, h⟩ ⟨n, r, (h.set j (.sl ty' ver false sz m cs)).set i (.slx ty v0 sz0 n0 (xs.set k (.val (.sl m cs))))⟩ := by
  intro a w ⟨g, R⟩
  have H := R.heap
  have hne : i ≠ j := by rintro rfl; rw [hj] at hb; cases hb
  have k0 := H.blk i _ hb
  simp only [BlkOK] at k0
  obtain ⟨z0, zl, k0⟩ := k0
  rcases k0 with ⟨_, hn0, _⟩ | ⟨_, _, _, cur, _, _, _, _, _, k5, _⟩
  · have := (List.getElem?_eq_some_iff.1 hk).1
    rw [zl, hn0] at this
    omega
  obtain ⟨u, _, hu⟩ := k5.at hk
  have e : toV1 h (.ref j ver) = some (.c (.sl m cs), h.set j (.sl ty' ver false sz m cs)) := by simp only [toV1, hj, if_true]
  obtain ⟨S', E, H', hrep⟩ := toV1_ok H hu e
  have hb1 : (h.set j (.sl ty' ver false sz m cs))[i]? = some (.slx ty v0 sz0 n0 xs) := by rw [get_set_ne hne]; exact hb
  have hu0 : u = g.hd j := by
    simp only [RelX] at hu
    obtain ⟨b, h1, _, _, _, h2⟩ := hu
    rw [hj] at h1; cases h1
    exact h2 rfl
  obtain ⟨E2, H2⟩ := H'.reslx (ys := xs.set k (.val (.sl m cs))) hb1 (by simp) fun vs hvs => by
    obtain ⟨v, hv, hv2⟩ := hvs.at hk
    have hv0 : v = g.hd j := by
      simp only [RelX] at hv2
      obtain ⟨b, h1, _, _, _, h2⟩ := hv2
      rw [get_set_eq (lt_of_get hj)] at h1; cases h1
      exact h2 rfl
    have q := RelXs.set (.val (.sl m cs)) v (by simp only [RelX]; rw [hv0, ← hu0]; exact hrep) k hvs
    have : vs.set k v = vs := by
      refine List.ext_getElem? fun t => ?_
      rw [List.getElem?_set]
      split
      · rename_i c
        subst c
        rw [hv]
        simp [(List.getElem?_eq_some_iff.1 hv).1]
      · rfl
    rwa [this] at q
  exact ⟨_, (R.ext.trans E).trans E2, H2, R.defers, R.size, fun t => RelX.mono E2 _ _ (RelX.mono E _ _ (R.slot t))⟩
end
end Fen

/- Part 55: a slice literal of values as a block of one's own. -/
namespace Fen
open Go Go.RowKit

section
variable {bs : Base} {g : Gh} {h : List Blk} {w : World}
theorem HeapOK.slv (H : HeapOK bs g h w) {id : Nat} {ty : TypeId} {v sz n : Nat} {cs : List C} (hb : h[id]? = some (.slx ty v sz n (cs.map .val))) :
    Ext g h g (h.set id (.sl ty v true sz n cs)) ∧ HeapOK bs g (h.set id (.sl ty v true sz n cs)) w := by
  have E : Ext g h g (h.set id (.sl ty v true sz n cs)) := Ext.recd g hb rfl rfl
  refine ⟨E, ⟨H.stable, fun i k hi => ?_, fun i j hi hj => H.inj i j (by simpa using hi) (by simpa using hj), fun i hi => H.loc i (by simpa using hi), H.os, H.tape, H.output, H.size, H.frame, H.stab, H.gl, H.marks⟩⟩
  rcases set_get hi with ⟨rfl, _, rfl⟩ | ⟨hne, hi'⟩
  · have k := H.blk _ _ hb
    simp only [BlkOK] at k ⊢
    obtain ⟨k0, kl, k⟩ := k
    refine ⟨k0, by simpa using kl, ?_⟩
    rcases k with k | ⟨he, ha, cap, cur, h1, h2, h3, h4, h5, h6, h7⟩
    · exact .inl k
    · exact .inr (.inl ⟨he, ha, cap, cur, h1, h2, h3, h4, h5, relXs_vals _ _ h6, fun o ho => absurd (h7 o) ho⟩)
  · exact (H.blk i k hi').mono E rfl rfl rfl fun _ _ => ⟨rfl, fun _ => rfl⟩
end
section
variable {P : Program} {T : TT} {bs : Base} {ops : Array Oper} {dst : Option Tmp} {ty : TypeId} {pos : String} {af : Array Edge} {st : St} {K : St → Prop}
theorem OpW.buildSliceV (hT : TOK P T) {t len : Nat} {parts : Array (Nat × Operand)} {e sz n : Nat} (cs : List C) {p : Prop} (hd : dstOK st.n dst)
    (he : opBuildSliceL T false (evO bs.gl st.r) st.h t len parts.toList = some ⟨p, .ref st.h.length 0, .write, st.h ++ [.slx e 0 sz n (cs.map .val)]⟩) (hp : p)
    (hK : K (st.put dst (.ref st.h.length 0) (st.h ++ [.sl e 0 true sz n cs]))) : OpW P bs ops ⟨dst, .buildSlice t len parts, ty, pos, af, none⟩ st K := by
  refine OpW.does rfl hd _ _ (fun g a w R => ?_) hK
  obtain ⟨v, w', h1, h2⟩ := buildSliceL_ok (ρ := a.eval) hT R.heap (fun p _ => R.ev p.2) he hp
  obtain ⟨g', E, H', r⟩ := h2
  have hs : (st.h ++ [Blk.slx e 0 sz n (cs.map .val)]).set st.h.length (.sl e 0 true sz n cs) = st.h ++ [.sl e 0 true sz n cs] := by
    rw [List.set_append_right _ _ (Nat.le_refl _)]; simp
  obtain ⟨E2, H2⟩ := H'.slv (id := st.h.length) (ty := e) (v := 0) (sz := sz) (n := n) (cs := cs) (by simp)
  rw [hs] at E2 H2
  exact ⟨v, w', g', by simp [execOp, h1], E.trans E2, H2, RelX.mono E2 _ _ r⟩
end
end Fen

namespace Fen
open Go Go.Proofs

/-! ### ref05.copied: its last row stays one's own -/
theorem rnva (h h' : List Blk) (ids : List (Option Nat)) (r r' : List X) : ∀ cs : List C, renXs h h' ids (cs.map X.val ++ r) (cs.map X.val ++ r') = renXs h h' ids r r'
  | [] => by simp
  | c :: cs => by simp [renXs, renX, rnva h h' ids r r' cs]
def copyX (l : List (List Int)) : X := if l = [] then .nil else .ref 0 0
def copyH (l : List (List Int)) : List Blk := if l = [] then [] else [.slx 51 0 1 l.length ((parC l.dropLast).map .val ++ [.ref 1 0]), .sl 3 0 true 1 (l.getLastD []).length (ints .i64 (l.getLastD []))]
def rcopiedHS : HS := { wr := true, eff := fun xs h => match xs, h with
  | [.val (.sl n cs)], [] => ((∃ l : List (List Int), n = l.length ∧ cs = parC l ∧ l.length ≤ 100 ∧ ∀ r ∈ l, 1 ≤ r.length ∧ r.length ≤ 100), copyX (unP cs), copyH (unP cs))
  | _, h => (False, .dead, h) }
def copyS (l : List (List Int)) (i : Nat) : St := ⟨23, [(0, .val (.sl l.length (parC l))), (3, copyX (l.take i)), (4, .val (.int .i64 i))], copyH (l.take i)⟩
def rcopiedSpec : Spec := { pre := fun _ => False, res := fun _ => .many [], hp := some rcopiedHS }
def G_rcopied : Specs := [(72, (liveOf pemptySpec))]
@[simp] theorem G_rcopied_live : Specs.live G_rcopied = true := rfl
@[simp] theorem G_rcopied_72 : G_rcopied.find 72 = some (liveOf pemptySpec) := rfl
theorem G_rcopied_ok (gl : Gl) : SpecsOK Try.prog gl G_rcopied := .cons (pempty_sound gl).live (.nil _ _)
set_option maxHeartbeats 4000000 in
set_option maxRecDepth 10000 in
theorem rcopied_sound (gl : Gl) : Sound Try.prog gl 109 rcopiedSpec := by
  refine sound_heapA (hs := rcopiedHS) (N := Try.f109.ntmps) (rs := Try.f109.results.toList) tok Try.func109 rfl rfl rfl rfl rfl ?_ ?_
  · intro xs h hp
    simp only [rcopiedHS] at hp
    split at hp
    all_goals first | exact hp.elim | simp [Try.f109]
  · intro xs h hp bs hgl hh hro
    have hE : Env.OK ⟨Try.prog, T, G_rcopied, bs⟩ := ⟨tok, by rw [hgl]; exact G_rcopied_ok gl⟩
    simp only [rcopiedHS] at hp
    split at hp
    · rename_i n cs
      obtain ⟨l, rfl, rfl, hl, hr⟩ := hp
      refine wpc_ok hE mixed _ _ _ ?_
      simp [Try.f109, unP_C]
      refine AWP.rounds (fun i => i ≤ l.length) (copyS l) (fun i => l.length - i) 0 (by simp) ?_ ?_
      · exact Weak.keep (by simp [copyS, copyX, copyH])
      · intro i hi
        refine wpc_ok hE mixed _ _ _ ?_
        rcases Nat.lt_or_ge i l.length with h | h
        · have w1 : IntKind.i64.wrap ((i : Int) + 1) = ((i + 1 : Nat) : Int) := by rw [wrap64 _ (by omega) (by omega)]; omega
          have hda := parC_at h
          have ilt : (i < l.length) = True := eq_true h
          have hrr := hr _ (List.getElem_mem h)
          have ht := List.take_add_one (l := l) (i := i)
          rw [List.getElem?_eq_getElem h] at ht
          generalize l[i] = x at *
          simp only [subC] at hda
          by_cases i0 : i = 0
          · subst i0
            have ht2 : l.take 1 = [x] := by simpa using ht
            simp [copyS, copyX, copyH, hda, ilt, hcEff, rcopiedHS, h]
            exact ⟨by omega, Next.mk 1 (by omega) (by omega) (Weak.ren [some 2, some 0] (baseOK.nil hh) (by simp) (by simp [copyS, copyX, copyH, ht2, parC]) (by simp [copyS, copyX, copyH, ht2]))⟩
          · have hA : l.take i ≠ [] := by simp; exact ⟨i0, fun e => by rw [e] at h; simp at h⟩
            have hAl : (l.take i).length = i := by simp; omega
            obtain ⟨A, hA0⟩ : ∃ A, l.take i = A := ⟨_, rfl⟩
            rw [hA0] at hA hAl ht
            obtain ⟨B, y, rfl⟩ : ∃ B y, A = B ++ [y] := ⟨A.dropLast, A.getLast hA, (List.dropLast_concat_getLast hA).symm⟩
            have hBl : B.length + 1 = i := by simpa using hAl
            have hcS : copyS l i = ⟨23, [(0, .val (.sl l.length (parC l))), (3, .ref 0 0), (4, .val (.int .i64 i))], [.slx 51 0 1 (B.length + 1) ((parC B).map .val ++ [.ref 1 0]), .sl 3 0 true 1 y.length (ints .i64 y)]⟩ := by
              simp only [copyS, copyX, copyH, hA0, if_neg hA, List.dropLast_concat, List.length_append, List.length_cons, List.length_nil, List.getLastD_concat]
            have hk : ((parC B).map X.val ++ [X.ref 1 0, X.ref 2 0])[B.length]? = some (X.ref 1 0) := by
              rw [List.getElem?_append_right (by simp [parC_len])]; simp [parC_len]
            have hk2 : ((parC B).map X.val ++ [X.ref 1 0, X.ref 2 0]).set B.length (.val (.sl y.length (ints .i64 y))) = (parC (B ++ [y])).map X.val ++ [X.ref 2 0] := by
              rw [List.set_append_right _ _ (by simp [parC_len]), parC_app]; simp [parC_len, parC, subC]
            have hne : B ++ [y] ++ [x] ≠ [] := by simp
            have ht' : l.take (i + 1) = B ++ [y] ++ [x] := ht
            have hcT : copyS l (i + 1) = ⟨23, [(0, .val (.sl l.length (parC l))), (3, .ref 0 0), (4, .val (.int .i64 (i + 1 : Nat)))], [.slx 51 0 1 (B.length + 1 + 1) ((parC (B ++ [y])).map .val ++ [.ref 1 0]), .sl 3 0 true 1 x.length (ints .i64 x)]⟩ := by
              simp only [copyS, copyX, copyH, ht', if_neg hne, List.dropLast_concat, List.length_append, List.length_cons, List.length_nil, List.getLastD_concat]
            rw [hcS]
            simp [hda, ilt, hcEff, rcopiedHS, h, w1]
            refine ⟨by omega, by omega, Next.mk (i + 1) (by omega) (by omega) ?_⟩
            rw [hcT]
            refine Weak.trans (Weak.solidX 0 1 B.length rfl hk rfl) ?_
            simp only [List.set_cons_succ, List.set_cons_zero, hk2]
            exact Weak.ren [some 0, some 2] (baseOK.nil hh) (by simp) (by simp [rnva]) (by simp)
        · obtain rfl : i = l.length := by omega
          by_cases l0 : l = []
          · subst l0
            simp [copyS, copyX, copyH, rcopiedHS, hcEff, parC]
            exact RetTo.same ⟨rfl, rfl⟩
          · obtain ⟨B, y, rfl⟩ : ∃ B y, l = B ++ [y] := ⟨l.dropLast, l.getLast l0, (List.dropLast_concat_getLast l0).symm⟩
            have hT : (B ++ [y]).take (B.length + 1) = B ++ [y] := List.take_of_length_le (by simp)
            simp [copyS, copyX, copyH, rcopiedHS, hcEff, hT]
            exact RetTo.same ⟨rfl, rfl⟩
    · exact hp.elim
end Fen

namespace Fen
open Go Go.Proofs

/-! ### ref05.Step -/
def tcC (cs : List C) : Option (List C × List Blk) → Option (List C × List Blk)
  | some (l, h) => some (cs ++ l, h)
  | none => none
@[simp] theorem tcC_some (cs l : List C) (h : List Blk) : tcC cs (some (l, h)) = some (cs ++ l, h) := rfl
@[simp] theorem toCs1_vals (h : List Blk) (r : List X) : ∀ cs : List C, toCs1 h (cs.map X.val ++ r) = tcC cs (toCs1 h r)
  | [] => by rcases h' : toCs1 h r with _ | ⟨l, h2⟩ <;> simp [tcC, h']
  | c :: cs => by
    rw [List.map_cons, List.cons_append, toCs1_cons, toV1_val, tdK_some, toCs1_vals h r cs]
    rcases toCs1 h r with _ | ⟨l, h2⟩ <;> rfl
theorem r5_val {c q : Int} (hc : 48 ≤ c ∧ c ≤ 57) (hq : -1 ≤ q ∧ q ≤ 9999) : (if IntKind.i64.wrap (IntKind.i64.wrap (10 * if 0 < q then q else 0) + IntKind.i64.wrap (IntKind.u8.wrap (c - 48))) < 9999 then IntKind.i64.wrap (IntKind.i64.wrap (10 * if 0 < q then q else 0) + IntKind.i64.wrap (IntKind.u8.wrap (c - 48))) else 9999) = capP (maxZ q * 10 + (c - 48)) := by
  have w1 : IntKind.u8.wrap (c - 48) = c - 48 := by simp [IntKind.wrap, IntKind.signed, IntKind.bits]; omega
  have w2 : IntKind.i64.wrap (c - 48) = c - 48 := wrap64 _ (by omega) (by omega)
  have hz : (if 0 < q then q else 0) = maxZ q := by unfold maxZ; split <;> split <;> omega
  have hm : 0 ≤ maxZ q ∧ maxZ q ≤ 9999 := by unfold maxZ; split <;> omega
  rw [w1, w2, hz, wrap64 (10 * maxZ q) (by omega) (by omega), wrap64 (10 * maxZ q + (c - 48)) (by omega) (by omega)]
  unfold capP
  split <;> split <;> omega
def r05stepSpec : Spec := { pre := pstepSpec.pre, res := pstepSpec.res }
theorem r5_sub {y : List Int} {ps : List (List Int)} (h : SubsOK ps) (hy : y ∈ ps) : y.length ≤ 1000000 := by
  have := h.2 _ hy; omega
def G_r05step : Specs := [(60, (liveOf r05checkoSpec)), (109, rcopiedSpec)]
@[simp] theorem G_r05step_live : Specs.live G_r05step = true := rfl
@[simp] theorem G_r05step_60 : G_r05step.find 60 = some (liveOf r05checkoSpec) := rfl
@[simp] theorem G_r05step_109 : G_r05step.find 109 = some rcopiedSpec := rfl
theorem G_r05step_ok (gl : Gl) : SpecsOK Try.prog gl G_r05step := .cons (r05checko_sound gl).live (.cons (rcopied_sound gl) (.nil _ _))
set_option maxHeartbeats 8000000 in
set_option maxRecDepth 10000 in
theorem r05step_sound (gl : Gl) : Sound Try.prog gl 97 r05stepSpec := by
  refine sound_awp (N := Try.f97.ntmps) (rs := Try.f97.results.toList) tok Try.func97 rfl rfl rfl rfl rfl ?_ ?_ ?_
  · rintro args ⟨ps,c,rfl,hs,hc0,hc1⟩; simp [parV,unP_C,pstepSpec, Try.f97]
  · rintro args ⟨ps,c,rfl,hs,hc0,hc1⟩; simp [parV,unP_C,pstepSpec, r05stepSpec, Try.f97]
  · rintro args ⟨ps,c,rfl,hs,hc0,hc1⟩ bs hgl hh hro
    have hE : Env.OK ⟨Try.prog, T, G_r05step, bs⟩ := ⟨tok, by rw [hgl]; exact G_r05step_ok gl⟩
    simp only [r05stepSpec, parV,unP_C,pstepSpec]
    have iP : R5In [.c (.sl ps.length (parC ps))] := ⟨ps, rfl, hs⟩
    cases hok : parOK ps with
    | false =>
      have e : pstepF ps c = ([], 150) := by simp [pstepF, hok]
      refine wpc_ok hE mixed _ _ _ ?_
      simp [and_assoc, r05stepSpec, r05checkoSpec, rcopiedSpec, Try.f97, r05checkSpec, pcheckSpec, hok, e, iP, parV]
      rfl
    | true =>
      obtain ⟨b1, b2, b3⟩ := pbase_ok hok
      have hF := pstepB_eq c hok
      by_cases hc : c < 48 ∨ 57 < c ∧ c ≠ 58 ∧ c ≠ 59
      · have e : pstepF ps c = ([], 6) := by
          rw [hF]; unfold pstepB; rw [if_neg (by omega), if_neg (by omega), if_neg (by omega)]
        refine wpc_ok hE mixed _ _ _ ?_
        rcases hc with hc | ⟨hc, hc', hc''⟩
        · have k1 : (c < 48) = True := eq_true hc
          have k2 : (c = 58) = False := eq_false (by omega)
          have k3 : (c = 59) = False := eq_false (by omega)
          simp [and_assoc, r05stepSpec, r05checkoSpec, rcopiedSpec, Try.f97, r05checkSpec, pcheckSpec, hok, e, iP, parV, k1, k2, k3]
          rfl
        · have k1 : (c < 48) = False := eq_false (by omega)
          have k0 : (57 < c) = True := eq_true hc
          have k2 : (c = 58) = False := eq_false (by omega)
          have k3 : (c = 59) = False := eq_false (by omega)
          simp [and_assoc, r05stepSpec, r05checkoSpec, rcopiedSpec, Try.f97, r05checkSpec, pcheckSpec, hok, e, iP, parV, k0, k1, k2, k3]
          rfl
      have p1 : ps.length ≤ 16 := (parOK_iff.1 hok).1
      have k1 : (c < 48) = False := eq_false (by omega)
      have k2 : (57 < c → c ≠ 58 → c = 59) := by omega
      rcases Decidable.em (ps = []) with h0 | h0
      · subst h0
        have e0 : parC [] = [] := rfl
        have e2 : unP [] = [] := rfl
        have hcx : copyX [] = .nil := rfl
        have hch : copyH [] = [] := rfl
        have eC : ∃ l : List (List Int), l = [] ∧ [] = parC l ∧ l.length ≤ 100 ∧ ∀ r ∈ l, 1 ≤ r.length ∧ r.length ≤ 100 := ⟨[], rfl, rfl, by decide, by simp⟩
        simp only [List.length_nil, e0] at iP
        have hc3 : c = 59 ∨ c = 58 ∨ 48 ≤ c ∧ c ≤ 57 := by omega
        rcases hc3 with rfl | rfl | hc3
        · have e : pstepF [] 59 = ([[-1], [-1]], 0) := by rw [hF]; rfl
          refine wpcU_ok hE mixed 7 _ _ _ ?_
          simp [and_assoc, r05stepSpec, r05checkoSpec, rcopiedSpec, Try.f97, r05checkSpec, pcheckSpec, hok, iP, parV, rcopiedHS, hcEff, eC, e0, e2, hcx, hch, e]
          refine ⟨⟨[], by simp [parC]⟩, ?_⟩
          refine AWP.regionH hE 0 ?_
          simp
          refine OpW.buildSliceV tok (e := 3) (sz := 1) (n := 1) [.int .i64 (-1)] (p := True) (by simp) (by simp [opBuildSliceL]) trivial ?_
          simp
          rfl
        · have e : pstepF [] 58 = ([[-1, -1]], 0) := by rw [hF]; rfl
          refine wpcU_ok hE mixed 7 _ _ _ ?_
          simp [and_assoc, r05stepSpec, r05checkoSpec, rcopiedSpec, Try.f97, r05checkSpec, pcheckSpec, hok, iP, parV, rcopiedHS, hcEff, eC, e0, e2, hcx, hch, e]
          refine ⟨⟨[], by simp [parC]⟩, ?_⟩
          refine AWP.regionH hE 0 ?_
          simp
          refine OpW.buildSliceV tok (e := 3) (sz := 1) (n := 1) [.int .i64 (-1)] (p := True) (by simp) (by simp [opBuildSliceL]) trivial ?_
          simp
          rfl
        · have d0 : (57 < c) = False := eq_false (by omega)
          have d1 : (c = 59) = False := eq_false (by omega)
          have d2 : (c = 58) = False := eq_false (by omega)
          have e : pstepF [] c = ([[capP (maxZ (-1) * 10 + (c - 48))]], 0) := by rw [hF]; unfold pstepB; rw [if_neg (by omega), if_neg (by omega), if_pos hc3]; rfl
          refine wpcU_ok hE mixed 7 _ _ _ ?_
          simp [and_assoc, r05stepSpec, r05checkoSpec, rcopiedSpec, Try.f97, r05checkSpec, pcheckSpec, hok, iP, parV, rcopiedHS, hcEff, eC, e0, e2, hcx, hch, e, k1, d0, d1, d2]
          refine ⟨⟨[], by simp [parC]⟩, ?_⟩
          refine AWP.regionH hE 0 ?_
          simp
          refine OpW.buildSliceV tok (e := 3) (sz := 1) (n := 1) [.int .i64 (-1)] (p := True) (by simp) (by simp [opBuildSliceL]) trivial ?_
          simp [k1, d0, d1, d2]
          have w1 : IntKind.u8.wrap (c - 48) = c - 48 := by simp [IntKind.wrap, IntKind.signed, IntKind.bits]; omega
          have w2 : IntKind.i64.wrap (c - 48) = c - 48 := wrap64 _ (by omega) (by omega)
          have w3 : capP (maxZ (-1) * 10 + (c - 48)) = c - 48 := by
            have : maxZ (-1) = 0 := rfl
            rw [this]; unfold capP; split <;> omega
          rw [w1, w2, w2, if_pos (by omega), w3]
          exact ⟨rfl, rfl⟩
      · obtain ⟨B, L, rfl⟩ : ∃ B y, ps = B ++ [y] := ⟨ps.dropLast, ps.getLast h0, (List.dropLast_concat_getLast h0).symm⟩
        have e3 : pbase (B ++ [L]) = B ++ [L] := if_neg h0
        have eC : ∃ l : List (List Int), B.length + 1 = l.length ∧ parC (B ++ [L]) = parC l ∧ l.length ≤ 100 ∧ ∀ r ∈ l, 1 ≤ r.length ∧ r.length ≤ 100 := ⟨B ++ [L], by simp, rfl, by omega, fun r hr => by
          have := (subOK_iff.1 ((parOK_iff.1 hok).2.1 r hr)); omega⟩
        have hcx : copyX (B ++ [L]) = .ref 0 0 := if_neg h0
        have hch : copyH (B ++ [L]) = [.slx 51 0 1 (B.length + 1) ((parC B).map .val ++ [.ref 1 0]), .sl 3 0 true 1 L.length (ints .i64 L)] := by
          simp only [copyH, if_neg h0, List.dropLast_concat, List.length_append, List.length_cons, List.length_nil, List.getLastD_concat]
        rw [e3] at hF
        have wB : IntKind.i64.wrap (B.length : Int) = B.length := wrap64 _ (by omega) (by simp at p1; omega)
        have hdr : ((parC B).map X.val ++ [X.ref 1 0]).drop B.length = [X.ref 1 0] := by
          rw [List.drop_append_of_le_length (by simp [parC_len]), List.drop_of_length_le (by simp [parC_len])]; rfl
        have htk : ((parC B).map X.val ++ [X.ref 1 0]).take B.length = (parC B).map X.val := by
          rw [List.take_append_of_le_length (by simp [parC_len]), List.take_of_length_le (by simp [parC_len])]
        have hdk : ((parC B).map X.val ++ [X.ref 1 0]).drop (B.length + 1) = [] := List.drop_of_length_le (by simp [parC_len])
        have hst : ∀ v : X, ((parC B).map X.val ++ [X.ref 1 0]).set B.length v = (parC B).map X.val ++ [v] := fun v => by
          rw [List.set_append_right _ _ (by simp [parC_len])]; simp [parC_len]
        have hL := subOK_iff.1 ((parOK_iff.1 hok).2.1 L (by simp))
        have wL : IntKind.i64.wrap ((L.length : Int) - 1) = (L.length : Int) - 1 := wrap64 _ (by omega) (by omega)
        have hBl : B.length < 16 := by simp at p1; omega
        have hgl : (B ++ [L]).getLastD [] = L := by simp
        simp at iP
        rw [hgl] at hF
        refine wpc_ok hE mixed _ _ _ ?_
        have bL : parC (B ++ [L]) = parC B ++ [.sl L.length (ints .i64 L)] := by rw [parC_app]; rfl
        have hc3 : c = 59 ∨ c = 58 ∨ 48 ≤ c ∧ c ≤ 57 := by omega
        have el : (parC B).length = B.length := parC_len B
        have pC : ∀ l : List (List Int), parC l = l.map subC := fun _ => rfl
        have w3 := last_get hL.1 .i64
        have lt1 : ((B.length : Int) < B.length + 1) = True := eq_true (by omega)
        rcases hc3 with rfl | rfl | hc3
        · by_cases c2 : B.length + 1 = 16
          · have c2' : ((B.length : Int) + 1 = 16) = True := eq_true (by omega)
            have e : pstepF (B ++ [L]) 59 = ([], 3) := by rw [hF]; unfold pstepB; rw [if_pos rfl, if_neg (by simp; omega)]
            simp [and_assoc, r05stepSpec, r05checkoSpec, rcopiedSpec, Try.f97, r05checkSpec, pcheckSpec, hok, iP, parV, rcopiedHS, hcEff, eC, hcx, hch, wB, hdr, lt1, w3, htk, hdk, el, wL, c2', e]
            rfl
          · have c2' : ((B.length : Int) + 1 = 16) = False := eq_false (by omega)
            have e : pstepF (B ++ [L]) 59 = (B ++ [L] ++ [[-1]], 0) := by rw [hF]; unfold pstepB; rw [if_pos rfl, if_pos (by simp; omega)]
            simp [and_assoc, r05stepSpec, r05checkoSpec, rcopiedSpec, Try.f97, r05checkSpec, pcheckSpec, hok, iP, parV, rcopiedHS, hcEff, eC, hcx, hch, wB, hdr, lt1, w3, htk, hdk, el, wL, c2', e]
            exact ⟨by omega, by omega, by rw [parC_app]; rfl⟩
        · by_cases c2 : L.length = 6
          · have c2' : ((L.length : Int) = 6) = True := eq_true (by omega)
            have e : pstepF (B ++ [L]) 58 = ([], 3) := by rw [hF]; unfold pstepB; rw [if_neg (by decide), if_pos rfl, if_neg (by omega)]
            simp [and_assoc, r05stepSpec, r05checkoSpec, rcopiedSpec, Try.f97, r05checkSpec, pcheckSpec, hok, iP, parV, rcopiedHS, hcEff, eC, hcx, hch, wB, hdr, lt1, w3, htk, hdk, el, wL, c2', e]
            rfl
          · have c2' : ((L.length : Int) = 6) = False := eq_false (by omega)
            have e : pstepF (B ++ [L]) 58 = (B ++ [L ++ [-1]], 0) := by rw [hF]; unfold pstepB; rw [if_neg (by decide), if_pos rfl, if_pos (by omega)]; simp
            simp [and_assoc, r05stepSpec, r05checkoSpec, rcopiedSpec, Try.f97, r05checkSpec, pcheckSpec, hok, iP, parV, rcopiedHS, hcEff, eC, hcx, hch, wB, hdr, lt1, w3, htk, hdk, el, hst, wL, c2', e]
            exact ⟨by omega, by omega, by rw [parC_app]; simp [parC, subC]⟩
        · have d0 : (57 < c) = False := eq_false (by omega)
          have d1 : (c = 59) = False := eq_false (by omega)
          have d2 : (c = 58) = False := eq_false (by omega)
          have e : pstepF (B ++ [L]) c = (B ++ [L.dropLast ++ [capP (maxZ (L.getLastD 0) * 10 + (c - 48))]], 0) := by
            rw [hF]; unfold pstepB; rw [if_neg (by omega), if_neg (by omega), if_pos hc3]; simp
          simp [and_assoc, r05stepSpec, r05checkoSpec, rcopiedSpec, Try.f97, r05checkSpec, pcheckSpec, hok, iP, parV, rcopiedHS, hcEff, eC, hcx, hch, wB, hdr, lt1, w3, htk, hdk, el, hst, wL, k1, d0, d1, d2, e]
          have hne : L ≠ [] := fun e => by rw [e] at hL; simp at hL
          obtain ⟨M, q, rfl⟩ : ∃ M q, L = M ++ [q] := ⟨L.dropLast, L.getLast hne, (List.dropLast_concat_getLast hne).symm⟩
          have hv := r5_val hc3 (hL.2.2 q (by simp))
          refine ⟨by simp <;> omega, by simp <;> omega, by simp, by simp <;> omega, by simp <;> omega, by simp, rfl, ?_⟩
          rw [parC_app]
          simp [hv]
          simp [parC, subC]
end Fen

namespace Fen
open Go Go.Proofs

/-! ### the reference's goes (written by wip/gengoes.py) -/
def R5StepIn (a : List V) : Prop := r05stepSpec.pre a
def r05stepoSpec : Spec := { pre := R5StepIn, res := r05stepSpec.res }
theorem r05stepo_sound (gl : Gl) : Sound Try.prog gl 97 r05stepoSpec := r05step_sound gl
def ToldIn (a : List V) : Prop := rtoldSpec.pre a
def rtoldoSpec : Spec := { pre := ToldIn, res := rtoldSpec.res }
theorem rtoldo_sound (gl : Gl) : Sound Try.prog gl 93 rtoldoSpec := rtold_sound gl
def SignedIn (a : List V) : Prop := rsignedSpec.pre a
def rsignedoSpec : Spec := { pre := SignedIn, res := rsignedSpec.res }
theorem rsignedo_sound (gl : Gl) : Sound Try.prog gl 96 rsignedoSpec := rsigned_sound gl
def EscIn (a : List V) : Prop := rescapeSpec.pre a
def rescapeoSpec : Spec := { pre := EscIn, res := rescapeSpec.res }
theorem rescapeo_sound (gl : Gl) : Sound Try.prog gl 95 rescapeoSpec := rescape_sound gl
def rgoesRes : List V → RV := fun args => match args with
  | [.agg p, .c (.int _ b)] => twoV (goes6 (psOf p) b)
  | _ => .many []
theorem Sound.cases {P : Program} {gl : Gl} {f : FuncId} {s : Spec} (hhp : s.hp = none) (en : Enters P f) (H : ∀ args, s.pre args → ∃ t, Sound P gl f t ∧ t.hp = none ∧ t.pre args ∧ t.res args = s.res args) : Sound P gl f s :=
  ⟨en, fun _ args h => by obtain ⟨t, ht, h0, hp, he⟩ := H args h; rw [← he]; exact ht.2.1 h0 args hp, fun hs h => by rw [hhp] at h; cases h⟩
end Fen
