/- A part of the proof; no statement is proved here: SMacG, SMacA, SMacB. -/
import Derived.Test.YthmebgohfigfpaaParA
import Derived.Test.YthmebgohfigfpaaCoreE

set_option linter.unusedVariables false
set_option linter.unusedSimpArgs false

namespace Fen
open Go Go.Proofs

/-! ### the machine on a heap with more blocks behind it -/
section
variable {h : List Blk} {id : Nat} {p q : Ps} {e : X}
theorem Mach.refs (m : Mach h id p e) : refsX h.length e := by
  rcases m.ev with r | ⟨j, v, es, r, hj, hb, _⟩
  · subst r; simp
  · subst r; simp [lt_of_get hb]
theorem refs_maX (n : Nat) (p : Ps) (e : X) : refsXs n (maX p e) = refsX n e := by simp [maX]
theorem Mach.app (m : Mach h id p e) (ex : List Blk) : Mach (h ++ ex) id p e := by
  refine ⟨by rw [List.getElem?_append_left (lt_of_get m.box)]; exact m.box, ?_⟩
  rcases m.ev with r | ⟨j, v, es, r, hj, hb, hes⟩
  · exact .inl r
  · exact .inr ⟨j, v, es, r, hj, by rw [List.getElem?_append_left (lt_of_get hb)]; exact hb, hes⟩
theorem Mach.many (m : Mach h id p e) (ex : List Blk) : evMany (h ++ ex) e = evMany h e := by
  rcases m.ev with r | ⟨j, v, es, r, hj, hb, hes⟩
  · subst r; rfl
  · subst r; simp only [evMany]; rw [List.getElem?_append_left (lt_of_get hb)]
theorem putM_len (m : Mach h id p e) (q : Ps) (new : List Ev) : h.length ≤ (putM h id e q new).length := by
  unfold putM; rw [List.length_set]; exact (evH_get m new).2
theorem putM_nilE {new : List Ev} (hn : new ≠ []) : putM h id .nil q new = h.set id (.box tM (maX q (.ref h.length (new.length - 1)))) ++ [.sl tE (new.length - 1) true 7 new.length (evsC new)] ∨ h.length ≤ id := by
  rcases Nat.lt_or_ge id h.length with c | c
  · left
    unfold putM evH evX
    rw [if_neg hn, if_neg (fun z => hn (List.eq_nil_of_length_eq_zero z)), List.set_append_left _ _ c]
  · exact .inr c
theorem putM_ref {j v : Nat} {es new : List Ev} (hb : h[j]? = some (.sl tE v true 7 es.length (evsC es))) : putM h id (.ref j v) q new = (h.set j (.sl tE (v + new.length) true 7 (es.length + new.length) (evsC es ++ evsC new))).set id (.box tM (maX q (.ref j (v + new.length)))) := by
  unfold putM; simp only [evH, hb, evX]
theorem Mach.closed (m : Mach h id p e) (hc : ClosedH h) (q : Ps) (new : List Ev) : ClosedH (putM h id e q new) := by
  have hlt := lt_of_get m.box
  rcases m.ev with r | ⟨j, v, es, r, hj, hb, hes⟩
  · subst r
    by_cases c : new = []
    · subst c
      rw [putM_nil m]
      exact hc.set id (by simp [refs_maX])
    · rcases putM_nilE (h := h) (id := id) (q := q) c with z | z
      · rw [z]
        have k := hc.snoc (b := .sl tE (new.length - 1) true 7 new.length (evsC new)) (by simp)
        have := k.set id (b := .box tM (maX q (.ref h.length (new.length - 1)))) (by simp [refs_maX])
        rw [List.set_append_left _ _ hlt] at this
        exact this
      · omega
  · subst r
    rw [putM_ref hb]
    exact (hc.set j (by simp)).set id (by simp [refs_maX, lt_of_get hb])
/-- WHAT LIES BEHIND IS DROPPED -/
theorem Weak.putM {bs : Base} {n : Nat} {r r' : List (Nat × X)} {ex : List Blk} {new : List Ev} (m : Mach h id p e) (hc : ClosedH h) (hl : bs.h0.length ≤ h.length) (hr : keepR r r') (hx : refsR h.length r') : Weak bs ⟨n, r, putM (h ++ ex) id e q new⟩ ⟨n, r', putM h id e q new⟩ := by
  have hlt := lt_of_get m.box
  rcases m.ev with z | ⟨j, v, es, z, hj, hb, hes⟩
  · subst z
    by_cases c : new = []
    · subst c
      rw [putM_nil m, putM_nil (m.app ex), List.set_append_left _ _ hlt]
      exact Weak.drop (hc.set id (by simp [refs_maX])) (by simpa using hl) hr (by simpa using hx)
    · rcases putM_nilE (h := h) (id := id) (q := q) c with z | z
      · rcases putM_nilE (h := h ++ ex) (id := id) (q := q) c with z' | z'
        · rw [z, z', List.set_append_left _ _ hlt]
          have hn : (h.set id (.box tM (maX q (.ref h.length (new.length - 1))))).length = h.length := List.length_set
          have H := ShH.mk (T := h.set id (.box tM (maX q (.ref h.length (new.length - 1))))) (mid := ex) (post := [.sl tE (new.length - 1) true 7 new.length (evsC new)]) (n := h.length) (m := ex.length) hn rfl
          have e1 : (h.set id (.box tM (maX q (.ref h.length (new.length - 1))))).map (shB h.length ex.length) = h.set id (.box tM (maX q (.ref (h ++ ex).length (new.length - 1)))) := by
            rw [List.map_set, map_closed hc]
            congr 1
            simp [shB, maX, shXs, shX, shN]
          rw [e1] at H
          refine Weak.trans (Weak.keep hr) ?_
          have := Weak.mid (bs := bs) (N := n) (r := r') H hl
          have e2 : shR h.length ex.length r' = r' := by
            clear this H hr
            induction r' with
            | nil => rfl
            | cons a l ih =>
              obtain ⟨k, x⟩ := a
              simp only [refsR_cons] at hx
              simp only [shR, List.map_cons] at ih ⊢
              rw [ih hx.2, shX_closed x hx.1]
          rw [e2] at this
          exact this
        · simp at z'; omega
      · omega
  · subst z
    have hj2 := lt_of_get hb
    rw [putM_ref hb, putM_ref (h := h ++ ex) (es := es) (by rw [List.getElem?_append_left hj2]; exact hb), List.set_append_left _ _ hj2, List.set_append_left _ _ (by simpa using hlt)]
    exact Weak.drop ((hc.set j (by simp)).set id (by simp [refs_maX, hj2])) (by simpa using hl) hr (by simpa using hx)
theorem RetTo.putM {bs : Base} {R : X → List Blk → Prop} {x : X} {ex : List Blk} {new : List Ev} (m : Mach h id p e) (hc : ClosedH h) (hl : bs.h0.length ≤ h.length) (hx : refsX h.length x) (hr : R x (putM h id e q new)) : RetTo bs R (putM (h ++ ex) id e q new) x :=
  ⟨x, _, hr, Weak.putM m hc hl ⟨by simp [lk], trivial⟩ ⟨hx, trivial⟩⟩
theorem RetTo.setM {bs : Base} {R : X → List Blk → Prop} {x : X} {ex : List Blk} (m : Mach h id p e) (hc : ClosedH h) (hl : bs.h0.length ≤ h.length) (hx : refsX h.length x) (q : Ps) (hr : R x (Fen.putM h id e q [])) : RetTo bs R (h.set id (.box tM (maX q e)) ++ ex) x := by
  have k := RetTo.putM (q := q) (ex := ex) (new := []) m hc hl hx hr
  rw [putM_nil (m.app ex), List.set_append_left _ _ (lt_of_get m.box)] at k
  exact k
/-- the events' slot behind these -/
def evY (h : List Blk) (new : List Ev) (e : X) : X := evX h new.length e
theorem putM_at (m : Mach h id p e) (q : Ps) (new : List Ev) : (putM h id e q new)[id]? = some (.box tM (maX q (evY h new e))) := by
  unfold putM evY; exact get_set_eq (evH_get m new).1
theorem putM_set (h : List Blk) (id : Nat) (e : X) (q r : Ps) (new : List Ev) : (putM h id e q new).set id (.box tM (maX r (evY h new e))) = putM h id e r new := by
  unfold putM evY; rw [List.set_set]
theorem putM_two (m : Mach h id p e) (q r : Ps) (a b : List Ev) : putM (putM h id e q a) id (evY h a e) r b = putM h id e r (a ++ b) := putM_put m q r a b
theorem evY_nil (m : Mach h id p e) : evY h [] e = e := by
  unfold evY evX
  rcases m.ev with r | ⟨j, v, es, r, _⟩
  · subst r; rfl
  · subst r; rfl
theorem putM_two0 (m : Mach h id p e) (q r : Ps) (b : List Ev) : putM (putM h id e q []) id e r b = putM h id e r b := by
  have := putM_two m q r [] b
  rw [evY_nil m] at this
  exact this
theorem putM_self (m : Mach h id p e) : putM h id e p [] = h := by
  rw [putM_nil m]; exact set_self m.box
theorem putM_none (m : Mach h id p e) (q : Ps) (new : List Ev) (hn : evMany h e + new.length ≤ 1000000) : allC [evY h new e] = none := (m.put q new hn).none
/-- the machine, its events not too many, on a heap that names its own blocks alone -/
structure MachB (h : List Blk) (id : Nat) (p : Ps) (e : X) (n : Nat) : Prop where
  m : Mach h id p e
  n : evMany h e ≤ n
  c : ClosedH h
theorem MachB.put {n k : Nat} (M : MachB h id p e n) (q : Ps) (new : List Ev) (hk : n + new.length ≤ k) (h1 : k ≤ 1000000) : MachB (putM h id e q new) id q (evY h new e) k :=
  ⟨M.m.put q new (by have := M.n; omega), by rw [evY, putM_many M.m]; have := M.n; omega, M.m.closed M.c q new⟩
theorem MachB.put0 {n k : Nat} (M : MachB h id p e n) (q : Ps) (hk : n ≤ k) (h1 : k ≤ 1000000) : MachB (putM h id e q []) id q e k := by
  have := M.put q [] (k := k) (by simpa using hk) h1
  rw [evY_nil M.m] at this
  exact this
theorem MachB.app {n : Nat} (M : MachB h id p e n) {b : Blk} (hb : refsB (h.length + 1) b) : MachB (h ++ [b]) id p e n :=
  ⟨M.m.app _, by rw [M.m.many]; exact M.n, M.c.snoc hb⟩
theorem MachB.mono {n k : Nat} (M : MachB h id p e n) (hk : n ≤ k) : MachB h id p e k := ⟨M.m, Nat.le_trans M.n hk, M.c⟩
end
/-- a method of the machine that takes a byte -/
def MacOK (N : Nat) (ok : Ps → Int → Prop) (h : List Blk) (id : Nat) (b : Int) : Prop := ∃ p e, MachB h id p e N ∧ ok p b
def macHS (N : Nat) (F : Ps → Int → Ps × List Ev) (ok : Ps → Int → Prop) : HS := { wr := true, eff := fun xs h => match xs with
  | [.ptr id 0 0, .val (.int q b)] => ((q = .u8 ∧ MacOK N ok h id b), .tup [], match h[id]? with | some (.box _ cs) => putM h id (maE cs) (F (maP cs) b).1 (F (maP cs) b).2 | _ => h)
  | _ => (False, .dead, h) }
def MacIn (h : List Blk) (id : Nat) : Prop := ∃ p e, Mach h id p e
theorem MacIn.h {h : List Blk} {id : Nat} {p : Ps} {e : X} (m : Mach h id p e) : MacIn h id := ⟨p, e, m⟩
theorem MacIn.a {h : List Blk} {id : Nat} {p : Ps} {e : X} (m : Mach h id p e) (ex : List Blk) : MacIn (h ++ ex) id := ⟨p, e, m.app ex⟩
theorem MacIn.p {h : List Blk} {id : Nat} {p : Ps} {e : X} {n : Nat} (M : MachB h id p e n) {q : Ps} {new : List Ev} (hn : n + new.length ≤ 1000000) : MacIn (putM h id e q new) id := ⟨_, _, M.m.put q new (by have := M.n; omega)⟩
theorem MacIn.pa {h : List Blk} {id : Nat} {p : Ps} {e : X} {n : Nat} (M : MachB h id p e n) {ex : List Blk} {q : Ps} {new : List Ev} (hn : n + new.length ≤ 1000000) : MacIn (putM (h ++ ex) id e q new) id := ⟨_, _, (M.m.app ex).put q new (by rw [M.m.many]; have := M.n; omega)⟩
def TellOK (N : Nat) (h : List Blk) (id : Nat) (cs : List C) : Prop := ∃ p e v, cs = evC v ∧ MachB h id p e N
end Fen

namespace Fen
open Go Go.Proofs

/-! ### the machine's small methods, on the heap -/
def mbeginHS : HS := { wr := true, eff := fun xs h => match xs with
  | [.ptr id 0 0, .val (.int q n)] => ((q = .i64 ∧ MacIn h id), .tup [], match h[id]? with | some (.box _ cs) => putM h id (maE cs) (sbegin n) [] | _ => h)
  | _ => (False, .dead, h) }
def mbeginSpec : Spec := { pre := fun _ => False, res := fun _ => .many [], hp := some mbeginHS }
def G_mbegin : Specs := []
@[simp] theorem G_mbegin_live : Specs.live G_mbegin = false := rfl
theorem G_mbegin_ok (gl : Gl) : SpecsOK Try.prog gl G_mbegin := .nil _ _
set_option maxRecDepth 10000 in
theorem mbegin_sound (gl : Gl) : Sound Try.prog gl 52 mbeginSpec := by
  refine sound_heap (hs := mbeginHS) (N := Try.f52.ntmps) (rs := Try.f52.results.toList) mixed tok (G_mbegin_ok gl) Try.func52 rfl rfl rfl rfl rfl ?_ ?_
  · intro xs h hp
    simp only [mbeginHS] at hp
    split at hp
    all_goals first | exact hp.elim | simp [Try.f52]
  · intro xs h hp bs hgl hh hro
    have hE : Env.OK ⟨Try.prog, T, G_mbegin, bs⟩ := ⟨tok, by rw [hgl]; exact G_mbegin_ok gl⟩
    simp only [mbeginHS] at hp
    split at hp
    · rename_i id q n
      obtain ⟨rfl, p, e, m⟩ := hp
      have bx := m.box
      have pn := putM_nil (q := sbegin n) m
      have gs := fun y : Blk => get_set_eq (a := y) (lt_of_get bx)
      simp only [tM, maX] at bx pn
      simp [Try.f52, hcEff, mbeginHS, bx, maE, pn, tM, maX, gs, sbegin]
      exact RetTo.same ⟨rfl, pn.symm⟩
    · exact hp.elim
def mspoilHS : HS := { wr := true, eff := fun xs h => match xs with
  | [.ptr id 0 0] => (MacIn h id, .tup [], match h[id]? with | some (.box _ cs) => putM h id (maE cs) (sspoil (maP cs).s) [] | _ => h)
  | _ => (False, .dead, h) }
def mspoilSpec : Spec := { pre := fun _ => False, res := fun _ => .many [], hp := some mspoilHS }
def G_mspoil : Specs := []
@[simp] theorem G_mspoil_live : Specs.live G_mspoil = false := rfl
theorem G_mspoil_ok (gl : Gl) : SpecsOK Try.prog gl G_mspoil := .nil _ _
set_option maxRecDepth 10000 in
theorem mspoil_sound (gl : Gl) : Sound Try.prog gl 84 mspoilSpec := by
  refine sound_heap (hs := mspoilHS) (N := Try.f84.ntmps) (rs := Try.f84.results.toList) mixed tok (G_mspoil_ok gl) Try.func84 rfl rfl rfl rfl rfl ?_ ?_
  · intro xs h hp
    simp only [mspoilHS] at hp
    split at hp
    all_goals first | exact hp.elim | simp [Try.f84]
  · intro xs h hp bs hgl hh hro
    have hE : Env.OK ⟨Try.prog, T, G_mspoil, bs⟩ := ⟨tok, by rw [hgl]; exact G_mspoil_ok gl⟩
    simp only [mspoilHS] at hp
    split at hp
    · rename_i id
      obtain ⟨p, e, m⟩ := hp
      have bx := m.box
      have pn := putM_nil (q := sspoil p.s) m
      have gs := fun y : Blk => get_set_eq (a := y) (lt_of_get bx)
      simp only [tM, maX] at bx pn
      simp [Try.f84, hcEff, mspoilHS, bx, maE, maP, pn, tM, maX, gs, sspoil, m.none]
      exact RetTo.same ⟨rfl, pn.symm⟩
    · exact hp.elim
/-- one more event -/
def mtellHS : HS := { wr := true, eff := fun xs h => match xs with
  | [.ptr id 0 0, .agg cs] => (TellOK 900000 h id cs, .tup [], match h[id]? with | some (.box _ xs) => putM h id (maE xs) (maP xs) [evOf cs] | _ => h)
  | _ => (False, .dead, h) }
def mtellSpec : Spec := { pre := fun _ => False, res := fun _ => .many [], hp := some mtellHS }
def G_mtell : Specs := []
@[simp] theorem G_mtell_live : Specs.live G_mtell = false := rfl
theorem G_mtell_ok (gl : Gl) : SpecsOK Try.prog gl G_mtell := .nil _ _
set_option maxRecDepth 10000 in
theorem mtell_sound (gl : Gl) : Sound Try.prog gl 55 mtellSpec := by
  refine sound_heap (hs := mtellHS) (N := Try.f55.ntmps) (rs := Try.f55.results.toList) mixed tok (G_mtell_ok gl) Try.func55 rfl rfl rfl rfl rfl ?_ ?_
  · intro xs h hp
    simp only [mtellHS] at hp
    split at hp
    all_goals first | exact hp.elim | simp [Try.f55]
  · intro xs h hp bs hgl hh hro
    have hE : Env.OK ⟨Try.prog, T, G_mtell, bs⟩ := ⟨tok, by rw [hgl]; exact G_mtell_ok gl⟩
    simp only [mtellHS] at hp
    split at hp
    · rename_i id cs
      obtain ⟨p, e, v, rfl, M⟩ := hp
      have m := M.m
      have hn := M.n
      have eo := evOf_C v
      simp only [evC] at eo
      have hl : bs.h0.length ≤ h.length := by rw [hh]; exact Nat.le_refl _
      have bx := m.box
      have gs := fun y : Blk => get_set_eq (a := y) (lt_of_get bx)
      have hlt := lt_of_get bx
      have ba : ∀ ex : List Blk, (h ++ ex)[id]? = some (.box tM (maX p e)) := fun ex => by rw [List.getElem?_append_left hlt]; exact bx
      have sa : ∀ (ex : List Blk) (y : Blk), (h ++ ex).set id y = h.set id y ++ ex := fun ex y => List.set_append_left _ _ hlt
      have fin := RetTo.putM (bs := bs) (R := fun x h' => x = .tup [] ∧ h' = putM h id e p [v]) (x := .tup []) (ex := [.box tE ((evC v).map .val)]) (new := [v]) m M.c hl (by simp) ⟨rfl, rfl⟩
      rcases m.ev with z | ⟨j, w, es, z, hj, hb, hes⟩
      · subst z
        have pe : putM (h ++ [.box tE ((evC v).map .val)]) id .nil p [v] = h.set id (.box tM (maX p (.ref (h.length + 1) 0))) ++ [.box tE ((evC v).map .val), .sl tE 0 true 7 1 (evC v)] := by
          rcases putM_nilE (h := h ++ [.box tE ((evC v).map .val)]) (id := id) (q := p) (new := [v]) (by simp) with z | z
          · rw [z, sa, evsC_one, List.append_assoc]; simp
          · simp at z; omega
        rw [pe] at fin
        simp only [tM, tE, maX] at bx ba fin
        simp [Try.f55, hcEff, mtellHS, bx, ba, sa, maE, maP, tM, maX, gs, eo, evC, m.none]
        exact ⟨rfl, fin⟩
      · subst z
        have hj2 := lt_of_get hb
        have bj : ∀ ex : List Blk, (h ++ ex)[j]? = some (.sl tE w true 7 es.length (evsC es)) := fun ex => by rw [List.getElem?_append_left hj2]; exact hb
        have sj : ∀ (ex : List Blk) (y : Blk), (h ++ ex).set j y = h.set j y ++ ex := fun ex y => List.set_append_left _ _ hj2
        have bk : ∀ (ex : List Blk) (y : Blk), (h.set j y ++ ex)[id]? = some (.box tM (maX p (.ref j w))) := fun ex y => by rw [List.getElem?_append_left (by simpa using hlt), get_set_ne (fun z => hj z.symm)]; exact bx
        have sk : ∀ (ex : List Blk) (y z : Blk), (h.set j y ++ ex).set id z = (h.set j y).set id z ++ ex := fun ex y z => List.set_append_left _ _ (by simpa using hlt)
        simp only [evMany, hb] at hn
        have pe := putM_ref (h := h ++ [.box tE ((evC v).map .val)]) (id := id) (q := p) (new := [v]) (es := es) (bj _)
        rw [sj, sk, evsC_one] at pe
        rw [pe] at fin
        simp only [tM, tE, maX] at bx ba bk fin
        simp only [tE] at hb bj
        simp [Try.f55, hcEff, mtellHS, bx, ba, sa, hb, bj, sj, bk, sk, maE, maP, tM, tE, maX, gs, eo, evC, m.none]
        refine ⟨⟨by omega, by omega⟩, ?_⟩
        exact ⟨rfl, fin⟩
    · exact hp.elim
end Fen

namespace Fen
open Go Go.Proofs

def mdispHS : HS := { wr := true, eff := fun xs h => match xs with
  | [.ptr id 0 0, .agg cs] => (TellOK 890000 h id cs, .tup [], match h[id]? with | some (.box _ xs) => putM h id (maE xs) (told (maP xs) (evOf cs)).1 (told (maP xs) (evOf cs)).2 | _ => h)
  | _ => (False, .dead, h) }
def mdispSpec : Spec := { pre := fun _ => False, res := fun _ => .many [], hp := some mdispHS }
def G_mdisp : Specs := [(55, mtellSpec), (52, mbeginSpec)]
@[simp] theorem G_mdisp_live : Specs.live G_mdisp = false := rfl
@[simp] theorem G_mdisp_55 : G_mdisp.find 55 = some mtellSpec := rfl
@[simp] theorem G_mdisp_52 : G_mdisp.find 52 = some mbeginSpec := rfl
theorem G_mdisp_ok (gl : Gl) : SpecsOK Try.prog gl G_mdisp := .cons (mtell_sound gl) (.cons (mbegin_sound gl) (.nil _ _))
set_option maxRecDepth 10000 in
theorem mdisp_sound (gl : Gl) : Sound Try.prog gl 83 mdispSpec := by
  refine sound_heap (hs := mdispHS) (N := Try.f83.ntmps) (rs := Try.f83.results.toList) mixed tok (G_mdisp_ok gl) Try.func83 rfl rfl rfl rfl rfl ?_ ?_
  · intro xs h hp
    simp only [mdispHS] at hp
    split at hp
    all_goals first | exact hp.elim | simp [Try.f83]
  · intro xs h hp bs hgl hh hro
    have hE : Env.OK ⟨Try.prog, T, G_mdisp, bs⟩ := ⟨tok, by rw [hgl]; exact G_mdisp_ok gl⟩
    simp only [mdispHS] at hp
    split at hp
    · rename_i id cs
      obtain ⟨p, e, v, rfl, M⟩ := hp
      have m := M.m
      have hl : bs.h0.length ≤ h.length := by rw [hh]; exact Nat.le_refl _
      have hlt := lt_of_get m.box
      have bx := m.box
      have mn := m.none
      have gs := fun y : Blk => get_set_eq (a := y) hlt
      have ba : ∀ ex : List Blk, (h ++ ex)[id]? = some (.box tM (maX p e)) := fun ex => (m.app ex).box
      have sa : ∀ (ex : List Blk) (y : Blk), (h ++ ex).set id y = h.set id y ++ ex := fun ex y => List.set_append_left _ _ hlt
      have ga : ∀ (ex : List Blk) (y : Blk), (h.set id y ++ ex)[id]? = some y := fun ex y => by rw [List.getElem?_append_left (by simpa using hlt)]; exact get_set_eq hlt
      have sg : ∀ (ex : List Blk) (y z : Blk), (h.set id y ++ ex).set id z = h.set id z ++ ex := fun ex y z => by rw [List.set_append_left _ _ (by simpa using hlt), List.set_set]
      have pa : ∀ (q : Ps) (new : List Ev), (putM h id e q new)[id]? = some (.box tM (maX q (evY h new e))) := fun q new => putM_at m q new
      have pb : ∀ (ex : List Blk) (q : Ps) (new : List Ev), (putM (h ++ ex) id e q new)[id]? = some (.box tM (maX q (evY (h ++ ex) new e))) := fun ex q new => putM_at (m.app ex) q new
      have pp : ∀ (q r : Ps) (a b : List Ev), putM (putM h id e q a) id (evY h a e) r b = putM h id e r (a ++ b) := fun q r a b => putM_two m q r a b
      have pq : ∀ (ex : List Blk) (q r : Ps) (a b : List Ev), putM (putM (h ++ ex) id e q a) id (evY (h ++ ex) a e) r b = putM (h ++ ex) id e r (a ++ b) := fun ex q r a b => putM_two (m.app ex) q r a b
      simp only [tM, maX] at bx ba pa pb
      have eo := evOf_C v
      have pe := unP_C p.ps
      simp only [evC] at eo
      cases hb : p.bad with
      | true =>
        simp [Try.f83, hcEff, mdispHS, and_assoc, mbeginSpec, mtellSpec, mtellHS, mbeginHS, bx, ba, sa, ga, sg, pa, pb, pp, pq, mn, gs, maE, maP, tM, hb, evC, eo, told, unP_C]
        exact ⟨.a m _, RetTo.putM m M.c hl (by simp) ⟨rfl, rfl⟩⟩
      | false =>
        simp [Try.f83, hcEff, mdispHS, and_assoc, mbeginSpec, mtellSpec, mtellHS, mbeginHS, bx, ba, sa, ga, sg, pa, pb, pp, pq, mn, gs, maE, maP, tM, hb, evC, eo, told, unP_C]
        exact ⟨⟨p, e, v, rfl, (M.app (by simp)).mono (by omega)⟩, .pa M (by simp), RetTo.putM m M.c hl (by simp) ⟨rfl, rfl⟩⟩
    · exact hp.elim

def any6 (_ : Ps) (b : Int) : Prop := 0 ≤ b ∧ b < 256
def mgroundHS : HS := macHS 890000 (fun p b => (p, [evCode 1 b])) any6
def mgroundSpec : Spec := { pre := fun _ => False, res := fun _ => .many [], hp := some mgroundHS }
def G_mground : Specs := [(55, mtellSpec)]
@[simp] theorem G_mground_live : Specs.live G_mground = false := rfl
@[simp] theorem G_mground_55 : G_mground.find 55 = some mtellSpec := rfl
theorem G_mground_ok (gl : Gl) : SpecsOK Try.prog gl G_mground := .cons (mtell_sound gl) (.nil _ _)
set_option maxRecDepth 10000 in
theorem mground_sound (gl : Gl) : Sound Try.prog gl 85 mgroundSpec := by
  refine sound_heap (hs := mgroundHS) (N := Try.f85.ntmps) (rs := Try.f85.results.toList) mixed tok (G_mground_ok gl) Try.func85 rfl rfl rfl rfl rfl ?_ ?_
  · intro xs h hp
    simp only [mgroundHS, macHS] at hp
    split at hp
    all_goals first | exact hp.elim | simp [Try.f85]
  · intro xs h hp bs hgl hh hro
    have hE : Env.OK ⟨Try.prog, T, G_mground, bs⟩ := ⟨tok, by rw [hgl]; exact G_mground_ok gl⟩
    simp only [mgroundHS, macHS] at hp
    split at hp
    · rename_i id q b
      obtain ⟨rfl, p, e, M, hb⟩ := hp
      have m := M.m
      have hl : bs.h0.length ≤ h.length := by rw [hh]; exact Nat.le_refl _
      have hlt := lt_of_get m.box
      have bx := m.box
      have mn := m.none
      have gs := fun y : Blk => get_set_eq (a := y) hlt
      have ba : ∀ ex : List Blk, (h ++ ex)[id]? = some (.box tM (maX p e)) := fun ex => (m.app ex).box
      have sa : ∀ (ex : List Blk) (y : Blk), (h ++ ex).set id y = h.set id y ++ ex := fun ex y => List.set_append_left _ _ hlt
      have ga : ∀ (ex : List Blk) (y : Blk), (h.set id y ++ ex)[id]? = some y := fun ex y => by rw [List.getElem?_append_left (by simpa using hlt)]; exact get_set_eq hlt
      have sg : ∀ (ex : List Blk) (y z : Blk), (h.set id y ++ ex).set id z = h.set id z ++ ex := fun ex y z => by rw [List.set_append_left _ _ (by simpa using hlt), List.set_set]
      have pa : ∀ (q : Ps) (new : List Ev), (putM h id e q new)[id]? = some (.box tM (maX q (evY h new e))) := fun q new => putM_at m q new
      have pb : ∀ (ex : List Blk) (q : Ps) (new : List Ev), (putM (h ++ ex) id e q new)[id]? = some (.box tM (maX q (evY (h ++ ex) new e))) := fun ex q new => putM_at (m.app ex) q new
      have pp : ∀ (q r : Ps) (a b : List Ev), putM (putM h id e q a) id (evY h a e) r b = putM h id e r (a ++ b) := fun q r a b => putM_two m q r a b
      have pq : ∀ (ex : List Blk) (q r : Ps) (a b : List Ev), putM (putM (h ++ ex) id e q a) id (evY (h ++ ex) a e) r b = putM (h ++ ex) id e r (a ++ b) := fun ex q r a b => putM_two (m.app ex) q r a b
      simp only [tM, maX] at bx ba pa pb
      have w1 : IntKind.i64.wrap b = b := wrap64 _ (by unfold any6 at hb; omega) (by unfold any6 at hb; omega)
      simp [Try.f85, hcEff, mgroundHS, macHS, and_assoc, mtellSpec, mtellHS, bx, ba, sa, ga, sg, pa, pb, pp, pq, mn, gs, maE, maP, tM, w1]
      exact ⟨⟨p, e, evCode 1 b, rfl, M.mono (by omega)⟩, RetTo.same ⟨rfl, rfl⟩⟩
    · exact hp.elim
def signOn (p : Ps) (b : Int) : Prop := (0 ≤ b ∧ b < 256) ∧ p.it.length ≤ 2
def msignHS : HS := macHS 890000 (fun p b => (signed p b, [])) signOn
def msignSpec : Spec := { pre := fun _ => False, res := fun _ => .many [], hp := some msignHS }
def G_msign : Specs := [(84, mspoilSpec)]
@[simp] theorem G_msign_live : Specs.live G_msign = false := rfl
@[simp] theorem G_msign_84 : G_msign.find 84 = some mspoilSpec := rfl
theorem G_msign_ok (gl : Gl) : SpecsOK Try.prog gl G_msign := .cons (mspoil_sound gl) (.nil _ _)
set_option maxRecDepth 10000 in
theorem msign_sound (gl : Gl) : Sound Try.prog gl 105 msignSpec := by
  refine sound_heap (hs := msignHS) (N := Try.f105.ntmps) (rs := Try.f105.results.toList) mixed tok (G_msign_ok gl) Try.func105 rfl rfl rfl rfl rfl ?_ ?_
  · intro xs h hp
    simp only [msignHS, macHS] at hp
    split at hp
    all_goals first | exact hp.elim | simp [Try.f105]
  · intro xs h hp bs hgl hh hro
    have hE : Env.OK ⟨Try.prog, T, G_msign, bs⟩ := ⟨tok, by rw [hgl]; exact G_msign_ok gl⟩
    simp only [msignHS, macHS] at hp
    split at hp
    · rename_i id q b
      obtain ⟨rfl, p, e, M, hb, hi⟩ := hp
      have m := M.m
      have hl : bs.h0.length ≤ h.length := by rw [hh]; exact Nat.le_refl _
      have hlt := lt_of_get m.box
      have bx := m.box
      have mn := m.none
      have gs := fun y : Blk => get_set_eq (a := y) hlt
      have ba : ∀ ex : List Blk, (h ++ ex)[id]? = some (.box tM (maX p e)) := fun ex => (m.app ex).box
      have sa : ∀ (ex : List Blk) (y : Blk), (h ++ ex).set id y = h.set id y ++ ex := fun ex y => List.set_append_left _ _ hlt
      have ga : ∀ (ex : List Blk) (y : Blk), (h.set id y ++ ex)[id]? = some y := fun ex y => by rw [List.getElem?_append_left (by simpa using hlt)]; exact get_set_eq hlt
      have sg : ∀ (ex : List Blk) (y z : Blk), (h.set id y ++ ex).set id z = h.set id z ++ ex := fun ex y z => by rw [List.set_append_left _ _ (by simpa using hlt), List.set_set]
      have pa : ∀ (q : Ps) (new : List Ev), (putM h id e q new)[id]? = some (.box tM (maX q (evY h new e))) := fun q new => putM_at m q new
      have pb : ∀ (ex : List Blk) (q : Ps) (new : List Ev), (putM (h ++ ex) id e q new)[id]? = some (.box tM (maX q (evY (h ++ ex) new e))) := fun ex q new => putM_at (m.app ex) q new
      have pp : ∀ (q r : Ps) (a b : List Ev), putM (putM h id e q a) id (evY h a e) r b = putM h id e r (a ++ b) := fun q r a b => putM_two m q r a b
      have pq : ∀ (ex : List Blk) (q r : Ps) (a b : List Ev), putM (putM (h ++ ex) id e q a) id (evY (h ++ ex) a e) r b = putM (h ++ ex) id e r (a ++ b) := fun ex q r a b => putM_two (m.app ex) q r a b
      simp only [tM, maX] at bx ba pa pb
      cases hbad : p.bad with
      | true =>
        simp [Try.f105, hcEff, msignHS, macHS, and_assoc, mspoilSpec, mspoilHS, bx, ba, sa, ga, sg, pa, pb, pp, pq, mn, gs, maE, maP, tM, hbad, signed]
        exact ⟨.h m, RetTo.same ⟨rfl, rfl⟩⟩
      | false =>
        by_cases hq : p.it.length = 2
        · simp [Try.f105, hcEff, msignHS, macHS, and_assoc, mspoilSpec, mspoilHS, bx, ba, sa, ga, sg, pa, pb, pp, pq, mn, gs, maE, maP, tM, hbad, signed, hq]
          exact ⟨.h m, RetTo.same ⟨rfl, rfl⟩⟩
        · have hq' : ((p.it.length : Int) = 2) = False := eq_false (by omega)
          simp [Try.f105, hcEff, msignHS, macHS, and_assoc, mspoilSpec, mspoilHS, bx, ba, sa, ga, sg, pa, pb, pp, pq, mn, gs, maE, maP, tM, hbad, signed, hq, hq']
          exact ⟨by omega, rfl, RetTo.same ⟨rfl, by rw [putM_nil m]; rfl⟩⟩
    · exact hp.elim
def msignsHS : HS := macHS 880000 signsF signOn
def msignsSpec : Spec := { pre := fun _ => False, res := fun _ => .many [], hp := some msignsHS }
def G_msigns : Specs := [(105, msignSpec), (83, mdispSpec)]
@[simp] theorem G_msigns_live : Specs.live G_msigns = false := rfl
@[simp] theorem G_msigns_105 : G_msigns.find 105 = some msignSpec := rfl
@[simp] theorem G_msigns_83 : G_msigns.find 83 = some mdispSpec := rfl
theorem G_msigns_ok (gl : Gl) : SpecsOK Try.prog gl G_msigns := .cons (msign_sound gl) (.cons (mdisp_sound gl) (.nil _ _))
set_option maxRecDepth 10000 in
theorem msigns_sound (gl : Gl) : Sound Try.prog gl 87 msignsSpec := by
  refine sound_heap (hs := msignsHS) (N := Try.f87.ntmps) (rs := Try.f87.results.toList) mixed tok (G_msigns_ok gl) Try.func87 rfl rfl rfl rfl rfl ?_ ?_
  · intro xs h hp
    simp only [msignsHS, macHS] at hp
    split at hp
    all_goals first | exact hp.elim | simp [Try.f87]
  · intro xs h hp bs hgl hh hro
    have hE : Env.OK ⟨Try.prog, T, G_msigns, bs⟩ := ⟨tok, by rw [hgl]; exact G_msigns_ok gl⟩
    simp only [msignsHS, macHS] at hp
    split at hp
    · rename_i id q b
      obtain ⟨rfl, p, e, M, hb, hi⟩ := hp
      have m := M.m
      have hl : bs.h0.length ≤ h.length := by rw [hh]; exact Nat.le_refl _
      have hlt := lt_of_get m.box
      have bx := m.box
      have mn := m.none
      have gs := fun y : Blk => get_set_eq (a := y) hlt
      have ba : ∀ ex : List Blk, (h ++ ex)[id]? = some (.box tM (maX p e)) := fun ex => (m.app ex).box
      have sa : ∀ (ex : List Blk) (y : Blk), (h ++ ex).set id y = h.set id y ++ ex := fun ex y => List.set_append_left _ _ hlt
      have ga : ∀ (ex : List Blk) (y : Blk), (h.set id y ++ ex)[id]? = some y := fun ex y => by rw [List.getElem?_append_left (by simpa using hlt)]; exact get_set_eq hlt
      have sg : ∀ (ex : List Blk) (y z : Blk), (h.set id y ++ ex).set id z = h.set id z ++ ex := fun ex y z => by rw [List.set_append_left _ _ (by simpa using hlt), List.set_set]
      have pa : ∀ (q : Ps) (new : List Ev), (putM h id e q new)[id]? = some (.box tM (maX q (evY h new e))) := fun q new => putM_at m q new
      have pb : ∀ (ex : List Blk) (q : Ps) (new : List Ev), (putM (h ++ ex) id e q new)[id]? = some (.box tM (maX q (evY (h ++ ex) new e))) := fun ex q new => putM_at (m.app ex) q new
      have pp : ∀ (q r : Ps) (a b : List Ev), putM (putM h id e q a) id (evY h a e) r b = putM h id e r (a ++ b) := fun q r a b => putM_two m q r a b
      have pq : ∀ (ex : List Blk) (q r : Ps) (a b : List Ev), putM (putM (h ++ ex) id e q a) id (evY (h ++ ex) a e) r b = putM (h ++ ex) id e r (a ++ b) := fun ex q r a b => putM_two (m.app ex) q r a b
      simp only [tM, maX] at bx ba pa pb
      by_cases c : b < 48
      · have c' : (b < 48) = True := eq_true c
        simp [Try.f87, hcEff, msignsHS, macHS, and_assoc, mdispSpec, msignSpec, msignHS, mdispHS, bx, ba, sa, ga, sg, pa, pb, pp, pq, mn, gs, maE, maP, tM, signsF, c']
        exact ⟨⟨p, e, M.mono (by omega), hb, hi⟩, RetTo.same ⟨rfl, rfl⟩⟩
      · have c' : (b < 48) = False := eq_false c
        simp [Try.f87, hcEff, msignsHS, macHS, and_assoc, mdispSpec, msignSpec, msignHS, mdispHS, bx, ba, sa, ga, sg, pa, pb, pp, pq, mn, gs, maE, maP, tM, signsF, c']
        exact ⟨⟨p, e, ⟨3, 0, 0, b, [], p.it, []⟩, rfl, M.mono (by omega)⟩, RetTo.same ⟨rfl, rfl⟩⟩
    · exact hp.elim
def mescapeHS : HS := macHS 880000 (fun _ b => escapeF b) (fun p b => any6 p b ∧ p.bad = false)
def mescapeSpec : Spec := { pre := fun _ => False, res := fun _ => .many [], hp := some mescapeHS }
def G_mescape : Specs := [(52, mbeginSpec), (105, msignSpec), (83, mdispSpec)]
@[simp] theorem G_mescape_live : Specs.live G_mescape = false := rfl
@[simp] theorem G_mescape_52 : G_mescape.find 52 = some mbeginSpec := rfl
@[simp] theorem G_mescape_105 : G_mescape.find 105 = some msignSpec := rfl
@[simp] theorem G_mescape_83 : G_mescape.find 83 = some mdispSpec := rfl
theorem G_mescape_ok (gl : Gl) : SpecsOK Try.prog gl G_mescape := .cons (mbegin_sound gl) (.cons (msign_sound gl) (.cons (mdisp_sound gl) (.nil _ _)))
set_option maxHeartbeats 2000000 in
set_option maxRecDepth 10000 in
theorem mescape_sound (gl : Gl) : Sound Try.prog gl 86 mescapeSpec := by
  refine sound_heap (hs := mescapeHS) (N := Try.f86.ntmps) (rs := Try.f86.results.toList) mixed tok (G_mescape_ok gl) Try.func86 rfl rfl rfl rfl rfl ?_ ?_
  · intro xs h hp
    simp only [mescapeHS, macHS] at hp
    split at hp
    all_goals first | exact hp.elim | simp [Try.f86]
  · intro xs h hp bs hgl hh hro
    have hE : Env.OK ⟨Try.prog, T, G_mescape, bs⟩ := ⟨tok, by rw [hgl]; exact G_mescape_ok gl⟩
    simp only [mescapeHS, macHS] at hp
    split at hp
    · rename_i id q b
      obtain ⟨rfl, p, e, M, hb, hbad⟩ := hp
      have m := M.m
      have hl : bs.h0.length ≤ h.length := by rw [hh]; exact Nat.le_refl _
      have hlt := lt_of_get m.box
      have bx := m.box
      have mn := m.none
      have gs := fun y : Blk => get_set_eq (a := y) hlt
      have ba : ∀ ex : List Blk, (h ++ ex)[id]? = some (.box tM (maX p e)) := fun ex => (m.app ex).box
      have sa : ∀ (ex : List Blk) (y : Blk), (h ++ ex).set id y = h.set id y ++ ex := fun ex y => List.set_append_left _ _ hlt
      have ga : ∀ (ex : List Blk) (y : Blk), (h.set id y ++ ex)[id]? = some y := fun ex y => by rw [List.getElem?_append_left (by simpa using hlt)]; exact get_set_eq hlt
      have sg : ∀ (ex : List Blk) (y z : Blk), (h.set id y ++ ex).set id z = h.set id z ++ ex := fun ex y z => by rw [List.set_append_left _ _ (by simpa using hlt), List.set_set]
      have pa : ∀ (q : Ps) (new : List Ev), (putM h id e q new)[id]? = some (.box tM (maX q (evY h new e))) := fun q new => putM_at m q new
      have pb : ∀ (ex : List Blk) (q : Ps) (new : List Ev), (putM (h ++ ex) id e q new)[id]? = some (.box tM (maX q (evY (h ++ ex) new e))) := fun ex q new => putM_at (m.app ex) q new
      have pp : ∀ (q r : Ps) (a b : List Ev), putM (putM h id e q a) id (evY h a e) r b = putM h id e r (a ++ b) := fun q r a b => putM_two m q r a b
      have pq : ∀ (ex : List Blk) (q r : Ps) (a b : List Ev), putM (putM (h ++ ex) id e q a) id (evY (h ++ ex) a e) r b = putM (h ++ ex) id e r (a ++ b) := fun ex q r a b => putM_two (m.app ex) q r a b
      simp only [tM, maX] at bx ba pa pb
      by_cases c91 : b = 91
      · subst c91
        simp [Try.f86, hcEff, mescapeHS, macHS, and_assoc, mbeginSpec, mdispSpec, msignSpec, msignHS, mdispHS, mbeginHS, bx, ba, sa, ga, sg, pa, pb, pp, pq, mn, gs, maE, maP, tM, escapeF]
        exact ⟨.h m, RetTo.same ⟨rfl, rfl⟩⟩
      have d91 : (b = 91) = False := eq_false c91
      by_cases c93 : b = 93
      · subst c93
        simp [Try.f86, hcEff, mescapeHS, macHS, and_assoc, mbeginSpec, mdispSpec, msignSpec, msignHS, mdispHS, mbeginHS, bx, ba, sa, ga, sg, pa, pb, pp, pq, mn, gs, maE, maP, tM, escapeF]
        exact ⟨.h m, RetTo.same ⟨rfl, rfl⟩⟩
      have d93 : (b = 93) = False := eq_false c93
      by_cases c80 : b = 80
      · subst c80
        simp [Try.f86, hcEff, mescapeHS, macHS, and_assoc, mbeginSpec, mdispSpec, msignSpec, msignHS, mdispHS, mbeginHS, bx, ba, sa, ga, sg, pa, pb, pp, pq, mn, gs, maE, maP, tM, escapeF]
        exact ⟨.h m, RetTo.same ⟨rfl, rfl⟩⟩
      have d80 : (b = 80) = False := eq_false c80
      by_cases c88 : b = 88
      · subst c88
        simp [Try.f86, hcEff, mescapeHS, macHS, and_assoc, mbeginSpec, mdispSpec, msignSpec, msignHS, mdispHS, mbeginHS, bx, ba, sa, ga, sg, pa, pb, pp, pq, mn, gs, maE, maP, tM, escapeF]
        exact ⟨.h m, RetTo.same ⟨rfl, rfl⟩⟩
      have d88 : (b = 88) = False := eq_false c88
      by_cases c94 : b = 94
      · subst c94
        simp [Try.f86, hcEff, mescapeHS, macHS, and_assoc, mbeginSpec, mdispSpec, msignSpec, msignHS, mdispHS, mbeginHS, bx, ba, sa, ga, sg, pa, pb, pp, pq, mn, gs, maE, maP, tM, escapeF]
        exact ⟨.h m, RetTo.same ⟨rfl, rfl⟩⟩
      have d94 : (b = 94) = False := eq_false c94
      by_cases c95 : b = 95
      · subst c95
        simp [Try.f86, hcEff, mescapeHS, macHS, and_assoc, mbeginSpec, mdispSpec, msignSpec, msignHS, mdispHS, mbeginHS, bx, ba, sa, ga, sg, pa, pb, pp, pq, mn, gs, maE, maP, tM, escapeF]
        exact ⟨.h m, RetTo.same ⟨rfl, rfl⟩⟩
      have d95 : (b = 95) = False := eq_false c95
      by_cases c : b < 48
      · have c' : (b < 48) = True := eq_true c
        simp [Try.f86, hcEff, mescapeHS, macHS, and_assoc, mbeginSpec, mdispSpec, msignSpec, msignHS, mdispHS, mbeginHS, bx, ba, sa, ga, sg, pa, pb, pp, pq, mn, gs, maE, maP, tM, escapeF, c', d91, d93, d80, d88, d94, d95]
        refine ⟨.h m, ⟨_, _, M.put (sbegin 2) [] (by simp) (by omega), hb, by simp [sbegin]⟩, RetTo.same ⟨rfl, ?_⟩⟩
        have : signed (sbegin 2) b = { sbegin 2 with it := [u8B b] } := by simp [signed, sbegin]
        exact congrArg (fun q => putM h id e q []) this
      · have c' : (b < 48) = False := eq_false c
        simp [Try.f86, hcEff, mescapeHS, macHS, and_assoc, mbeginSpec, mdispSpec, msignSpec, msignHS, mdispHS, mbeginHS, bx, ba, sa, ga, sg, pa, pb, pp, pq, mn, gs, maE, maP, tM, escapeF, c', d91, d93, d80, d88, d94, d95]
        refine ⟨⟨p, e, ⟨3, 0, 0, b, [], [], []⟩, rfl, M.mono (by omega)⟩, RetTo.same ⟨rfl, ?_⟩⟩
        simp only [told, hbad, Bool.false_eq_true, if_false]
        rfl
    · exact hp.elim
def mlastHS : HS := macHS 880000 lastF (fun p b => any6 p b ∧ 0 ≤ p.s ∧ p.s < 15)
def mlastSpec : Spec := { pre := fun _ => False, res := fun _ => .many [], hp := some mlastHS }
def G_mlast : Specs := [(83, mdispSpec)]
@[simp] theorem G_mlast_live : Specs.live G_mlast = false := rfl
@[simp] theorem G_mlast_83 : G_mlast.find 83 = some mdispSpec := rfl
theorem G_mlast_ok (gl : Gl) : SpecsOK Try.prog gl G_mlast := .cons (mdisp_sound gl) (.nil _ _)
set_option maxHeartbeats 1000000 in
set_option maxRecDepth 10000 in
theorem mlast_sound (gl : Gl) : Sound Try.prog gl 107 mlastSpec := by
  refine sound_heap (hs := mlastHS) (N := Try.f107.ntmps) (rs := Try.f107.results.toList) mixed tok (G_mlast_ok gl) Try.func107 rfl rfl rfl rfl rfl ?_ ?_
  · intro xs h hp
    simp only [mlastHS, macHS] at hp
    split at hp
    all_goals first | exact hp.elim | simp [Try.f107]
  · intro xs h hp bs hgl hh hro
    have hE : Env.OK ⟨Try.prog, T, G_mlast, bs⟩ := ⟨tok, by rw [hgl]; exact G_mlast_ok gl⟩
    simp only [mlastHS, macHS] at hp
    split at hp
    · rename_i id q b
      obtain ⟨rfl, p, e, M, hb, hs⟩ := hp
      have m := M.m
      have hl : bs.h0.length ≤ h.length := by rw [hh]; exact Nat.le_refl _
      have hlt := lt_of_get m.box
      have bx := m.box
      have mn := m.none
      have gs := fun y : Blk => get_set_eq (a := y) hlt
      have ba : ∀ ex : List Blk, (h ++ ex)[id]? = some (.box tM (maX p e)) := fun ex => (m.app ex).box
      have sa : ∀ (ex : List Blk) (y : Blk), (h ++ ex).set id y = h.set id y ++ ex := fun ex y => List.set_append_left _ _ hlt
      have ga : ∀ (ex : List Blk) (y : Blk), (h.set id y ++ ex)[id]? = some y := fun ex y => by rw [List.getElem?_append_left (by simpa using hlt)]; exact get_set_eq hlt
      have sg : ∀ (ex : List Blk) (y z : Blk), (h.set id y ++ ex).set id z = h.set id z ++ ex := fun ex y z => by rw [List.set_append_left _ _ (by simpa using hlt), List.set_set]
      have pa : ∀ (q : Ps) (new : List Ev), (putM h id e q new)[id]? = some (.box tM (maX q (evY h new e))) := fun q new => putM_at m q new
      have pb : ∀ (ex : List Blk) (q : Ps) (new : List Ev), (putM (h ++ ex) id e q new)[id]? = some (.box tM (maX q (evY (h ++ ex) new e))) := fun ex q new => putM_at (m.app ex) q new
      have pp : ∀ (q r : Ps) (a b : List Ev), putM (putM h id e q a) id (evY h a e) r b = putM h id e r (a ++ b) := fun q r a b => putM_two m q r a b
      have pq : ∀ (ex : List Blk) (q r : Ps) (a b : List Ev), putM (putM (h ++ ex) id e q a) id (evY (h ++ ex) a e) r b = putM (h ++ ex) id e r (a ++ b) := fun ex q r a b => putM_two (m.app ex) q r a b
      simp only [tM, maX] at bx ba pa pb
      by_cases c : p.s ≤ 5
      · have c' : (p.s ≤ 5) = True := eq_true c
        have eo := evOf_C ⟨4, 0, p.pv, b, p.ps, p.it, []⟩
        simp only [evC] at eo
        simp [Try.f107, hcEff, mlastHS, macHS, and_assoc, mdispSpec, mdispHS, bx, ba, sa, ga, sg, pa, pb, pp, pq, mn, gs, maE, maP, tM, lastF, c']
        refine ⟨⟨p, e, ⟨4, 0, p.pv, b, p.ps, p.it, []⟩, rfl, (M.app (by simp)).mono (by omega)⟩, ?_⟩
        have eo' : evOf [.int .i64 4, .int .i64 0, .int .u8 p.pv, .int .u8 b, .sl p.ps.length (parC p.ps), .str p.it, .str []] = ⟨4, 0, p.pv, b, p.ps, p.it, []⟩ := evOf_C ⟨4, 0, p.pv, b, p.ps, p.it, []⟩
        rw [eo']
        exact RetTo.putM m M.c hl (by simp) ⟨rfl, rfl⟩
      · have c' : (p.s ≤ 5) = False := eq_false c
        cases hbad : p.bad with
        | true =>
          simp [Try.f107, hcEff, mlastHS, macHS, and_assoc, mdispSpec, mdispHS, bx, ba, sa, ga, sg, pa, pb, pp, pq, mn, gs, maE, maP, tM, lastF, c', hbad]
          exact RetTo.setM m M.c hl (by simp) ⟨11, p.u, p.pv, p.fn, p.ps, p.it, p.tx, true⟩ ⟨rfl, rfl⟩
        | false =>
          simp [Try.f107, hcEff, mlastHS, macHS, and_assoc, mdispSpec, mdispHS, bx, ba, sa, ga, sg, pa, pb, pp, pq, mn, gs, maE, maP, tM, lastF, c', hbad]
          exact RetTo.setM m M.c hl (by simp) ⟨11, p.u, p.pv, b, p.ps, p.it, p.tx, false⟩ ⟨rfl, rfl⟩
    · exact hp.elim
end Fen
