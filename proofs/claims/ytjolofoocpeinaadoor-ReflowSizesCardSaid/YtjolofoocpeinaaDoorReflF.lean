/- A part of the proof; no statement is proved here: FReflO, FReflW. -/
import Derived.Test.YtjolofoocpeinaaDoorReflB
import Derived.Test.YtjolofoocpeinaaDoorGridA
import Derived.Test.YtjolofoocpeinaaDoorCoreF
import Derived.Test.YtjolofoocpeinaaDoorReflD
import Derived.Test.YtjolofoocpeinaaDoorReflE

set_option linter.unusedVariables false
set_option linter.unusedSimpArgs false

namespace Fen
open Go Go.Proofs
def wideA : Cel := ⟨20013, 0, 0, 1, sty0⟩
def wideB : Cel := ⟨0, 0, 0, 2, sty0⟩
def stepO (r : Rw) (b : UInt8) : Rw :=
 if b = 43 then ⟨r.cells, true⟩ else if b = 87 then ⟨r.cells ++ [wideA, wideB], r.wrapped⟩ else if b = 46 then ⟨r.cells ++ [blankF sty0], r.wrapped⟩ else ⟨r.cells ++ [⟨b.toNat, 0, 0, 0, sty0⟩], r.wrapped⟩
def runO (s : List UInt8) : Rw := s.foldl stepO ⟨[], false⟩
def lineO (cols : Nat) (s : List UInt8) : Rw := ⟨(runO s).cells ++ List.replicate (cols - (runO s).cells.length) (blankF sty0), (runO s).wrapped⟩
def ofO (cols : Nat) (l : List (List UInt8)) : List Rw := l.map (lineO cols)
theorem runO_step {s : List UInt8} {k : Nat} (h : k < s.length) : runO (s.take (k + 1)) = stepO (runO (s.take k)) s[k] := by
 unfold runO
 rw [List.take_succ_eq_append_getElem h, List.foldl_append]
 rfl
theorem stepO_of (r : Rw) (b : UInt8) : stepO r b = if (b.toNat : Int) = 43 then ⟨r.cells, true⟩ else if (b.toNat : Int) = 87 then ⟨r.cells ++ [wideA, wideB], r.wrapped⟩ else if (b.toNat : Int) = 46 then ⟨r.cells ++ [blankF sty0], r.wrapped⟩ else ⟨r.cells ++ [⟨b.toNat, 0, 0, 0, sty0⟩], r.wrapped⟩ := by
 have k : ∀ n : Nat, n < 256 → ((b.toNat : Int) = n ↔ b = UInt8.ofNat n) := fun n hn => ⟨fun q => by
   have q2 : b.toNat = n := by omega
   rw [← q2]; simp, fun q => by subst q; simp; omega⟩
 have k1 : (b.toNat : Int) = 43 ↔ b = 43 := k 43 (by decide)
 have k2 : (b.toNat : Int) = 87 ↔ b = 87 := k 87 (by decide)
 have k3 : (b.toNat : Int) = 46 ↔ b = 46 := k 46 (by decide)
 unfold stepO
 simp only [k1, k2, k3]
theorem runO_len (s : List UInt8) : (runO s).cells.length ≤ 2 * s.length := by
 have key : ∀ k, k ≤ s.length → (runO (s.take k)).cells.length ≤ 2 * k := by
   intro k
   induction k with
   | zero => intro _; simp [runO]
   | succ k ih =>
     intro h
     have := ih (by omega)
     rw [runO_step (by omega)]
     unfold stepO
     split
     · simp only; omega
     · split
       · simp; omega
       · split <;> simp <;> omega
 have := key s.length (Nat.le_refl _)
 rwa [List.take_length] at this
def lofOSpec : Spec := { pre := fun args => ∃ (c : Nat) (l : List (List UInt8)), args = [.c (.int .i64 c), .c (.sl l.length (l.map C.str))] ∧ c ≤ 100 ∧ l.length ≤ 100 ∧ ∀ s ∈ l, s.length ≤ 100, res := fun args => match args with
 | [.c (.int _ c), .c (.sl _ cs)] => .one (.val (rowsV (ofO c.toNat (strsOf cs))))
 | _ => .many [] }
def ofB (cols i : Nat) (l : List (List UInt8)) : Blk := .sl 30 0 true 2 i (rowsC ((ofO cols l).take i))
def ofS1 (cols : Nat) (l : List (List UInt8)) (i : Nat) : St :=
 ⟨79, [(0, .val (.int .i64 cols)), (1, .val (.sl l.length (l.map C.str))), (5, .ref 0 0), (6, .val (.int .i64 i))], [ofB cols i l]⟩
def ofS2 (cols : Nat) (l : List (List UInt8)) (i : Nat) (s : List UInt8) (k : Nat) : St :=
 ⟨79, [(0, .val (.int .i64 cols)), (1, .val (.sl l.length (l.map C.str))), (5, .ref 0 0), (6, .val (.int .i64 i)), (7, .ptr 1 0 0), (8, .val (.int .i64 k))],
   [ofB cols i l, .box 30 [.ref 2 0, .val (.bool (runO (s.take k)).wrapped)], .sl 77 0 true 12 (runO (s.take k)).cells.length (celsC (runO (s.take k)).cells)]⟩
def ofS3 (cols : Nat) (l : List (List UInt8)) (i : Nat) (r : Rw) (j : Nat) : St :=
 ⟨79, [(0, .val (.int .i64 cols)), (1, .val (.sl l.length (l.map C.str))), (5, .ref 0 0), (6, .val (.int .i64 i)), (7, .ptr 1 0 0)],
   [ofB cols i l, .box 30 [.ref 2 0, .val (.bool r.wrapped)], .sl 77 0 true 12 (r.cells.length + j) (celsC (r.cells ++ List.replicate j (blankF sty0)))]⟩
def G_lofO : Specs := []
@[simp] theorem G_lofO_live : Specs.live G_lofO = false := rfl
@[simp] theorem G_lofO_nils : Specs.nils G_lofO = false := rfl
theorem G_lofO_ok (gl : Gl) : SpecsOK Tryd.prog gl G_lofO := .nil _ _
set_option maxHeartbeats 4000000 in
set_option maxRecDepth 10000 in
theorem lofO_sound (gl : Gl) : Sound Tryd.prog gl 34 lofOSpec := by
 refine sound_fn (N := Tryd.f34.ntmps) (rs := Tryd.f34.results.toList) mixed tok (G_lofO_ok gl) Tryd.func34 rfl rfl rfl rfl rfl ?_ ?_ ?_
 · rintro args ⟨c,l,rfl,hc,hl,hs⟩; simp [strsOf_C, Tryd.f34]
 · rintro args ⟨c,l,rfl,hc,hl,hs⟩; simp [strsOf_C, lofOSpec, Tryd.f34]
 · rintro args ⟨c,l,rfl,hc,hl,hs⟩ bs hgl hh hro
   have hE : Env.OK ⟨Tryd.prog, T, G_lofO, bs⟩ := ⟨tok, by rw [hgl]; exact G_lofO_ok gl⟩
   simp only [lofOSpec, strsOf_C]
   simp [and_assoc, lofOSpec, Tryd.f34]
   refine AWP.rounds (fun i => i ≤ l.length) (ofS1 c l) (fun i => l.length - i) 0 (by simp) ?_ ?_
   · exact Weak.ren [none] (baseOK.nil hh) (by simp) (by simp [ofS1, ofB]) (by simp [ofS1, ofB])
   · intro i hi
     refine wpc_ok hE mixed _ _ _ ?_
     rcases Nat.lt_or_ge i l.length with h | h
     · have w1 : IntKind.i64.wrap ((i : Int) + 1) = ((i + 1 : Nat) : Int) := by rw [wrap64 _ (by omega) (by omega)]; omega
       have hsl := hs _ (List.getElem_mem h)
       have hm := map_step (lineO c) h
       have e : rowsC ((ofO c l).take (i + 1)) = rowsC ((ofO c l).take i) ++ rowC (lineO c l[i]) := by unfold ofO; rw [hm, rowsC_app]; simp [rowsC]
       have hat : (l.map C.str).drop i = C.str l[i] :: (l.map C.str).drop (i + 1) := by rw [List.drop_eq_getElem_cons (by simpa using h)]; simp
       obtain ⟨s, hse⟩ : ∃ s, l[i] = s := ⟨_, rfl⟩
       rw [hse] at hsl e hat
       have hrl := runO_len s
       have hlen : ((ofO c l).take i).length = i := by simp [ofO]; omega
       simp -implicitDefEqProofs [ofS1, h]
       refine AWP.leaves 2 (ofS2 c l i s s.length) (AWP.rounds (fun k => k ≤ s.length) (ofS2 c l i s) (fun k => s.length - k) 0 (by simp) ?_ ?_) ?_
       · exact Weak.trans (Weak.mkEmpty 1 0 77 12 (by decide) rfl rfl) (Weak.heap (by simp [ofS2, runO]) (by simp [ofS2]))
       · intro k hk
         refine wpc_ok hE mixed _ _ _ ?_
         rcases Nat.lt_or_ge k s.length with g | g
         · have wk : IntKind.i64.wrap ((k : Int) + 1) = ((k + 1 : Nat) : Int) := by rw [wrap64 _ (by omega) (by omega)]; omega
           have hr := runO_step g
           have hkl := runO_len (s.take k)
           rw [List.length_take, Nat.min_eq_left (by omega)] at hkl
           have hS : ofS2 c l i s k = ⟨79, [(0, .val (.int .i64 c)), (1, .val (.sl l.length (l.map C.str))), (5, .ref 0 0), (6, .val (.int .i64 i)), (7, .ptr 1 0 0), (8, .val (.int .i64 k))],
             [ofB c i l, .box 30 [.ref 2 0, .val (.bool (runO (s.take k)).wrapped)], .sl 77 0 true 12 (runO (s.take k)).cells.length (celsC (runO (s.take k)).cells)]⟩ := rfl
           rw [hS]
           obtain ⟨b, hb⟩ : ∃ b, s[k] = b := ⟨_, rfl⟩
           rw [hb, stepO_of] at hr
           have wb : IntKind.i64.wrap (b.toNat : Int) = (b.toNat : Int) := wrap64 _ (by omega) (by have := b.toNat_lt; omega)
           generalize runO (s.take k) = r at *
           obtain ⟨cs, wr⟩ := r
           simp only at hr hkl ⊢
           by_cases c1 : (b.toNat : Int) = 43
           · have c1' : ((b.toNat : Int) = 43) = True := eq_true c1
             rw [if_pos c1] at hr
             simp -implicitDefEqProofs [ofB, hat, hb, g, wk, c1']
             repeat (first | refine And.intro (by decide +kernel) ?_ | refine And.intro (by omega) ?_)
             exact Next.mk (k + 1) g (by omega) (Weak.ren [some 0, some 1, some 2] (baseOK.nil hh) (by simp) (by simp [hr, ofB]) (by simp [ofB]))
           by_cases c2 : (b.toNat : Int) = 87
           · have c1' : ((b.toNat : Int) = 43) = False := eq_false c1
             have c2' : ((b.toNat : Int) = 87) = True := eq_true c2
             rw [if_neg c1, if_pos c2] at hr
             simp -implicitDefEqProofs [ofB, hat, hb, g, wk, c1', c2']
             repeat (first | refine And.intro (by decide +kernel) ?_ | refine And.intro (by omega) ?_)
             exact Next.mk (k + 1) g (by omega) (Weak.ren [some 0, some 1, some 2] (baseOK.nil hh) (by simp) (by simp [hr, ofB, celsC_app]; rfl) (by simp [ofB]))
           by_cases c3 : (b.toNat : Int) = 46
           · have c1' : ((b.toNat : Int) = 43) = False := eq_false c1
             have c2' : ((b.toNat : Int) = 87) = False := eq_false c2
             have c3' : ((b.toNat : Int) = 46) = True := eq_true c3
             rw [if_neg c1, if_neg c2, if_pos c3] at hr
             simp -implicitDefEqProofs [ofB, hat, hb, g, wk, c1', c2', c3']
             repeat (first | refine And.intro (by decide +kernel) ?_ | refine And.intro (by omega) ?_)
             exact Next.mk (k + 1) g (by omega) (Weak.ren [some 0, some 1, some 2] (baseOK.nil hh) (by simp) (by simp [hr, ofB, celsC_app]; rfl) (by simp [ofB]))
           · have c1' : ((b.toNat : Int) = 43) = False := eq_false c1
             have c2' : ((b.toNat : Int) = 87) = False := eq_false c2
             have c3' : ((b.toNat : Int) = 46) = False := eq_false c3
             rw [if_neg c1, if_neg c2, if_neg c3] at hr
             simp -implicitDefEqProofs [ofB, hat, hb, g, wk, wb, c1', c2', c3']
             repeat (first | refine And.intro (by decide +kernel) ?_ | refine And.intro (by omega) ?_)
             exact Next.mk (k + 1) g (by omega) (Weak.ren [some 0, some 1, some 2] (baseOK.nil hh) (by simp) (by simp [hr, ofB, celsC_app]; rfl) (by simp [ofB]))
         · obtain rfl : k = s.length := by omega
           simp -implicitDefEqProofs [ofS2, hat, h]
           exact Leaves.mk (Weak.heap rfl (by simp [ofB]))
       have hT : s.take s.length = s := List.take_of_length_le (Nat.le_refl _)
       simp -implicitDefEqProofs
       generalize hrr : runO s = r at *
       refine AWP.leaves 5 (ofS3 c l i r (c - r.cells.length)) (AWP.rounds (fun j => j ≤ c - r.cells.length) (ofS3 c l i r) (fun j => c - r.cells.length - j) 0 (by simp) ?_ ?_) ?_
       · exact Weak.heap (by simp [ofS2, hT, hrr]) (by simp [ofS2, ofS3])
       · intro j hj
         refine wpc_ok hE mixed _ _ _ ?_
         by_cases g : r.cells.length + j < c
         · have g' : ((r.cells.length : Int) + j < c) = True := eq_true (by omega)
           have e1 : celsC (r.cells ++ List.replicate (j + 1) (blankF sty0)) = celsC (r.cells ++ List.replicate j (blankF sty0)) ++ celC ⟨32, 0, 0, 0, sty0⟩ := by
             rw [List.replicate_succ', ← List.append_assoc, celsC_app, celsC_one]; rfl
           simp -implicitDefEqProofs [ofS3, ofB, g']
           repeat (first | refine And.intro (by decide +kernel) ?_ | refine And.intro (by omega) ?_)
           exact Next.mk (j + 1) (by omega) (by omega) (Weak.ren [some 0, some 1, some 2] (baseOK.nil hh) (by simp) (by simp [ofB, e1, Nat.add_assoc]) (by simp [ofB]))
         · have g' : ((r.cells.length : Int) + j < c) = False := eq_false (by omega)
           obtain rfl : j = c - r.cells.length := by omega
           simp -implicitDefEqProofs [ofS3, ofB, g']
           exact Leaves.mk (Weak.heap rfl (by simp [ofB]))
       have er : rowC (lineO c s) = [C.sl (r.cells.length + (c - r.cells.length)) (celsC (r.cells ++ List.replicate (c - r.cells.length) (blankF sty0))), C.bool r.wrapped] := by simp [rowC, lineO, hrr]
       rw [er] at e
       simp -implicitDefEqProofs [ofS3, ofB, w1, hlen]
       repeat (first | refine And.intro (by decide +kernel) ?_ | refine And.intro (by omega) ?_)
       exact Next.mk (i + 1) h (by omega) (Weak.ren [some 0] (baseOK.nil hh) (by simp) (by simp [ofB, e]) (by simp [ofB]))
     · obtain rfl : i = l.length := by omega
       have hT : (ofO c l).take l.length = ofO c l := List.take_of_length_le (by simp [ofO])
       have hL : (ofO c l).length = l.length := by simp [ofO]
       simp [ofS1, ofB, hT, hL, rowsV]
end Fen

namespace Fen
open Go Go.Proofs
def strsOK (l : List (List UInt8)) : Prop := l.length ≤ 100 ∧ ∀ s ∈ l, s.length ≤ 100
def heldO (h : Hd) (e : Int) (c : Nat) (p r : List (List UInt8)) (a b : Int) : Bool := decide (e = 0) && decide (h.past = ofO c p) && decide (h.rows = ofO c r) && decide (h.ar = a ∧ h.ac = b)
def lheldSpec : Spec := { pre := fun args => ∃ (h : Hd) (e : Int) (c : Nat) (p r : List (List UInt8)) (a b : Int), args = [hdV h, .c (.int .i64 e), .c (.int .i64 c), .c (.sl p.length (p.map C.str)), .c (.sl r.length (r.map C.str)), .c (.int .i64 a), .c (.int .i64 b)] ∧ RowsFin h.past ∧ RowsFin h.rows ∧ c ≤ 100 ∧ strsOK p ∧ strsOK r, res := fun args => match args with
 | [.agg h, .c (.int _ e), .c (.int _ c), .c (.sl _ p), .c (.sl _ r), .c (.int _ a), .c (.int _ b)] => .one (.val (.c (.bool (heldO (hdOf h) e c.toNat (strsOf p) (strsOf r) a b))))
 | _ => .many [] }
def G_lheld : Specs := [(34, lofOSpec), (28, samesSpec)]
@[simp] theorem G_lheld_live : Specs.live G_lheld = false := rfl
@[simp] theorem G_lheld_nils : Specs.nils G_lheld = false := rfl
@[simp] theorem G_lheld_34 : G_lheld.find 34 = some lofOSpec := rfl
@[simp] theorem G_lheld_28 : G_lheld.find 28 = some samesSpec := rfl
theorem G_lheld_ok (gl : Gl) : SpecsOK Tryd.prog gl G_lheld := .cons (lofO_sound gl) (.cons (sames_sound gl) (.nil _ _))
set_option maxHeartbeats 2000000 in
set_option maxRecDepth 10000 in
theorem lheld_sound (gl : Gl) : Sound Tryd.prog gl 35 lheldSpec := by
 refine sound_fn (N := Tryd.f35.ntmps) (rs := Tryd.f35.results.toList) mixed tok (G_lheld_ok gl) Tryd.func35 rfl rfl rfl rfl rfl ?_ ?_ ?_
 · rintro args ⟨h,e,c,p,r,a,b,rfl,h1,h2,hc,⟨p1,p2⟩,⟨r1,r2⟩⟩; simp [hdV,hdC,rowsOf_C,strsOf_C, Tryd.f35]
 · rintro args ⟨h,e,c,p,r,a,b,rfl,h1,h2,hc,⟨p1,p2⟩,⟨r1,r2⟩⟩; simp [hdV,hdC,rowsOf_C,strsOf_C, lheldSpec, Tryd.f35]
 · rintro args ⟨h,e,c,p,r,a,b,rfl,h1,h2,hc,⟨p1,p2⟩,⟨r1,r2⟩⟩ bs hgl hh hro
   have hE : Env.OK ⟨Tryd.prog, T, G_lheld, bs⟩ := ⟨tok, by rw [hgl]; exact G_lheld_ok gl⟩
   simp only [lheldSpec, hdV,hdC,rowsOf_C,strsOf_C]
   have eo := hdOf_C h
   have ep : ∃ x : List (List UInt8), p.length = x.length ∧ p.map C.str = x.map C.str ∧ x.length ≤ 100 ∧ ∀ s ∈ x, s.length ≤ 100 := ⟨p, rfl, rfl, p1, p2⟩
   have er : ∃ x : List (List UInt8), r.length = x.length ∧ r.map C.str = x.map C.str ∧ x.length ≤ 100 ∧ ∀ s ∈ x, s.length ≤ 100 := ⟨r, rfl, rfl, r1, r2⟩
   have e1 : ∃ x : List Rw, h.past.length = x.length ∧ h.past = x ∧ RowsFin x := ⟨h.past, rfl, rfl, h1⟩
   have e2 : ∃ x : List Rw, h.rows.length = x.length ∧ h.rows = x ∧ RowsFin x := ⟨h.rows, rfl, rfl, h2⟩
   simp -implicitDefEqProofs [and_assoc, lheldSpec, lofOSpec, samesSpec, Tryd.f35, hc, eo, ep, er, e1, e2, strsOf_C, rowsV, heldO]
   refine ⟨fun q => ⟨q, c, rfl, p, rfl, rfl, hc, p1, p2⟩, fun q1 q2 => ⟨q1, q2, c, rfl, r, rfl, rfl, hc, r1, r2⟩, by rfl, ?_⟩
   have b1 : (h.ar == a) = decide (h.ar = a) := rfl
   have b2 : (h.ac == b) = decide (h.ac = b) := rfl
   rw [b1, b2]; simp only [Bool.and_assoc]
def exH : Hd := ⟨[], ofO 4 [[97, 98, 99, 100, 43], [101, 102], [103, 104]], 1, 1⟩
def exA : Hd := ⟨[], ofO 6 [[97, 98, 99, 100, 101, 102], [103, 104], []], 0, 5⟩
def exB : Hd := ⟨ofO 2 [[97, 98, 43]], ofO 2 [[99, 100, 43], [101, 102], [103, 104]], 1, 1⟩
def exC : Hd := ⟨ofO 4 [[97, 98, 99, 100, 43]], ofO 4 [[101, 102], [103, 104]], 0, 1⟩
def exD : Hd := ⟨[], ofO 4 [[97, 98, 99, 100, 43], [101, 102], [103, 104], []], 1, 1⟩
theorem rx1 : mainF exH 6 3 = (exA, 0) := by decide +kernel
theorem rx2 : mainF exH 2 3 = (exB, 0) := by decide +kernel
theorem rx3 : mainF exH 4 2 = (exC, 0) := by decide +kernel
theorem rx4 : mainF exC 4 4 = (exD, 0) := by decide +kernel
theorem rx5 : saidF exH = ([(lineO 6 [97, 98, 99, 100, 101, 102]).cells, (lineO 2 [103, 104]).cells], 0) := by decide +kernel
theorem rx6 : altF exH.rows 3 2 = (ofO 3 [[97, 98, 99], [101, 102]], 0) := by decide +kernel
theorem cel_ok_of {n : Nat} : (⟨n, 0, 0, 0, sty0⟩ : Cel).ok := by
 show -9223372036854775808 ≤ (0 : Int) ∧ (0 : Int) ≤ 9223372036854775807
 omega
theorem stepO_ok {r : Rw} {b : UInt8} (h : r.ok) : (stepO r b).ok := by
 unfold stepO
 have two : wideA.ok ∧ wideB.ok := ⟨⟨by decide, by decide⟩, ⟨by decide, by decide⟩⟩
 have bl : (blankF sty0).ok := ⟨by decide, by decide⟩
 split
 · exact h
 · split
   · intro c hc
     simp only [List.mem_append, List.mem_cons, List.not_mem_nil, or_false] at hc
     rcases hc with hc | rfl | rfl
     · exact h c hc
     · exact two.1
     · exact two.2
   · split
     · intro c hc
       simp only [List.mem_append, List.mem_singleton] at hc
       rcases hc with hc | rfl
       · exact h c hc
       · exact bl
     · intro c hc
       simp only [List.mem_append, List.mem_singleton] at hc
       rcases hc with hc | rfl
       · exact h c hc
       · exact cel_ok_of
theorem runO_ok (s : List UInt8) : (runO s).ok := by
 have key : ∀ (l : List UInt8) (r : Rw), r.ok → (l.foldl stepO r).ok := by
   intro l
   induction l with
   | nil => intro r h; exact h
   | cons b l ih => intro r h; exact ih _ (stepO_ok h)
 exact key s _ (fun c hc => by simp at hc)
theorem ofO_ok (c : Nat) (l : List (List UInt8)) : RowsOK (ofO c l) := fun r hr => by
 simp only [ofO, List.mem_map] at hr
 obtain ⟨s, _, rfl⟩ := hr
 intro x hx
 simp only [lineO, List.mem_append, List.mem_replicate] at hx
 rcases hx with hx | ⟨_, rfl⟩
 · exact runO_ok s x hx
 · exact ⟨by decide, by decide⟩
theorem ofO_fin {c : Nat} {l : List (List UInt8)} (hc : c ≤ 100) (h : strsOK l) : RowsFin (ofO c l) := by
 refine ⟨by simp [ofO]; have := h.1; omega, fun r hr => ?_⟩
 simp only [ofO, List.mem_map] at hr
 obtain ⟨s, hs, rfl⟩ := hr
 have h1 := runO_len s
 have h2 := h.2 s hs
 simp [lineO]; omega
theorem rk1 : heldO exA 0 6 [] [[97, 98, 99, 100, 101, 102], [103, 104], []] 0 5 = true := by decide +kernel
theorem rk2 : heldO exB 0 2 [[97, 98, 43]] [[99, 100, 43], [101, 102], [103, 104]] 1 1 = true := by decide +kernel
theorem rk3 : heldO exC 0 4 [[97, 98, 99, 100, 43]] [[101, 102], [103, 104]] 0 1 = true := by decide +kernel
theorem rk4 : heldO exD 0 4 [] [[97, 98, 99, 100, 43], [101, 102], [103, 104], []] 1 1 = true := by decide +kernel
theorem rq1 : ofO 6 [[97, 98, 99, 100, 101, 102]] = [⟨(lineO 6 [97, 98, 99, 100, 101, 102]).cells, false⟩] := by decide +kernel
theorem rq2 : ofO 2 [[103, 104]] = [⟨(lineO 2 [103, 104]).cells, false⟩] := by decide +kernel
def HdFin (h : Hd) : Prop := RowsFin h.past ∧ RowsFin h.rows
theorem fin_of {c : Nat} {p r : List (List UInt8)} {a b : Int} (hc : c ≤ 100) (hp : strsOK p) (hr : strsOK r) : HdFin ⟨ofO c p, ofO c r, a, b⟩ := ⟨ofO_fin hc hp, ofO_fin hc hr⟩
theorem okH_of {c : Nat} {p r : List (List UInt8)} {a b : Int} : HdOK ⟨ofO c p, ofO c r, a, b⟩ := ⟨ofO_ok _ _, ofO_ok _ _⟩
theorem sok {l : List (List UInt8)} (h : (decide (l.length ≤ 100) && l.all (fun s => decide (s.length ≤ 100))) = true) : strsOK l := by
 simp only [Bool.and_eq_true, decide_eq_true_eq, List.all_eq_true] at h
 exact h
def lworks9Spec : Spec := { pre := fun args => args = [], res := fun _ => .one (.val (.c (.bool true))) }
def G_works9 : Specs := [(34, lofOSpec), (19, mainSpec), (12, linesSpec), (25, altSpec2), (17, sameSpec), (35, lheldSpec), (28, samesSpec)]
@[simp] theorem G_works9_live : Specs.live G_works9 = false := rfl
@[simp] theorem G_works9_nils : Specs.nils G_works9 = false := rfl
@[simp] theorem G_works9_34 : G_works9.find 34 = some lofOSpec := rfl
@[simp] theorem G_works9_19 : G_works9.find 19 = some mainSpec := rfl
@[simp] theorem G_works9_12 : G_works9.find 12 = some linesSpec := rfl
@[simp] theorem G_works9_25 : G_works9.find 25 = some altSpec2 := rfl
@[simp] theorem G_works9_17 : G_works9.find 17 = some sameSpec := rfl
@[simp] theorem G_works9_35 : G_works9.find 35 = some lheldSpec := rfl
@[simp] theorem G_works9_28 : G_works9.find 28 = some samesSpec := rfl
theorem G_works9_ok : SpecsOK Tryd.prog glW G_works9 := .cons (lofO_sound glW) (.cons main_sound (.cons lines_sound (.cons alt_sound (.cons (same_sound glW) (.cons (lheld_sound glW) (.cons (sames_sound glW) (.nil _ _)))))))
set_option maxHeartbeats 8000000 in
set_option maxRecDepth 10000 in
theorem works9_sound : Sound Tryd.prog glW 18 lworks9Spec := by
 refine sound_fn (N := Tryd.f18.ntmps) (rs := Tryd.f18.results.toList) mixed tok G_works9_ok Tryd.func18 rfl rfl rfl rfl rfl ?_ ?_ ?_
 · rintro args rfl; simp [hdV,hdC, Tryd.f18]
 · rintro args rfl; simp [hdV,hdC, lworks9Spec, Tryd.f18]
 · rintro args rfl bs hgl hh hro
   have hE : Env.OK ⟨Tryd.prog, T, G_works9, bs⟩ := ⟨tok, by rw [hgl]; exact G_works9_ok⟩
   simp only [lworks9Spec, hdV,hdC]
   have e1 := rx1
   have e2 := rx2
   have e3 := rx3
   have e4 := rx4
   have e5 := rx5
   have e6 := rx6
   have k1 := rk1
   have k2 := rk2
   have k3 := rk3
   have k4 := rk4
   have q1 := rq1
   have q2 := rq2
   have fA : HdFin exA := fin_of (p := []) (by decide) (sok rfl) (sok rfl)
   have fB : HdFin exB := fin_of (by decide) (sok rfl) (sok rfl)
   have fC : HdFin exC := fin_of (by decide) (sok rfl) (sok rfl)
   have fD : HdFin exD := fin_of (p := []) (by decide) (sok rfl) (sok rfl)
   have oH : HdOK exH := okH_of (p := [])
   have oC : HdOK exC := okH_of
   have hH : hdC exH = [C.sl 0 [], C.sl (ofO 4 [[97, 98, 99, 100, 43], [101, 102], [103, 104]]).length (rowsC (ofO 4 [[97, 98, 99, 100, 43], [101, 102], [103, 104]])), .int .i64 1, .int .i64 1] := rfl
   have eH := hdOf_C exH
   have hHr : exH.rows = ofO 4 [[97, 98, 99, 100, 43], [101, 102], [103, 104]] := rfl
   have eA := hdOf_C exA
   have eB := hdOf_C exB
   have eC := hdOf_C exC
   have eD := hdOf_C exD
   have f6 : RowsFin (ofO 3 [[97, 98, 99], [101, 102]]) := ofO_fin (by decide) (sok rfl)
   have eR := rowsOf_C (ofO 4 [[97, 98, 99, 100, 43], [101, 102], [103, 104]])
   rw [show (C.sl exH.past.length (rowsC exH.past)) = C.sl 0 [] from rfl, hHr, show exH.ar = 1 from rfl, show exH.ac = 1 from rfl] at eH
   rw [hHr] at e6
   have oR : RowsOK (ofO 4 [[97, 98, 99, 100, 43], [101, 102], [103, 104]]) := ofO_ok _ _
   generalize hO : ofO 4 [[97, 98, 99, 100, 43], [101, 102], [103, 104]] = R at *
   have m0 : (lineO 6 [97, 98, 99, 100, 101, 102]).cells.length = 6 := by decide +kernel
   have m1 : (lineO 2 [103, 104]).cells.length = 2 := by decide +kernel
   generalize (lineO 6 [97, 98, 99, 100, 101, 102]).cells = l0 at *
   generalize (lineO 2 [103, 104]).cells = l1 at *
   generalize hX : ofO 3 [[97, 98, 99], [101, 102]] = X at *
   generalize exH = H at *
   generalize exA = A at *
   generalize exB = B at *
   generalize exC = E at *
   generalize exD = D at *
   have rt0 : List.take 2 (rowsC [⟨l0, false⟩]) = [C.sl l0.length (celsC l0), C.bool false] := rfl
   have rt1 : List.take 2 (rowsC [⟨l1, false⟩]) = [C.sl l1.length (celsC l1), C.bool false] := rfl
   have n0 : l0.length ≤ 1000 := by omega
   have n1 : l1.length ≤ 1000 := by omega
   simp -implicitDefEqProofs [and_assoc, lworks9Spec, altSpec2, lheldSpec, linesSpec, lofOSpec, mainSpec, sameSpec, samesSpec, Tryd.f18, hdV, hdC, rt0, rt1, strsOf, hO, eH, eA, eB, eC, eD, eR, e1, e2, e3, e4, e5, e6, k1, k2, k3, k4, q1, q2, hX, txV, txC, rowsV, rowV]
   refine ⟨⟨4, rfl, [[97, 98, 99, 100, 43], [101, 102], [103, 104]], rfl, rfl, by decide, sok rfl⟩, ?_⟩
   have oN : HdOK ⟨[], R, 1, 1⟩ := ⟨fun r hr => by simp at hr, oR⟩
   exact ⟨⟨⟨[], R, 1, 1⟩, rfl, rfl, rfl, rfl, rfl, rfl, oN⟩, ⟨E, rfl, rfl, rfl, rfl, rfl, rfl, oC⟩, ⟨⟨[], R, 1, 1⟩, rfl, rfl, rfl, rfl, rfl, rfl, oN⟩, ⟨R, rfl, rfl, oR⟩,
     ⟨6, rfl, [[97, 98, 99, 100, 101, 102]], rfl, rfl, by decide, sok rfl⟩, ⟨⟨l0, false⟩, rfl, ⟨⟨l0, false⟩, rfl⟩, n0⟩, ⟨2, rfl, [[103, 104]], rfl, rfl, by decide, sok rfl⟩, ⟨⟨l1, false⟩, rfl, ⟨⟨l1, false⟩, rfl⟩, n1⟩, by rfl,
     ⟨A, rfl, rfl, rfl, rfl, rfl, rfl, 6, rfl, [], rfl, rfl, [[97, 98, 99, 100, 101, 102], [103, 104], []], rfl, rfl, fA.1, fA.2, by decide, sok rfl, sok rfl⟩,
     ⟨B, rfl, rfl, rfl, rfl, rfl, rfl, 2, rfl, [[97, 98, 43]], rfl, rfl, [[99, 100, 43], [101, 102], [103, 104]], rfl, rfl, fB.1, fB.2, by decide, sok rfl, sok rfl⟩,
     ⟨E, rfl, rfl, rfl, rfl, rfl, rfl, 4, rfl, [[97, 98, 99, 100, 43]], rfl, rfl, [[101, 102], [103, 104]], rfl, rfl, fC.1, fC.2, by decide, sok rfl, sok rfl⟩,
     ⟨D, rfl, rfl, rfl, rfl, rfl, rfl, 4, rfl, [], rfl, rfl, [[97, 98, 99, 100, 43], [101, 102], [103, 104], []], rfl, rfl, fD.1, fD.2, by decide, sok rfl, sok rfl⟩,
     ⟨3, rfl, [[97, 98, 99], [101, 102]], rfl, rfl, by decide, sok rfl⟩, X, rfl, rfl, f6⟩
end Fen
