/- A part of the proof; no statement is proved here: SStA, SStB, SStC, SStD, SStE, SStF. -/
import Derived.Test.YthmebgohfigfpaaUtfA

set_option linter.unusedVariables false
set_option linter.unusedSimpArgs false

namespace Fen
open Go

/-! ### chapter 06 in plain words: parses, events, one byte, many bytes -/
structure Ps where
  s : Int
  u : List Int
  pv : Int
  fn : Int
  ps : List (List Int)
  it : List UInt8
  tx : List UInt8
  bad : Bool
  deriving DecidableEq
structure Ev where
  k : Int
  c : Int
  pv : Int
  fn : Int
  ps : List (List Int)
  it : List UInt8
  tx : List UInt8
  deriving DecidableEq

def u8B (b : Int) : UInt8 := UInt8.ofNat b.toNat
def sbegin (n : Int) : Ps := ⟨n, [], 0, 0, [], [], [], false⟩
def sspoil (n : Int) : Ps := ⟨n, [], 0, 0, [], [], [], true⟩
def evCode (k c : Int) : Ev := ⟨k, c, 0, 0, [], [], []⟩
def evEsc (it : List UInt8) (fn : Int) : Ev := ⟨3, 0, 0, fn, [], it, []⟩
def evOsc (tx : List UInt8) : Ev := ⟨5, 0, 0, 0, [], [], tx⟩

/-! parameters (chapter 05) -/
def subOK (l : List Int) : Bool := decide (1 ≤ l.length) && decide (l.length ≤ 6) && l.all fun n => decide (-1 ≤ n) && decide (n ≤ 9999)
def parOK (ps : List (List Int)) : Bool := decide (ps.length ≤ 16) && ps.all subOK && !decide (ps = [[-1]])
def maxZ (n : Int) : Int := if n < 0 then 0 else n
def capP (n : Int) : Int := if 9999 < n then 9999 else n
def pbase (ps : List (List Int)) : List (List Int) := if ps = [] then [[-1]] else ps
def pstepF (ps : List (List Int)) (c : Int) : List (List Int) × Int :=
  if parOK ps = false then ([], 150)
  else if c = 59 then (if (pbase ps).length < 16 then (pbase ps ++ [[-1]], 0) else ([], 3))
  else if c = 58 then (if ((pbase ps).getLastD []).length < 6 then ((pbase ps).dropLast ++ [(pbase ps).getLastD [] ++ [-1]], 0) else ([], 3))
  else if 48 ≤ c ∧ c ≤ 57 then ((pbase ps).dropLast ++ [((pbase ps).getLastD []).dropLast ++ [capP (maxZ (((pbase ps).getLastD []).getLastD 0) * 10 + (c - 48))]], 0)
  else ([], 6)

/-! one byte -/
def told (p : Ps) (e : Ev) : Ps × List Ev := if p.bad then (sbegin 0, []) else (sbegin 0, [e])
def signed (p : Ps) (b : Int) : Ps := if p.bad = true ∨ p.it.length = 2 then sspoil p.s else { p with it := p.it ++ [u8B b] }
def ctlF (b : Int) : Ps × List Ev :=
  if b = 24 ∨ b = 26 then (sbegin 0, []) else if b = 27 then (sbegin 1, []) else if b < 32 then (sbegin 0, [evCode 2 b]) else (sbegin 0, [])
def code1 (x : Ps × List Ev) (c : Int) : Ps × List Ev :=
  if c < 32 ∨ c = 127 then ((ctlF c).1, x.2 ++ (ctlF c).2) else if c < 127 ∨ 159 < c then (x.1, x.2 ++ [evCode 1 c]) else x
def printsF (u : List Int) (b : Int) : Ps × List Ev := (stepF u b).2.foldl code1 ({ sbegin 0 with u := (stepF u b).1 }, [])
def escapeF (b : Int) : Ps × List Ev :=
  if b = 91 then (sbegin 3, []) else if b = 93 then (sbegin 6, []) else if b = 80 then (sbegin 8, []) else if b = 88 ∨ b = 94 ∨ b = 95 then (sbegin 13, [])
  else if b < 48 then ({ sbegin 2 with it := [u8B b] }, []) else (sbegin 0, [evEsc [] b])
def lastF (p : Ps) (b : Int) : Ps × List Ev :=
  if p.s ≤ 5 then told p ⟨4, 0, p.pv, b, p.ps, p.it, []⟩ else ({ p with s := 11, fn := if p.bad then p.fn else b }, [])
def digitF (p : Ps) (b : Int) : Ps := if (pstepF p.ps b).2 ≠ 0 ∨ p.bad = true then sspoil p.s else { p with ps := (pstepF p.ps b).1 }
def entryF (p : Ps) (b : Int) : Ps × List Ev :=
  if b < 48 then ({ sbegin (p.s + 2) with it := [u8B b] }, []) else if b < 60 then ({ sbegin (p.s + 1) with ps := (pstepF [] b).1 }, [])
  else if b < 64 then ({ sbegin (p.s + 1) with pv := b }, []) else lastF p b
def paramsF (p : Ps) (b : Int) : Ps × List Ev :=
  if b < 48 then (signed { p with s := p.s + 1 } b, []) else if b < 60 then (digitF p b, []) else if b < 64 then (sspoil p.s, []) else lastF p b
def intersF (p : Ps) (b : Int) : Ps × List Ev :=
  if b < 48 then (signed p b, []) else if b < 64 then (sspoil p.s, []) else lastF p b
def signsF (p : Ps) (b : Int) : Ps × List Ev := if b < 48 then (signed p b, []) else told p ⟨3, 0, 0, b, [], p.it, []⟩
/-- a byte from 20 to 7E -/
def goes6 (p : Ps) (b : Int) : Ps × List Ev :=
  if p.s = 0 then (p, [evCode 1 b]) else if p.s = 1 then escapeF b else if p.s = 2 then signsF p b
  else if p.s = 3 ∨ p.s = 8 then entryF p b else if p.s = 4 ∨ p.s = 9 then paramsF p b else intersF p b
def esc1F (b : Int) : Ps × List Ev :=
  if b = 24 ∨ b = 26 then (sbegin 0, []) else if b = 27 then (sbegin 1, []) else if 128 ≤ b then printsF [] b
  else if b < 32 then (sbegin 1, [evCode 2 b]) else if b = 127 then (sbegin 1, []) else escapeF b
def endsF (p : Ps) (b : Int) : Ps × List Ev :=
  if b ≠ 92 then esc1F b else if p.s = 7 then told p (evOsc p.tx) else if p.s = 12 then told p ⟨6, 0, p.pv, p.fn, p.ps, p.it, p.tx⟩ else (sbegin 0, [])
def withinF (p : Ps) (b : Int) : Ps × List Ev :=
  if p.s = 6 ∧ b = 7 then told p (evOsc p.tx) else if b < 32 ∨ b = 127 ∨ p.s = 13 ∨ p.bad = true then (p, [])
  else if p.tx.length = 512 then (sspoil p.s, []) else ({ p with tx := p.tx ++ [u8B b] }, [])
def inText (n : Int) : Prop := n = 6 ∨ n = 11 ∨ n = 13
def atEnd (n : Int) : Prop := n = 7 ∨ n = 12 ∨ n = 14
instance (n : Int) : Decidable (inText n) := by unfold inText; infer_instance
instance (n : Int) : Decidable (atEnd n) := by unfold atEnd; infer_instance
def one6 (p : Ps) (b : Int) : Ps × List Ev :=
  if p.s = 0 ∧ (p.u ≠ [] ∨ 128 ≤ b) then printsF p.u b
  else if b = 24 ∨ b = 26 then (sbegin 0, [])
  else if b = 27 then (if inText p.s then ({ p with s := p.s + 1 }, []) else (sbegin 1, []))
  else if atEnd p.s then endsF p b
  else if inText p.s then withinF p b
  else if 128 ≤ b then printsF [] b
  else if b < 32 then (p, if p.s ≤ 5 then [evCode 2 b] else [])
  else if b = 127 then (p, []) else goes6 p b
/-! many -/
def feed6 : Ps → List Int → Ps × List Ev
  | p, [] => (p, [])
  | p, b :: l => ((feed6 (one6 p b).1 l).1, (one6 p b).2 ++ (feed6 (one6 p b).1 l).2)
theorem feed6_app : ∀ (p : Ps) (a b : List Int), feed6 p (a ++ b) = ((feed6 (feed6 p a).1 b).1, (feed6 p a).2 ++ (feed6 (feed6 p a).1 b).2)
  | p, [], b => by simp [feed6]
  | p, x :: a, b => by simp [feed6, feed6_app _ a b]
theorem esc1_one (b : Int) : one6 (sbegin 1) b = esc1F b := by
  unfold one6 esc1F goes6
  simp [sbegin, inText, atEnd]

/-! which parses may be -/
def signOK (l : List UInt8) : Bool := l.all fun c => decide (32 ≤ c.toNat) && decide (c.toNat ≤ 47)
def textOK (l : List UInt8) : Bool := l.all fun c => decide (32 ≤ c.toNat) && decide (c.toNat ≠ 127)
def spoils (n : Int) : Bool := decide (n = 2 ∨ n = 4 ∨ n = 5 ∨ n = 6 ∨ n = 7 ∨ n = 9 ∨ n = 10 ∨ n = 11 ∨ n = 12)
def noneIn (p : Ps) : Bool := decide (p.u = [] ∧ p.pv = 0 ∧ p.fn = 0 ∧ p.ps = [] ∧ p.it = [] ∧ p.tx = [])
def tail6 (n : Int) : Bool := decide (n = 11 ∨ n = 12)
def int6 (n : Int) : Bool := decide (n = 5 ∨ n = 10)
def par6 (n : Int) : Bool := decide (n = 4 ∨ n = 9)
def whole6 (p : Ps) : Bool :=
  rightF p.u && (decide (p.u = []) || decide (p.s = 0)) && parOK p.ps && (decide (p.ps = []) || tail6 p.s || int6 p.s || par6 p.s) &&
  (!par6 p.s || decide (p.ps ≠ []) || decide (p.pv ≠ 0)) && (decide (p.pv = 0) || ((tail6 p.s || int6 p.s || par6 p.s) && decide (60 ≤ p.pv) && decide (p.pv ≤ 63))) &&
  (tail6 p.s == decide (p.fn ≠ 0)) && (decide (p.fn = 0) || (decide (64 ≤ p.fn) && decide (p.fn ≤ 126))) &&
  decide (p.it.length ≤ 2) && (decide (p.it = []) || decide (p.s = 2) || int6 p.s || tail6 p.s) && (decide (p.it ≠ []) || !(decide (p.s = 2) || int6 p.s)) && signOK p.it &&
  decide (p.tx.length ≤ 512) && (decide (p.tx = []) || tail6 p.s || decide (p.s = 6 ∨ p.s = 7)) && textOK p.tx
def may6 (p : Ps) : Bool := if p.s < 0 ∨ 15 ≤ p.s then false else if p.bad = true then spoils p.s && noneIn p else whole6 p
end Fen

namespace Fen
open Go

/-! ### a parse that may be stays one -/
theorem may_begin : may6 (sbegin 0) = true ∧ may6 (sbegin 1) = true ∧ may6 (sbegin 3) = true ∧ may6 (sbegin 6) = true ∧ may6 (sbegin 8) = true ∧ may6 (sbegin 13) = true := by decide
theorem may_spoil {n : Int} (h : spoils n = true) : may6 (sspoil n) = true := by
  have h' := h
  simp [spoils] at h'
  unfold may6
  rw [if_neg (by simp [sspoil]; omega), if_pos (by rfl)]
  simp only [Bool.and_eq_true]
  exact ⟨h, rfl⟩
theorem step_right {u : List Int} (b : Int) (h : rightF u = true) : rightF (stepF u b).1 = true := by
  have h0 : rightF (step0 b).1 = true := by
    unfold step0
    split
    · rfl
    · split
      · rename_i q; simp [rightF, q]
      · rfl
  unfold stepF
  split
  · exact h0
  · unfold stepP
    split
    · rfl
    · split
      · rename_i q; simp [rightF, q]
      · exact h0
def headP (u : List Int) (x : Ps) : Prop := x = { sbegin 0 with u := u } ∨ x = sbegin 0 ∨ x = sbegin 1
theorem ctl_fst (c : Int) : (ctlF c).1 = sbegin 0 ∨ (ctlF c).1 = sbegin 1 := by unfold ctlF; (repeat' split) <;> simp
theorem code1_head {u : List Int} : ∀ (l : List Int) (x : Ps × List Ev), headP u x.1 → headP u (l.foldl code1 x).1
  | [], x, h => h
  | c :: l, x, h => by
    refine code1_head l _ ?_
    unfold code1
    split
    · rcases ctl_fst c with q | q <;> simp [headP, q]
    · split <;> exact h
theorem prints_may {u : List Int} (b : Int) (h : rightF u = true) : may6 (printsF u b).1 = true := by
  have := code1_head (u := (stepF u b).1) (stepF u b).2 ({ sbegin 0 with u := (stepF u b).1 }, []) (.inl rfl)
  rcases this with q | q | q
  · show may6 ((stepF u b).2.foldl code1 _).1 = true
    rw [q]
    have hr := step_right b h
    simp [may6, whole6, sbegin, hr, parOK, tail6, int6, par6, signOK, textOK]
  · show may6 ((stepF u b).2.foldl code1 _).1 = true
    rw [q]; exact may_begin.1
  · show may6 ((stepF u b).2.foldl code1 _).1 = true
    rw [q]; exact may_begin.2.1
theorem u8B_nat {b : Int} (h : 0 ≤ b ∧ b < 256) : (u8B b).toNat = b.toNat := by
  unfold u8B
  rw [UInt8.toNat_ofNat']
  omega
theorem told_may (p : Ps) (e : Ev) : may6 (told p e).1 = true := by unfold told; split <;> exact may_begin.1
theorem subOK_iff {l : List Int} : subOK l = true ↔ 1 ≤ l.length ∧ l.length ≤ 6 ∧ ∀ n ∈ l, -1 ≤ n ∧ n ≤ 9999 := by
  simp [subOK, and_assoc]
theorem parOK_iff {ps : List (List Int)} : parOK ps = true ↔ ps.length ≤ 16 ∧ (∀ l ∈ ps, subOK l = true) ∧ ps ≠ [[-1]] := by
  simp [parOK, and_assoc]
theorem pbase_ok {ps : List (List Int)} (h : parOK ps = true) : pbase ps ≠ [] ∧ (pbase ps).length ≤ 16 ∧ ∀ l ∈ pbase ps, subOK l = true := by
  obtain ⟨h1, h2, _⟩ := parOK_iff.1 h
  unfold pbase
  split
  · exact ⟨by simp, by simp, fun l hl => by simp at hl; subst hl; decide⟩
  · rename_i q; exact ⟨q, h1, h2⟩
theorem last_mem {α : Type} {l : List α} (d : α) (h : l ≠ []) : l.getLastD d ∈ l := by
  rw [List.getLastD_eq_getLast?, List.getLast?_eq_some_getLast h]; exact List.getLast_mem h
theorem pstep_ok {ps : List (List Int)} {c : Int} (h : (pstepF ps c).2 = 0) : parOK (pstepF ps c).1 = true ∧ (pstepF ps c).1 ≠ [] := by
  unfold pstepF at h ⊢
  split
  · rename_i q; rw [if_pos q] at h; cases h
  · rename_i q
    rw [if_neg q] at h
    obtain ⟨b1, b2, b3⟩ := pbase_ok (ps := ps) (by simpa using q)
    generalize pbase ps = B at *
    have hL := b3 _ (last_mem [] b1)
    generalize B.getLastD [] = L at *
    obtain ⟨l1, l2, l3⟩ := subOK_iff.1 hL
    have hd : ∀ l ∈ B.dropLast, subOK l = true := fun l hl => b3 l (List.dropLast_subset _ hl)
    have hlen : B.dropLast.length = B.length - 1 := by simp
    have pos : 1 ≤ B.length := List.length_pos_iff.2 b1
    split
    · split
      · refine ⟨parOK_iff.2 ⟨by simp; omega, fun l hl => ?_, fun e => ?_⟩, by simp⟩
        · rcases List.mem_append.1 hl with q | q
          · exact b3 l q
          · simp at q; subst q; decide
        · have := congrArg List.length e; simp at this; exact b1 this
      · rename_i q1 q2; rw [if_pos q1, if_neg q2] at h; cases h
    · split
      · split
        · rename_i q1 q2 q3
          refine ⟨parOK_iff.2 ⟨by simp; omega, fun l hl => ?_, fun e => ?_⟩, by simp⟩
          · rcases List.mem_append.1 hl with q | q
            · exact hd l q
            · simp at q; subst q
              refine subOK_iff.2 ⟨by simp, by simp; omega, fun n hn => ?_⟩
              rcases List.mem_append.1 hn with q | q
              · exact l3 n q
              · simp at q; omega
          · have h1 : B.dropLast.length = 0 := by have := congrArg List.length e; simp at this ⊢; omega
            rw [List.eq_nil_of_length_eq_zero h1] at e
            simp at e
            rw [e] at l1; simp at l1
        · rename_i q1 q2 q3; rw [if_neg q1, if_pos q2, if_neg q3] at h; cases h
      · split
        · have hn : 0 ≤ capP (maxZ (L.getLastD 0) * 10 + (c - 48)) ∧ capP (maxZ (L.getLastD 0) * 10 + (c - 48)) ≤ 9999 := by
            have : 0 ≤ maxZ (L.getLastD 0) := by unfold maxZ; split <;> omega
            unfold capP; split <;> omega
          generalize capP (maxZ (L.getLastD 0) * 10 + (c - 48)) = n at *
          refine ⟨parOK_iff.2 ⟨by simp; omega, fun l hl => ?_, fun e => ?_⟩, by simp⟩
          · rcases List.mem_append.1 hl with q | q
            · exact hd l q
            · simp at q; subst q
              refine subOK_iff.2 ⟨by simp, by simp; omega, fun m hm => ?_⟩
              rcases List.mem_append.1 hm with q | q
              · exact l3 m (List.dropLast_subset _ q)
              · simp at q; omega
          · have h1 : B.dropLast.length = 0 := by have := congrArg List.length e; simp at this ⊢; omega
            rw [List.eq_nil_of_length_eq_zero h1] at e
            simp at e
            have h2 : L.dropLast.length = 0 := by have := congrArg List.length e; simp at this ⊢; omega
            rw [List.eq_nil_of_length_eq_zero h2] at e
            simp at e
            omega
        · rename_i q1 q2 q3; rw [if_neg q1, if_neg q2, if_neg q3] at h; cases h
theorem pstep_first {b : Int} (h1 : 48 ≤ b) (h2 : b < 60) : (pstepF [] b).2 = 0 := by
  unfold pstepF
  rw [if_neg (by decide)]
  simp only [pbase, if_true]
  by_cases c1 : b = 59
  · subst c1; decide
  by_cases c2 : b = 58
  · subst c2; decide
  rw [if_neg c1, if_neg c2, if_pos (by omega)]
structure Whole (p : Ps) : Prop where
  u : rightF p.u = true
  u0 : p.u = [] ∨ p.s = 0
  ps : parOK p.ps = true
  ps0 : p.ps = [] ∨ tail6 p.s = true ∨ int6 p.s = true ∨ par6 p.s = true
  ps1 : par6 p.s = true → p.ps ≠ [] ∨ p.pv ≠ 0
  pv : p.pv = 0 ∨ ((tail6 p.s = true ∨ int6 p.s = true ∨ par6 p.s = true) ∧ 60 ≤ p.pv ∧ p.pv ≤ 63)
  fn : tail6 p.s = true ↔ p.fn ≠ 0
  fn1 : p.fn = 0 ∨ (64 ≤ p.fn ∧ p.fn ≤ 126)
  it : p.it.length ≤ 2
  it0 : p.it = [] ∨ p.s = 2 ∨ int6 p.s = true ∨ tail6 p.s = true
  it1 : p.s = 2 ∨ int6 p.s = true → p.it ≠ []
  it2 : signOK p.it = true
  tx : p.tx.length ≤ 512
  tx0 : p.tx = [] ∨ tail6 p.s = true ∨ p.s = 6 ∨ p.s = 7
  tx1 : textOK p.tx = true
theorem whole_iff {p : Ps} : whole6 p = true ↔ Whole p := by
  have fnq : (tail6 p.s == decide (p.fn ≠ 0)) = true ↔ (tail6 p.s = true ↔ p.fn ≠ 0) := by
    cases tail6 p.s <;> by_cases q : p.fn = 0 <;> simp [q]
  unfold whole6
  simp only [Bool.and_eq_true, fnq, Bool.or_eq_true, decide_eq_true_eq, Bool.not_eq_true', Bool.or_eq_false_iff, decide_eq_false_iff_not]
  constructor
  · rintro ⟨⟨⟨⟨⟨⟨⟨⟨⟨⟨⟨⟨⟨⟨h1, h2⟩, h3⟩, h4⟩, h5⟩, h6⟩, h7⟩, h8⟩, h9⟩, h10⟩, h11⟩, h12⟩, h13⟩, h14⟩, h15⟩
    refine ⟨h1, h2, h3, ?_, ?_, ?_, h7, h8, h9, ?_, ?_, h12, h13, ?_, h15⟩
    · rcases h4 with ((h | h) | h) | h <;> simp [h]
    · intro q; rcases h5 with (h | h) | h
      · rw [q] at h; cases h
      · exact .inl h
      · exact .inr h
    · rcases h6 with h | ⟨⟨h, a⟩, b⟩
      · exact .inl h
      · refine .inr ⟨?_, a, b⟩; rcases h with (h | h) | h <;> simp [h]
    · rcases h10 with ((h | h) | h) | h <;> simp [h]
    · intro q; rcases h11 with h | ⟨h, h'⟩
      · exact h
      · rcases q with q | q
        · exact absurd q h
        · rw [q] at h'; cases h'
    · rcases h14 with (h | h) | h
      · exact .inl h
      · exact .inr (.inl h)
      · exact .inr (.inr h)
  · rintro ⟨h1, h2, h3, h4, h5, h6, h7, h8, h9, h10, h11, h12, h13, h14, h15⟩
    refine ⟨⟨⟨⟨⟨⟨⟨⟨⟨⟨⟨⟨⟨⟨h1, h2⟩, h3⟩, ?_⟩, ?_⟩, ?_⟩, h7⟩, h8⟩, h9⟩, ?_⟩, ?_⟩, h12⟩, h13⟩, ?_⟩, h15⟩
    · rcases h4 with h | h | h | h <;> simp [h]
    · cases q : par6 p.s
      · simp
      · rcases h5 q with h | h <;> simp [h]
    · rcases h6 with h | ⟨h | h | h, a, b⟩ <;> simp_all
    · rcases h10 with h | h | h | h <;> simp [h]
    · by_cases q : p.s = 2 ∨ int6 p.s = true
      · exact .inl (h11 q)
      · refine .inr ⟨fun e => q (.inl e), ?_⟩
        cases z : int6 p.s
        · rfl
        · exact absurd (.inr z) q
    · rcases h14 with h | h | h | h <;> simp [h]
theorem may_iff {p : Ps} : may6 p = true ↔ (0 ≤ p.s ∧ p.s < 15) ∧ (p.bad = true → spoils p.s = true ∧ noneIn p = true) ∧ (p.bad = false → Whole p) := by
  unfold may6
  split
  · constructor
    · intro h; cases h
    · rintro ⟨h, _⟩; omega
  · cases q : p.bad
    · simp [whole_iff]; omega
    · simp; omega
theorem tail6_iff {n : Int} : tail6 n = true ↔ n = 11 ∨ n = 12 := by simp [tail6]
theorem int6_iff {n : Int} : int6 n = true ↔ n = 5 ∨ n = 10 := by simp [int6]
theorem par6_iff {n : Int} : par6 n = true ↔ n = 4 ∨ n = 9 := by simp [par6]
theorem spoils_iff {n : Int} : spoils n = true ↔ n = 2 ∨ n = 4 ∨ n = 5 ∨ n = 6 ∨ n = 7 ∨ n = 9 ∨ n = 10 ∨ n = 11 ∨ n = 12 := by simp [spoils]
theorem signOK_snoc {l : List UInt8} {b : Int} (h : signOK l = true) (h1 : 32 ≤ b) (h2 : b ≤ 47) : signOK (l ++ [u8B b]) = true := by
  have := u8B_nat (b := b) (by omega)
  simp [signOK] at h ⊢
  exact ⟨h, by omega, by omega⟩
theorem textOK_snoc {l : List UInt8} {b : Int} (h : textOK l = true) (h1 : 32 ≤ b) (h2 : b < 256) (h3 : b ≠ 127) : textOK (l ++ [u8B b]) = true := by
  have := u8B_nat (b := b) (by omega)
  simp [textOK] at h ⊢
  exact ⟨h, by omega, by omega⟩
/-- one sign more -/
theorem signed_may {p : Ps} {b : Int} (hs : p.s = 2 ∨ p.s = 5 ∨ p.s = 10) (h : p.bad = false → rightF p.u = true ∧ p.u = [] ∧ parOK p.ps = true ∧ (p.ps = [] ∨ p.s = 5 ∨ p.s = 10) ∧ (p.pv = 0 ∨ ((p.s = 5 ∨ p.s = 10) ∧ 60 ≤ p.pv ∧ p.pv ≤ 63)) ∧ p.fn = 0 ∧ p.it.length ≤ 2 ∧ signOK p.it = true ∧ p.tx = []) (h1 : 32 ≤ b) (h2 : b ≤ 47) : may6 (signed p b) = true := by
  unfold signed
  split
  · exact may_spoil (spoils_iff.2 (by omega))
  · rename_i q
    have hb : p.bad = false := by cases z : p.bad with | false => rfl | true => exact absurd (.inl z) q
    have hl : p.it.length ≠ 2 := fun e => q (.inr e)
    obtain ⟨a1, a2, a3, a4, a5, a6, a7, a8, a9⟩ := h hb
    refine may_iff.2 ⟨by simp only; omega, fun e => absurd ((show p.bad = true from e).symm.trans hb) (by simp), fun _ => ?_⟩
    refine ⟨a1, .inl a2, a3, ?_, ?_, ?_, ?_, .inl a6, by simp; omega, ?_, fun _ => by simp, signOK_snoc a8 h1 h2, by simp [a9], .inl a9, by simp [a9, textOK]⟩
    · simp only [int6_iff, tail6_iff, par6_iff]; rcases a4 with q | q | q <;> simp [q]
    · simp only [par6_iff]; omega
    · simp only [int6_iff, tail6_iff, par6_iff]; rcases a5 with q | ⟨q | q, c, d⟩ <;> simp [*]
    · simp only [tail6_iff, a6]; omega
    · simp only [int6_iff, tail6_iff]; omega
theorem last_may {p : Ps} {b : Int} (h : may6 p = true) (hs : p.s = 3 ∨ p.s = 4 ∨ p.s = 5 ∨ p.s = 8 ∨ p.s = 9 ∨ p.s = 10) (h1 : 64 ≤ b) (h2 : b ≤ 126) : may6 (lastF p b).1 = true := by
  unfold lastF
  split
  · exact told_may _ _
  · obtain ⟨_, hbad, hw⟩ := may_iff.1 h
    cases q : p.bad with
    | true =>
      obtain ⟨k1, k2⟩ := hbad q
      simp only [if_true]
      refine may_iff.2 ⟨by simp, fun _ => ⟨by simp [spoils_iff], by simpa [noneIn] using k2⟩, fun e => by simp [q] at e⟩
    | false =>
      obtain ⟨a1, a2, a3, a4, a5, a6, a7, a8, a9, a10, a11, a12, a13, a14, a15⟩ := hw q
      simp only [Bool.false_eq_true, if_false]
      refine may_iff.2 ⟨by simp, fun e => by simp [q] at e, fun _ => ⟨a1, .inl (by rcases a2 with z | z; exact z; omega), a3, .inr (.inl (by simp [tail6_iff])), by simp [par6_iff], ?_, by simp [tail6_iff]; omega, .inr ⟨h1, h2⟩, a9, .inr (.inr (.inr (by simp [tail6_iff]))), by simp [int6_iff], a12, a13, .inr (.inl (by simp [tail6_iff])), a15⟩⟩
      rcases a6 with z | ⟨_, z⟩
      · exact .inl z
      · exact .inr ⟨.inl (by simp [tail6_iff]), z⟩
/-- one byte keeps it -/
theorem one_may {p : Ps} {b : Int} (h : may6 p = true) (hb : 0 ≤ b ∧ b < 256) : may6 (one6 p b).1 = true := by
  obtain ⟨hs, hbad, hw⟩ := may_iff.1 h
  have hu : rightF p.u = true := by
    cases q : p.bad with
    | true => have := (hbad q).2; simp [noneIn] at this; rw [this.1]; rfl
    | false => exact (hw q).u
  have esc : ∀ b, 0 ≤ b ∧ b < 256 → may6 (esc1F b).1 = true := fun b hb => by
    unfold esc1F
    split
    · exact may_begin.1
    split
    · exact may_begin.2.1
    split
    · exact prints_may b rfl
    split
    · exact may_begin.2.1
    split
    · exact may_begin.2.1
    unfold escapeF
    split
    · exact may_begin.2.2.1
    split
    · exact may_begin.2.2.2.1
    split
    · exact may_begin.2.2.2.2.1
    split
    · exact may_begin.2.2.2.2.2
    split
    · have := u8B_nat hb
      simp [may6, whole6, sbegin, rightF, parOK, tail6, int6, par6, signOK, textOK, this]
      omega
    · exact may_begin.1
  unfold one6
  split
  · exact prints_may b hu
  split
  · exact may_begin.1
  split
  · split
    · rename_i q
      simp only [inText] at q
      refine may_iff.2 ⟨by simp only; omega, fun e => ?_, fun e => ?_⟩
      · obtain ⟨k1, k2⟩ := hbad e
        rw [spoils_iff] at k1
        exact ⟨spoils_iff.2 (by simp only; omega), k2⟩
      · obtain ⟨a1, a2, a3, a4, a5, a6, a7, a8, a9, a10, a11, a12, a13, a14, a15⟩ := hw e
        simp only [tail6_iff, int6_iff, par6_iff] at *
        refine ⟨a1, ?_, a3, ?_, ?_, ?_, ?_, a8, a9, ?_, ?_, a12, a13, ?_, a15⟩ <;> simp only [tail6_iff, int6_iff, par6_iff]
        · rcases a2 with z | z
          · exact .inl z
          · omega
        · rcases a4 with z | z
          · exact .inl z
          · right; omega
        · omega
        · rcases a6 with z | ⟨z, z'⟩
          · exact .inl z
          · exact .inr ⟨by omega, z'⟩
        · rw [← a7]; omega
        · rcases a10 with z | z
          · exact .inl z
          · right; omega
        · omega
        · rcases a14 with z | z
          · exact .inl z
          · right; omega
    · exact may_begin.2.1
  split
  · unfold endsF
    split
    · exact esc b hb
    split
    · exact told_may _ _
    split
    · exact told_may _ _
    · exact may_begin.1
  rename_i n0 n1 n2 n3
  split
  · rename_i q
    simp only [inText] at q
    unfold withinF
    split
    · exact told_may _ _
    split
    · exact h
    rename_i w1 w2
    have wb : p.bad = false := by cases z : p.bad with | false => rfl | true => exact absurd (.inr (.inr (.inr z))) w2
    split
    · exact may_spoil (spoils_iff.2 (by omega))
    · obtain ⟨a1, a2, a3, a4, a5, a6, a7, a8, a9, a10, a11, a12, a13, a14, a15⟩ := hw wb
      refine may_iff.2 ⟨hs, fun e => absurd ((show p.bad = true from e).symm.trans wb) (by simp), fun _ => ⟨a1, a2, a3, a4, a5, a6, a7, a8, a9, a10, a11, a12, by simp; omega, ?_, textOK_snoc a15 (by omega) hb.2 (by omega)⟩⟩
      simp only [tail6_iff]; omega
  split
  · exact prints_may b rfl
  split
  · exact h
  split
  · exact h
  rename_i m0 m1 m2 m3
  simp only [inText, atEnd] at *
  have wb : ∀ (q : p.bad = true), (p.u = [] ∧ p.pv = 0 ∧ p.fn = 0 ∧ p.ps = [] ∧ p.it = [] ∧ p.tx = []) ∧ (p.s = 2 ∨ p.s = 4 ∨ p.s = 5 ∨ p.s = 9 ∨ p.s = 10) := fun q => by
    obtain ⟨k1, k2⟩ := hbad q
    rw [spoils_iff] at k1
    exact ⟨by simpa [noneIn] using k2, by omega⟩
  unfold goes6
  split
  · exact h
  split
  · have := esc b hb
    unfold esc1F at this
    rw [if_neg (by omega), if_neg (by omega), if_neg (by omega), if_neg (by omega), if_neg (by omega)] at this
    exact this
  have clean : p.bad = false → p.u = [] ∧ p.fn = 0 ∧ p.tx = [] := fun e => by
    have W := hw e
    refine ⟨?_, ?_, ?_⟩
    · rcases W.u0 with z | z
      · exact z
      · omega
    · have := W.fn; rw [tail6_iff] at this
      refine Classical.byContradiction fun c => ?_
      have := this.2 c; omega
    · rcases W.tx0 with z | z | z
      · exact z
      · rw [tail6_iff] at z; omega
      · omega
  split
  · rename_i q
    unfold signsF
    split
    · refine signed_may (.inl q) (fun e => ?_) (by omega) (by omega)
      have W := hw e
      obtain ⟨c1, c2, c3⟩ := clean e
      refine ⟨hu, c1, W.ps, .inl ?_, .inl ?_, c2, W.it, W.it2, c3⟩
      · rcases W.ps0 with z | z | z | z
        · exact z
        all_goals (simp only [tail6_iff, int6_iff, par6_iff] at z; omega)
      · rcases W.pv with z | ⟨z, _⟩
        · exact z
        · simp only [tail6_iff, int6_iff, par6_iff] at z; omega
    · exact told_may _ _
  split
  · rename_i q
    unfold entryF
    have := u8B_nat hb
    split
    · refine may_iff.2 ⟨by simp [sbegin]; omega, fun e => by simp [sbegin] at e, fun _ => ⟨rfl, .inl rfl, rfl, .inl rfl, ?_, .inl rfl, ?_, .inl rfl, by simp, ?_, by simp, ?_, by simp [sbegin], .inl rfl, rfl⟩⟩
      · simp [sbegin, par6_iff]; omega
      · simp [sbegin, tail6_iff]; omega
      · simp [sbegin, int6_iff, tail6_iff]; omega
      · simp [signOK, this]; omega
    split
    · rename_i q2
      obtain ⟨k1, k2⟩ := pstep_ok (pstep_first (b := b) (by omega) q2)
      refine may_iff.2 ⟨by simp [sbegin]; omega, fun e => by simp [sbegin] at e, fun _ => ⟨rfl, .inl rfl, k1, ?_, fun _ => .inl k2, .inl rfl, ?_, .inl rfl, by simp [sbegin], .inl rfl, ?_, rfl, by simp [sbegin], .inl rfl, rfl⟩⟩
      · right; right; right; simp [sbegin, par6_iff]; omega
      · simp [sbegin, tail6_iff]; omega
      · simp [sbegin, int6_iff]; omega
    split
    · refine may_iff.2 ⟨by simp [sbegin]; omega, fun e => by simp [sbegin] at e, fun _ => ⟨rfl, .inl rfl, rfl, .inl rfl, fun _ => .inr (by simp only; omega), .inr ⟨?_, by simp only; omega, by simp only; omega⟩, ?_, .inl rfl, by simp [sbegin], .inl rfl, ?_, rfl, by simp [sbegin], .inl rfl, rfl⟩⟩
      · right; right; simp [sbegin, par6_iff]; omega
      · simp [sbegin, tail6_iff]; omega
      · simp [sbegin, int6_iff]; omega
    · exact last_may h (by omega) (by omega) (by omega)
  split
  · rename_i q
    unfold paramsF
    split
    · refine signed_may (by simp only; omega) (fun e => ?_) (by omega) (by omega)
      have W := hw e
      obtain ⟨c1, c2, c3⟩ := clean e
      refine ⟨hu, c1, W.ps, .inr (by simp only; omega), ?_, c2, W.it, W.it2, c3⟩
      rcases W.pv with z | ⟨_, z⟩
      · exact .inl z
      · exact .inr ⟨by simp only; omega, z⟩
    split
    · unfold digitF
      split
      · exact may_spoil (spoils_iff.2 (by omega))
      · rename_i z
        have e : p.bad = false := by cases y : p.bad with | false => rfl | true => exact absurd (.inr y) z
        have e0 : (pstepF p.ps b).2 = 0 := Classical.byContradiction fun c => z (.inl c)
        obtain ⟨k1, k2⟩ := pstep_ok e0
        have W := hw e
        refine may_iff.2 ⟨hs, fun e' => absurd ((show p.bad = true from e').symm.trans e) (by simp), fun _ => ⟨W.u, W.u0, k1, ?_, fun _ => .inl k2, W.pv, W.fn, W.fn1, W.it, W.it0, W.it1, W.it2, W.tx, W.tx0, W.tx1⟩⟩
        right; right; right; simp only [par6_iff]; omega
    split
    · exact may_spoil (spoils_iff.2 (by omega))
    · exact last_may h (by omega) (by omega) (by omega)
  · unfold intersF
    split
    · refine signed_may (by omega) (fun e => ?_) (by omega) (by omega)
      have W := hw e
      obtain ⟨c1, c2, c3⟩ := clean e
      refine ⟨hu, c1, W.ps, .inr (by omega), ?_, c2, W.it, W.it2, c3⟩
      rcases W.pv with z | ⟨_, z⟩
      · exact .inl z
      · exact .inr ⟨by omega, z⟩
    split
    · exact may_spoil (spoils_iff.2 (by omega))
    · exact last_may h (by omega) (by omega) (by omega)
theorem feed_may : ∀ {l : List Int} {p : Ps}, may6 p = true → Bytes l → may6 (feed6 p l).1 = true
  | [], p, h, _ => h
  | b :: l, p, h, hl => feed_may (l := l) (p := (one6 p b).1) (one_may h hl.cons.1) hl.cons.2
end Fen

namespace Fen
open Go

/-! ### what precedes does not matter (StateEnds) -/
theorem restOK_last : ∀ (lo hi : Int) (l : List Int) (b : Int), 128 ≤ lo → b < 128 → restOK lo hi (l ++ [b]) = false
  | lo, hi, [], b, h1, h2 => by simp [restOK]; intro h; omega
  | lo, hi, c :: l, b, h1, h2 => by
    simp only [List.cons_append, restOK, restOK_last 128 191 l b (by decide) h2, Bool.and_false]
theorem second_low (b : Int) : 128 ≤ (secondF b).1 := by unfold secondF; (repeat' split) <;> simp
theorem kind_low {u : List Int} {b : Int} (hu : u ≠ []) (hb : b < 128) : kindF (u ++ [b]) = 0 := by
  match u, hu with
  | c :: u, _ =>
    unfold kindF
    simp only [List.cons_append, List.headD_cons, List.tail_cons, restOK_last _ _ u b (second_low c) hb]
    simp
theorem kind_one {b : Int} (hb : b < 128) : kindF [b] = 2 := by
  have : lengthF b = 1 := by unfold lengthF; rw [if_neg (by omega), if_neg (by omega), if_neg (by omega), if_pos hb]
  simp [kindF, this, restOK]
theorem step0_low {b : Int} (hb : b < 128) : step0 b = ([], [b]) := by
  unfold step0
  rw [if_pos (kind_one hb)]
  simp [codeF, cp0F, goCode]
theorem step_low {u : List Int} {b : Int} (hu : u ≠ []) (hr : rightF u = true) (hb : b < 128) : stepF u b = ([], [65533, b]) := by
  unfold stepF
  rw [if_neg (by simp [hu, hr])]
  unfold stepP
  rw [kind_low hu hb, if_neg (by decide), if_neg (by decide), step0_low hb]
theorem prints_low {u : List Int} {b : Int} (hu : u ≠ []) (hr : rightF u = true) (hb : b < 128) : printsF u b = code1 (sbegin 0, [evCode 1 65533]) b := by
  unfold printsF
  rw [step_low hu hr hb]
  rfl
theorem may_right {p : Ps} (h : may6 p = true) : rightF p.u = true := by
  obtain ⟨_, hbad, hw⟩ := may_iff.1 h
  cases q : p.bad with
  | true => have := (hbad q).2; simp [noneIn] at this; rw [this.1]; rfl
  | false => exact (hw q).u
theorem ends_can {p : Ps} (h : may6 p = true) : (one6 p 24).1 = sbegin 0 ∧ (one6 p 24).2.length ≤ 1 := by
  unfold one6
  split
  · rename_i q
    have hu : p.u ≠ [] := by rcases q.2 with q | q; exact q; omega
    rw [prints_low hu (may_right h) (by decide)]
    exact ⟨rfl, by decide⟩
  · simp
theorem ends_esc {p : Ps} (h : may6 p = true) : ((one6 p 27).1 = sbegin 1 ∧ (one6 p 27).2.length ≤ 1) ∨ (atEnd (one6 p 27).1.s ∧ (one6 p 27).2 = []) := by
  unfold one6
  split
  · rename_i q
    have hu : p.u ≠ [] := by rcases q.2 with q | q; exact q; omega
    rw [prints_low hu (may_right h) (by decide)]
    exact .inl ⟨rfl, by decide⟩
  · rw [if_neg (by decide), if_pos rfl]
    split
    · rename_i q
      refine .inr ⟨?_, rfl⟩
      simp only [inText, atEnd] at q ⊢; omega
    · exact .inl ⟨rfl, by simp⟩
theorem one_end {p : Ps} {b : Int} (hs : atEnd p.s) (h1 : b ≠ 24) (h2 : b ≠ 26) (h3 : b ≠ 27) : one6 p b = endsF p b := by
  have hs' := hs
  simp only [atEnd] at hs'
  unfold one6
  rw [if_neg (by omega), if_neg (by omega), if_neg h3, if_pos hs]
theorem told_len (p : Ps) (e : Ev) : (told p e).1 = sbegin 0 ∧ (told p e).2.length ≤ 1 := by unfold told; split <;> simp
/-- ESC c -/
theorem ends_reset {p : Ps} (h : may6 p = true) : (feed6 p [27, 99]).1 = sbegin 0 ∧ ∃ l, (feed6 p [27, 99]).2 = l ++ [evEsc [] 99] ∧ l.length ≤ 1 := by
  have e : esc1F 99 = (sbegin 0, [evEsc [] 99]) := by decide
  simp only [feed6]
  rcases ends_esc h with ⟨q, l⟩ | ⟨q, l⟩
  · rw [q, esc1_one, e]
    exact ⟨rfl, _, by simp, l⟩
  · rw [one_end q (by decide) (by decide) (by decide), l]
    have : endsF (one6 p 27).1 99 = esc1F 99 := by unfold endsF; rw [if_pos (by decide)]
    rw [this, e]
    exact ⟨rfl, [], rfl, by simp⟩
/-- ESC \ -/
theorem ends_st {p : Ps} (h : may6 p = true) : (feed6 p [27, 92]).1 = sbegin 0 ∧ (feed6 p [27, 92]).2.length ≤ 2 := by
  have e : esc1F 92 = (sbegin 0, [evEsc [] 92]) := by decide
  simp only [feed6]
  rcases ends_esc h with ⟨q, l⟩ | ⟨q, l⟩
  · rw [q, esc1_one, e]
    exact ⟨rfl, by simp; omega⟩
  · rw [one_end q (by decide) (by decide) (by decide), l]
    have : (endsF (one6 p 27).1 92).1 = sbegin 0 ∧ (endsF (one6 p 27).1 92).2.length ≤ 1 := by
      unfold endsF
      rw [if_neg (by decide)]
      split
      · exact told_len _ _
      split
      · exact told_len _ _
      · exact ⟨rfl, by simp⟩
    exact ⟨this.1, by simp; omega⟩
theorem ends_can' {p : Ps} (h : may6 p = true) : (feed6 p [24]).1 = sbegin 0 ∧ (feed6 p [24]).2.length ≤ 2 := by
  obtain ⟨h1, h2⟩ := ends_can h
  simp only [feed6]
  exact ⟨h1, by simp; omega⟩
theorem ends_all {p : Ps} {s : List Int} (a b : List Int) (hp : (feed6 p a).1 = sbegin 0 → True) (h : (feed6 (feed6 p a).1 s).1 = sbegin 0) :
    feed6 p (a ++ s ++ b) = ((feed6 (sbegin 0) b).1, (feed6 p a).2 ++ (feed6 (feed6 p a).1 s).2 ++ (feed6 (sbegin 0) b).2) := by
  rw [feed6_app, feed6_app, h]
end Fen

namespace Fen
open Go

/-! ### texts (StateTexts) -/
def nums8 (s : List UInt8) : List Int := s.map fun b => (b.toNat : Int)
@[simp] theorem nums8_nil : nums8 [] = [] := rfl
@[simp] theorem nums8_cons (b : UInt8) (s : List UInt8) : nums8 (b :: s) = (b.toNat : Int) :: nums8 s := rfl
@[simp] theorem nums8_app (a b : List UInt8) : nums8 (a ++ b) = nums8 a ++ nums8 b := by simp [nums8]
theorem u8B_of (b : UInt8) : u8B (b.toNat : Int) = b := by simp [u8B]
theorem nums8_bytes (s : List UInt8) : Bytes (nums8 s) := fun x hx => by
  obtain ⟨b, _, rfl⟩ := List.mem_map.1 hx
  have := b.toNat_lt
  omega
def oscP (t : List UInt8) : Ps := ⟨6, [], 0, 0, [], [], t, false⟩
theorem osc_one {t : List UInt8} {b : UInt8} (h1 : 32 ≤ b.toNat) (h2 : b.toNat ≠ 127) : one6 (oscP t) b.toNat = if t.length = 512 then (sspoil 6, []) else (oscP (t ++ [b]), []) := by
  unfold one6 withinF
  simp only [oscP, u8B_of]
  rw [if_neg (by simp), if_neg (by omega), if_neg (by omega), if_neg (by simp [atEnd]), if_pos (by simp [inText]), if_neg (by omega), if_neg (by simp; omega)]
theorem osc_bad {b : UInt8} (h1 : 32 ≤ b.toNat) : one6 (sspoil 6) b.toNat = (sspoil 6, []) := by
  unfold one6 withinF
  simp only [sspoil]
  rw [if_neg (by simp), if_neg (by omega), if_neg (by omega), if_neg (by simp [atEnd]), if_pos (by simp [inText]), if_neg (by omega), if_pos (by simp)]
theorem osc_noise {p : Ps} (hs : p.s = 6) {b : Int} (h : b = 1 ∨ b = 127 ∨ b = 10) : one6 p b = (p, []) := by
  unfold one6 withinF
  rw [if_neg (by omega), if_neg (by omega), if_neg (by omega), if_neg (by simp [atEnd, hs]), if_pos (by simp [inText, hs]), if_neg (by omega), if_pos (by omega)]
def okText (l : List UInt8) : Prop := ∀ b ∈ l, 32 ≤ b.toNat ∧ b.toNat ≠ 127
theorem osc_bads : ∀ (l : List UInt8), okText l → feed6 (sspoil 6) (nums8 l) = (sspoil 6, [])
  | [], _ => rfl
  | b :: l, h => by
    simp only [nums8_cons, feed6, osc_bad (h b (by simp)).1, osc_bads l fun x hx => h x (by simp [hx])]
    rfl
theorem osc_feed : ∀ (l t : List UInt8), okText l → t.length ≤ 512 → feed6 (oscP t) (nums8 l) = if t.length + l.length ≤ 512 then (oscP (t ++ l), []) else (sspoil 6, [])
  | [], t, _, ht => by simp [feed6, ht]
  | b :: l, t, h, ht => by
    have hb := h b (by simp)
    have hl : okText l := fun x hx => h x (by simp [hx])
    simp only [nums8_cons, feed6, osc_one hb.1 hb.2]
    by_cases c : t.length = 512
    · rw [if_pos c, osc_bads l hl, if_neg (by simp; omega)]
      rfl
    · rw [if_neg c]
      simp only [osc_feed l (t ++ [b]) hl (by simp; omega)]
      by_cases d : t.length + (b :: l).length ≤ 512
      · rw [if_pos (by simp at d ⊢; omega), if_pos d]; simp
      · rw [if_neg (by simp at d ⊢; omega), if_neg d]; rfl
/-- behind ESC ] and a text -/
def oscAt (l : List UInt8) : Ps := if l.length ≤ 512 then oscP l else sspoil 6
theorem osc_start : feed6 (sbegin 0) [27, 93] = (sbegin 6, []) := by decide
theorem osc_text {l : List UInt8} (h : okText l) : feed6 (sbegin 0) (27 :: 93 :: nums8 l) = (oscAt l, []) := by
  have := feed6_app (sbegin 0) [27, 93] (nums8 l)
  rw [osc_start] at this
  have e : sbegin 6 = oscP [] := rfl
  simp only [List.cons_append, List.nil_append, e, osc_feed l [] h (by simp)] at this
  rw [this]
  unfold oscAt
  by_cases c : l.length ≤ 512
  · simp [c]
  · simp [c]
theorem osc_noisy {a b : List UInt8} (ha : okText a) (hb : okText b) : feed6 (sbegin 0) (27 :: 93 :: (nums8 a ++ [1, 127, 10] ++ nums8 b)) = (oscAt (a ++ b), []) := by
  have h1 := osc_text ha
  have h2 := feed6_app (sbegin 0) (27 :: 93 :: nums8 a) ([1, 127, 10] ++ nums8 b)
  rw [h1] at h2
  have hs : (oscAt a).s = 6 := by unfold oscAt; split <;> rfl
  have h3 : feed6 (oscAt a) [1, 127, 10] = (oscAt a, []) := by
    simp only [feed6, osc_noise hs (.inl rfl), osc_noise hs (.inr (.inl rfl)), osc_noise hs (.inr (.inr rfl))]
    rfl
  have h4 := feed6_app (oscAt a) [1, 127, 10] (nums8 b)
  rw [h3] at h4
  have h5 : feed6 (oscAt a) (nums8 b) = (oscAt (a ++ b), []) := by
    unfold oscAt
    by_cases c : a.length ≤ 512
    · rw [if_pos c, osc_feed b a hb c]
      by_cases d : a.length + b.length ≤ 512
      · rw [if_pos d, if_pos (by simpa using d)]
      · rw [if_neg d, if_neg (by simpa using d)]
    · rw [if_neg c, osc_bads b hb, if_neg (by simp; omega)]
  rw [h5] at h4
  simp only [List.nil_append] at h4 h2
  rw [show (27 : Int) :: 93 :: (nums8 a ++ [1, 127, 10] ++ nums8 b) = (27 :: 93 :: nums8 a) ++ ([1, 127, 10] ++ nums8 b) by simp, h2, h4]
/-- .. and what ends it -/
theorem osc_bel {l : List UInt8} (b : Int) : feed6 (oscAt l) [7] = (sbegin 0, if l.length ≤ 512 then [evOsc l] else []) := by
  unfold oscAt
  by_cases c : l.length ≤ 512
  · simp only [if_pos c, feed6]; rfl
  · simp only [if_neg c, feed6]; rfl
theorem osc_st {l : List UInt8} : feed6 (oscAt l) [27, 92] = (sbegin 0, if l.length ≤ 512 then [evOsc l] else []) := by
  unfold oscAt
  by_cases c : l.length ≤ 512
  · simp only [if_pos c, feed6]; rfl
  · simp only [if_neg c, feed6]; rfl
theorem osc_csi {l : List UInt8} : feed6 (oscAt l) [27, 91, 109] = (sbegin 0, [⟨4, 0, 0, 109, [], [], []⟩]) := by
  unfold oscAt
  by_cases c : l.length ≤ 512
  · simp only [if_pos c, feed6]; rfl
  · simp only [if_neg c, feed6]; rfl
theorem print_a : feed6 (sbegin 0) [97] = (sbegin 0, [evCode 1 97]) := by decide
/-- an ignored text -/
theorem away_one {b : UInt8} (h : b.toNat ≠ 24 ∧ b.toNat ≠ 26 ∧ b.toNat ≠ 27) : one6 (sbegin 13) b.toNat = (sbegin 13, []) := by
  unfold one6 withinF
  simp only [sbegin]
  rw [if_neg (by simp), if_neg (by omega), if_neg (by omega), if_neg (by simp [atEnd]), if_pos (by simp [inText]), if_neg (by simp), if_pos (by simp)]
theorem away_feed : ∀ (l : List UInt8), okText l → feed6 (sbegin 13) (nums8 l) = (sbegin 13, [])
  | [], _ => rfl
  | b :: l, h => by
    have := h b (by simp)
    simp only [nums8_cons, feed6, away_one (b := b) (by omega), away_feed l fun x hx => h x (by simp [hx])]
    rfl
theorem away_text {l : List UInt8} {c : Int} (hc : c = 88 ∨ c = 94 ∨ c = 95) (h : okText l) : feed6 (sbegin 0) (27 :: c :: (nums8 l ++ [7, 27, 92, 97])) = (sbegin 0, [evCode 1 97]) := by
  have e0 : feed6 (sbegin 0) [27, c] = (sbegin 13, []) := by rcases hc with rfl | rfl | rfl <;> decide
  have h2 := feed6_app (sbegin 0) [27, c] (nums8 l ++ [7, 27, 92, 97])
  have h3 := feed6_app (sbegin 13) (nums8 l) [7, 27, 92, 97]
  have e1 : feed6 (sbegin 13) [7, 27, 92, 97] = (sbegin 0, [evCode 1 97]) := by decide
  rw [away_feed l h] at h3
  rw [e0] at h2
  simp only [List.nil_append, e1] at h3
  simp only [List.nil_append, h3] at h2
  exact h2
end Fen

namespace Fen
open Go

/-! ### sequences with parameters (StateCsi) -/
def digF (n : Nat) : List UInt8 :=
  if n < 10 then [UInt8.ofNat (48 + n)] else if n < 100 then [UInt8.ofNat (48 + n / 10), UInt8.ofNat (48 + n % 10)]
  else if n < 1000 then [UInt8.ofNat (48 + n / 100), UInt8.ofNat (48 + n / 10 % 10), UInt8.ofNat (48 + n % 10)]
  else [UInt8.ofNat (48 + n / 1000), UInt8.ofNat (48 + n / 100 % 10), UInt8.ofNat (48 + n / 10 % 10), UInt8.ofNat (48 + n % 10)]
def digT (v : Int) : List UInt8 := if v < 0 then [] else digF v.toNat
def parP (pv : Int) (P : List (List Int)) : Ps := ⟨4, [], pv, 0, P, [], [], false⟩
def intP (pv : Int) (P : List (List Int)) (J : List UInt8) : Ps := ⟨5, [], pv, 0, P, J, [], false⟩
def entP (pv : Int) : Ps := if pv = 0 then sbegin 3 else parP pv []
theorem one_goes {p : Ps} {b : Int} (hs : p.s = 3 ∨ p.s = 4 ∨ p.s = 5) (h1 : 32 ≤ b) (h2 : b < 127) : one6 p b = goes6 p b := by
  unfold one6
  rw [if_neg (by omega), if_neg (by omega), if_neg (by omega), if_neg (by simp only [atEnd]; omega), if_neg (by simp only [inText]; omega), if_neg (by omega), if_neg (by omega), if_neg (by omega)]
theorem par_one {pv : Int} {P : List (List Int)} {b : Int} (h1 : 48 ≤ b) (h2 : b < 60) : one6 (parP pv P) b = (digitF (parP pv P) b, []) := by
  rw [one_goes (.inr (.inl rfl)) (by omega) (by omega)]
  unfold goes6 paramsF
  simp only [parP]
  rw [if_neg (by decide), if_neg (by decide), if_neg (by decide), if_neg (by decide), if_pos (by decide), if_neg (by omega), if_pos h2]
theorem ent_one {pv b : Int} (h1 : 48 ≤ b) (h2 : b < 60) : one6 (entP pv) b = (parP pv (pstepF [] b).1, []) := by
  unfold entP
  split
  · rename_i q
    rw [one_goes (.inl rfl) (by omega) (by omega)]
    unfold goes6 entryF
    simp only [sbegin]
    rw [if_neg (by decide), if_neg (by decide), if_neg (by decide), if_pos (by decide), if_neg (by omega), if_pos h2, q]
    rfl
  · rw [par_one h1 h2]
    have := pstep_first h1 h2
    simp [digitF, parP, this]
theorem bad_one {b : Int} (h1 : 48 ≤ b) (h2 : b < 60) : one6 (sspoil 4) b = (sspoil 4, []) := by
  rw [one_goes (.inr (.inl rfl)) (by omega) (by omega)]
  unfold goes6 paramsF digitF
  simp only [sspoil]
  rw [if_neg (by decide), if_neg (by decide), if_neg (by decide), if_neg (by decide), if_pos (by decide), if_neg (by omega), if_pos h2, if_pos (by simp)]
/-- a digit -/
theorem pstep_digit {P : List (List Int)} {m d : Int} (h : parOK (P ++ [[m]]) = true) (h0 : 0 ≤ d) (h9 : d ≤ 9) : pstepF (P ++ [[m]]) (48 + d) = (P ++ [[capP (maxZ m * 10 + d)]], 0) := by
  unfold pstepF
  have e : pbase (P ++ [[m]]) = P ++ [[m]] := by unfold pbase; rw [if_neg (by simp)]
  rw [if_neg (by simp [h]), if_neg (by omega), if_neg (by omega), if_pos (by omega), e]
  simp
  congr 1
  omega
theorem pstep_digit0 {d : Int} (h0 : 0 ≤ d) (h9 : d ≤ 9) : pstepF [] (48 + d) = ([[d]], 0) := by
  unfold pstepF
  rw [if_neg (by decide), if_neg (by omega), if_neg (by omega), if_pos (by omega)]
  have e : (pbase []) = [[-1]] := rfl
  rw [e]
  have : capP (maxZ ([-1].getLastD 0) * 10 + (48 + d - 48)) = d := by
    have : maxZ ([-1].getLastD 0) = 0 := by decide
    rw [this]; unfold capP; split <;> omega
  show ([] ++ [([] : List Int) ++ [capP (maxZ ([-1].getLastD 0) * 10 + (48 + d - 48))]], (0 : Int)) = _
  rw [this]
  rfl
theorem par_digit {pv : Int} {P : List (List Int)} {m d : Int} (h : parOK (P ++ [[m]]) = true) (h0 : 0 ≤ d) (h9 : d ≤ 9) : one6 (parP pv (P ++ [[m]])) (48 + d) = (parP pv (P ++ [[capP (maxZ m * 10 + d)]]), []) := by
  rw [par_one (by omega) (by omega)]
  unfold digitF
  simp only [parP, pstep_digit h h0 h9]
  rw [if_neg (by simp)]
theorem dig_nat {k : Nat} (h : k ≤ 9) : ((UInt8.ofNat (48 + k)).toNat : Int) = 48 + (k : Int) := by
  rw [UInt8.toNat_ofNat']; omega
/-- P and one more value in reach -/
def Fits (P : List (List Int)) : Prop := P.length ≤ 15 ∧ ∀ l ∈ P, subOK l = true
theorem fits_par {P : List (List Int)} {m : Int} (h : Fits P) (h0 : P ≠ [] ∨ 0 ≤ m) (h1 : -1 ≤ m) (h2 : m ≤ 9999) : parOK (P ++ [[m]]) = true := by
  refine parOK_iff.2 ⟨by simp; exact h.1, fun l hl => ?_, fun e => ?_⟩
  · rcases List.mem_append.1 hl with q | q
    · exact h.2 l q
    · simp at q; subst q; exact subOK_iff.2 ⟨by simp, by simp, fun n hn => by simp at hn; omega⟩
  · have h3 : P = [] := by
      have := congrArg List.length e
      simp at this; exact this
    subst h3
    simp at e
    rcases h0 with q | q
    · exact q rfl
    · omega
theorem feed_cons (p : Ps) (b : Int) (l : List Int) {q : Ps} (h : one6 p b = (q, [])) : feed6 p (b :: l) = feed6 q l := by
  simp [feed6, h]
theorem cap_id {n : Int} (h : n ≤ 9999) : capP n = n := by unfold capP; rw [if_neg (by omega)]
theorem max_id {n : Int} (h : 0 ≤ n) : maxZ n = n := by unfold maxZ; rw [if_neg (by omega)]
/-- the digits of a number, behind a value a of which they go on -/
theorem digs2 {pv : Int} {P : List (List Int)} (h : Fits P) {a d : Nat} (ha : a * 10 + d ≤ 9999) (hd : d ≤ 9) : one6 (parP pv (P ++ [[(a : Int)]])) ((UInt8.ofNat (48 + d)).toNat : Int) = (parP pv (P ++ [[((a * 10 + d : Nat) : Int)]]), []) := by
  rw [dig_nat hd, par_digit (fits_par h (.inr (by omega)) (by omega) (by omega)) (by omega) (by omega), max_id (by omega), cap_id (by omega)]
  simp
/-- S goes to a first value with its first digit -/
def Starts (pv : Int) (P : List (List Int)) (S : Ps) : Prop := ∀ d : Nat, d ≤ 9 → one6 S ((UInt8.ofNat (48 + d)).toNat : Int) = (parP pv (P ++ [[(d : Int)]]), [])
theorem starts_ent (pv : Int) : Starts pv [] (entP pv) := fun d hd => by
  rw [dig_nat hd, ent_one (by omega) (by omega), pstep_digit0 (by omega) (by omega)]
  rfl
theorem starts_par (pv : Int) {P : List (List Int)} (h : Fits P) (hP : P ≠ []) : Starts pv P (parP pv (P ++ [[-1]])) := fun d hd => by
  rw [dig_nat hd, par_digit (fits_par h (.inl hP) (by omega) (by omega)) (by omega) (by omega)]
  have : capP (maxZ (-1) * 10 + (d : Int)) = d := by
    have : maxZ (-1) = 0 := by decide
    rw [this, cap_id (by omega)]; omega
  rw [this]
theorem dig_feed {pv : Int} {P : List (List Int)} {S : Ps} (h : Fits P) (hS : Starts pv P S) {n : Nat} (hn : n ≤ 9999) : feed6 S (nums8 (digF n)) = (parP pv (P ++ [[(n : Int)]]), []) := by
  unfold digF
  split
  · simp only [nums8_cons, nums8_nil]
    rw [feed_cons _ _ _ (hS n (by omega))]
    rfl
  split
  · simp only [nums8_cons, nums8_nil]
    rw [feed_cons _ _ _ (hS (n / 10) (by omega)), feed_cons _ _ _ (digs2 h (a := n / 10) (d := n % 10) (by omega) (by omega)), show n / 10 * 10 + n % 10 = n by omega]
    rfl
  split
  · simp only [nums8_cons, nums8_nil]
    rw [feed_cons _ _ _ (hS (n / 100) (by omega)), feed_cons _ _ _ (digs2 h (a := n / 100) (d := n / 10 % 10) (by omega) (by omega)), feed_cons _ _ _ (digs2 h (a := n / 100 * 10 + n / 10 % 10) (d := n % 10) (by omega) (by omega)),
      show (n / 100 * 10 + n / 10 % 10) * 10 + n % 10 = n by omega]
    rfl
  · simp only [nums8_cons, nums8_nil]
    rw [feed_cons _ _ _ (hS (n / 1000) (by omega)), feed_cons _ _ _ (digs2 h (a := n / 1000) (d := n / 100 % 10) (by omega) (by omega)), feed_cons _ _ _ (digs2 h (a := n / 1000 * 10 + n / 100 % 10) (d := n / 10 % 10) (by omega) (by omega)),
      feed_cons _ _ _ (digs2 h (a := (n / 1000 * 10 + n / 100 % 10) * 10 + n / 10 % 10) (d := n % 10) (by omega) (by omega)), show ((n / 1000 * 10 + n / 100 % 10) * 10 + n / 10 % 10) * 10 + n % 10 = n by omega]
    rfl
def inV (v : Int) : Prop := -1 ≤ v ∧ v ≤ 9999
theorem dig_bytes {n : Nat} : ∀ b ∈ digF n, 48 ≤ b.toNat ∧ b.toNat < 58 ∨ 9999 < n := by
  intro b hb
  rcases Nat.lt_or_ge 9999 n with q | q
  · exact .inr q
  have key : ∀ k, k ≤ 9 → 48 ≤ (UInt8.ofNat (48 + k)).toNat ∧ (UInt8.ofNat (48 + k)).toNat < 58 := fun k hk => by rw [UInt8.toNat_ofNat']; omega
  left
  unfold digF at hb
  split at hb
  · simp only [List.mem_cons, List.not_mem_nil, or_false] at hb; subst hb; exact key _ (by omega)
  split at hb
  · simp only [List.mem_cons, List.not_mem_nil, or_false] at hb; rcases hb with rfl | rfl <;> exact key _ (by omega)
  split at hb
  · simp only [List.mem_cons, List.not_mem_nil, or_false] at hb; rcases hb with rfl | rfl | rfl <;> exact key _ (by omega)
  · simp only [List.mem_cons, List.not_mem_nil, or_false] at hb; rcases hb with rfl | rfl | rfl | rfl <;> exact key _ (by omega)
theorem bad_feed : ∀ (l : List UInt8), (∀ b ∈ l, 48 ≤ b.toNat ∧ b.toNat < 60) → feed6 (sspoil 4) (nums8 l) = (sspoil 4, [])
  | [], _ => rfl
  | b :: l, h => by
    have := h b (by simp)
    rw [nums8_cons, feed_cons _ _ _ (bad_one (by omega) (by omega)), bad_feed l fun x hx => h x (by simp [hx])]
theorem pstep_semi {P : List (List Int)} (h : parOK P = true) (hP : P ≠ []) : pstepF P 59 = if P.length < 16 then (P ++ [[-1]], 0) else ([], 3) := by
  have hb : pbase P = P := by unfold pbase; rw [if_neg hP]
  unfold pstepF
  rw [if_neg (by simp [h]), if_pos rfl, hb]
theorem par_semi {pv : Int} {P : List (List Int)} (h : parOK P = true) (hP : P ≠ []) : one6 (parP pv P) 59 = (if P.length < 16 then parP pv (P ++ [[-1]]) else sspoil 4, []) := by
  rw [par_one (by omega) (by omega)]
  by_cases k : P.length < 16
  · simp [digitF, parP, pstep_semi h hP, k]
  · simp [digitF, parP, pstep_semi h hP, k]
/-- the text of the first i values -/
def pieceV (V : List Int) (i : Nat) : List UInt8 := (if 0 < i then [59] else []) ++ digT (V.getD i 0)
def textV (V : List Int) (i : Nat) : List UInt8 := (List.range i).flatMap (pieceV V)
theorem textV_succ (V : List Int) (i : Nat) : textV V (i + 1) = textV V i ++ pieceV V i := by simp [textV, List.range_succ]
def valsV (V : List Int) (i : Nat) : List (List Int) := (V.take i).map fun v => [v]
def stateV (pv : Int) (V : List Int) (i : Nat) : Ps := if i = 0 ∨ (i = 1 ∧ V.getD 0 0 = -1) then entP pv else if i ≤ 16 then parP pv (valsV V i) else sspoil 4
theorem valsV_succ {V : List Int} {i : Nat} (h : i < V.length) : valsV V (i + 1) = valsV V i ++ [[V.getD i 0]] := by
  unfold valsV
  rw [List.take_succ_eq_append_getElem h, List.map_append, List.getD_eq_getElem?_getD, List.getElem?_eq_getElem h]; rfl
theorem valsV_len {V : List Int} {i : Nat} (h : i ≤ V.length) : (valsV V i).length = i := by simp [valsV]; omega
theorem valsV_sub {V : List Int} (hV : ∀ v ∈ V, inV v) (i : Nat) : ∀ l ∈ valsV V i, subOK l = true := fun l hl => by
  obtain ⟨v, hv, rfl⟩ := List.mem_map.1 hl
  have := hV v (List.mem_of_mem_take hv)
  exact subOK_iff.2 ⟨by simp, by simp, fun n hn => by simp at hn; subst hn; exact this⟩
theorem text_feed (pv : Int) {V : List Int} (hV : ∀ v ∈ V, inV v) : ∀ i, i ≤ V.length → feed6 (entP pv) (nums8 (textV V i)) = (stateV pv V i, [])
  | 0, _ => rfl
  | i + 1, hi => by
    rw [textV_succ, nums8_app, feed6_app, text_feed pv hV i (by omega)]
    simp only [List.nil_append]
    have hm : V.getD i 0 ∈ V := by rw [List.getD_eq_getElem?_getD, List.getElem?_eq_getElem (by omega)]; exact List.getElem_mem _
    have hv := hV _ hm
    have hsucc := valsV_succ (V := V) (i := i) (by omega)
    have hlen := valsV_len (V := V) (i := i) (by omega)
    have hsub := valsV_sub hV i
    generalize hg : V.getD i 0 = v at *
    unfold inV at hv
    have fin : ∀ {x y : Ps × List Ev}, x = y → x.2 = [] → ((x.1, x.2) : Ps × List Ev) = y := fun h _ => h
    suffices hh : feed6 (stateV pv V i) (nums8 (pieceV V i)) = (stateV pv V (i + 1), []) by rw [hh]
    unfold pieceV
    rw [hg]
    by_cases z : i = 0
    · subst z
      have e0 : stateV pv V 0 = entP pv := by unfold stateV; rw [if_pos (.inl rfl)]
      rw [e0]
      simp only [Nat.lt_irrefl, if_false, List.nil_append]
      unfold digT
      by_cases n : v < 0
      · rw [if_pos n]
        have : v = -1 := by omega
        unfold stateV
        rw [if_pos (.inr ⟨by omega, by rw [hg]; exact this⟩)]
        rfl
      · have hn : ((v.toNat : Nat) : Int) = v := by omega
        have c0 : ¬ (0 + 1 = 0 ∨ (0 + 1 = 1 ∧ V.getD 0 0 = -1)) := by rw [hg]; omega
        rw [if_neg n, dig_feed ⟨by simp, by simp⟩ (starts_ent pv) (by omega), hn]
        unfold stateV
        rw [if_neg c0, if_pos (by omega), hsucc]
        rfl
    · rw [if_pos (by omega)]
      have e1 : stateV pv V (i + 1) = if i + 1 ≤ 16 then parP pv (valsV V (i + 1)) else sspoil 4 := by unfold stateV; rw [if_neg (by omega)]
      have hdig : ∀ b ∈ digT v, 48 ≤ b.toNat ∧ b.toNat < 60 := fun b hb => by
        unfold digT at hb
        split at hb
        · simp at hb
        · rcases dig_bytes b hb with q | q <;> omega
      simp only [List.singleton_append, nums8_cons]
      have e59 : ((59 : UInt8).toNat : Int) = 59 := rfl
      rw [e59]
      -- behind a semicolon
      have tail : i ≤ 15 → feed6 (parP pv (valsV V i ++ [[-1]])) (nums8 (digT v)) = (stateV pv V (i + 1), []) := fun h15 => by
        rw [e1, if_pos (by omega), hsucc]
        unfold digT
        by_cases n : v < 0
        · rw [if_pos n]
          have : v = -1 := by omega
          rw [this]; rfl
        · rw [if_neg n, dig_feed ⟨by omega, hsub⟩ (starts_par pv ⟨by omega, hsub⟩ (fun e => by rw [e] at hlen; simp at hlen; omega)) (by omega), show ((v.toNat : Nat) : Int) = v by omega]
      by_cases w : i = 1 ∧ V.getD 0 0 = -1
      · have e0 : stateV pv V i = entP pv := by unfold stateV; rw [if_pos (.inr w)]
        rw [e0, feed_cons _ _ _ (ent_one (by omega) (by omega))]
        have e2 : (pstepF [] 59).1 = valsV V i ++ [[-1]] := by
          have : valsV V i = [[-1]] := by
            rw [w.1]
            have := valsV_succ (V := V) (i := 0) (by omega)
            rw [w.2] at this
            rw [this]; rfl
          rw [this]; decide
        rw [e2]
        exact tail (by omega)
      · have e0 : stateV pv V i = if i ≤ 16 then parP pv (valsV V i) else sspoil 4 := by unfold stateV; rw [if_neg (by omega)]
        rw [e0]
        rcases Nat.lt_or_ge 16 i with q | q
        · rw [if_neg (by omega), feed_cons _ _ _ (bad_one (by omega) (by omega)), bad_feed _ hdig, e1, if_neg (by omega)]
        · have hne : valsV V i ≠ [] := fun e => by rw [e] at hlen; simp at hlen; omega
          have hok : parOK (valsV V i) = true := parOK_iff.2 ⟨by omega, hsub, fun e => by
            have h1 : i = 1 := by have := congrArg List.length e; simp at this; omega
            subst h1
            have h2 := valsV_succ (V := V) (i := 0) (by omega)
            rw [h2] at e
            simp [valsV] at e
            exact w ⟨rfl, by simpa using e⟩⟩
          have e2 := par_semi (pv := pv) hok hne
          rw [hlen] at e2
          rw [if_pos q, feed_cons _ _ _ e2]
          by_cases k : i < 16
          · rw [if_pos k]; exact tail (by omega)
          · rw [if_neg k, bad_feed _ hdig, e1, if_neg (by omega)]
end Fen

namespace Fen
open Go

def parsV (V : List Int) (i : Nat) : List (List Int) := if i = 0 ∨ (i = 1 ∧ V.getD 0 0 = -1) then [] else valsV V i
theorem sign_par {pv : Int} {P : List (List Int)} {b : Int} (h1 : 32 ≤ b) (h2 : b < 48) : one6 (parP pv P) b = (intP pv P [u8B b], []) := by
  rw [one_goes (.inr (.inl rfl)) h1 (by omega)]
  unfold goes6 paramsF
  simp only [parP]
  rw [if_neg (by decide), if_neg (by decide), if_neg (by decide), if_neg (by decide), if_pos (by decide), if_pos h2]
  rfl
theorem sign_ent {b : Int} (h1 : 32 ≤ b) (h2 : b < 48) : one6 (sbegin 3) b = (intP 0 [] [u8B b], []) := by
  rw [one_goes (.inl rfl) h1 (by omega)]
  unfold goes6 entryF
  simp only [sbegin]
  rw [if_neg (by decide), if_neg (by decide), if_neg (by decide), if_pos (by decide), if_pos h2]
  rfl
theorem sign_bad4 {b : Int} (h1 : 32 ≤ b) (h2 : b < 48) : one6 (sspoil 4) b = (sspoil 5, []) := by
  rw [one_goes (.inr (.inl rfl)) h1 (by omega)]
  unfold goes6 paramsF
  simp only [sspoil]
  rw [if_neg (by decide), if_neg (by decide), if_neg (by decide), if_neg (by decide), if_pos (by decide), if_pos h2]
  simp [signed, sspoil]
theorem sign_bad5 {b : Int} (h1 : 32 ≤ b) (h2 : b < 48) : one6 (sspoil 5) b = (sspoil 5, []) := by
  rw [one_goes (.inr (.inr rfl)) h1 (by omega)]
  simp [goes6, intersF, sspoil, signed, h2]
theorem sign_int {pv : Int} {P : List (List Int)} {J : List UInt8} {b : Int} (h1 : 32 ≤ b) (h2 : b < 48) : one6 (intP pv P J) b = (if J.length = 2 then sspoil 5 else intP pv P (J ++ [u8B b]), []) := by
  rw [one_goes (.inr (.inr rfl)) h1 (by omega)]
  simp [goes6, intersF, intP, signed, h2]
theorem sign_first {pv : Int} {V : List Int} {n : Nat} {b : Int} (h1 : 32 ≤ b) (h2 : b < 48) : one6 (stateV pv V n) b = (if n ≤ 16 then intP pv (parsV V n) [u8B b] else sspoil 5, []) := by
  unfold stateV parsV
  by_cases c : n = 0 ∨ (n = 1 ∧ V.getD 0 0 = -1)
  · rw [if_pos c, if_pos c, if_pos (by omega)]
    unfold entP
    split
    · rename_i q; rw [sign_ent h1 h2, q]
    · exact sign_par h1 h2
  · rw [if_neg c, if_neg c]
    by_cases d : n ≤ 16
    · rw [if_pos d, if_pos d]; exact sign_par h1 h2
    · rw [if_neg d, if_neg d]; exact sign_bad4 h1 h2
def signsS (pv : Int) (V : List Int) (n : Nat) (J : List UInt8) : Ps := if J = [] then stateV pv V n else if n ≤ 16 ∧ J.length ≤ 2 then intP pv (parsV V n) J else sspoil 5
theorem signs_feed {pv : Int} {V : List Int} {n : Nat} : ∀ (K J : List UInt8), (∀ b ∈ K, 32 ≤ b.toNat ∧ b.toNat < 48) → feed6 (signsS pv V n J) (nums8 K) = (signsS pv V n (J ++ K), [])
  | [], J, _ => by simp [feed6]
  | b :: K, J, h => by
    have hb := h b (by simp)
    have e : one6 (signsS pv V n J) b.toNat = (signsS pv V n (J ++ [b]), []) := by
      unfold signsS
      by_cases c : J = []
      · subst c
        rw [if_pos rfl, sign_first (by omega) (by omega), u8B_of]
        simp
      · rw [if_neg c, if_neg (show ¬ (J ++ [b] = []) by simp)]
        by_cases d : n ≤ 16 ∧ J.length ≤ 2
        · rw [if_pos d, sign_int (by omega) (by omega), u8B_of]
          by_cases f : J.length = 2
          · rw [if_pos f, if_neg (by simp; omega)]
          · rw [if_neg f, if_pos (by simp; omega)]
        · rw [if_neg d, sign_bad5 (by omega) (by omega), if_neg (by simp; omega)]
    rw [nums8_cons, feed_cons _ _ _ e, signs_feed K (J ++ [b]) fun x hx => h x (by simp [hx])]
    simp
theorem fin_last {p : Ps} {f : Int} (hs : p.s = 3 ∨ p.s = 4 ∨ p.s = 5) (h1 : 64 ≤ f) (h2 : f < 127) : one6 p f = told p ⟨4, 0, p.pv, f, p.ps, p.it, []⟩ := by
  rw [one_goes hs (by omega) h2]
  unfold goes6 entryF paramsF intersF lastF
  rw [if_neg (by omega), if_neg (by omega), if_neg (by omega)]
  rcases hs with q | q | q
  · rw [if_pos (by omega), if_neg (by omega), if_neg (by omega), if_neg (by omega), if_pos (by omega)]
  · rw [if_neg (by omega), if_pos (by omega), if_neg (by omega), if_neg (by omega), if_neg (by omega), if_pos (by omega)]
  · rw [if_neg (by omega), if_neg (by omega), if_neg (by omega), if_neg (by omega), if_pos (by omega)]
theorem fin_feed {pv : Int} {V : List Int} {n : Nat} {J : List UInt8} {f : Int} (h1 : 64 ≤ f) (h2 : f < 127) : one6 (signsS pv V n J) f = (sbegin 0, if n ≤ 16 ∧ J.length ≤ 2 then [⟨4, 0, pv, f, parsV V n, J, []⟩] else []) := by
  unfold signsS
  by_cases c : J = []
  · subst c
    rw [if_pos rfl]
    unfold stateV parsV
    by_cases d : n = 0 ∨ (n = 1 ∧ V.getD 0 0 = -1)
    · rw [if_pos d, if_pos d, if_pos ⟨by omega, by simp⟩]
      unfold entP
      split
      · rename_i q; rw [fin_last (.inl rfl) h1 h2, q]; rfl
      · rw [fin_last (.inr (.inl rfl)) h1 h2]; rfl
    · rw [if_neg d, if_neg d]
      by_cases e : n ≤ 16
      · rw [if_pos e, if_pos ⟨e, by simp⟩, fin_last (.inr (.inl rfl)) h1 h2]; rfl
      · rw [if_neg e, if_neg (fun q => e q.1), fin_last (.inr (.inl rfl)) h1 h2]; rfl
  · rw [if_neg c]
    by_cases d : n ≤ 16 ∧ J.length ≤ 2
    · rw [if_pos d, if_pos d, fin_last (.inr (.inr rfl)) h1 h2]; rfl
    · rw [if_neg d, if_neg d, fin_last (.inr (.inr rfl)) h1 h2]; rfl
def privL (pv : Int) : List Int := if pv = 0 then [] else [pv]
theorem csi_start {pv : Int} (h : pv = 0 ∨ (60 ≤ pv ∧ pv ≤ 63)) : feed6 (sbegin 0) (27 :: 91 :: privL pv) = (entP pv, []) := by
  have e : ∀ l, feed6 (sbegin 0) (27 :: 91 :: l) = feed6 (sbegin 3) l := fun l => by
    have e1 : one6 (sbegin 0) 27 = (sbegin 1, []) := by decide
    have e2 : one6 (sbegin 1) 91 = (sbegin 3, []) := by decide
    rw [feed_cons _ _ _ e1, feed_cons _ _ _ e2]
  rw [e]
  unfold privL entP
  by_cases c : pv = 0
  · rw [if_pos c, if_pos c]; rfl
  · rw [if_neg c, if_neg c, feed_cons (q := parP pv [])]
    · rfl
    · rw [one_goes (.inl rfl) (by omega) (by omega)]
      unfold goes6 entryF
      simp only [sbegin]
      rw [if_neg (by decide), if_neg (by decide), if_neg (by decide), if_pos (by decide), if_neg (by omega), if_neg (by omega), if_pos (by omega)]
      rfl
/-- THE SEQUENCE -/
theorem csi_feed {pv f : Int} {V : List Int} {J : List UInt8} (hp : pv = 0 ∨ (60 ≤ pv ∧ pv ≤ 63)) (hV : ∀ v ∈ V, inV v) (hJ : ∀ b ∈ J, 32 ≤ b.toNat ∧ b.toNat < 48) (h1 : 64 ≤ f) (h2 : f < 127) {n : Nat} (hn : n ≤ V.length) :
    feed6 (sbegin 0) (27 :: 91 :: (privL pv ++ (nums8 (textV V n) ++ (nums8 J ++ [f, 122])))) = (sbegin 0, (if n ≤ 16 ∧ J.length ≤ 2 then [⟨4, 0, pv, f, parsV V n, J, []⟩] else []) ++ [evCode 1 122]) := by
  have h3 := feed6_app (sbegin 0) (27 :: 91 :: privL pv) (nums8 (textV V n) ++ (nums8 J ++ [f, 122]))
  rw [csi_start hp] at h3
  have h4 := feed6_app (entP pv) (nums8 (textV V n)) (nums8 J ++ [f, 122])
  rw [text_feed pv hV n hn] at h4
  have h5 := feed6_app (signsS pv V n []) (nums8 J) [f, 122]
  rw [signs_feed J [] hJ] at h5
  have e0 : signsS pv V n [] = stateV pv V n := by unfold signsS; rw [if_pos rfl]
  rw [e0] at h5
  have h6 : feed6 (signsS pv V n ([] ++ J)) [f, 122] = (sbegin 0, (if n ≤ 16 ∧ J.length ≤ 2 then [⟨4, 0, pv, f, parsV V n, J, []⟩] else []) ++ [evCode 1 122]) := by
    have ez : one6 (sbegin 0) 122 = (sbegin 0, [evCode 1 122]) := by decide
    simp only [List.nil_append, feed6, fin_feed h1 h2, ez]
    simp
  rw [h6] at h5
  rw [h5] at h4
  simp only [List.nil_append] at h4
  rw [h4] at h3
  simp only [List.nil_append, List.cons_append] at h3
  exact h3
end Fen
