/- A part of the proof; no statement is proved here: WWidA, WWidB, WWidC, WWidD, WWidE, WWidF, WWidG, WWidH, WWidI, WWidJ. -/
import Derived.Test.YtcfigfhnlhkjiaaDoorUtfC
import Derived.Test.YtcfigfhnlhkjiaaDoorCoreD

set_option linter.unusedVariables false
set_option linter.unusedSimpArgs false

namespace Fen
open Go Go.Proofs

/-- ranges as cells -/
def spansC : List (Int × Int) → List C
  | [] => []
  | x :: l => .int .i64 x.1 :: .int .i64 x.2 :: spansC l
theorem spansC_drop : ∀ (l : List (Int × Int)) (k : Nat), (spansC l).drop (k * 2) = spansC (l.drop k)
  | _, 0 => by simp
  | [], k + 1 => by simp [spansC]
  | x :: l, k + 1 => by
    rw [show (k + 1) * 2 = k * 2 + 1 + 1 by omega]
    simp only [spansC, List.drop_succ_cons]
    exact spansC_drop l k
@[simp] theorem spansC_len (l : List (Int × Int)) : (spansC l).length = l.length * 2 := by
  induction l with
  | nil => rfl
  | cons x l ih => simp [spansC, ih]; omega

def inF (cp : Int) (l : List (Int × Int)) : Bool := l.any fun x => decide (x.1 ≤ cp) && decide (cp ≤ x.2)

def inSpec : Spec := { pre := fun args => ∃ (cp : Int) (l : List (Int × Int)), args = [.c (.int .i64 cp), .c (.sl l.length (spansC l))] ∧ l.length ≤ 1000, res := fun args => match args with
  | [.c (.int _ cp), .c (.sl _ cs)] => .one (.val (.c (.bool (inF cp (unC cs)))))
  | _ => .many [] }
where unC : List C → List (Int × Int)
  | .int _ a :: .int _ b :: l => (a, b) :: unC l
  | _ => []
@[simp] theorem unC_spansC (l : List (Int × Int)) : inSpec.unC (spansC l) = l := by
  induction l with
  | nil => rfl
  | cons x l ih => simp [spansC, inSpec.unC, ih]

def inS (cp : Int) (l : List (Int × Int)) (k : Nat) : St :=
  ⟨24, [(0, .val (.int .i64 cp)), (7, .val (.sl l.length (spansC l))), (8, .val (.int .i64 l.length)), (9, .val (.int .i64 k))], []⟩

set_option maxRecDepth 10000 in
theorem in_sound (gl : Gl) : Sound Tryd.prog gl 19 inSpec := by
  refine sound_fn (N := Tryd.f19.ntmps) (rs := Tryd.f19.results.toList) mixed tok (SpecsOK.nil _ gl) Tryd.func19 rfl rfl rfl rfl rfl ?_ ?_ ?_
  · rintro args ⟨cp, l, rfl, h0⟩; simp [Tryd.f19]
  · rintro args ⟨cp, l, rfl, h0⟩; simp [inSpec, Tryd.f19]
  · rintro args ⟨cp, l, rfl, h0⟩ bs hgl hh hro
    have hE : Env.OK ⟨Tryd.prog, T, [], bs⟩ := ⟨tok, by rw [hgl]; exact SpecsOK.nil _ gl⟩
    simp [inSpec, Tryd.f19]
    refine AWP.rounds (fun k => k ≤ l.length ∧ inF cp (l.take k) = false) (inS cp l) (fun k => l.length - k) 0 ⟨by omega, by simp [inF]⟩ ?_ ?_
    · refine Weak.keep ?_
      simp [inS]
    · rintro k ⟨hk, hf⟩
      refine wpc_ok hE mixed _ _ _ ?_
      rcases Nat.lt_or_ge k l.length with h | h
      · have w1 : IntKind.i64.wrap ((k : Int) + 1) = k + 1 := wrap64 _ (by omega) (by omega)
        have hd : (spansC l).drop (k * 2) = .int .i64 l[k].1 :: .int .i64 l[k].2 :: spansC (l.drop (k + 1)) := by
          rw [spansC_drop, List.drop_eq_getElem_cons h]; rfl
        have ht : inF cp (l.take (k + 1)) = (decide (l[k].1 ≤ cp) && decide (cp ≤ l[k].2)) := by
          rw [List.take_add_one, List.getElem?_eq_getElem h]
          unfold inF at hf ⊢
          rw [List.any_append, hf]; simp
        simp [inS, and_assoc, h, hd, w1]
        refine ⟨fun h1 h2 => ?_, fun h1 => ?_⟩
        · unfold inF
          rw [List.any_eq_true]
          exact ⟨l[k], List.getElem_mem h, by simp [h1, h2]⟩
        · refine Next.mk (k + 1) ⟨by omega, ?_⟩ (by omega) (Weak.ren [] (baseOK.nil hh) (by simp) (by simp) ?_)
          · rw [ht]; simp; omega
          · simp [inS]
      · have : k = l.length := by omega
        subst this
        rw [List.take_length] at hf
        simp [inS, hf]
end Fen

namespace Fen
open Go Go.Proofs

def marksL : List (Int × Int) := [(0x300, 0x36f), (0x483, 0x489), (0x591, 0x5bd), (0x610, 0x61a), (0x64b, 0x65f), (0x1ab0, 0x1aff), (0x1dc0, 0x1dff), (0x200b, 0x200f), (0x20d0, 0x20ff), (0xfe00, 0xfe0f), (0xfe20, 0xfe2f)]
def widesL : List (Int × Int) := [(0x1100, 0x115f), (0x2e80, 0x303e), (0x3041, 0x4dbf), (0x4e00, 0xa4cf), (0xac00, 0xd7a3), (0xf900, 0xfaff), (0xfe30, 0xfe6f), (0xff00, 0xff60), (0xffe0, 0xffe6), (0x1f300, 0x1f64f), (0x1f680, 0x1f6ff), (0x1f900, 0x1f9ff), (0x20000, 0x3fffd)]
def glW : Gl := [(0, spansC marksL), (1, spansC widesL)]

@[simp] theorem glk_0 : glk glW 0 = .fptr (spansC marksL) := rfl
@[simp] theorem glk_1 : glk glW 1 = .fptr (spansC widesL) := rfl

def widthF (cp : Int) : Int := if checkF cp = false ∨ inF cp [(0, 31), (127, 159)] = true then -1 else if cp < 768 then 1 else if inF cp marksL then 0 else if inF cp widesL then 2 else 1

def ofSpec : Spec := { pre := fun args => ∃ cp : Int, args = [.c (.int .i64 cp)] ∧ I64 cp, res := fun args => .one (.val (.c (.int .i64 (widthF (args.headD default).int)))) }

def GOf : Specs := [(18, checkSpec), (19, inSpec)]
@[simp] theorem GOf_18 : GOf.find 18 = some checkSpec := rfl
@[simp] theorem GOf_19 : GOf.find 19 = some inSpec := rfl
theorem GOf_ok (gl : Gl) : SpecsOK Tryd.prog gl GOf := .cons (check_sound gl) (.cons (in_sound gl) (.nil _ _))

set_option maxRecDepth 10000 in
theorem of_sound : Sound Tryd.prog glW 8 ofSpec := by
  refine sound_fn (N := Tryd.f8.ntmps) (rs := Tryd.f8.results.toList) mixed tok (GOf_ok glW) Tryd.func8 rfl rfl rfl rfl rfl ?_ ?_ ?_
  · rintro args ⟨cp, rfl, h0⟩; simp [Tryd.f8]
  · rintro args ⟨cp, rfl, h0⟩; simp [ofSpec, Tryd.f8]
  · rintro args ⟨cp, rfl, h0⟩ bs hgl hh hro
    obtain ⟨w0, own, g0, h0', gl, ro⟩ := bs
    simp only at hgl
    subst hgl
    have u0 : [C.int .i64 0, C.int .i64 31, C.int .i64 127, C.int .i64 159] = spansC [(0, 31), (127, 159)] := rfl
    have u1 : (spansC marksL).head? = some (.int .i64 768) := rfl
    have u2 : marksL.length = 11 := rfl
    have u3 : widesL.length = 13 := rfl
    simp [ofSpec, checkSpec, inSpec, Tryd.f8, and_assoc, h0, u0, u1, u2]
    refine ⟨fun h => ⟨h, [(0, 31), (127, 159)], rfl, rfl, by decide⟩, fun h => by unfold widthF; rw [if_pos h], fun h1 h2 => ?_⟩
    refine ⟨fun h => by unfold widthF; rw [if_neg (by simp [h1, h2]), if_pos h], fun h => ?_⟩
    refine OpW.arr tok T_42 rfl T_41 (cs := spansC marksL) rfl rfl (by decide) (by simp [dstOK]) ?_
    simp [inSpec, u2]
    refine ⟨⟨cp, marksL, ⟨rfl, rfl, rfl⟩, by decide⟩, fun h3 => by unfold widthF; rw [if_neg (by simp [h1, h2]), if_neg (by omega), if_pos h3], fun h3 => ?_⟩
    refine OpW.arr tok T_44 rfl T_41 (cs := spansC widesL) rfl rfl (by decide) (by simp [dstOK]) ?_
    simp [inSpec, u3]
    refine ⟨⟨cp, widesL, ⟨rfl, rfl, rfl⟩, by decide⟩, fun h4 => by unfold widthF; rw [if_neg (by simp [h1, h2]), if_neg (by omega), if_neg (by simp [h3]), if_pos h4], fun h4 => by unfold widthF; rw [if_neg (by simp [h1, h2]), if_neg (by omega), if_neg (by simp [h3]), if_neg (by simp [h4])]⟩
end Fen

namespace Fen
open Go Go.Proofs

def colHS : HS := { wr := true, eff := fun xs h => match xs with
  | [] => (True, .clos 32 [.ptr h.length 0 0], h ++ [.box 3 [.val (.int .i64 0)]])
  | _ => (False, .dead, h) }
def colSpec : Spec := { pre := fun _ => False, res := fun _ => .many [], hp := some colHS }

set_option maxRecDepth 10000 in
theorem col_sound (gl : Gl) : Sound Tryd.prog gl 24 colSpec := by
  refine sound_heap (hs := colHS) (N := Tryd.f24.ntmps) (rs := Tryd.f24.results.toList) mixed tok (SpecsOK.nil _ gl) Tryd.func24 rfl rfl rfl rfl rfl ?_ ?_
  · intro xs h hp
    simp only [colHS] at hp
    split at hp
    · simp [Tryd.f24]
    · exact hp.elim
  · intro xs h hp bs hgl hh hro
    simp only [colHS] at hp
    split at hp
    · simp [Tryd.f24, hcEff, colHS]
      exact RetTo.same ⟨rfl, rfl⟩
    · exact hp.elim

def widthG (n cp : Int) : Int := n + (if widthF cp > 0 then widthF cp else 0)

def sumHS : HS := { wr := true, eff := fun xs h => match xs with
  | [.val (.int .i64 cp), .ptr id 0 0] => (match h[id]? with
    | some (.box 3 [.val (.int .i64 n)]) => (I64 cp ∧ 0 ≤ n ∧ n ≤ 1000000000, .val (.int .i64 (widthG n cp)), h.set id (.box 3 [.val (.int .i64 (widthG n cp))]))
    | _ => (False, .dead, h))
  | _ => (False, .dead, h) }
def sumSpec : Spec := { pre := fun _ => False, res := fun _ => .many [], hp := some sumHS }

def GSm : Specs := [(8, ofSpec)]
@[simp] theorem GSm_8 : GSm.find 8 = some ofSpec := rfl
theorem GSm_ok : SpecsOK Tryd.prog glW GSm := .cons of_sound (.nil _ _)

theorem widthF_range (cp : Int) : -1 ≤ widthF cp ∧ widthF cp ≤ 2 := by unfold widthF; (repeat' split) <;> omega

set_option maxRecDepth 10000 in
theorem sum_sound : Sound Tryd.prog glW 32 sumSpec := by
  refine sound_heap (hs := sumHS) (N := Tryd.f32.ntmps) (rs := Tryd.f32.results.toList) mixed tok GSm_ok Tryd.func32 rfl rfl rfl rfl rfl ?_ ?_
  · intro xs h hp
    simp only [sumHS] at hp
    split at hp
    · simp [Tryd.f32]
    · exact hp.elim
  · intro xs h hp bs hgl hh hro
    simp only [sumHS] at hp
    split at hp
    · rename_i cp id
      split at hp
      · rename_i n hb
        obtain ⟨h1, h2, h3⟩ := hp
        have hlt := lt_of_get hb
        have wr := widthF_range cp
        have hx : (hcEff sumHS [.val (.int .i64 cp), .ptr id 0 0] h).x = .val (.int .i64 (widthG n cp)) ∧ (hcEff sumHS [.val (.int .i64 cp), .ptr id 0 0] h).h = h.set id (.box 3 [.val (.int .i64 (widthG n cp))]) := by simp [hcEff, sumHS, hb]
        rw [hx.1, hx.2]
        have hst : ∀ B : Blk, (h.set id B)[id]? = some B := fun B => get_set_eq hlt
        have w1 : IntKind.i64.wrap (n + if widthF cp > 0 then widthF cp else 0) = widthG n cp := wrap64 _ (by split <;> omega) (by split <;> omega)
        clear hlt hx
        simp [Tryd.f32, ofSpec, hb, h1, hst, w1]
        exact ⟨by rfl, RetTo.same ⟨rfl, rfl⟩⟩
      · exact hp.elim
    · exact hp.elim
end Fen

namespace Fen
open Go Go.Proofs

theorem goCode_range : ∀ (l : List Int) (cp : Int), l.length ≤ 4 → 0 ≤ cp → cp ≤ 255 → 0 ≤ goCode cp l ∧ goCode cp l ≤ 10000000000
  | [], cp, _, h1, h2 => by simp [goCode]; omega
  | [a], cp, _, h1, h2 => by simp only [goCode]; omega
  | [a, b], cp, _, h1, h2 => by simp only [goCode]; omega
  | [a, b, c], cp, _, h1, h2 => by simp only [goCode]; omega
  | [a, b, c, d], cp, _, h1, h2 => by simp only [goCode]; omega
  | a :: b :: c :: d :: e :: l, cp, h, _, _ => by simp at h

theorem codeF_range {p : List Int} (hp : Bytes p) (hl : p.length ≤ 4) : 0 ≤ codeF p ∧ codeF p ≤ 10000000000 := by
  unfold codeF cp0F
  cases p with
  | nil => simp [goCode]
  | cons b l =>
    have hb := hp.cons.1
    simp only [List.headD_cons, List.tail_cons]
    have hc : l.length = 0 ∨ l.length = 1 ∨ l.length = 2 ∨ l.length = 3 := by simp at hl; omega
    have hx : 0 ≤ (if l.length = 0 then b else b % 2 ^ (6 - l.length)) ∧ (if l.length = 0 then b else b % 2 ^ (6 - l.length)) ≤ 255 := by
      rcases hc with h | h | h | h <;> simp [h] <;> omega
    exact goCode_range l _ (by simp at hl; omega) hx.1 hx.2

theorem step0_range {b : Int} (h : 0 ≤ b ∧ b < 256) : ∀ x ∈ (step0 b).2, 0 ≤ x ∧ x ≤ 10000000000 := by
  unfold step0
  intro x hx
  split at hx
  · simp at hx; rw [hx]; exact codeF_range (Bytes.mk h Bytes.nil) (by simp)
  · split at hx <;> simp at hx
    omega

theorem step_range {p : List Int} {b : Int} (hp : Bytes p) (h : 0 ≤ b ∧ b < 256) : ∀ x ∈ (stepF p b).2, 0 ≤ x ∧ x ≤ 10000000000 := by
  unfold stepF
  split
  · exact step0_range h
  · unfold stepP
    intro x hx
    split at hx
    · rename_i hk
      simp at hx; rw [hx]; exact codeF_range (hp.app (Bytes.mk h Bytes.nil)) (kind_len (by rw [hk]; decide))
    · split at hx
      · simp at hx
      · simp at hx
        rcases hx with rfl | hx
        · omega
        · exact step0_range h x hx

theorem run_range (s : List UInt8) : ∀ p, Bytes p → ∀ x ∈ (runF p s).2, 0 ≤ x ∧ x ≤ 10000000000 := by
  induction s with
  | nil => intro p _ x hx; simp [runF] at hx
  | cons b s ih =>
    intro p hp x hx
    have hb : 0 ≤ (b.toNat : Int) ∧ (b.toNat : Int) < 256 := ⟨by omega, by have := b.toNat_lt; omega⟩
    simp only [runF, List.mem_append] at hx
    rcases hx with hx | hx
    · exact step_range hp hb x hx
    · exact ih _ (step_bytes hp hb).1 x hx

theorem codes_i64 (s : List UInt8) : ∀ x ∈ codesF s, I64 x := by
  intro x hx
  simp only [codesF, List.mem_append] at hx
  unfold I64
  rcases hx with hx | hx
  · have := run_range s [] Bytes.nil x hx; omega
  · unfold flushF at hx
    split at hx <;> simp at hx
    omega
end Fen

namespace Fen
open Go Go.Proofs

def sumF : Int → List Int → Int
  | n, [] => n
  | n, c :: l => sumF (widthG n c) l
theorem sumF_app (n : Int) (l m : List Int) : sumF n (l ++ m) = sumF (sumF n l) m := by
  induction l generalizing n with
  | nil => rfl
  | cons c l ih => simp [sumF, ih]
theorem widthG_range (n c : Int) : n ≤ widthG n c ∧ widthG n c ≤ n + 2 := by
  have := widthF_range c
  unfold widthG; split <;> omega
theorem sumF_range (l : List Int) : ∀ n, n ≤ sumF n l ∧ sumF n l ≤ n + 2 * l.length := by
  induction l with
  | nil => intro n; simp [sumF]
  | cons c l ih => intro n; have h1 := widthG_range n c; have h2 := ih (widthG n c); simp [sumF]; omega
theorem sumF_take {l : List Int} {k : Nat} (n : Int) (h : k < l.length) : sumF n (l.take (k + 1)) = widthG (sumF n (l.take k)) l[k] := by
  rw [List.take_add_one, List.getElem?_eq_getElem h, sumF_app]; rfl

def wtextSpec : Spec := { pre := fun args => ∃ s : List UInt8, args = [.c (.str s)] ∧ s.length ≤ 100000, res := fun args => .one (.val (.c (.int .i64 (sumF 0 (codesF (args.headD default).str))))) }

def GWt : Specs := [(24, colSpec), (17, codesSpec), (32, sumSpec)]
@[simp] theorem GWt_24 : GWt.find 24 = some colSpec := rfl
@[simp] theorem GWt_17 : GWt.find 17 = some codesSpec := rfl
@[simp] theorem GWt_32 : GWt.find 32 = some sumSpec := rfl
theorem GWt_ok : SpecsOK Tryd.prog glW GWt := .cons (col_sound glW) (.cons (codes_sound glW) (.cons sum_sound (.nil _ _)))

def wtextS (l : List Int) (k : Nat) : St :=
  ⟨19, [(3, .clos 32 [.ptr 0 0 0]), (2, .val (.int .i64 (sumF 0 (l.take k)))), (8, .val (.sl l.length (ints .i64 l))), (9, .val (.int .i64 l.length)), (10, .val (.int .i64 k))], [.box 3 [.val (.int .i64 (sumF 0 (l.take k)))]]⟩

set_option maxRecDepth 10000 in
theorem wtext_sound : Sound Tryd.prog glW 13 wtextSpec := by
  refine sound_fn (N := Tryd.f13.ntmps) (rs := Tryd.f13.results.toList) mixed tok GWt_ok Tryd.func13 rfl rfl rfl rfl rfl ?_ ?_ ?_
  · rintro args ⟨s, rfl, h0⟩; simp [Tryd.f13]
  · rintro args ⟨s, rfl, h0⟩; simp [wtextSpec, Tryd.f13]
  · rintro args ⟨s, rfl, h0⟩ bs hgl hh hro
    have hE : Env.OK ⟨Tryd.prog, T, GWt, bs⟩ := ⟨tok, by rw [hgl]; exact GWt_ok⟩
    have hcl := codesF_len s
    have hci := codes_i64 s
    simp [wtextSpec, colSpec, codesSpec, colHS, hcEff, Tryd.f13, and_assoc]
    generalize codesF s = l at *
    refine ⟨by omega, ?_⟩
    refine AWP.rounds (fun k => k ≤ l.length) (wtextS l) (fun k => l.length - k) 0 (by omega) ?_ ?_
    · refine Weak.keep ?_
      simp [wtextS, sumF]
    · intro k hk
      refine wpc_ok hE mixed _ _ _ ?_
      rcases Nat.lt_or_ge k l.length with h | h
      · have hx : I64 l[k] := hci _ (List.getElem_mem h)
        have w1 : IntKind.i64.wrap ((k : Int) + 1) = k + 1 := wrap64 _ (by omega) (by omega)
        have ht := sumF_take 0 h
        have hr := sumF_range (l.take k) 0
        have hl4 : (l.take k).length = k := by simp; omega
        have hhd : (ints .i64 (l.drop k)).head?.getD C.nilf = C.int .i64 l[k] := by rw [List.drop_eq_getElem_cons h]; rfl
        obtain ⟨n, hn⟩ : ∃ n, sumF 0 (l.take k) = n := ⟨_, rfl⟩
        rw [hn] at ht hr
        simp [wtextS, hn, sumSpec, sumHS, hcEff, and_assoc, h, hhd, w1, hx]
        refine ⟨by omega, by omega, by omega, Next.mk (k + 1) (by omega) (by omega) (Weak.heap ?_ ?_)⟩
        · simp [ht]
        · simp [ht]
      · have : k = l.length := by omega
        subst this
        simp [wtextS]
end Fen

namespace Fen
open Go Go.Proofs

def cutG (cols : Int) : Int → List Int → List Int × List Int
  | _, [] => ([], [])
  | n, c :: l => if cols < widthG n c ∨ cols < 0 then ([], c :: l) else (c :: (cutG cols (widthG n c) l).1, (cutG cols (widthG n c) l).2)

def cutSpec : Spec := { pre := fun args => ∃ (s : List UInt8) (cols : Int), args = [.c (.str s), .c (.int .i64 cols)] ∧ s.length ≤ 100000 ∧ I64 cols, res := fun args => .many [.val (.c (.str (textF (cutG (args.getD 1 default).int 0 (codesF (args.headD default).str)).1))), .val (.c (.str (textF (cutG (args.getD 1 default).int 0 (codesF (args.headD default).str)).2)))] }

def GCt : Specs := [(24, colSpec), (17, codesSpec), (32, sumSpec), (15, textSpec)]
@[simp] theorem GCt_24 : GCt.find 24 = some colSpec := rfl
@[simp] theorem GCt_17 : GCt.find 17 = some codesSpec := rfl
@[simp] theorem GCt_32 : GCt.find 32 = some sumSpec := rfl
@[simp] theorem GCt_15 : GCt.find 15 = some textSpec := rfl
theorem GCt_ok : SpecsOK Tryd.prog glW GCt := .cons (col_sound glW) (.cons (codes_sound glW) (.cons sum_sound (.cons (text_sound glW) (.nil _ _))))

def cutS (cols : Int) (l : List Int) (k : Nat) : St :=
  ⟨40, [(1, .val (.int .i64 cols)), (6, .val (.sl l.length (ints .i64 l))), (7, .clos 32 [.ptr 0 0 0]), (13, .val (.sl l.length (ints .i64 l))), (14, .val (.int .i64 l.length)), (15, .val (.int .i64 k))], [.box 3 [.val (.int .i64 (sumF 0 (l.take k)))]]⟩

set_option maxRecDepth 10000 in
theorem cut_sound : Sound Tryd.prog glW 11 cutSpec := by
  refine sound_fn (N := Tryd.f11.ntmps) (rs := Tryd.f11.results.toList) mixed tok GCt_ok Tryd.func11 rfl rfl rfl rfl rfl ?_ ?_ ?_
  · rintro args ⟨s, cols, rfl, h0, h1⟩; simp [Tryd.f11]
  · rintro args ⟨s, cols, rfl, h0, h1⟩; simp [cutSpec, Tryd.f11]
  · rintro args ⟨s, cols, rfl, h0, h1⟩ bs hgl hh hro
    have hE : Env.OK ⟨Tryd.prog, T, GCt, bs⟩ := ⟨tok, by rw [hgl]; exact GCt_ok⟩
    have hcl := codesF_len s
    have hci := codes_i64 s
    simp [cutSpec, colSpec, codesSpec, colHS, hcEff, Tryd.f11, and_assoc]
    generalize codesF s = l at *
    refine ⟨by omega, ?_⟩
    refine AWP.rounds (fun k => k ≤ l.length ∧ cutG cols 0 l = (l.take k ++ (cutG cols (sumF 0 (l.take k)) (l.drop k)).1, (cutG cols (sumF 0 (l.take k)) (l.drop k)).2)) (cutS cols l) (fun k => l.length - k) 0 ⟨by omega, by simp [sumF]⟩ ?_ ?_
    · refine Weak.keep ?_
      simp [cutS, sumF]
    · rintro k ⟨hk, hinv⟩
      refine wpc_ok hE mixed _ _ _ ?_
      rcases Nat.lt_or_ge k l.length with h | h
      · have hx : I64 l[k] := hci _ (List.getElem_mem h)
        have w1 : IntKind.i64.wrap ((k : Int) + 1) = k + 1 := wrap64 _ (by omega) (by omega)
        have ht := sumF_take 0 h
        have hr := sumF_range (l.take k) 0
        have hl4 : (l.take k).length = k := by simp; omega
        have hhd : (ints .i64 (l.drop k)).head?.getD C.nilf = C.int .i64 l[k] := by rw [List.drop_eq_getElem_cons h]; rfl
        have hmt : ∀ x ∈ l.take k, I64 x := fun x hx => hci x (List.mem_of_mem_take hx)
        have hmd : ∀ x ∈ l.drop k, I64 x := fun x hx => hci x (List.mem_of_mem_drop hx)
        have hdk := List.drop_eq_getElem_cons h
        obtain ⟨n, hn⟩ : ∃ n, sumF 0 (l.take k) = n := ⟨_, rfl⟩
        rw [hn] at ht hr hinv
        have hfd : (l.drop k).take (l.length - k) = l.drop k := List.take_of_length_le (by simp)
        have hinv2 := hinv
        rw [hdk] at hinv2
        simp only [cutG] at hinv2
        by_cases hc : cols < widthG n l[k] ∨ cols < 0
        · rw [if_pos hc] at hinv2
          rw [← hdk] at hinv2
          simp [cutS, hn, sumSpec, sumHS, hcEff, textSpec, and_assoc, h, hhd, w1, hx, hfd, hc, hinv2]
          refine ⟨by omega, by omega, by omega, by omega, by omega, hmt, by omega, by omega, hmd, by omega, by rfl, fun q1 q2 => absurd hc (by omega)⟩
        · rw [if_neg hc] at hinv2
          simp [cutS, hn, sumSpec, sumHS, hcEff, textSpec, and_assoc, h, hhd, w1, hx, hfd]
          refine ⟨by omega, by omega, by omega, fun hh => absurd hh hc, fun _ _ => Next.mk (k + 1) ⟨by omega, ?_⟩ (by omega) (Weak.heap ?_ ?_)⟩
          · have htk : l.take (k + 1) = l.take k ++ [l[k]] := by rw [List.take_add_one, List.getElem?_eq_getElem h]; rfl
            rw [hinv2, ht, htk, List.append_assoc]; rfl
          · simp [ht]
          · simp
      · have : k = l.length := by omega
        subst this
        simp [cutG] at hinv
        simp [cutS, textSpec, hinv]
        exact ⟨⟨l, ⟨rfl, rfl⟩, hci, by omega⟩, rfl⟩
end Fen

namespace Fen
open Go Go.Proofs

theorem run_take (s : List UInt8) (i : Nat) (h : i < s.length) :
    runF [] (s.take (i + 1)) = ((stepF (runF [] (s.take i)).1 (s[i].toNat : Int)).1, (runF [] (s.take i)).2 ++ (stepF (runF [] (s.take i)).1 (s[i].toNat : Int)).2) := by
  rw [List.take_add_one, List.getElem?_eq_getElem h, runF_app]
  simp [runF]

def rcodesSpec : Spec := { pre := fun args => ∃ s : List UInt8, args = [.c (.str s)] ∧ s.length ≤ 100000, res := fun args => .one (.val (intsV (codesF (args.headD default).str))) }

def GRc : Specs := [(33, rstepSpec), (34, rflushSpec)]
@[simp] theorem GRc_33 : GRc.find 33 = some rstepSpec := rfl
@[simp] theorem GRc_34 : GRc.find 34 = some rflushSpec := rfl
theorem GRc_ok (gl : Gl) : SpecsOK Tryd.prog gl GRc := .cons (rstep_sound gl) (.cons (rflush_sound gl) (.nil _ _))

def rcodesS (s : List UInt8) (p l : List Int) (i : Nat) : St :=
  ⟨30, [(0, .val (.str s)), (3, .ref 0 0), (4, .val (.sl p.length (ints .u8 p))), (5, .val (.int .i64 i))], [.sl 3 0 true 1 l.length (ints .i64 l)]⟩

set_option maxRecDepth 10000 in
theorem rcodes_sound (gl : Gl) : Sound Tryd.prog gl 25 rcodesSpec := by
  refine sound_fn (N := Tryd.f25.ntmps) (rs := Tryd.f25.results.toList) mixed tok (GRc_ok gl) Tryd.func25 rfl rfl rfl rfl rfl ?_ ?_ ?_
  · rintro args ⟨s, rfl, h0⟩; simp [Tryd.f25]
  · rintro args ⟨s, rfl, h0⟩; simp [rcodesSpec, Tryd.f25]
  · rintro args ⟨t, rfl, ht⟩ bs hgl hh hro
    have hE : Env.OK ⟨Tryd.prog, T, GRc, bs⟩ := ⟨tok, by rw [hgl]; exact GRc_ok gl⟩
    simp [rcodesSpec, Tryd.f25, and_assoc]
    refine AWP.rounds (fun i => i ≤ t.length) (fun i => rcodesS t (runF [] (t.take i)).1 (runF [] (t.take i)).2 i) (fun i => t.length - i) 0 (by omega) ?_ ?_
    · refine Weak.ren [none] (baseOK.nil hh) (by simp) (by simp [runF]) ?_
      simp [runF, rcodesS]
    · intro i hi
      refine wpc_ok hE mixed _ _ _ ?_
      have e0 := runF_len (t.take i) []
      have e1 := run_bytes (t.take i) [] Bytes.nil
      have e2 := run_right (t.take i) [] rfl
      have e3 := right_len e2
      have e4 : (t.take i).length = i := by simp; omega
      rcases Nat.lt_or_ge i t.length with h | h
      · have et := run_take t i h
        have eg : t[i]?.getD 0 = t[i] := by rw [List.getElem?_eq_getElem h]; rfl
        have hc : ((t[i].toNat : Nat) : Int) < 256 := by have := t[i].toNat_lt; omega
        have s2 := step_codes_len (runF [] (t.take i)).1 (t[i].toNat : Int)
        have sq := step_eq e1 (b := (t[i].toNat : Int)) ⟨by omega, hc⟩
        have w1 : IntKind.i64.wrap ((i : Int) + 1) = i + 1 := wrap64 _ (by omega) (by omega)
        rw [e4] at e0
        obtain ⟨P, hP⟩ : ∃ P, runF [] (t.take i) = P := ⟨_, rfl⟩
        rw [hP] at et e0 e1 e2 e3 s2 sq
        obtain ⟨q, hq⟩ : ∃ q, stepF P.1 (t[i].toNat : Int) = q := ⟨_, rfl⟩
        rw [hq] at et s2 sq
        simp [rcodesS, rstepSpec, and_assoc, hP, eg, ← sq, e1, h, hc, w1]
        refine ⟨by omega, by omega, by omega, Next.mk (i + 1) (by omega) (by omega) (Weak.ren [some 0] (baseOK.nil hh) (by simp) ?_ ?_)⟩
        · simp [et]
        · simp [et]
      · have : i = t.length := by omega
        subst this
        rw [List.take_length] at e0 e1 e2 e3
        have fq := flush_eq e1
        have fl : (flushF (runF [] t).1).length ≤ 1 := by unfold flushF; split <;> simp
        simp [rcodesS, rflushSpec, and_assoc, e1, ← fq, codesF]
        omega
end Fen

namespace Fen
open Go Go.Proofs

def rinSpec : Spec := { pre := fun args => ∃ (cp : Int) (l : List (Int × Int)), args = [.c (.sl l.length (spansC l)), .c (.int .i64 cp)] ∧ l.length ≤ 1000, res := fun args => match args with
  | [.c (.sl _ cs), .c (.int _ cp)] => .one (.val (.c (.bool (inF cp (inSpec.unC cs)))))
  | _ => .many [] }

def rinS (cp : Int) (l : List (Int × Int)) (k : Nat) : St :=
  ⟨28, [(0, .val (.sl l.length (spansC l))), (1, .val (.int .i64 cp)), (5, .val (.int .i64 k))], []⟩

set_option maxRecDepth 10000 in
theorem rin_sound (gl : Gl) : Sound Tryd.prog gl 21 rinSpec := by
  refine sound_fn (N := Tryd.f21.ntmps) (rs := Tryd.f21.results.toList) mixed tok (SpecsOK.nil _ gl) Tryd.func21 rfl rfl rfl rfl rfl ?_ ?_ ?_
  · rintro args ⟨cp, l, rfl, h0⟩; simp [Tryd.f21]
  · rintro args ⟨cp, l, rfl, h0⟩; simp [rinSpec, Tryd.f21]
  · rintro args ⟨cp, l, rfl, h0⟩ bs hgl hh hro
    have hE : Env.OK ⟨Tryd.prog, T, [], bs⟩ := ⟨tok, by rw [hgl]; exact SpecsOK.nil _ gl⟩
    simp [rinSpec, Tryd.f21]
    refine AWP.rounds (fun k => k ≤ l.length ∧ inF cp (l.take k) = false) (rinS cp l) (fun k => l.length - k) 0 ⟨by omega, by simp [inF]⟩ ?_ ?_
    · refine Weak.keep ?_
      simp [rinS]
    · rintro k ⟨hk, hf⟩
      refine wpc_ok hE mixed _ _ _ ?_
      rcases Nat.lt_or_ge k l.length with h | h
      · have w1 : IntKind.i64.wrap ((k : Int) + 1) = k + 1 := wrap64 _ (by omega) (by omega)
        have hd : (spansC l).drop (k * 2) = .int .i64 l[k].1 :: .int .i64 l[k].2 :: spansC (l.drop (k + 1)) := by
          rw [spansC_drop, List.drop_eq_getElem_cons h]; rfl
        have ht : inF cp (l.take (k + 1)) = (decide (l[k].1 ≤ cp) && decide (cp ≤ l[k].2)) := by
          rw [List.take_add_one, List.getElem?_eq_getElem h]
          unfold inF at hf ⊢
          rw [List.any_append, hf]; simp
        simp [rinS, and_assoc, h, hd, w1]
        refine ⟨fun h1 h2 => ?_, fun h1 => ?_⟩
        · unfold inF
          rw [List.any_eq_true]
          exact ⟨l[k], List.getElem_mem h, by simp [h1, h2]⟩
        · refine Next.mk (k + 1) ⟨by omega, ?_⟩ (by omega) (Weak.keep ?_)
          · rw [ht]; simp; omega
          · simp [rinS]
      · have : k = l.length := by omega
        subst this
        rw [List.take_length] at hf
        simp [rinS, hf]
end Fen

namespace Fen
open Go Go.Proofs

def twosL : List (Int × Int) := [(0x1100, 0x115f), (0x2e80, 0x303e), (0x3041, 0x33ff), (0x3400, 0x4dbf), (0x4e00, 0x9fff), (0xa000, 0xa4cf), (0xac00, 0xd7a3), (0xf900, 0xfaff), (0xfe30, 0xfe6f), (0xff00, 0xff60), (0xffe0, 0xffe6), (0x1f300, 0x1f64f), (0x1f680, 0x1f6ff), (0x1f900, 0x1f9ff), (0x20000, 0x3fffd)]
def zeroSpec : Spec := { pre := fun args => args = [], res := fun _ => .one (.val (.c (.sl 11 (spansC marksL)))) }
def twoSpec : Spec := { pre := fun args => args = [], res := fun _ => .one (.val (.c (.sl 15 (spansC twosL)))) }

set_option maxRecDepth 10000 in
theorem zero_sound (gl : Gl) : Sound Tryd.prog gl 22 zeroSpec := by
  refine sound_fn (N := Tryd.f22.ntmps) (rs := Tryd.f22.results.toList) mixed tok (SpecsOK.nil _ gl) Tryd.func22 rfl rfl rfl rfl rfl ?_ ?_ ?_
  · rintro args rfl; simp [Tryd.f22]
  · rintro args rfl; simp [zeroSpec, Tryd.f22]
  · rintro args rfl bs hgl hh hro
    simp [zeroSpec, Tryd.f22, spansC, marksL]

set_option maxRecDepth 10000 in
theorem two_sound (gl : Gl) : Sound Tryd.prog gl 23 twoSpec := by
  refine sound_fn (N := Tryd.f23.ntmps) (rs := Tryd.f23.results.toList) mixed tok (SpecsOK.nil _ gl) Tryd.func23 rfl rfl rfl rfl rfl ?_ ?_ ?_
  · rintro args rfl; simp [Tryd.f23]
  · rintro args rfl; simp [twoSpec, Tryd.f23]
  · rintro args rfl bs hgl hh hro
    simp [twoSpec, Tryd.f23, spansC, twosL]

/-- the two tables hold the same code points -/
theorem twos_same (cp : Int) : inF cp twosL = inF cp widesL := by
  rw [Bool.eq_iff_iff]
  simp [inF, twosL, widesL]
  omega

def rofF (cp : Int) : Int := if checkF cp = false ∨ cp < 32 ∨ (127 ≤ cp ∧ cp < 160) then -1 else if inF cp marksL then 0 else if inF cp twosL then 2 else 1

theorem of_same (cp : Int) : rofF cp = widthF cp := by
  unfold rofF widthF
  rw [twos_same]
  have e : (inF cp [(0, 31), (127, 159)] = true) ↔ ((0 ≤ cp ∧ cp ≤ 31) ∨ (127 ≤ cp ∧ cp ≤ 159)) := by simp [inF]
  cases hc : checkF cp with
  | false => simp
  | true =>
    rw [checkF_iff] at hc
    have hm : cp < 768 → inF cp marksL = false := fun h => by
      rw [Bool.eq_false_iff, Ne]; simp [inF, marksL]; omega
    have hw : cp < 768 → inF cp widesL = false := fun h => by
      rw [Bool.eq_false_iff, Ne]; simp [inF, widesL]; omega
    by_cases h1 : cp < 32 ∨ (127 ≤ cp ∧ cp < 160)
    · rw [if_pos (.inr h1), if_pos (.inr (e.2 (by omega)))]
    · have n1 : ¬ (true = false ∨ cp < 32 ∨ (127 ≤ cp ∧ cp < 160)) := by simp; omega
      have n2 : ¬ (true = false ∨ inF cp [(0, 31), (127, 159)] = true) := by rw [e]; simp; omega
      rw [if_neg n1, if_neg n2]
      by_cases h2 : cp < 768
      · rw [if_pos h2, hm h2, hw h2]; rfl
      · rw [if_neg h2]
end Fen

namespace Fen
open Go Go.Proofs

def GRo : Specs := [(20, checkSpec), (22, zeroSpec), (23, twoSpec), (21, rinSpec)]
@[simp] theorem GRo_20 : GRo.find 20 = some checkSpec := rfl
@[simp] theorem GRo_22 : GRo.find 22 = some zeroSpec := rfl
@[simp] theorem GRo_23 : GRo.find 23 = some twoSpec := rfl
@[simp] theorem GRo_21 : GRo.find 21 = some rinSpec := rfl
theorem GRo_ok (gl : Gl) : SpecsOK Tryd.prog gl GRo := .cons (rcheck_sound gl) (.cons (zero_sound gl) (.cons (two_sound gl) (.cons (rin_sound gl) (.nil _ _))))

set_option maxRecDepth 10000 in
theorem rof_sound (gl : Gl) : Sound Tryd.prog gl 9 ofSpec := by
  refine sound_fn (N := Tryd.f9.ntmps) (rs := Tryd.f9.results.toList) mixed tok (GRo_ok gl) Tryd.func9 rfl rfl rfl rfl rfl ?_ ?_ ?_
  · rintro args ⟨cp, rfl, h0⟩; simp [Tryd.f9]
  · rintro args ⟨cp, rfl, h0⟩; simp [ofSpec, Tryd.f9]
  · rintro args ⟨cp, rfl, h0⟩ bs hgl hh hro
    simp [ofSpec, checkSpec, zeroSpec, twoSpec, rinSpec, Tryd.f9, and_assoc, h0, ← of_same]
    refine ⟨fun a b => ⟨a, b, fun c => ⟨a, b, c⟩⟩, fun h => by unfold rofF; rw [if_pos (by rcases h with (h | h) | h <;> simp [h])], fun a b c => ?_⟩
    have n0 : ¬ (checkF cp = false ∨ cp < 32 ∨ (127 ≤ cp ∧ cp < 160)) := by simp [a]; omega
    refine ⟨⟨cp, marksL, rfl, rfl, rfl, by decide⟩, fun h => by unfold rofF; rw [if_neg n0, if_pos h], fun h => ⟨⟨cp, twosL, rfl, rfl, rfl, by decide⟩, fun h2 => by unfold rofF; rw [if_neg n0, if_neg (by simp [h]), if_pos h2], fun h2 => by unfold rofF; rw [if_neg n0, if_neg (by simp [h]), if_neg (by simp [h2])]⟩⟩
end Fen
