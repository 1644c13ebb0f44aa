/- A part of the proof; no statement is proved here: SUtfI, SUtfJ, SUtfK, SRefC, SRefD. -/
import Derived.Test.YthmebgohfigfpaaUtfA
import Derived.Test.YthmebgohfigfpaaCoreE
import Derived.Test.YthmebgohfigfpaaRefA

set_option linter.unusedVariables false
set_option linter.unusedSimpArgs false

namespace Fen
open Go Go.Proofs
def firstF (b : Int) : Int × Int := if b < 128 then (1, b) else if 192 ≤ b ∧ b < 224 then (2, b - 192) else if 224 ≤ b ∧ b < 240 then (3, b - 224) else if 240 ≤ b ∧ b < 248 then (4, b - 240) else (0, 0)
def firstSpec : Spec := { pre := fun args => ∃ b : Int, args = [.c (.int .u8 b)] ∧ 0 ≤ b ∧ b < 256, res := fun args => .many [.val (.c (.int .i64 (firstF (args.headD default).int).1)), .val (.c (.int .i64 (firstF (args.headD default).int).2))] }
theorem wrapB (b c : Int) (h : 0 ≤ b ∧ b < 256) (hc : 0 ≤ c ∧ c < 256) : IntKind.i64.wrap (b - c) = b - c := wrap64 _ (by omega) (by omega)
set_option maxRecDepth 10000 in
theorem first_sound (gl : Gl) : Sound Try.prog gl 111 firstSpec := by
 refine sound_fn (N := Try.f111.ntmps) (rs := Try.f111.results.toList) mixed tok (SpecsOK.nil _ _) Try.func111 rfl rfl rfl rfl rfl ?_ ?_ ?_
 · rintro args ⟨n, rfl, h0, h1⟩; simp [Try.f111]
 · rintro args ⟨n, rfl, h0, h1⟩; simp [firstSpec, Try.f111]
 · rintro args ⟨n, rfl, h0, h1⟩ bs hgl hh hro
   have w0 : IntKind.i64.wrap n = n := wrap64 _ (by omega) (by omega)
   have w1 : IntKind.i64.wrap (n - 192) = n - 192 := wrap64 _ (by omega) (by omega)
   have w2 : IntKind.i64.wrap (n - 224) = n - 224 := wrap64 _ (by omega) (by omega)
   have w3 : IntKind.i64.wrap (n - 240) = n - 240 := wrap64 _ (by omega) (by omega)
   simp [firstSpec, Try.f111, w0, w1, w2, w3]
   unfold firstF
   (repeat' split) <;> simp_all <;> omega
def spanGo : Nat → Int → Int → List Int → Option (Int × Int)
 | 0, low, high, _ => some (low, high)
 | k + 1, low, high, [] => spanGo k (low * 64) (high * 64 + 63) []
 | k + 1, low, high, b :: l => if b < 128 ∨ 191 < b then none else spanGo k (low * 64 + (b - 128)) (high * 64 + (b - 128)) l
def spanK (n len : Int) : Option (Int × Int) → Int × Int × Int
 | none => (0, 0, 0)
 | some r => if n < len then (0, 0, 0) else (r.1, r.2, n)
def spanF (p : List Int) : Int × Int × Int :=
 match p with
 | [] => (0, 0, 0)
 | b :: l => spanK (firstF b).1 ((l.length : Int) + 1) (spanGo ((firstF b).1.toNat - 1) (firstF b).2 (firstF b).2 l)
def spanSpec : Spec := { pre := fun args => ∃ p : List Int, args = [bytesV p] ∧ Bytes p ∧ p.length ≤ 4294967296, res := fun args => .many [.val (.c (.int .i64 (spanF (args.headD default).ints).1)), .val (.c (.int .i64 (spanF (args.headD default).ints).2.1)), .val (.c (.int .i64 (spanF (args.headD default).ints).2.2))] }
def GSp : Specs := [(111, firstSpec)]
@[simp] theorem GSp_live : Specs.live GSp = false := rfl
@[simp] theorem GSp_37 : GSp.find 111 = some firstSpec := rfl
theorem GSp_ok (gl : Gl) : SpecsOK Try.prog gl GSp := .cons (first_sound gl) (.nil _ _)
def spanS (p : List Int) (n : Int) (x : Nat × List Int × Nat × Int × Int) : St :=
 ⟨67, [(0, .val (.sl p.length (ints .u8 p))), (5, .val (.int .i64 n)), (6, .val (.int .i64 x.2.2.2.1)), (7, .val (.int .i64 x.2.2.2.2)), (8, .val (.int .i64 x.1))], []⟩
theorem firstF_range (b : Int) (h : 0 ≤ b ∧ b < 256) : 0 ≤ (firstF b).1 ∧ (firstF b).1 ≤ 4 ∧ 0 ≤ (firstF b).2 ∧ (firstF b).2 < 128 := by
 unfold firstF
 (repeat' split) <;> simp <;> omega
set_option maxRecDepth 10000 in
theorem span_sound (gl : Gl) : Sound Try.prog gl 108 spanSpec := by
 refine sound_fn (N := Try.f108.ntmps) (rs := Try.f108.results.toList) mixed tok (GSp_ok gl) Try.func108 rfl rfl rfl rfl rfl ?_ ?_ ?_
 · rintro args ⟨p, rfl, h0, h1⟩; simp [Try.f108]
 · rintro args ⟨p, rfl, h0, h1⟩; simp [spanSpec, Try.f108]
 · rintro args ⟨p, rfl, h0, h1⟩ bs hgl hh hro
   have hE : Env.OK ⟨Try.prog, T, GSp, bs⟩ := ⟨tok, by rw [hgl]; exact GSp_ok gl⟩
   cases p with
   | nil => simp [spanSpec, Try.f108, spanF]
   | cons b l =>
     obtain ⟨hb, hl⟩ := h0.cons
     obtain ⟨r1, r2, r3, r4⟩ := firstF_range b hb
     simp at h1
     simp [spanSpec, firstSpec, Try.f108, spanF, hb]
     generalize hn : (firstF b).1 = n at *
     generalize hm : (firstF b).2 = m at *
     by_cases hn0 : n = 0
     · subst hn0
       refine AWP.unroll hE mixed 1 ?_
       simp [spanGo, spanK]
     · have pw : ∀ j : Nat, (64 : Int) ^ j ≥ 1 := fun j => by exact_mod_cast Nat.one_le_pow _ _ (by decide)
       refine AWP.rounds (fun x : Nat × List Int × Nat × Int × Int => (b :: l).drop x.1 = x.2.1 ∧ (x.1 : Int) + x.2.2.1 = n ∧ 0 < x.1 ∧ spanGo (n.toNat - 1) m m l = spanGo x.2.2.1 x.2.2.2.1 x.2.2.2.2 x.2.1 ∧ (0 ≤ x.2.2.2.1 ∧ x.2.2.2.1 < 128 * 64 ^ (x.1 - 1)) ∧ (0 ≤ x.2.2.2.2 ∧ x.2.2.2.2 < 128 * 64 ^ (x.1 - 1)))
         (spanS (b :: l) n) (fun x => x.2.2.1) (1, l, n.toNat - 1, m, m) ⟨rfl, by simp only; omega, Nat.one_pos, rfl, by simp; omega, by simp; omega⟩ ?_ ?_
       · refine Weak.keep ?_
         simp [spanS]
       · rintro ⟨i, rest, k, lo, hi⟩ ⟨hx, hik, hi0, hg, hlo, hhi⟩
         simp only at hx hik hi0 hg hlo hhi
         refine wpc_ok hE mixed _ _ _ ?_
         cases k with
         | zero =>
           have hik : (i : Int) = n := by simpa using hik
           simp [spanGo] at hg
           simp [spanS, hik, hg, spanK]
           refine ⟨fun h => by simp [h], fun h => ?_⟩
           have : ¬ n < (l.length : Int) + 1 := by omega
           simp [this]
         | succ k =>
           have hin : (i : Int) < n := by omega
           have hi4 : i ≤ 3 := by omega
           have hp : (64 : Int) ^ (i - 1) ≤ 64 ^ 2 := by exact_mod_cast Nat.pow_le_pow_right (by decide) (by omega)
           have hp2 : (64 : Int) ^ (i + 1 - 1) = 64 * 64 ^ (i - 1) := by
             have : i + 1 - 1 = (i - 1) + 1 := by omega
             rw [this, Int.pow_succ, Int.mul_comm]
           have w1 : IntKind.i64.wrap (lo * 64) = lo * 64 := wrap64 _ (by omega) (by omega)
           have w2 : IntKind.i64.wrap (hi * 64) = hi * 64 := wrap64 _ (by omega) (by omega)
           have w3 : IntKind.i64.wrap (hi * 64 + 63) = hi * 64 + 63 := wrap64 _ (by omega) (by omega)
           have w4 : IntKind.i64.wrap (i + 1) = i + 1 := wrap64 _ (by omega) (by omega)
           cases rest with
           | nil =>
             have hlen : ¬ (i : Int) < (l.length : Int) + 1 := by have := congrArg List.length hx; simp at this; omega
             simp [spanGo] at hg
             simp [spanS, hin, w1, w2, w3, w4, hlen]
             refine Next.mk (i + 1, [], k, lo * 64, hi * 64 + 63) ⟨?_, by simp only; omega, by simp, hg, by simp only; omega, by simp only; omega⟩ (by simp) (Weak.keep ?_)
             · simp only; apply List.drop_eq_nil_of_le; simp; omega
             · simp [spanS]
           | cons c rest =>
             have hlen : (i : Int) < (l.length : Int) + 1 := by have := congrArg List.length hx; simp at this; omega
             have hc : 0 ≤ c ∧ c < 256 := h0 c (List.mem_of_mem_drop (i := i) (by rw [hx]; simp))
             have hx2 : (b :: l).drop (i + 1) = rest := by
               have := congrArg List.tail hx
               simpa using this
             have w5 : IntKind.i64.wrap c = c := wrap64 _ (by omega) (by omega)
             have w6 : IntKind.i64.wrap (c - 128) = c - 128 := wrap64 _ (by omega) (by omega)
             have w7 : IntKind.i64.wrap (lo * 64 + (c - 128)) = lo * 64 + (c - 128) := wrap64 _ (by omega) (by omega)
             have w8 : IntKind.i64.wrap (hi * 64 + (c - 128)) = hi * 64 + (c - 128) := wrap64 _ (by omega) (by omega)
             simp [spanGo] at hg
             simp [spanS, hin, w1, w2, w3, w4, w5, w6, w7, w8, hlen, hx]
             refine ⟨fun h => ?_, fun h1 h2 => ?_⟩
             · rw [if_pos h] at hg
               simp [hg, spanK]
             · have hn : ¬ (c < 128 ∨ 191 < c) := by omega
               rw [if_neg hn] at hg
               refine Next.mk (i + 1, rest, k, lo * 64 + (c - 128), hi * 64 + (c - 128)) ⟨hx2, by simp only; omega, by simp, hg, by simp only; omega, by simp only; omega⟩ (by simp) (Weak.keep ?_)
               simp [spanS]
theorem spanGo_bounds : ∀ (k : Nat) (lo hi : Int) (l : List Int) (r : Int × Int) (B : Int), Bytes l → 0 ≤ lo → lo ≤ hi → hi < B → spanGo k lo hi l = some r → 0 ≤ r.1 ∧ r.1 ≤ r.2 ∧ r.2 < B * 64 ^ k
 | 0, lo, hi, l, r, B, _, h0, h1, h2, e => by
   simp [spanGo] at e; subst e; simp; omega
 | k + 1, lo, hi, [], r, B, hb, h0, h1, h2, e => by
   simp only [spanGo] at e
   have := spanGo_bounds k (lo * 64) (hi * 64 + 63) [] r (B * 64) hb (by omega) (by omega) (by omega) e
   rw [Int.pow_succ, Int.mul_comm (64 ^ k), ← Int.mul_assoc]
   exact this
 | k + 1, lo, hi, b :: l, r, B, hb, h0, h1, h2, e => by
   simp only [spanGo] at e
   split at e
   · cases e
   · have := spanGo_bounds k (lo * 64 + (b - 128)) (hi * 64 + (b - 128)) l r (B * 64) hb.cons.2 (by omega) (by omega) (by omega) e
     rw [Int.pow_succ, Int.mul_comm (64 ^ k), ← Int.mul_assoc]
     exact this
theorem spanF_bounds {p : List Int} (h : Bytes p) : (spanF p).2.2 = 0 ∨ ((spanF p).2.2 = 1 ∨ (spanF p).2.2 = 2 ∨ (spanF p).2.2 = 3 ∨ (spanF p).2.2 = 4) ∧ 0 ≤ (spanF p).1 ∧ (spanF p).1 ≤ (spanF p).2.1 ∧ (spanF p).2.1 < 33554432 := by
 cases p with
 | nil => simp [spanF]
 | cons b l =>
   obtain ⟨r1, r2, r3, r4⟩ := firstF_range b h.cons.1
   simp only [spanF]
   cases e : spanGo ((firstF b).1.toNat - 1) (firstF b).2 (firstF b).2 l with
   | none => simp [spanK]
   | some r =>
     have := spanGo_bounds _ _ _ _ _ 128 h.cons.2 r3 (Int.le_refl _) r4 e
     have hp : (64 : Int) ^ ((firstF b).1.toNat - 1) ≤ 64 ^ 3 := by exact_mod_cast Nat.pow_le_pow_right (by decide) (by omega)
     simp only [spanK]
     split
     · simp
     · simp only
       omega
def leastF (n : Int) : Int := if n = 1 then 0 else if n = 2 then 128 else if n = 3 then 2048 else 65536
def mostF (n : Int) : Int := if n = 1 then 127 else if n = 2 then 2047 else if n = 3 then 65535 else 1114111
theorem dlt (a b : Int) : decide (a < b) = !decide (b ≤ a) := by by_cases h : b ≤ a <;> simp [h]; omega
def maxI (a b : Int) : Int := if a < b then b else a
def minI (a b : Int) : Int := if b < a then b else a
def isF (lo hi n : Int) : Bool := decide (maxI lo (leastF n) ≤ minI hi (mostF n)) && (!decide (55296 ≤ maxI lo (leastF n)) || !decide (minI hi (mostF n) ≤ 57343))
def goesF (p : List Int) : Bool × Bool :=
 if (spanF p).2.2 = 0 then (false, false) else (isF (spanF p).1 (spanF p).2.1 (spanF p).2.2, isF (spanF p).1 (spanF p).2.1 (spanF p).2.2 && (p.length : Int) == (spanF p).2.2)
def goesSpec : Spec := { pre := fun args => ∃ p : List Int, args = [bytesV p] ∧ Bytes p ∧ p.length ≤ 4294967296, res := fun args => .many [.val (.c (.bool (goesF (args.headD default).ints).1)), .val (.c (.bool (goesF (args.headD default).ints).2))] }
def GGo : Specs := [(108, spanSpec)]
@[simp] theorem GGo_live : Specs.live GGo = false := rfl
@[simp] theorem GGo_30 : GGo.find 108 = some spanSpec := rfl
theorem GGo_ok (gl : Gl) : SpecsOK Try.prog gl GGo := .cons (span_sound gl) (.nil _ _)
set_option maxRecDepth 10000 in
theorem goes_sound (gl : Gl) : Sound Try.prog gl 91 goesSpec := by
 refine sound_fn (N := Try.f91.ntmps) (rs := Try.f91.results.toList) mixed tok (GGo_ok gl) Try.func91 rfl rfl rfl rfl rfl ?_ ?_ ?_
 · rintro args ⟨p, rfl, h0, h1⟩; simp [Try.f91]
 · rintro args ⟨p, rfl, h0, h1⟩; simp [goesSpec, Try.f91]
 · rintro args ⟨p, rfl, h0, h1⟩ bs hgl hh hro
   simp [goesSpec, spanSpec, Try.f91, h0, h1, and_assoc]
   refine ⟨fun h => by simp [goesF, h], fun h => ?_⟩
   rcases spanF_bounds h0 with hz | ⟨hn, h2, h3, h4⟩
   · exact absurd hz h
   · generalize hs : spanF p = s at *
     obtain ⟨lo, hi, n⟩ := s
     simp only at hn h2 h3 h4 h
     rcases hn with rfl | rfl | rfl | rfl
     all_goals
       simp [goesF, hs, isF, leastF, mostF, maxI, minI]
       refine ⟨by decide, fun h => ⟨h, fun h2 => ⟨h, h2⟩⟩, ?_⟩
       simp only [dlt]
def rrightF (p : List Int) : Bool := p.isEmpty || ((goesF p).1 && !(goesF p).2)
def rrightSpec : Spec := { pre := fun args => ∃ p : List Int, args = [bytesV p] ∧ Bytes p ∧ p.length ≤ 4294967296, res := fun args => .one (.val (.c (.bool (rrightF (args.headD default).ints)))) }
set_option maxRecDepth 10000 in
theorem rright_sound (gl : Gl) : Sound Try.prog gl 59 rrightSpec := by
 refine sound_fn (N := Try.f59.ntmps) (rs := Try.f59.results.toList) mixed tok (SpecsOK.cons (goes_sound gl) (SpecsOK.nil _ gl)) Try.func59 rfl rfl rfl rfl rfl ?_ ?_ ?_
 · rintro args ⟨p, rfl, h1, h2⟩; simp [Try.f59]
 · rintro args ⟨p, rfl, h1, h2⟩; simp [rrightSpec, Try.f59]
 · rintro args ⟨p, rfl, h1, h2⟩ bs hgl hh hro
   cases p with
   | nil => simp [rrightSpec, goesSpec, Try.f59, rrightF, h1, and_assoc]
   | cons b q =>
     simp at h2
     simp [rrightSpec, goesSpec, Try.f59, rrightF, h1, h2, and_assoc]
def rflushF (p : List Int) : List Int := if p ≠ [] ∧ rrightF p = true then [65533] else []
def rflushSpec : Spec := { pre := fun args => ∃ p : List Int, args = [bytesV p] ∧ Bytes p ∧ p.length ≤ 4294967296, res := fun args => .one (.val (intsV (rflushF (args.headD default).ints))) }
end Fen

namespace Fen
open Go Go.Proofs
def rstep0 (b : Int) : List Int × List Int :=
 if (goesF [b]).2 = true then ([], [(spanF [b]).1]) else if (goesF [b]).1 = true then ([b], []) else ([], [65533])
def rstepP (p : List Int) (b : Int) : List Int × List Int :=
 if (goesF (p ++ [b])).2 = true then ([], [(spanF (p ++ [b])).1]) else if (goesF (p ++ [b])).1 = true then (p ++ [b], []) else ((rstep0 b).1, 65533 :: (rstep0 b).2)
def rstepF (p : List Int) (b : Int) : List Int × List Int := if p = [] ∨ rrightF p = false then rstep0 b else rstepP p b
def rstep0Spec : Spec := { pre := fun args => ∃ b : Int, args = [bytesV [], .c (.int .u8 b)] ∧ 0 ≤ b ∧ b < 256, res := fun args => .many [.val (bytesV (rstep0 (args.getD 1 default).int).1), .val (intsV (rstep0 (args.getD 1 default).int).2)] }
def GRs : Specs := [(59, rrightSpec), (91, goesSpec), (108, spanSpec)]
@[simp] theorem GRs_live : Specs.live GRs = false := rfl
@[simp] theorem GRs_11 : GRs.find 59 = some rrightSpec := rfl
@[simp] theorem GRs_28 : GRs.find 91 = some goesSpec := rfl
@[simp] theorem GRs_30 : GRs.find 108 = some spanSpec := rfl
theorem GRs_ok (gl : Gl) : SpecsOK Try.prog gl GRs := .cons (rright_sound gl) (.cons (goes_sound gl) (.cons (span_sound gl) (.nil _ _)))
set_option maxRecDepth 10000 in
theorem rstep0_sound (gl : Gl) : Sound Try.prog gl 92 rstep0Spec := by
 refine sound_fn (N := Try.f92.ntmps) (rs := Try.f92.results.toList) mixed tok (GRs_ok gl) Try.func92 rfl rfl rfl rfl rfl ?_ ?_ ?_
 · rintro args ⟨b, rfl, h0, h1⟩; simp [Try.f92]
 · rintro args ⟨b, rfl, h0, h1⟩; simp [rstep0Spec, Try.f92]
 · rintro args ⟨b, rfl, h0, h1⟩ bs hgl hh hro
   have hb : Bytes [b] := Bytes.mk ⟨h0, h1⟩ Bytes.nil
   simp [rstep0Spec, Try.f92, rrightSpec, goesSpec, spanSpec, rrightF, rstep0, hb, and_assoc, Bytes.nil]
   refine ⟨fun h => by simp [h], fun h => ⟨fun h' => by simp [h, h'], fun h' => by simp [h, h']⟩⟩
def rstepSpec : Spec := { pre := fun args => ∃ (p : List Int) (b : Int), args = [bytesV p, .c (.int .u8 b)] ∧ Bytes p ∧ p.length ≤ 4294967295 ∧ 0 ≤ b ∧ b < 256, res := fun args => .many [.val (bytesV (rstepF (args.headD default).ints (args.getD 1 default).int).1), .val (intsV (rstepF (args.headD default).ints (args.getD 1 default).int).2)] }
def GRu : Specs := (92, rstep0Spec) :: GRs
@[simp] theorem GRu_live : Specs.live GRu = false := rfl
@[simp] theorem GRu_11 : GRu.find 59 = some rrightSpec := rfl
@[simp] theorem GRu_28 : GRu.find 91 = some goesSpec := rfl
@[simp] theorem GRu_30 : GRu.find 108 = some spanSpec := rfl
@[simp] theorem GRu_16 : GRu.find 92 = some rstep0Spec := rfl
theorem GRu_ok (gl : Gl) : SpecsOK Try.prog gl GRu := .cons (rstep0_sound gl) (GRs_ok gl)
set_option maxRecDepth 10000 in
theorem rstep_sound (gl : Gl) : Sound Try.prog gl 92 rstepSpec := by
 refine sound_fn (N := Try.f92.ntmps) (rs := Try.f92.results.toList) mixed tok (GRu_ok gl) Try.func92 rfl rfl rfl rfl rfl ?_ ?_ ?_
 · rintro args ⟨p, b, rfl, h0, h1, h2, h3⟩; simp [Try.f92]
 · rintro args ⟨p, b, rfl, h0, h1, h2, h3⟩; simp [rstepSpec, Try.f92]
 · rintro args ⟨p, b, rfl, h0, h1, h2, h3⟩ bs hgl hh hro
   have hb : Bytes [b] := Bytes.mk ⟨h2, h3⟩ Bytes.nil
   have hs0 : (rstep0 b).2.length ≤ 1 := by unfold rstep0; (repeat' split) <;> simp
   have hpb : Bytes (p ++ [b]) := h0.app hb
   simp [rstepSpec, rstep0Spec, Try.f92, rrightSpec, goesSpec, spanSpec, rstepF, hb, hpb, h0, h2, h3, and_assoc, Bytes.nil]
   refine ⟨by omega, fun hr => ?_, fun hr => ?_⟩
   · simp only [hr, or_true, if_true, rstep0]
     refine ⟨fun h => by simp [h], fun h => ⟨fun h' => by simp [h, h'], fun h' => by simp [h, h']⟩⟩
   · simp only [hr, or_false, Bool.true_eq_false]
     refine ⟨by omega, by omega, by omega, by omega, by omega, fun h => ⟨by omega, ?_⟩, fun h => ⟨fun h' => ?_, fun h' => ⟨fun hp => ?_, fun hp => ⟨by omega, by omega, ?_⟩⟩⟩⟩
     · by_cases hp : p = []
       · subst hp; simp at h; simp [rstep0, h]
       · simp [hp, rstepP, h]
     · by_cases hp : p = []
       · subst hp; simp at h h'; simp [rstep0, h, h']
       · simp [hp, rstepP, h, h']
     · subst hp; simp at h h'; simp [rstep0, h, h']
     · simp [hp, rstepP, h, h']
       omega
end Fen

namespace Fen
/-- what a first byte says, in both texts -/
theorem cls (b : Int) (h : 0 ≤ b ∧ b < 256) :
   (b < 128 ∧ lengthF b = 1 ∧ firstF b = (1, b)) ∨ (128 ≤ b ∧ b < 192 ∧ lengthF b = 0 ∧ firstF b = (0, 0)) ∨ (192 ≤ b ∧ b < 194 ∧ lengthF b = 0 ∧ firstF b = (2, b - 192)) ∨
   (194 ≤ b ∧ b < 224 ∧ lengthF b = 2 ∧ secondF b = (128, 191) ∧ firstF b = (2, b - 192)) ∨
   (b = 224 ∧ lengthF b = 3 ∧ secondF b = (160, 191) ∧ firstF b = (3, 0)) ∨ (224 < b ∧ b < 240 ∧ b ≠ 237 ∧ lengthF b = 3 ∧ secondF b = (128, 191) ∧ firstF b = (3, b - 224)) ∨ (b = 237 ∧ lengthF b = 3 ∧ secondF b = (128, 159) ∧ firstF b = (3, 13)) ∨
   (b = 240 ∧ lengthF b = 4 ∧ secondF b = (144, 191) ∧ firstF b = (4, 0)) ∨ (240 < b ∧ b < 244 ∧ lengthF b = 4 ∧ secondF b = (128, 191) ∧ firstF b = (4, b - 240)) ∨ (b = 244 ∧ lengthF b = 4 ∧ secondF b = (128, 143) ∧ firstF b = (4, 4)) ∨
   (244 < b ∧ b < 248 ∧ lengthF b = 0 ∧ firstF b = (4, b - 240)) ∨ (248 ≤ b ∧ lengthF b = 0 ∧ firstF b = (0, 0)) := by
 unfold lengthF secondF firstF
 by_cases h1 : b < 128
 · left; refine ⟨h1, ?_, ?_⟩ <;> (repeat' split) <;> first | rfl | omega
 right
 by_cases h2 : b < 192
 · left; refine ⟨by omega, h2, ?_, ?_⟩ <;> (repeat' split) <;> first | rfl | omega
 right
 by_cases h3 : b < 194
 · left; refine ⟨by omega, h3, ?_, ?_⟩ <;> (repeat' split) <;> first | rfl | omega
 right
 by_cases h4 : b < 224
 · left; refine ⟨by omega, h4, ?_, ?_, ?_⟩ <;> (repeat' split) <;> first | rfl | omega
 right
 by_cases h5 : b = 224
 · left; subst h5; decide
 right
 by_cases h6 : b < 240 ∧ b ≠ 237
 · left; refine ⟨by omega, h6.1, h6.2, ?_, ?_, ?_⟩ <;> (repeat' split) <;> first | rfl | omega
 right
 by_cases h7 : b = 237
 · left; subst h7; decide
 right
 by_cases h8 : b = 240
 · left; subst h8; decide
 right
 by_cases h9 : b < 244
 · left; refine ⟨by omega, h9, ?_, ?_, ?_⟩ <;> (repeat' split) <;> first | rfl | omega
 right
 by_cases h10 : b = 244
 · left; subst h10; decide
 right
 by_cases h11 : b < 248
 · left; refine ⟨by omega, h11, ?_, ?_⟩ <;> (repeat' split) <;> first | rfl | omega
 · right; refine ⟨by omega, ?_, ?_⟩ <;> (repeat' split) <;> first | rfl | omega
def Rel2 (p : List Int) : Prop := (kindF p = 2 → goesF p = (true, true) ∧ codeF p = (spanF p).1) ∧ (kindF p = 1 → goesF p = (true, false)) ∧ (kindF p = 0 → goesF p = (false, false))
theorem goes_of {p : List Int} {lo hi n : Int} (hs : spanF p = (lo, hi, n)) (hn : n ≠ 0) : goesF p = (isF lo hi n, isF lo hi n && (p.length : Int) == n) := by simp [goesF, hs, hn]
theorem goes_no {p : List Int} (hs : (spanF p).2.2 = 0) : goesF p = (false, false) := by simp [goesF, hs]
theorem maxI_le (a b x : Int) : maxI a b ≤ x ↔ a ≤ x ∧ b ≤ x := by unfold maxI; split <;> omega
theorem le_maxI (a b x : Int) : x ≤ maxI a b ↔ x ≤ a ∨ x ≤ b := by unfold maxI; split <;> omega
theorem minI_le (a b x : Int) : minI a b ≤ x ↔ a ≤ x ∨ b ≤ x := by unfold minI; split <;> omega
theorem le_minI (a b x : Int) : x ≤ minI a b ↔ x ≤ a ∧ x ≤ b := by unfold minI; split <;> omega
theorem isF_iff (lo hi n : Int) : isF lo hi n = true ↔ (lo ≤ hi ∧ lo ≤ mostF n ∧ leastF n ≤ hi ∧ leastF n ≤ mostF n) ∧ ¬ ((55296 ≤ lo ∨ 55296 ≤ leastF n) ∧ (hi ≤ 57343 ∨ mostF n ≤ 57343)) := by
 have e : isF lo hi n = true ↔ maxI lo (leastF n) ≤ minI hi (mostF n) ∧ ¬ (55296 ≤ maxI lo (leastF n) ∧ minI hi (mostF n) ≤ 57343) := by
   unfold isF
   by_cases h1 : maxI lo (leastF n) ≤ minI hi (mostF n) <;> by_cases h2 : 55296 ≤ maxI lo (leastF n) <;> by_cases h3 : minI hi (mostF n) ≤ 57343 <;> simp [h1, h2, h3]
 rw [e, maxI_le, le_minI, le_minI, le_maxI, minI_le]
 omega
/-- a row whose later bytes all go on -/
def conts : List Int → Prop
 | [] => True
 | c :: l => (128 ≤ c ∧ c ≤ 191) ∧ conts l
theorem spanGo_none : ∀ (k : Nat) (lo hi : Int) (l : List Int), l.length ≤ k → ¬ conts l → spanGo k lo hi l = none
 | _, _, _, [], _, h => absurd trivial h
 | 0, lo, hi, c :: l, hk, h => by simp at hk
 | k + 1, lo, hi, c :: l, hk, h => by
   simp only [spanGo]
   split
   · rfl
   · refine spanGo_none k _ _ l (by simpa using hk) fun h' => h ⟨by omega, h'⟩
theorem restOK_conts : ∀ (lo hi : Int) (l : List Int), 128 ≤ lo → hi ≤ 191 → restOK lo hi l = true → conts l
 | _, _, [], _, _, _ => trivial
 | lo, hi, c :: l, h1, h2, h => by
   simp [restOK] at h
   exact ⟨by omega, restOK_conts 128 191 l (by decide) (by decide) h.2⟩
theorem second_range (b : Int) : 128 ≤ (secondF b).1 ∧ (secondF b).2 ≤ 191 := by unfold secondF; (repeat' split) <;> simp
/-- both say no -/
theorem rel_no {p : List Int} (h1 : kindF p = 0) (h2 : (spanF p).2.2 = 0) : Rel2 p := by
 unfold Rel2; rw [h1, goes_no h2]; simp
theorem rel_long {p : List Int} (hp : Bytes p) (h : 4 < p.length) : Rel2 p := by
 refine rel_no ?_ ?_
 · unfold kindF; have := lengthF_le (p.headD 0); rw [if_pos (by omega)]
 · cases p with
   | nil => simp at h
   | cons b l =>
     have := firstF_range b hp.cons.1
     simp only [spanF]
     cases spanGo ((firstF b).1.toNat - 1) (firstF b).2 (firstF b).2 l with
     | none => rfl
     | some r => simp only [spanK]; simp at h; rw [if_pos (by omega)]
/-- a later byte does not go on -/
theorem rel_broken {b : Int} {l : List Int} (hb : 0 ≤ b ∧ b < 256) (h : ¬ conts l) : Rel2 (b :: l) := by
 have hk : restOK (secondF b).1 (secondF b).2 l = false := by
   cases hr : restOK (secondF b).1 (secondF b).2 l with
   | false => rfl
   | true => exact absurd (restOK_conts _ _ l (second_range b).1 (second_range b).2 hr) h
 refine rel_no ?_ ?_
 · simp [kindF, hk]
 · have hf := firstF_range b hb
   simp only [spanF]
   rcases Nat.lt_or_ge ((firstF b).1.toNat - 1) l.length with c | c
   · cases spanGo ((firstF b).1.toNat - 1) (firstF b).2 (firstF b).2 l with
     | none => rfl
     | some r => simp only [spanK]; rw [if_pos (by omega)]
   · rw [spanGo_none _ _ _ l c h]; rfl
theorem rel_no2 {p : List Int} (h1 : kindF p = 0) (h2 : isF (spanF p).1 (spanF p).2.1 (spanF p).2.2 = false) : Rel2 p := by
 unfold Rel2; rw [h1]
 refine ⟨fun h => (by simp at h), fun h => (by simp at h), fun _ => ?_⟩
 simp [goesF, h2]
/-- the limits hold just where the second byte is one of those that may be -/
theorem rel_same {b : Int} {l : List Int} {n : Int} (e1 : lengthF b = n) (hs : (spanF (b :: l)).2.2 = n) (hn : n ≠ 0) (hl : (l.length : Int) + 1 ≤ n) (hi' : isF (spanF (b :: l)).1 (spanF (b :: l)).2.1 n = restOK (secondF b).1 (secondF b).2 l) (hc : (l.length : Int) + 1 = n → codeF (b :: l) = (spanF (b :: l)).1) : Rel2 (b :: l) := by
 unfold Rel2
 have hg : goesF (b :: l) = (isF (spanF (b :: l)).1 (spanF (b :: l)).2.1 n, isF (spanF (b :: l)).1 (spanF (b :: l)).2.1 n && ((b :: l).length : Int) == n) := by simp [goesF, hs, hn]
 rw [hg, hi']
 have hk : kindF (b :: l) = if restOK (secondF b).1 (secondF b).2 l then (if (l.length : Int) + 1 < n then 1 else 2) else 0 := by
   simp [kindF, e1]; omega
 rw [hk]
 cases restOK (secondF b).1 (secondF b).2 l with
 | false => simp
 | true =>
   simp only [if_true]
   split
   · rename_i h; simp; omega
   · have : (l.length : Int) + 1 = n := by omega
     simp [this, hc this]
theorem rel1 (b : Int) (h : 0 ≤ b ∧ b < 256) : Rel2 [b] := by
 rcases cls b h with ⟨h1, e1, e3⟩ | ⟨h1, h2, e1, e3⟩ | ⟨h1, h2, e1, e3⟩ | ⟨h1, h2, e1, e2, e3⟩ | ⟨h1, e1, e2, e3⟩ | ⟨h1, h2, h3, e1, e2, e3⟩ | ⟨h1, e1, e2, e3⟩ | ⟨h1, e1, e2, e3⟩ | ⟨h1, h2, e1, e2, e3⟩ | ⟨h1, e1, e2, e3⟩ | ⟨h1, h2, e1, e3⟩ | ⟨h1, e1, e3⟩
 all_goals
   first
   | (refine rel_no ?_ ?_
      · (simp [kindF, e1]; done)
      · (simp [spanF, spanK, spanGo, e3]; done))
   | (refine rel_no2 ?_ ?_
      · (simp [kindF, e1]; done)
      · (rw [Bool.eq_false_iff, Ne, isF_iff]; simp [spanF, spanK, spanGo, e3, leastF, mostF]; omega))
   | (refine rel_same e1 ?_ ?_ ?_ ?_ ?_
      · (simp [spanF, spanK, spanGo, e3]; done)
      · decide
      · (simp; done)
      · (rw [Bool.eq_iff_iff, isF_iff]; simp [spanF, spanK, spanGo, e3, restOK, leastF, mostF] <;> omega)
      · (intro hh; first | (simp at hh; done) | (simp [spanF, spanK, spanGo, e3, codeF, cp0F, goCode]; done) | (simp [spanF, spanK, spanGo, e3, codeF, cp0F, goCode]; omega)))
   | (refine rel_same e1 ?_ ?_ ?_ ?_ ?_
      · (simp [spanF, spanK, spanGo, e3]; done)
      · decide
      · (simp; done)
      · (rw [Bool.eq_iff_iff, isF_iff]; simp [spanF, spanK, spanGo, e3, e2, restOK, leastF, mostF] <;> omega)
      · (intro hh; first | (simp at hh; done) | (simp [spanF, spanK, spanGo, e3, codeF, cp0F, goCode]; done) | (simp [spanF, spanK, spanGo, e3, codeF, cp0F, goCode]; omega)))
theorem rel2 (b c : Int) (h : 0 ≤ b ∧ b < 256) (hc : 128 ≤ c ∧ c ≤ 191) : Rel2 [b, c] := by
 have nc : ¬ (c < 128 ∨ 191 < c) := by omega
 rcases cls b h with ⟨h1, e1, e3⟩ | ⟨h1, h2, e1, e3⟩ | ⟨h1, h2, e1, e3⟩ | ⟨h1, h2, e1, e2, e3⟩ | ⟨h1, e1, e2, e3⟩ | ⟨h1, h2, h3, e1, e2, e3⟩ | ⟨h1, e1, e2, e3⟩ | ⟨h1, e1, e2, e3⟩ | ⟨h1, h2, e1, e2, e3⟩ | ⟨h1, e1, e2, e3⟩ | ⟨h1, h2, e1, e3⟩ | ⟨h1, e1, e3⟩
 all_goals
   first
   | (refine rel_no ?_ ?_
      · (simp [kindF, e1]; done)
      · (simp [spanF, spanK, spanGo, e3, nc, hc]; done))
   | (refine rel_no2 ?_ ?_
      · (simp [kindF, e1]; done)
      · (rw [Bool.eq_false_iff, Ne, isF_iff]; simp [spanF, spanK, spanGo, e3, leastF, mostF, nc, hc]; omega))
   | (refine rel_same e1 ?_ ?_ ?_ ?_ ?_
      · (simp [spanF, spanK, spanGo, e3, nc, hc]; done)
      · decide
      · (simp; done)
      · (rw [Bool.eq_iff_iff, isF_iff]; simp [spanF, spanK, spanGo, e3, restOK, leastF, mostF, nc, hc] <;> omega)
      · (intro hh; first | (simp at hh; done) | (simp [spanF, spanK, spanGo, e3, codeF, cp0F, goCode, nc, hc]; done) | (simp [spanF, spanK, spanGo, e3, codeF, cp0F, goCode, nc, hc]; omega)))
   | (refine rel_same e1 ?_ ?_ ?_ ?_ ?_
      · (simp [spanF, spanK, spanGo, e3, nc, hc]; done)
      · decide
      · (simp; done)
      · (rw [Bool.eq_iff_iff, isF_iff]; simp [spanF, spanK, spanGo, e3, e2, restOK, leastF, mostF, nc, hc] <;> omega)
      · (intro hh; first | (simp at hh; done) | (simp [spanF, spanK, spanGo, e3, codeF, cp0F, goCode, nc, hc]; done) | (simp [spanF, spanK, spanGo, e3, codeF, cp0F, goCode, nc, hc]; omega)))
theorem rel3 (b c d : Int) (h : 0 ≤ b ∧ b < 256) (hc : 128 ≤ c ∧ c ≤ 191) (hd : 128 ≤ d ∧ d ≤ 191) : Rel2 [b, c, d] := by
 have nc : ¬ (c < 128 ∨ 191 < c) := by omega
 have nd : ¬ (d < 128 ∨ 191 < d) := by omega
 rcases cls b h with ⟨h1, e1, e3⟩ | ⟨h1, h2, e1, e3⟩ | ⟨h1, h2, e1, e3⟩ | ⟨h1, h2, e1, e2, e3⟩ | ⟨h1, e1, e2, e3⟩ | ⟨h1, h2, h3, e1, e2, e3⟩ | ⟨h1, e1, e2, e3⟩ | ⟨h1, e1, e2, e3⟩ | ⟨h1, h2, e1, e2, e3⟩ | ⟨h1, e1, e2, e3⟩ | ⟨h1, h2, e1, e3⟩ | ⟨h1, e1, e3⟩
 all_goals
   first
   | (refine rel_no ?_ ?_
      · (simp [kindF, e1]; done)
      · (simp [spanF, spanK, spanGo, e3, nc, hc, nd, hd]; done))
   | (refine rel_no2 ?_ ?_
      · (simp [kindF, e1]; done)
      · (rw [Bool.eq_false_iff, Ne, isF_iff]; simp [spanF, spanK, spanGo, e3, leastF, mostF, nc, hc, nd, hd]; omega))
   | (refine rel_same e1 ?_ ?_ ?_ ?_ ?_
      · (simp [spanF, spanK, spanGo, e3, nc, hc, nd, hd]; done)
      · decide
      · (simp; done)
      · (rw [Bool.eq_iff_iff, isF_iff]; simp [spanF, spanK, spanGo, e3, restOK, leastF, mostF, nc, hc, nd, hd] <;> omega)
      · (intro hh; first | (simp at hh; done) | (simp [spanF, spanK, spanGo, e3, codeF, cp0F, goCode, nc, hc, nd, hd]; done) | (simp [spanF, spanK, spanGo, e3, codeF, cp0F, goCode, nc, hc, nd, hd]; omega)))
   | (refine rel_same e1 ?_ ?_ ?_ ?_ ?_
      · (simp [spanF, spanK, spanGo, e3, nc, hc, nd, hd]; done)
      · decide
      · (simp; done)
      · (rw [Bool.eq_iff_iff, isF_iff]; simp [spanF, spanK, spanGo, e3, e2, restOK, leastF, mostF, nc, hc, nd, hd] <;> omega)
      · (intro hh; first | (simp at hh; done) | (simp [spanF, spanK, spanGo, e3, codeF, cp0F, goCode, nc, hc, nd, hd]; done) | (simp [spanF, spanK, spanGo, e3, codeF, cp0F, goCode, nc, hc, nd, hd]; omega)))
theorem rel4 (b c d e : Int) (h : 0 ≤ b ∧ b < 256) (hc : 128 ≤ c ∧ c ≤ 191) (hd : 128 ≤ d ∧ d ≤ 191) (he : 128 ≤ e ∧ e ≤ 191) : Rel2 [b, c, d, e] := by
 have nc : ¬ (c < 128 ∨ 191 < c) := by omega
 have nd : ¬ (d < 128 ∨ 191 < d) := by omega
 have ne : ¬ (e < 128 ∨ 191 < e) := by omega
 rcases cls b h with ⟨h1, e1, e3⟩ | ⟨h1, h2, e1, e3⟩ | ⟨h1, h2, e1, e3⟩ | ⟨h1, h2, e1, e2, e3⟩ | ⟨h1, e1, e2, e3⟩ | ⟨h1, h2, h3, e1, e2, e3⟩ | ⟨h1, e1, e2, e3⟩ | ⟨h1, e1, e2, e3⟩ | ⟨h1, h2, e1, e2, e3⟩ | ⟨h1, e1, e2, e3⟩ | ⟨h1, h2, e1, e3⟩ | ⟨h1, e1, e3⟩
 all_goals
   first
   | (refine rel_no ?_ ?_
      · (simp [kindF, e1]; done)
      · (simp [spanF, spanK, spanGo, e3, nc, hc, nd, hd, ne, he]; done))
   | (refine rel_no2 ?_ ?_
      · (simp [kindF, e1]; done)
      · (rw [Bool.eq_false_iff, Ne, isF_iff]; simp [spanF, spanK, spanGo, e3, leastF, mostF, nc, hc, nd, hd, ne, he]; omega))
   | (refine rel_same e1 ?_ ?_ ?_ ?_ ?_
      · (simp [spanF, spanK, spanGo, e3, nc, hc, nd, hd, ne, he]; done)
      · decide
      · (simp; done)
      · (rw [Bool.eq_iff_iff, isF_iff]; simp [spanF, spanK, spanGo, e3, restOK, leastF, mostF, nc, hc, nd, hd, ne, he] <;> omega)
      · (intro hh; first | (simp at hh; done) | (simp [spanF, spanK, spanGo, e3, codeF, cp0F, goCode, nc, hc, nd, hd, ne, he]; done) | (simp [spanF, spanK, spanGo, e3, codeF, cp0F, goCode, nc, hc, nd, hd, ne, he]; omega)))
   | (refine rel_same e1 ?_ ?_ ?_ ?_ ?_
      · (simp [spanF, spanK, spanGo, e3, nc, hc, nd, hd, ne, he]; done)
      · decide
      · (simp; done)
      · (rw [Bool.eq_iff_iff, isF_iff]; simp [spanF, spanK, spanGo, e3, e2, restOK, leastF, mostF, nc, hc, nd, hd, ne, he] <;> omega)
      · (intro hh; first | (simp at hh; done) | (simp [spanF, spanK, spanGo, e3, codeF, cp0F, goCode, nc, hc, nd, hd, ne, he]; done) | (simp [spanF, spanK, spanGo, e3, codeF, cp0F, goCode, nc, hc, nd, hd, ne, he]; omega)))
theorem rel_all {p : List Int} (hp : Bytes p) (hne : p ≠ []) : Rel2 p := by
 rcases Nat.lt_or_ge 4 p.length with h | h
 · exact rel_long hp h
 cases p with
 | nil => exact absurd rfl hne
 | cons b l =>
   have hb := hp.cons.1
   by_cases hc : conts l
   · match l, hc, h with
     | [], _, _ => exact rel1 b hb
     | [c], hc, _ => exact rel2 b c hb hc.1
     | [c, d], hc, _ => exact rel3 b c d hb hc.1 hc.2.1
     | [c, d, e], hc, _ => exact rel4 b c d e hb hc.1 hc.2.1 hc.2.2.1
     | c :: d :: e :: f :: l, _, h => simp at h
   · exact rel_broken hb hc
theorem right_eq {p : List Int} (hp : Bytes p) : rightF p = rrightF p := by
 unfold rightF rrightF
 cases p with
 | nil => rfl
 | cons b l =>
   have := rel_all hp (by simp)
   unfold Rel2 at this
   rcases kindF_range (b :: l) with e | e | e <;> simp [e] at this ⊢ <;> simp [this]
theorem flush_eq {p : List Int} (hp : Bytes p) : flushF p = rflushF p := by unfold flushF rflushF; rw [right_eq hp]
theorem step0_eq (b : Int) (h : 0 ≤ b ∧ b < 256) : step0 b = rstep0 b := by
 have := rel_all (p := [b]) (Bytes.mk h Bytes.nil) (by simp)
 unfold Rel2 at this
 unfold step0 rstep0
 rcases kindF_range [b] with e | e | e <;> simp [e] at this ⊢ <;> simp [this]
theorem step_eq {p : List Int} {b : Int} (hp : Bytes p) (h : 0 ≤ b ∧ b < 256) : stepF p b = rstepF p b := by
 unfold stepF rstepF
 rw [right_eq hp, step0_eq b h]
 split
 · rfl
 · have := rel_all (p := p ++ [b]) (hp.app (Bytes.mk h Bytes.nil)) (by simp)
   unfold Rel2 at this
   unfold stepP rstepP
   rw [step0_eq b h]
   rcases kindF_range (p ++ [b]) with e | e | e <;> simp [e] at this ⊢ <;> simp [this]
end Fen

namespace Fen
open Go Go.Proofs
def hasB (n : Int) (l : List C) : Bool := decide (n ∈ nums l)
def rhasSpec : Spec := { pre := fun args => ∃ (n : Int) (l : List Int), args = [.c (.int .i64 n), intsV l] ∧ l.length ≤ 1000, res := fun args => match args with
 | [.c (.int _ n), .c (.sl _ l)] => .one (.val (.c (.bool (hasB n l))))
 | _ => .many [] }
def rhasS (n : Int) (l : List Int) (i : Nat) : St := ⟨18, [(0, .val (.int .i64 n)), (1, .val (.sl l.length (ints .i64 l))), (5, .val (.int .i64 i))], []⟩
def G_rhas : Specs := []
@[simp] theorem G_rhas_live : Specs.live G_rhas = false := rfl
theorem G_rhas_ok (gl : Gl) : SpecsOK Try.prog gl G_rhas := .nil _ _
set_option maxRecDepth 10000 in
theorem rhas_sound (gl : Gl) : Sound Try.prog gl 58 rhasSpec := by
 refine sound_awp (N := Try.f58.ntmps) (rs := Try.f58.results.toList) tok Try.func58 rfl rfl rfl rfl rfl ?_ ?_ ?_
 · rintro args ⟨n,l,rfl,hl⟩; simp [nums_I,intsV, Try.f58]
 · rintro args ⟨n,l,rfl,hl⟩; simp [nums_I,intsV, rhasSpec, Try.f58]
 · rintro args ⟨n,l,rfl,hl⟩ bs hgl hh hro
   have hE : Env.OK ⟨Try.prog, T, G_rhas, bs⟩ := ⟨tok, by rw [hgl]; exact G_rhas_ok gl⟩
   simp only [rhasSpec, nums_I,intsV]
   have hB : hasB n (ints .i64 l) = decide (n ∈ l) := by unfold hasB; rw [nums_I]
   refine wpc_ok hE mixed _ _ _ ?_
   simp [rhasSpec, Try.f58, hB]
   refine AWP.rounds (fun i => i ≤ l.length ∧ n ∉ l.take i) (rhasS n l) (fun i => l.length - i) 0 (by simp) ?_ ?_
   · exact Weak.keep (by simp [rhasS])
   · rintro i ⟨hi, hm⟩
     refine wpc_ok hE mixed _ _ _ ?_
     rcases Nat.lt_or_ge i l.length with h | h
     · have w1 : IntKind.i64.wrap ((i : Int) + 1) = ((i + 1 : Nat) : Int) := by rw [wrap64 _ (by omega) (by omega)]; omega
       have ilt : (i < l.length) = True := eq_true h
       have hd := ints_at h
       have hmem : l[i] ∈ l := List.getElem_mem h
       have ht := List.take_add_one (l := l) (i := i)
       rw [List.getElem?_eq_getElem h] at ht
       generalize l[i] = x at *
       by_cases e : x = n
       · subst e
         have hin : (x ∈ l) = True := eq_true hmem
         simp [rhasS, ilt, hd, hin, h]
       · have e' : (x = n) = False := eq_false e
         simp [rhasS, ilt, hd, e', w1, h]
         exact Next.mk (i + 1) ⟨h, by rw [ht]; simp [hm]; exact fun q => e q.symm⟩ (by omega) (Weak.keep (by simp [rhasS]))
     · have : i = l.length := by omega
       subst this
       rw [List.take_length] at hm
       have hin : (n ∈ l) = False := eq_false hm
       simp [rhasS, hin]
def remptySpec : Spec := { pre := fun args => ∃ p : Ps, args = [.agg (psC p)], res := fun args => match args with
 | [.agg a] => .one (.val (.c (.bool (noneIn (psOf a)))))
 | _ => .many [] }
def G_rempty : Specs := []
@[simp] theorem G_rempty_live : Specs.live G_rempty = false := rfl
theorem G_rempty_ok (gl : Gl) : SpecsOK Try.prog gl G_rempty := .nil _ _
set_option maxRecDepth 10000 in
theorem rempty_sound (gl : Gl) : Sound Try.prog gl 57 remptySpec := by
 refine sound_fn (N := Try.f57.ntmps) (rs := Try.f57.results.toList) mixed tok (G_rempty_ok gl) Try.func57 rfl rfl rfl rfl rfl ?_ ?_ ?_
 · rintro args ⟨p,rfl⟩; simp [psOf_C, Try.f57]
 · rintro args ⟨p,rfl⟩; simp [psOf_C, remptySpec, Try.f57]
 · rintro args ⟨p,rfl⟩ bs hgl hh hro
   have hE : Env.OK ⟨Try.prog, T, G_rempty, bs⟩ := ⟨tok, by rw [hgl]; exact G_rempty_ok gl⟩
   simp only [remptySpec, psOf_C]
   have hN : noneIn p = (decide (p.u = []) && decide (p.pv = 0) && decide (p.fn = 0) && decide (p.ps = []) && decide (p.it = []) && decide (p.tx = [])) := by
     unfold noneIn; rw [Bool.eq_iff_iff]; simp [and_assoc]
   have e2 := psOf_C p
   simp only [psC] at e2
   have e3 : p.tx.isEmpty = decide (p.tx = []) := by cases p.tx <;> rfl
   simp [remptySpec, Try.f57, psC, e2, hN, e3]
def rsignsSpec : Spec := { pre := fun args => ∃ (s : List UInt8) (a b : Int), args = [.c (.str s), .c (.int .i64 a), .c (.int .i64 b)] ∧ s.length ≤ 1000000, res := fun args => match args with
 | [.c (.str s), .c (.int _ a), .c (.int _ b)] => .one (.val (.c (.bool (signOK s && (decide (a ≤ s.length) && decide ((s.length : Int) ≤ b))))))
 | _ => .many [] }
def rsignsS (s : List UInt8) (a b : Int) (i : Nat) : St := ⟨34, [(0, .val (.str s)), (1, .val (.int .i64 a)), (2, .val (.int .i64 b)), (7, .val (.int .i64 i))], []⟩
theorem all_bad {α : Type} (f : α → Bool) {l : List α} {i : Nat} (h : i < l.length) (hf : f l[i] = false) : l.all f = false := by
 rw [List.all_eq_false]; exact ⟨l[i], List.getElem_mem h, by simp [hf]⟩
def G_rsigns : Specs := []
@[simp] theorem G_rsigns_live : Specs.live G_rsigns = false := rfl
theorem G_rsigns_ok (gl : Gl) : SpecsOK Try.prog gl G_rsigns := .nil _ _
set_option maxRecDepth 10000 in
theorem rsigns_sound (gl : Gl) : Sound Try.prog gl 61 rsignsSpec := by
 refine sound_awp (N := Try.f61.ntmps) (rs := Try.f61.results.toList) tok Try.func61 rfl rfl rfl rfl rfl ?_ ?_ ?_
 · rintro args ⟨s,a,b,rfl,hl⟩; simp [Try.f61]
 · rintro args ⟨s,a,b,rfl,hl⟩; simp [rsignsSpec, Try.f61]
 · rintro args ⟨s,a,b,rfl,hl⟩ bs hgl hh hro
   have hE : Env.OK ⟨Try.prog, T, G_rsigns, bs⟩ := ⟨tok, by rw [hgl]; exact G_rsigns_ok gl⟩
   refine wpc_ok hE mixed _ _ _ ?_
   simp [rsignsSpec, Try.f61]
   refine AWP.rounds (fun i => i ≤ s.length ∧ signOK (s.take i) = true) (rsignsS s a b) (fun i => s.length - i) 0 (by simp [signOK]) ?_ ?_
   · exact Weak.keep (by simp [rsignsS])
   · rintro i ⟨hi, hm⟩
     refine wpc_ok hE mixed _ _ _ ?_
     rcases Nat.lt_or_ge i s.length with h | h
     · have w1 : IntKind.i64.wrap ((i : Int) + 1) = ((i + 1 : Nat) : Int) := by rw [wrap64 _ (by omega) (by omega)]; omega
       have ilt : (i < s.length) = True := eq_true h
       have hs : signOK (s.take (i + 1)) = (signOK (s.take i) && (decide (32 ≤ s[i].toNat) && decide (s[i].toNat ≤ 47))) := by
         unfold signOK; rw [List.take_add_one, List.getElem?_eq_getElem h, List.all_append]; simp
       have hb := fun hf => all_bad (fun c : UInt8 => decide (32 ≤ c.toNat) && decide (c.toNat ≤ 47)) h hf
       obtain ⟨c, hg⟩ : ∃ c, s[i] = c := ⟨_, rfl⟩
       rw [hg] at hs hb
       by_cases c1 : (c.toNat : Int) < 32
       · have c1' : ((c.toNat : Int) < 32) = True := eq_true c1
         have hS : signOK s = false := hb (by simp; omega)
         simp [rsignsS, ilt, hg, c1', hS, h]
       have c1' : ((c.toNat : Int) < 32) = False := eq_false c1
       by_cases c2 : 47 < (c.toNat : Int)
       · have c2' : (47 < (c.toNat : Int)) = True := eq_true c2
         have hS : signOK s = false := hb (by simp; omega)
         simp [rsignsS, ilt, hg, c1', c2', hS, h]
       · have c2' : (47 < (c.toNat : Int)) = False := eq_false c2
         simp [rsignsS, ilt, hg, c1', c2', w1, h]
         exact Next.mk (i + 1) ⟨h, by rw [hs, hm]; simp; omega⟩ (by omega) (Weak.keep (by simp [rsignsS]))
     · have : i = s.length := by omega
       subst this
       rw [List.take_length] at hm
       simp [rsignsS, hm]
       trace_state
       done
def rtextSpec : Spec := { pre := fun args => ∃ (s : List UInt8), args = [.c (.str s)] ∧ s.length ≤ 1000000, res := fun args => match args with
 | [.c (.str s)] => .one (.val (.c (.bool (textOK s && decide ((s.length : Int) ≤ 512)))))
 | _ => .many [] }
def rtextS (s : List UInt8) (i : Nat) : St := ⟨23, [(0, .val (.str s)), (3, .val (.int .i64 i))], []⟩
def G_rtext : Specs := []
@[simp] theorem G_rtext_live : Specs.live G_rtext = false := rfl
theorem G_rtext_ok (gl : Gl) : SpecsOK Try.prog gl G_rtext := .nil _ _
set_option maxRecDepth 10000 in
theorem rtext_sound (gl : Gl) : Sound Try.prog gl 62 rtextSpec := by
 refine sound_awp (N := Try.f62.ntmps) (rs := Try.f62.results.toList) tok Try.func62 rfl rfl rfl rfl rfl ?_ ?_ ?_
 · rintro args ⟨s,rfl,hl⟩; simp [Try.f62]
 · rintro args ⟨s,rfl,hl⟩; simp [rtextSpec, Try.f62]
 · rintro args ⟨s,rfl,hl⟩ bs hgl hh hro
   have hE : Env.OK ⟨Try.prog, T, G_rtext, bs⟩ := ⟨tok, by rw [hgl]; exact G_rtext_ok gl⟩
   refine wpc_ok hE mixed _ _ _ ?_
   simp [rtextSpec, Try.f62]
   refine AWP.rounds (fun i => i ≤ s.length ∧ textOK (s.take i) = true) (rtextS s) (fun i => s.length - i) 0 (by simp [textOK]) ?_ ?_
   · exact Weak.keep (by simp [rtextS])
   · rintro i ⟨hi, hm⟩
     refine wpc_ok hE mixed _ _ _ ?_
     rcases Nat.lt_or_ge i s.length with h | h
     · have w1 : IntKind.i64.wrap ((i : Int) + 1) = ((i + 1 : Nat) : Int) := by rw [wrap64 _ (by omega) (by omega)]; omega
       have ilt : (i < s.length) = True := eq_true h
       have hs : textOK (s.take (i + 1)) = (textOK (s.take i) && (decide (32 ≤ s[i].toNat) && decide (s[i].toNat ≠ 127))) := by
         unfold textOK; rw [List.take_add_one, List.getElem?_eq_getElem h, List.all_append]; simp
       have hb := fun hf => all_bad (fun c : UInt8 => decide (32 ≤ c.toNat) && decide (c.toNat ≠ 127)) h hf
       obtain ⟨c, hg⟩ : ∃ c, s[i] = c := ⟨_, rfl⟩
       rw [hg] at hs hb
       by_cases c1 : (c.toNat : Int) < 32
       · have c1' : ((c.toNat : Int) < 32) = True := eq_true c1
         have hS : textOK s = false := hb (by simp; omega)
         simp [rtextS, ilt, hg, c1', hS, h]
       have c1' : ((c.toNat : Int) < 32) = False := eq_false c1
       by_cases c2 : (c.toNat : Int) = 127
       · have c2' : ((c.toNat : Int) = 127) = True := eq_true c2
         have hS : textOK s = false := hb (by simp; omega)
         simp [rtextS, ilt, hg, c1', c2', hS, h]
       · have c2' : ((c.toNat : Int) = 127) = False := eq_false c2
         simp [rtextS, ilt, hg, c1', c2', w1, h]
         exact Next.mk (i + 1) ⟨h, by rw [hs, hm]; simp; omega⟩ (by omega) (Weak.keep (by simp [rtextS]))
     · have : i = s.length := by omega
       subst this
       rw [List.take_length] at hm
       simp [rtextS, hm]
       trace_state
       done
def rbeginSpec : Spec := { pre := fun args => ∃ n : Int, args = [.c (.int .i64 n)], res := fun args => match args with
 | [.c (.int _ n)] => .one (.val (.agg (psC (sbegin n))))
 | _ => .many [] }
def G_rbegin : Specs := []
@[simp] theorem G_rbegin_live : Specs.live G_rbegin = false := rfl
theorem G_rbegin_ok (gl : Gl) : SpecsOK Try.prog gl G_rbegin := .nil _ _
set_option maxRecDepth 10000 in
theorem rbegin_sound (gl : Gl) : Sound Try.prog gl 64 rbeginSpec := by
 refine sound_fn (N := Try.f64.ntmps) (rs := Try.f64.results.toList) mixed tok (G_rbegin_ok gl) Try.func64 rfl rfl rfl rfl rfl ?_ ?_ ?_
 · rintro args ⟨n,rfl⟩; simp [Try.f64]
 · rintro args ⟨n,rfl⟩; simp [rbeginSpec, Try.f64]
 · rintro args ⟨n,rfl⟩ bs hgl hh hro
   have hE : Env.OK ⟨Try.prog, T, G_rbegin, bs⟩ := ⟨tok, by rw [hgl]; exact G_rbegin_ok gl⟩
   simp [rbeginSpec, Try.f64, psC, sbegin, ints, parC]
def rspoiltSpec : Spec := { pre := fun args => ∃ n : Int, args = [.c (.int .i64 n)], res := fun args => match args with
 | [.c (.int _ n)] => .one (.val (.agg (psC (sspoil n))))
 | _ => .many [] }
def G_rspoilt : Specs := []
@[simp] theorem G_rspoilt_live : Specs.live G_rspoilt = false := rfl
theorem G_rspoilt_ok (gl : Gl) : SpecsOK Try.prog gl G_rspoilt := .nil _ _
set_option maxRecDepth 10000 in
theorem rspoilt_sound (gl : Gl) : Sound Try.prog gl 94 rspoiltSpec := by
 refine sound_fn (N := Try.f94.ntmps) (rs := Try.f94.results.toList) mixed tok (G_rspoilt_ok gl) Try.func94 rfl rfl rfl rfl rfl ?_ ?_ ?_
 · rintro args ⟨n,rfl⟩; simp [Try.f94]
 · rintro args ⟨n,rfl⟩; simp [rspoiltSpec, Try.f94]
 · rintro args ⟨n,rfl⟩ bs hgl hh hro
   have hE : Env.OK ⟨Try.prog, T, G_rspoilt, bs⟩ := ⟨tok, by rw [hgl]; exact G_rspoilt_ok gl⟩
   simp [rspoiltSpec, Try.f94, psC, sspoil, ints, parC]
def twoV (x : Ps × List Ev) : RV := .many [.val (.agg (psC x.1)), .val (.c (.sl x.2.length (evsC x.2)))]
def rtoldSpec : Spec := { pre := fun args => ∃ (p : Ps) (v : Ev), args = [.agg (psC p), .agg (evC v)], res := fun args => match args with
 | [.agg p, .agg v] => twoV (told (psOf p) (evOf v))
 | _ => .many [] }
def G_rtold : Specs := [(64, rbeginSpec)]
@[simp] theorem G_rtold_live : Specs.live G_rtold = false := rfl
@[simp] theorem G_rtold_64 : G_rtold.find 64 = some rbeginSpec := rfl
theorem G_rtold_ok (gl : Gl) : SpecsOK Try.prog gl G_rtold := .cons (rbegin_sound gl) (.nil _ _)
set_option maxRecDepth 10000 in
theorem rtold_sound (gl : Gl) : Sound Try.prog gl 93 rtoldSpec := by
 refine sound_fn (N := Try.f93.ntmps) (rs := Try.f93.results.toList) mixed tok (G_rtold_ok gl) Try.func93 rfl rfl rfl rfl rfl ?_ ?_ ?_
 · rintro args ⟨p,v,rfl⟩; simp [psOf_C,evOf_C,twoV, Try.f93]
 · rintro args ⟨p,v,rfl⟩; simp [psOf_C,evOf_C,twoV, rtoldSpec, Try.f93]
 · rintro args ⟨p,v,rfl⟩ bs hgl hh hro
   have hE : Env.OK ⟨Try.prog, T, G_rtold, bs⟩ := ⟨tok, by rw [hgl]; exact G_rtold_ok gl⟩
   simp only [rtoldSpec, psOf_C,evOf_C,twoV]
   cases hb : p.bad with
   | true =>
     simp [rtoldSpec, rbeginSpec, Try.f93, psC, evC, twoV, told, hb, evsC]
   | false =>
     simp [rtoldSpec, rbeginSpec, Try.f93, psC, evC, twoV, told, hb, evsC]
     rfl
def rsignedSpec : Spec := { pre := fun args => ∃ (p : Ps) (b : Int), args = [.agg (psC p), .c (.int .u8 b)] ∧ 0 ≤ b ∧ b < 256 ∧ p.it.length ≤ 1000000, res := fun args => match args with
 | [.agg p, .c (.int _ b)] => .one (.val (.agg (psC (signed (psOf p) b))))
 | _ => .many [] }
def G_rsigned : Specs := [(94, rspoiltSpec)]
@[simp] theorem G_rsigned_live : Specs.live G_rsigned = false := rfl
@[simp] theorem G_rsigned_94 : G_rsigned.find 94 = some rspoiltSpec := rfl
theorem G_rsigned_ok (gl : Gl) : SpecsOK Try.prog gl G_rsigned := .cons (rspoilt_sound gl) (.nil _ _)
set_option maxRecDepth 10000 in
theorem rsigned_sound (gl : Gl) : Sound Try.prog gl 96 rsignedSpec := by
 refine sound_fn (N := Try.f96.ntmps) (rs := Try.f96.results.toList) mixed tok (G_rsigned_ok gl) Try.func96 rfl rfl rfl rfl rfl ?_ ?_ ?_
 · rintro args ⟨p,b,rfl,hb0,hb1,hit⟩; simp [psOf_C, Try.f96]
 · rintro args ⟨p,b,rfl,hb0,hb1,hit⟩; simp [psOf_C, rsignedSpec, Try.f96]
 · rintro args ⟨p,b,rfl,hb0,hb1,hit⟩ bs hgl hh hro
   have hE : Env.OK ⟨Try.prog, T, G_rsigned, bs⟩ := ⟨tok, by rw [hgl]; exact G_rsigned_ok gl⟩
   simp only [rsignedSpec, psOf_C]
   cases hb : p.bad with
   | true =>
     simp [rsignedSpec, rspoiltSpec, Try.f96, psC, signed, hb]
   | false =>
     by_cases h2 : p.it.length = 2
     · have h2' : ((p.it.length : Int) = 2) = True := eq_true (by omega)
       simp [rsignedSpec, rspoiltSpec, Try.f96, psC, signed, hb, h2, h2']
     · have h2' : ((p.it.length : Int) = 2) = False := eq_false (by omega)
       simp [rsignedSpec, rspoiltSpec, Try.f96, psC, signed, hb, h2, h2']
       exact ⟨by omega, rfl⟩
def rescapeSpec : Spec := { pre := fun args => ∃ b : Int, args = [.c (.int .u8 b)] ∧ 0 ≤ b ∧ b < 256, res := fun args => match args with
 | [.c (.int _ b)] => twoV (escapeF b)
 | _ => .many [] }
def G_rescape : Specs := [(64, rbeginSpec)]
@[simp] theorem G_rescape_live : Specs.live G_rescape = false := rfl
@[simp] theorem G_rescape_64 : G_rescape.find 64 = some rbeginSpec := rfl
theorem G_rescape_ok (gl : Gl) : SpecsOK Try.prog gl G_rescape := .cons (rbegin_sound gl) (.nil _ _)
set_option maxHeartbeats 2000000 in
set_option maxRecDepth 10000 in
theorem rescape_sound (gl : Gl) : Sound Try.prog gl 95 rescapeSpec := by
 refine sound_fn (N := Try.f95.ntmps) (rs := Try.f95.results.toList) mixed tok (G_rescape_ok gl) Try.func95 rfl rfl rfl rfl rfl ?_ ?_ ?_
 · rintro args ⟨b,rfl,hb0,hb1⟩; simp [twoV, Try.f95]
 · rintro args ⟨b,rfl,hb0,hb1⟩; simp [twoV, rescapeSpec, Try.f95]
 · rintro args ⟨b,rfl,hb0,hb1⟩ bs hgl hh hro
   have hE : Env.OK ⟨Try.prog, T, G_rescape, bs⟩ := ⟨tok, by rw [hgl]; exact G_rescape_ok gl⟩
   simp only [rescapeSpec, twoV]
   by_cases c0 : b = 91
   · subst c0
     have e : escapeF 91 = (sbegin 3, []) := rfl
     simp [rescapeSpec, rbeginSpec, Try.f95, psC, evsC, twoV, e, sbegin, ints, parC]
   have d0 := eq_false c0
   by_cases c1 : b = 93
   · subst c1
     have e : escapeF 93 = (sbegin 6, []) := rfl
     simp [rescapeSpec, rbeginSpec, Try.f95, psC, evsC, twoV, e, sbegin, ints, parC]
   have d1 := eq_false c1
   by_cases c2 : b = 80
   · subst c2
     have e : escapeF 80 = (sbegin 8, []) := rfl
     simp [rescapeSpec, rbeginSpec, Try.f95, psC, evsC, twoV, e, sbegin, ints, parC]
   have d2 := eq_false c2
   by_cases c3 : b = 88
   · subst c3
     have e : escapeF 88 = (sbegin 13, []) := rfl
     simp [rescapeSpec, rbeginSpec, Try.f95, psC, evsC, twoV, e, sbegin, ints, parC]
   have d3 := eq_false c3
   by_cases c4 : b = 94
   · subst c4
     have e : escapeF 94 = (sbegin 13, []) := rfl
     simp [rescapeSpec, rbeginSpec, Try.f95, psC, evsC, twoV, e, sbegin, ints, parC]
   have d4 := eq_false c4
   by_cases c5 : b = 95
   · subst c5
     have e : escapeF 95 = (sbegin 13, []) := rfl
     simp [rescapeSpec, rbeginSpec, Try.f95, psC, evsC, twoV, e, sbegin, ints, parC]
   have d5 := eq_false c5
   have hn : ¬ (b = 88 ∨ b = 94 ∨ b = 95) := by omega
   by_cases h48 : b < 48
   · have h48' : (b ≤ 47) = True := eq_true (by omega)
     have e : escapeF b = ({ sbegin 2 with it := [u8B b] }, []) := by unfold escapeF; rw [if_neg c0, if_neg c1, if_neg c2, if_neg hn, if_pos h48]
     simp [rescapeSpec, rbeginSpec, Try.f95, psC, evsC, twoV, e, sbegin, ints, parC, h48', d0, d1, d2, d3, d4, d5]
     rfl
   · have h48' : (b ≤ 47) = False := eq_false (by omega)
     have e : escapeF b = (sbegin 0, [evEsc [] b]) := by unfold escapeF; rw [if_neg c0, if_neg c1, if_neg c2, if_neg hn, if_neg h48]
     simp [rescapeSpec, rbeginSpec, Try.f95, psC, evsC, evC, evEsc, twoV, e, sbegin, ints, parC, h48', d0, d1, d2, d3, d4, d5]
end Fen

namespace Fen
open Go Go.Proofs
def r05checkSpec : Spec := { pre := pcheckSpec.pre, res := pcheckSpec.res }
def r5cS (l : List (List Int)) (i : Nat) : St := ⟨80, [(0, .val (.sl l.length (parC l))), (3, .val (.int .i64 i))], []⟩
def r5cT (l : List (List Int)) (i k : Nat) : St := ⟨80, [(0, .val (.sl l.length (parC l))), (3, .val (.int .i64 i)), (4, .val (.int .i64 k))], []⟩
def G_r05check : Specs := []
@[simp] theorem G_r05check_live : Specs.live G_r05check = false := rfl
theorem G_r05check_ok (gl : Gl) : SpecsOK Try.prog gl G_r05check := .nil _ _
set_option maxHeartbeats 8000000 in
set_option maxRecDepth 10000 in
theorem r05check_sound (gl : Gl) : Sound Try.prog gl 60 r05checkSpec := by
 refine sound_awp (N := Try.f60.ntmps) (rs := Try.f60.results.toList) tok Try.func60 rfl rfl rfl rfl rfl ?_ ?_ ?_
 · rintro args ⟨l,rfl,hl1,hl2⟩; simp [unP_C,parV,pcheckSpec, Try.f60]
 · rintro args ⟨l,rfl,hl1,hl2⟩; simp [unP_C,parV,pcheckSpec, r05checkSpec, Try.f60]
 · rintro args ⟨l,rfl,hl1,hl2⟩ bs hgl hh hro
   have hE : Env.OK ⟨Try.prog, T, G_r05check, bs⟩ := ⟨tok, by rw [hgl]; exact G_r05check_ok gl⟩
   simp only [r05checkSpec, unP_C,parV,pcheckSpec]
   rcases Nat.lt_or_ge 16 l.length with h1 | h1
   · have h1' : (16 < (l.length : Int)) = True := eq_true (by omega)
     have e : parOK l = false := by unfold parOK; simp; omega
     refine wpc_ok hE mixed _ _ _ ?_
     simp [r05checkSpec, Try.f60, h1', e]
   have h1' : (16 < (l.length : Int)) = False := eq_false (by omega)
   refine wpc_ok hE mixed _ _ _ ?_
   simp [r05checkSpec, Try.f60, h1']
   refine AWP.rounds (fun i => i ≤ l.length ∧ (l.take i).all subOK = true) (r5cS l) (fun i => l.length - i) 0 ⟨by simp, by simp⟩ ?_ ?_
   · exact Weak.keep (by simp [r5cS])
   · rintro i ⟨hi, ht⟩
     refine wpc_ok hE mixed _ _ _ ?_
     rcases Nat.lt_or_ge i l.length with h | h
     · have w1 : IntKind.i64.wrap ((i : Int) + 1) = ((i + 1 : Nat) : Int) := by rw [wrap64 _ (by omega) (by omega)]; omega
       have hda := parC_at h
       have hs := all_succ subOK h
       have hb := fun hf => all_bad subOK h hf
       have hxl := hl2 _ (List.getElem_mem h)
       have ilt : (i < l.length) = True := eq_true h
       have la : ((parC l).length) = l.length := parC_len l
       generalize l[i] = x at *
       simp only [subC] at hda
       by_cases c1 : x.length < 1
       · have c1' : ((x.length : Int) < 1) = True := eq_true (by omega)
         have hS : parOK l = false := by unfold parOK; rw [hb (by simp [subOK]; omega)]; simp
         simp [r5cS, hda, ilt, la, c1', hS, h]
       have c1' : ((x.length : Int) < 1) = False := eq_false (by omega)
       by_cases c2 : 6 < x.length
       · have c2' : (6 < (x.length : Int)) = True := eq_true (by omega)
         have hS : parOK l = false := by unfold parOK; rw [hb (by simp [subOK]; omega)]; simp
         simp [r5cS, hda, ilt, la, c1', c2', hS, h]
       have c2' : (6 < (x.length : Int)) = False := eq_false (by omega)
       simp [r5cS, hda, ilt, la, c1', c2', h]
       refine AWP.rounds (fun k => k ≤ x.length ∧ ((x.take k).all fun n => decide (-1 ≤ n) && decide (n ≤ 9999)) = true) (r5cT l i) (fun k => x.length - k) 0 ⟨by omega, by simp⟩ ?_ ?_
       · exact Weak.keep (by simp [r5cT])
       · rintro k ⟨hk, hkt⟩
         refine wpc_ok hE mixed _ _ _ ?_
         rcases Nat.lt_or_ge k x.length with g | g
         · have w2 : IntKind.i64.wrap ((k : Int) + 1) = ((k + 1 : Nat) : Int) := by rw [wrap64 _ (by omega) (by omega)]; omega
           have hdb := ints_at g
           have klt : (k < x.length) = True := eq_true g
           have hkk : ((x.take (k + 1)).all fun n => decide (-1 ≤ n) && decide (n ≤ 9999)) = (((x.take k).all fun n => decide (-1 ≤ n) && decide (n ≤ 9999)) && (decide (-1 ≤ x[k]) && decide (x[k] ≤ 9999))) := by
             rw [List.take_add_one, List.getElem?_eq_getElem g, List.all_append]; simp
           have hbb := fun hf => all_bad (fun n : Int => decide (-1 ≤ n) && decide (n ≤ 9999)) g hf
           generalize x[k] = n at *
           by_cases c3 : n < -1
           · have c3' : (n < -1) = True := eq_true c3
             have hS : parOK l = false := by unfold parOK; rw [hb (by unfold subOK; rw [hbb (by simp; omega)]; simp)]; simp
             simp [r5cT, hda, hdb, ilt, klt, la, c3', hS, h]
           have c3' : (n < -1) = False := eq_false c3
           by_cases c4 : 9999 < n
           · have c4' : (9999 < n) = True := eq_true c4
             have hS : parOK l = false := by unfold parOK; rw [hb (by unfold subOK; rw [hbb (by simp; omega)]; simp)]; simp
             simp [r5cT, hda, hdb, ilt, klt, la, c3', c4', hS, h]
           have c4' : (9999 < n) = False := eq_false c4
           simp [r5cT, hda, hdb, ilt, klt, la, c3', c4', w2, h]
           exact Next.mk (k + 1) ⟨g, List.all_eq_true.1 (by rw [hkk, hkt]; simp; omega) |> fun q a ha => by simpa using q a ha⟩ (by omega) (Weak.keep (by simp [r5cT]))
         · obtain rfl : k = x.length := by omega
           rw [List.take_length] at hkt
           simp [r5cT, hda, ilt, la, w1, h]
           exact Next.mk (i + 1) ⟨h, List.all_eq_true.1 (by rw [hs, ht]; unfold subOK; rw [hkt]; simp; omega)⟩ (by omega) (Weak.keep (by simp [r5cS]))
     · obtain rfl : i = l.length := by omega
       rw [List.take_length] at ht
       have hP : parOK l = !decide (l = [[-1]]) := by
         unfold parOK; rw [ht, decide_eq_true (by omega : l.length ≤ 16)]; rfl
       rw [hP]
       rcases l with _ | ⟨y, _ | ⟨z, r⟩⟩
       · simp [r5cS, parC, lnY, slOf, lenX]
         refine OpW.skip (.val (.int .i64 0)) rfl (by simp) (by simp) ?_
         simp [iaS, exE, slOf]
         refine OpW.skip (.fptr []) rfl (by simp) (by simp) ?_
         simp
       · rcases y with _ | ⟨n, _ | ⟨m, r⟩⟩
         · simp [subOK] at ht
         · by_cases c : n = -1
           · subst c
             simp [r5cS, parC, subC, ints]
           · have c' : (n = -1) = False := eq_false c
             simp [r5cS, parC, subC, ints, c']
         · have c' : ((r.length : Int) + 1 + 1 = 1) = False := eq_false (by omega)
           simp [r5cS, parC, subC, ints, c']
       · have c' : ((r.length : Int) + 1 + 1 = 1) = False := eq_false (by omega)
         rcases y with _ | ⟨n, y⟩
         · simp [subOK] at ht
         · simp [r5cS, parC, subC, ints, c']
end Fen
