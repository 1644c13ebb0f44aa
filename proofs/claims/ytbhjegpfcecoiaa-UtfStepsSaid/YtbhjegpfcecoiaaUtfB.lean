/- A part of the proof; no statement is proved here: UtfM. -/
import Derived.Test.YtbhjegpfcecoiaaUtfA

namespace Fen
open Go Go.Proofs

def lawStepsSpec : Spec := { pre := fun args => ∃ (p : List Int) (cp n b : Int), args = [bytesV p, .c (.int .i64 cp), .c (.int .u8 n), .c (.int .u8 b)] ∧ Bytes p ∧ p.length ≤ 9223372036854775807 ∧ I64 cp ∧ (0 ≤ n ∧ n < 256) ∧ (0 ≤ b ∧ b < 256), res := fun _ => .one (.val (.c (.bool true))) }

def GLs : Specs := [(9, putSpec), (10, rightSpec), (11, rrightSpec), (13, flushSpec), (14, rflushSpec), (12, intsSpec), (15, stepSpec), (16, rstepSpec), (17, worksSpec)]
@[simp] theorem GLs_9 : GLs.find 9 = some putSpec := rfl
@[simp] theorem GLs_10 : GLs.find 10 = some rightSpec := rfl
@[simp] theorem GLs_11 : GLs.find 11 = some rrightSpec := rfl
@[simp] theorem GLs_13 : GLs.find 13 = some flushSpec := rfl
@[simp] theorem GLs_14 : GLs.find 14 = some rflushSpec := rfl
@[simp] theorem GLs_12 : GLs.find 12 = some intsSpec := rfl
@[simp] theorem GLs_15 : GLs.find 15 = some stepSpec := rfl
@[simp] theorem GLs_16 : GLs.find 16 = some rstepSpec := rfl
@[simp] theorem GLs_17 : GLs.find 17 = some worksSpec := rfl
theorem GLs_ok (gl : Gl) : SpecsOK Try.prog gl GLs := .cons (rput_sound gl) (.cons (right_sound gl) (.cons (rright_sound gl) (.cons (flush_sound gl) (.cons (rflush_sound gl) (.cons (ints_sound gl) (.cons (step_sound gl) (.cons (rstep_sound gl) (.cons (works_sound gl) (.nil _ _)))))))))

theorem wrapU64 (n : Int) : IntKind.u64.wrap n = n % 18446744073709551616 := by simp [IntKind.wrap, IntKind.bits, IntKind.signed]

theorem putI_len (n : Int) : (putI n).length ≤ 4 := by unfold putI; simp only; (repeat' split) <;> simp

def lawStepsS (b : Int) (p q : List Int) (i : Nat) : St :=
  ⟨93, [(3, .val (.int .u8 b)), (39, .agg [.sl p.length (ints .u8 p), .sl q.length (ints .u8 q)]), (40, .val (.int .i64 i))], []⟩

def lawStepsT (b : Int) (p q r : List Int) (i : Nat) (j : Nat) : St :=
  ⟨93, [(3, .val (.int .u8 b)), (39, .agg [.sl p.length (ints .u8 p), .sl q.length (ints .u8 q)]), (40, .val (.int .i64 i)), (11, .val (.sl r.length (ints .u8 r))),
    (63, .agg (ints .u8 [b, IntKind.u8.wrap (128 + b.tmod 64), IntKind.u8.wrap (192 + b.tmod 64)])), (64, .val (.int .i64 j))], []⟩

set_option maxRecDepth 10000 in
theorem lawSteps_sound (gl : Gl) : Sound Try.prog gl 3 lawStepsSpec := by
  refine sound_fn (N := Try.f3.ntmps) (rs := Try.f3.results.toList) mixed tok (GLs_ok gl) Try.func3 rfl rfl rfl rfl rfl ?_ ?_ ?_
  · rintro args ⟨p, cp, n, b, rfl, h0, h1, h2, h3, h4⟩; simp [Try.f3]
  · rintro args ⟨p, cp, n, b, rfl, h0, h1, h2, h3, h4⟩; simp [lawStepsSpec, Try.f3]
  · rintro args ⟨p, cp, n, b, rfl, h0, h1, h2, h3, h4⟩ bs hgl hh hro
    have hE : Env.OK ⟨Try.prog, T, GLs, bs⟩ := ⟨tok, by rw [hgl]; exact GLs_ok gl⟩
    simp [lawStepsSpec, putSpec, Try.f3, and_assoc]
    have hz : I64 (IntKind.i64.wrap ((IntKind.u64.wrap cp).tmod 1114112)) := by
      rw [IntKind.wrap_i64]; unfold I64; omega
    generalize IntKind.i64.wrap ((IntKind.u64.wrap cp).tmod 1114112) = z at *
    have hq := numsS_bytes (bytesS (putI z))
    have hql : (bytesS (putI z)).length ≤ 4 := by have := putI_len z; simpa [bytesS] using this
    generalize bytesS (putI z) = q at *
    have w1 : IntKind.i64.wrap ((q.length : Int) + 1) = q.length + 1 := wrap64 _ (by omega) (by omega)
    have w2 : IntKind.i64.wrap n = n := wrap64 _ (by omega) (by omega)
    have m1 : n.tmod ((q.length : Int) + 1) = n % ((q.length : Int) + 1) := Int.tmod_eq_emod_of_nonneg h3.1
    have m2 := Int.emod_nonneg n (show ((q.length : Int) + 1) ≠ 0 by omega)
    have m3 := Int.emod_lt_of_pos n (show (0 : Int) < (q.length : Int) + 1 by omega)
    rw [w1, w2, m1]
    generalize n % ((q.length : Int) + 1) = r at *
    obtain ⟨m, hm⟩ : ∃ m : Nat, (if 10 < (p.length : Int) then 10 else (p.length : Int)) = m ∧ m ≤ 10 ∧ m ≤ p.length := by
      split
      · exact ⟨10, rfl, by omega, by omega⟩
      · exact ⟨p.length, rfl, by omega, by omega⟩
    rw [hm.1]
    refine ⟨by omega, by omega, hz, by omega, by omega, m2, by omega, ?_⟩
    obtain ⟨k, rfl⟩ : ∃ k : Nat, r = k := ⟨r.toNat, by omega⟩
    simp only [Int.toNat_natCast]
    have hp1 : Bytes (p.take m) := fun x hx => h0 x (List.mem_of_mem_take hx)
    have hp2 : Bytes ((numsS q).take k) := fun x hx => hq x (List.mem_of_mem_take hx)
    have hl1 : (p.take m).length = m := by simp; omega
    have hl2 : ((numsS q).take k).length = k := by simp; omega
    have hk : k ≤ 4 := by omega
    generalize hP : p.take m = P at *
    generalize hQ : (numsS q).take k = Q at *
    clear hP hQ
    obtain ⟨hm1, hm2, hm3⟩ := hm
    clear hm1 hm3 m1 m2 m3 w1 hz
    subst hl1
    subst hl2
    refine AWP.rounds (fun i => i ≤ 2) (lawStepsS b P Q) (fun i => 2 - i) 0 (by omega) ?_ ?_
    · refine Weak.keep ?_
      simp [lawStepsS]
    · intro i hi
      refine wpc_ok hE mixed _ _ _ ?_
      have bb1 : 0 ≤ IntKind.u8.wrap (128 + b.tmod 64) ∧ IntKind.u8.wrap (128 + b.tmod 64) < 256 := by simp [IntKind.wrap, IntKind.bits, IntKind.signed]; omega
      have bb2 : 0 ≤ IntKind.u8.wrap (192 + b.tmod 64) ∧ IntKind.u8.wrap (192 + b.tmod 64) < 256 := by simp [IntKind.wrap, IntKind.bits, IntKind.signed]; omega
      have key : ∀ R : List Int, Bytes R → R.length ≤ 10 → flushF R = rflushF R ∧ rightF R = rrightF R ∧ ∀ c, 0 ≤ c ∧ c < 256 → stepF R c = rstepF R c := fun R hR _ => ⟨flush_eq hR, right_eq hR, fun c hc => step_eq hR hc⟩
      obtain rfl | rfl | rfl : i = 0 ∨ i = 1 ∨ i = 2 := by omega
      · obtain ⟨e1, e2, e3⟩ := key P hp1 (by omega)
        have s0 := e3 b h4
        have s1 := e3 (IntKind.u8.wrap (128 + b.tmod 64)) bb1
        have s2 := e3 (IntKind.u8.wrap (192 + b.tmod 64)) bb2
        have l0 := step_codes_len P b
        have l1 := step_codes_len P (IntKind.u8.wrap (128 + b.tmod 64))
        have l2 := step_codes_len P (IntKind.u8.wrap (192 + b.tmod 64))
        rw [s0] at l0
        rw [s1] at l1
        rw [s2] at l2
        have hfl : (rflushF P).length ≤ 1 := by unfold rflushF; split <;> simp
        simp [lawStepsS, rightSpec, rrightSpec, flushSpec, rflushSpec, intsSpec, and_assoc, hp1, e1, e2]
        refine ⟨by omega, by omega, ?_⟩
        refine AWP.unroll hE mixed 4 ?_
        simp [stepSpec, rstepSpec, intsSpec, and_assoc, hp1, h4, bb1, bb2, s0, s1, s2]
        refine ⟨by omega, by omega, by omega, by omega, by omega, by omega, by omega, by omega, by omega, Next.mk 1 (by omega) (by omega) (Weak.keep ?_)⟩
        simp [lawStepsS]
      · obtain ⟨e1, e2, e3⟩ := key Q hp2 (by omega)
        have s0 := e3 b h4
        have s1 := e3 (IntKind.u8.wrap (128 + b.tmod 64)) bb1
        have s2 := e3 (IntKind.u8.wrap (192 + b.tmod 64)) bb2
        have l0 := step_codes_len Q b
        have l1 := step_codes_len Q (IntKind.u8.wrap (128 + b.tmod 64))
        have l2 := step_codes_len Q (IntKind.u8.wrap (192 + b.tmod 64))
        rw [s0] at l0
        rw [s1] at l1
        rw [s2] at l2
        have hfl : (rflushF Q).length ≤ 1 := by unfold rflushF; split <;> simp
        simp [lawStepsS, rightSpec, rrightSpec, flushSpec, rflushSpec, intsSpec, and_assoc, hp2, e1, e2]
        refine ⟨by omega, by omega, ?_⟩
        refine AWP.unroll hE mixed 4 ?_
        simp [stepSpec, rstepSpec, intsSpec, and_assoc, hp2, h4, bb1, bb2, s0, s1, s2]
        refine ⟨by omega, by omega, by omega, by omega, by omega, by omega, by omega, by omega, by omega, Next.mk 2 (by omega) (by omega) (Weak.keep ?_)⟩
        simp [lawStepsS]
      · simp [lawStepsS, worksSpec]

end Fen
