/- A part of the proof; no statement is proved here: WWidK, WWidL, WWidM, WWidN. -/
import Derived.Test.YtcfigfhnlhkjiaaDoorWidA
import Derived.Test.YtcfigfhnlhkjiaaDoorUtfC

set_option linter.unusedVariables false
set_option linter.unusedSimpArgs false

namespace Fen
open Go Go.Proofs

def rcolsSpec : Spec := { pre := fun args => ∃ l : List Int, args = [intsV l] ∧ (∀ x ∈ l, I64 x) ∧ l.length ≤ 1000000, res := fun args => .one (.val (.c (.int .i64 (sumF 0 (args.headD default).ints)))) }

def GRl : Specs := [(9, ofSpec)]
@[simp] theorem GRl_9 : GRl.find 9 = some ofSpec := rfl
theorem GRl_ok (gl : Gl) : SpecsOK Tryd.prog gl GRl := .cons (rof_sound gl) (.nil _ _)

def rcolsS (l : List Int) (k : Nat) : St :=
  ⟨20, [(0, .val (.sl l.length (ints .i64 l))), (3, .val (.int .i64 (sumF 0 (l.take k)))), (4, .val (.int .i64 k))], []⟩

set_option maxRecDepth 10000 in
theorem rcols_sound (gl : Gl) : Sound Tryd.prog gl 26 rcolsSpec := by
  refine sound_fn (N := Tryd.f26.ntmps) (rs := Tryd.f26.results.toList) mixed tok (GRl_ok gl) Tryd.func26 rfl rfl rfl rfl rfl ?_ ?_ ?_
  · rintro args ⟨l, rfl, h0, h1⟩; simp [Tryd.f26]
  · rintro args ⟨l, rfl, h0, h1⟩; simp [rcolsSpec, Tryd.f26]
  · rintro args ⟨l, rfl, h0, h1⟩ bs hgl hh hro
    have hE : Env.OK ⟨Tryd.prog, T, GRl, bs⟩ := ⟨tok, by rw [hgl]; exact GRl_ok gl⟩
    simp [rcolsSpec, Tryd.f26]
    refine AWP.rounds (fun k => k ≤ l.length) (rcolsS l) (fun k => l.length - k) 0 (by omega) ?_ ?_
    · refine Weak.keep ?_
      simp [rcolsS, sumF]
    · intro k hk
      refine wpc_ok hE mixed _ _ _ ?_
      rcases Nat.lt_or_ge k l.length with h | h
      · have hx : I64 l[k] := h0 _ (List.getElem_mem h)
        have w1 : IntKind.i64.wrap ((k : Int) + 1) = k + 1 := wrap64 _ (by omega) (by omega)
        have ht := sumF_take 0 h
        have hr := sumF_range (l.take k) 0
        have hl4 : (l.take k).length = k := by simp; omega
        have wr := widthF_range l[k]
        have hhd : (ints .i64 (l.drop k)).head?.getD C.nilf = C.int .i64 l[k] := by rw [List.drop_eq_getElem_cons h]; rfl
        obtain ⟨n, hn⟩ : ∃ n, sumF 0 (l.take k) = n := ⟨_, rfl⟩
        rw [hn] at ht hr
        have w2 : IntKind.i64.wrap (n + if widthF l[k] > 0 then widthF l[k] else 0) = widthG n l[k] := wrap64 _ (by split <;> omega) (by split <;> omega)
        simp [rcolsS, hn, ofSpec, h, hx, hhd, w1, w2]
        refine ⟨by omega, Next.mk (k + 1) (by omega) (by omega) (Weak.keep ?_)⟩
        simp [rcolsS, ht, w2]
        try exact w2.symm
      · have : k = l.length := by omega
        subst this
        simp [rcolsS]

def GRx : Specs := [(25, rcodesSpec), (26, rcolsSpec), (27, textSpec)]
@[simp] theorem GRx_25 : GRx.find 25 = some rcodesSpec := rfl
@[simp] theorem GRx_26 : GRx.find 26 = some rcolsSpec := rfl
@[simp] theorem GRx_27 : GRx.find 27 = some textSpec := rfl
theorem GRx_ok (gl : Gl) : SpecsOK Tryd.prog gl GRx := .cons (rcodes_sound gl) (.cons (rcols_sound gl) (.cons (rtext_sound gl) (.nil _ _)))

set_option maxRecDepth 10000 in
theorem rwtext_sound (gl : Gl) : Sound Tryd.prog gl 14 wtextSpec := by
  refine sound_fn (N := Tryd.f14.ntmps) (rs := Tryd.f14.results.toList) mixed tok (GRx_ok gl) Tryd.func14 rfl rfl rfl rfl rfl ?_ ?_ ?_
  · rintro args ⟨s, rfl, h0⟩; simp [Tryd.f14]
  · rintro args ⟨s, rfl, h0⟩; simp [wtextSpec, Tryd.f14]
  · rintro args ⟨s, rfl, h0⟩ bs hgl hh hro
    have hcl := codesF_len s
    have hci := codes_i64 s
    simp [wtextSpec, rcodesSpec, rcolsSpec, Tryd.f14, and_assoc]
    exact ⟨by omega, hci, by omega⟩

theorem cutG_neg {cols n : Int} (h : cols < 0) : ∀ l, cutG cols n l = ([], l)
  | [] => rfl
  | c :: l => by simp [cutG, h]

def rcutS (s : List UInt8) (cols : Int) (l : List Int) (k : Nat) : St :=
  ⟨37, [(0, .val (.str s)), (1, .val (.int .i64 cols)), (6, .val (.sl l.length (ints .i64 l))), (7, .val (.int .i64 k))], []⟩

set_option maxRecDepth 10000 in
theorem rcut_sound (gl : Gl) : Sound Tryd.prog gl 12 cutSpec := by
  refine sound_fn (N := Tryd.f12.ntmps) (rs := Tryd.f12.results.toList) mixed tok (GRx_ok gl) Tryd.func12 rfl rfl rfl rfl rfl ?_ ?_ ?_
  · rintro args ⟨s, cols, rfl, h0, h1⟩; simp [Tryd.f12]
  · rintro args ⟨s, cols, rfl, h0, h1⟩; simp [cutSpec, Tryd.f12]
  · rintro args ⟨s, cols, rfl, h0, h1⟩ bs hgl hh hro
    have hE : Env.OK ⟨Tryd.prog, T, GRx, bs⟩ := ⟨tok, by rw [hgl]; exact GRx_ok gl⟩
    have hcl := codesF_len s
    have hci := codes_i64 s
    simp [cutSpec, rcodesSpec, Tryd.f12, and_assoc]
    generalize codesF s = l at *
    refine ⟨by omega, ?_⟩
    refine AWP.rounds (fun k => k ≤ l.length ∧ cutG cols 0 l = (l.take k ++ (cutG cols (sumF 0 (l.take k)) (l.drop k)).1, (cutG cols (sumF 0 (l.take k)) (l.drop k)).2)) (rcutS s cols l) (fun k => l.length - k) 0 ⟨by omega, by simp [sumF]⟩ ?_ ?_
    · refine Weak.keep ?_
      simp [rcutS]
    · rintro k ⟨hk, hinv⟩
      refine wpc_ok hE mixed _ _ _ ?_
      have hmt : ∀ x ∈ l.take k, I64 x := fun x hx => hci x (List.mem_of_mem_take hx)
      have hmd : ∀ x ∈ l.drop k, I64 x := fun x hx => hci x (List.mem_of_mem_drop hx)
      have hmu : ∀ x ∈ l.take (k + 1), I64 x := fun x hx => hci x (List.mem_of_mem_take hx)
      have w1 : IntKind.i64.wrap ((k : Int) + 1) = k + 1 := wrap64 _ (by omega) (by omega)
      have hfd : (l.drop k).take (l.length - k) = l.drop k := List.take_of_length_le (by simp)
      have stop : cutG cols 0 l = (l.take k, l.drop k) → textF (l.take k) = textF (cutG cols 0 l).1 ∧ textF (l.drop k) = textF (cutG cols 0 l).2 := fun e => by rw [e]; exact ⟨rfl, rfl⟩
      by_cases hc0 : 0 ≤ cols
      · rcases Nat.lt_or_ge k l.length with h | h
        · have ht := sumF_take 0 h
          have hdk := List.drop_eq_getElem_cons h
          obtain ⟨n, hn⟩ : ∃ n, sumF 0 (l.take k) = n := ⟨_, rfl⟩
          rw [hn] at ht hinv
          have hinv2 := hinv
          rw [hdk] at hinv2
          simp only [cutG] at hinv2
          by_cases hc : cols < widthG n l[k]
          · rw [if_pos (.inl hc), ← hdk, List.append_nil] at hinv2
            obtain ⟨e1, e2⟩ := stop hinv2
            have hcc : ¬ (widthG n l[k] ≤ cols) := by omega
            simp [rcutS, rcolsSpec, textSpec, and_assoc, h, w1, ht, hc0, hcc, hfd, e1, e2]
            (repeat' apply And.intro) <;> first | rfl | omega | exact hmu | exact hmt | exact hmd
          · rw [if_neg (by omega)] at hinv2
            have hcc : widthG n l[k] ≤ cols := by omega
            simp [rcutS, rcolsSpec, textSpec, and_assoc, h, w1, ht, hc0, hcc, hfd]
            (repeat' apply And.intro) <;> first | omega | exact hmu | refine Next.mk (k + 1) ⟨by omega, ?_⟩ (by omega) (Weak.keep ?_)
            · have htk : l.take (k + 1) = l.take k ++ [l[k]] := by rw [List.take_add_one, List.getElem?_eq_getElem h]; rfl
              rw [hinv2, ht, htk, List.append_assoc]; rfl
            · simp [rcutS]
        · have : k = l.length := by omega
          subst this
          obtain ⟨e1, e2⟩ := stop (by rw [hinv]; simp [cutG])
          simp at e1 e2
          simp [rcutS, rcolsSpec, textSpec, and_assoc, hc0, w1, ← e1, ← e2]
          (repeat' apply And.intro) <;> first | rfl | omega | exact hci
      · have hneg : cols < 0 := by omega
        have hk0 : k = 0 := by
          rw [cutG_neg hneg] at hinv
          have := congrArg (fun p => p.1.length) hinv
          simp at this
          omega
        subst hk0
        obtain ⟨e1, e2⟩ := stop (by rw [cutG_neg hneg]; rfl)
        simp at e1 e2
        simp [rcutS, rcolsSpec, textSpec, and_assoc, hc0, w1, ← e1, ← e2]
        (repeat' apply And.intro) <;> first | rfl | omega | exact hci
end Fen

namespace Fen
open Go Go.Proofs

def cutsSpec : Spec := { pre := fun args => ∃ (s : List UInt8) (cols : Int) (a b : List UInt8), args = [.c (.str s), .c (.int .i64 cols), .c (.str a), .c (.str b)] ∧ s.length ≤ 100000 ∧ I64 cols, res := fun args => .one (.val (.c (.bool ((textF (cutG (args.getD 1 default).int 0 (codesF (args.headD default).str)).1 == (args.getD 2 default).str) && (textF (cutG (args.getD 1 default).int 0 (codesF (args.headD default).str)).2 == (args.getD 3 default).str))))) }

def GCu : Specs := [(11, cutSpec)]
@[simp] theorem GCu_11 : GCu.find 11 = some cutSpec := rfl
theorem GCu_ok : SpecsOK Tryd.prog glW GCu := .cons cut_sound (.nil _ _)

set_option maxRecDepth 10000 in
theorem cuts_sound : Sound Tryd.prog glW 16 cutsSpec := by
  refine sound_fn (N := Tryd.f16.ntmps) (rs := Tryd.f16.results.toList) mixed tok GCu_ok Tryd.func16 rfl rfl rfl rfl rfl ?_ ?_ ?_
  · rintro args ⟨s, cols, a, b, rfl, h0, h1⟩; simp [Tryd.f16]
  · rintro args ⟨s, cols, a, b, rfl, h0, h1⟩; simp [cutsSpec, Tryd.f16]
  · rintro args ⟨s, cols, a, b, rfl, h0, h1⟩ bs hgl hh hro
    simp [cutsSpec, cutSpec, Tryd.f16, and_assoc, h0, h1]
    generalize cutG cols 0 (codesF s) = q
    by_cases c : textF q.1 = a <;> simp [c]

def wworksSpec : Spec := { pre := fun args => args = [], res := fun _ => .one (.val (.c (.bool true))) }
def GWw : Specs := [(8, ofSpec), (13, wtextSpec), (16, cutsSpec)]
@[simp] theorem GWw_8 : GWw.find 8 = some ofSpec := rfl
@[simp] theorem GWw_13 : GWw.find 13 = some wtextSpec := rfl
@[simp] theorem GWw_16 : GWw.find 16 = some cutsSpec := rfl
theorem GWw_ok : SpecsOK Tryd.prog glW GWw := .cons of_sound (.cons wtext_sound (.cons cuts_sound (.nil _ _)))

theorem wk1 : widthF 65 = 1 := by decide
theorem wk2 : widthF 769 = 0 := by decide
theorem wk3 : widthF 20013 = 2 := by decide
theorem wk4 : widthF 7 = -1 := by decide
theorem wk5 : widthF 128512 = 2 := by decide
theorem wk6 : widthF 169 = 1 := by decide
theorem wk7 : widthF 12351 = 1 := by decide
theorem wk8 : widthF 1114112 = -1 := by decide
theorem wt1 : sumF 0 (codesF [97, 204, 129, 228, 184, 173]) = 3 := by decide
theorem wc1 : cutG 2 0 (codesF [97, 204, 129, 228, 184, 173, 98]) = ([97, 769], [20013, 98]) := by decide
theorem wc2 : cutG 1 0 (codesF [97, 204, 129, 228, 184, 173, 98]) = ([97, 769], [20013, 98]) := by decide
theorem wc3 : cutG 3 0 (codesF [97, 204, 129, 228, 184, 173, 98]) = ([97, 769, 20013], [98]) := by decide
theorem wc4 : cutG (-1) 0 (codesF [97, 204, 129, 228, 184, 173, 98]) = ([], [97, 769, 20013, 98]) := by decide
theorem we1 : textF [97, 769] = [97, 204, 129] := by decide
theorem we2 : textF [20013, 98] = [228, 184, 173, 98] := by decide
theorem we3 : textF [97, 769, 20013] = [97, 204, 129, 228, 184, 173] := by decide
theorem we4 : textF [98] = [98] := by decide
theorem we5 : textF [] = [] := by decide
theorem we6 : textF [97, 769, 20013, 98] = [97, 204, 129, 228, 184, 173, 98] := by decide

set_option maxRecDepth 10000 in
theorem wworks_sound : Sound Tryd.prog glW 10 wworksSpec := by
  refine sound_fn (N := Tryd.f10.ntmps) (rs := Tryd.f10.results.toList) mixed tok GWw_ok Tryd.func10 rfl rfl rfl rfl rfl ?_ ?_ ?_
  · rintro args rfl; simp [Tryd.f10]
  · rintro args rfl; simp [wworksSpec, Tryd.f10]
  · rintro args rfl bs hgl hh hro
    simp [wworksSpec, ofSpec, wtextSpec, cutsSpec, Tryd.f10, and_assoc, I64, wk1, wk2, wk3, wk4, wk5, wk6, wk7, wk8, wt1, wc1, wc2, wc3, wc4, we1, we2, we3, we4, we5, we6]
end Fen

namespace Fen
open Go Go.Proofs

theorem wrapU64 (n : Int) : IntKind.u64.wrap n = n % 18446744073709551616 := by simp [IntKind.wrap, IntKind.bits, IntKind.signed]

theorem modW (cp m : Int) (h : 0 < m) (h2 : m ≤ 9223372036854775807) : IntKind.i64.wrap ((IntKind.u64.wrap cp).tmod m) = (cp % 18446744073709551616) % m := by
  have e : (IntKind.u64.wrap cp).tmod m = (cp % 18446744073709551616) % m := by
    rw [wrapU64]
    exact Int.tmod_eq_emod_of_nonneg (by omega)
  rw [e]
  have h3 := Int.emod_nonneg (cp % 18446744073709551616) (show m ≠ 0 by omega)
  have h4 := Int.emod_lt_of_pos (cp % 18446744073709551616) h
  exact wrap64 _ (by omega) (by omega)

def lawTellsSpec : Spec := { pre := fun args => ∃ cp : Int, args = [.c (.int .i64 cp)] ∧ I64 cp, res := fun _ => .one (.val (.c (.bool true))) }

def GWl : Specs := [(8, ofSpec), (9, ofSpec), (10, wworksSpec), (11, cutSpec), (12, cutSpec), (13, wtextSpec), (14, wtextSpec), (15, textSpec), (16, cutsSpec), (17, codesSpec)]
@[simp] theorem GWl_8 : GWl.find 8 = some ofSpec := rfl
@[simp] theorem GWl_9 : GWl.find 9 = some ofSpec := rfl
@[simp] theorem GWl_10 : GWl.find 10 = some wworksSpec := rfl
@[simp] theorem GWl_11 : GWl.find 11 = some cutSpec := rfl
@[simp] theorem GWl_12 : GWl.find 12 = some cutSpec := rfl
@[simp] theorem GWl_13 : GWl.find 13 = some wtextSpec := rfl
@[simp] theorem GWl_14 : GWl.find 14 = some wtextSpec := rfl
@[simp] theorem GWl_15 : GWl.find 15 = some textSpec := rfl
@[simp] theorem GWl_16 : GWl.find 16 = some cutsSpec := rfl
@[simp] theorem GWl_17 : GWl.find 17 = some codesSpec := rfl
theorem GWl_ok : SpecsOK Tryd.prog glW GWl := .cons of_sound (.cons (rof_sound glW) (.cons wworks_sound (.cons cut_sound (.cons (rcut_sound glW) (.cons wtext_sound (.cons (rwtext_sound glW) (.cons (text_sound glW) (.cons cuts_sound (.cons (codes_sound glW) (.nil _ _))))))))))

set_option maxRecDepth 10000 in
theorem lawTells_sound : Sound Tryd.prog glW 3 lawTellsSpec := by
  refine sound_fn (N := Tryd.f3.ntmps) (rs := Tryd.f3.results.toList) mixed tok GWl_ok Tryd.func3 rfl rfl rfl rfl rfl ?_ ?_ ?_
  · rintro args ⟨cp, rfl, h0⟩; simp [Tryd.f3]
  · rintro args ⟨cp, rfl, h0⟩; simp [lawTellsSpec, Tryd.f3]
  · rintro args ⟨cp, rfl, h0⟩ bs hgl hh hro
    have hE : Env.OK ⟨Tryd.prog, T, GWl, bs⟩ := ⟨tok, by rw [hgl]; exact GWl_ok⟩
    have z1 := modW cp 1114112 (by omega) (by omega)
    have z2 := modW cp 12544 (by omega) (by omega)
    have z3 := modW cp 65536 (by omega) (by omega)
    have z4 := modW cp 1024 (by omega) (by omega)
    have r1 : 0 ≤ cp % 18446744073709551616 % 1114112 ∧ cp % 18446744073709551616 % 1114112 < 1114112 := by omega
    have r2 : 0 ≤ cp % 18446744073709551616 % 12544 ∧ cp % 18446744073709551616 % 12544 < 12544 := by omega
    have r3 : 0 ≤ cp % 18446744073709551616 % 65536 ∧ cp % 18446744073709551616 % 65536 < 65536 := by omega
    have r4 : 0 ≤ cp % 18446744073709551616 % 1024 ∧ cp % 18446744073709551616 % 1024 < 1024 := by omega
    simp [lawTellsSpec, Tryd.f3]
    generalize cp % 18446744073709551616 % 1114112 = y1 at *
    generalize cp % 18446744073709551616 % 12544 = y2 at *
    generalize cp % 18446744073709551616 % 65536 = y3 at *
    generalize cp % 18446744073709551616 % 1024 = y4 at *
    have a1 : ∀ y : Int, 0 ≤ y ∧ y < 1114112 → I64 y ∧ IntKind.i64.wrap (y + 126976) = y + 126976 ∧ IntKind.i64.wrap (y + 63488) = y + 63488 ∧ I64 (y + 126976) ∧ I64 (y + 63488) := fun y h => ⟨by unfold I64; omega, wrap64 _ (by omega) (by omega), wrap64 _ (by omega) (by omega), by unfold I64; omega, by unfold I64; omega⟩
    obtain ⟨b1, b2, b3, b4, b5⟩ := a1 y1 r1
    obtain ⟨c1, c2, c3, c4, c5⟩ := a1 y2 (by omega)
    obtain ⟨d1, d2, d3, d4, d5⟩ := a1 y3 (by omega)
    obtain ⟨e1, e2, e3, e4, e5⟩ := a1 y4 (by omega)
    have v1 : IntKind.u64.wrap 1114112 = 1114112 := rfl
    have v2 : IntKind.u64.wrap 12544 = 12544 := rfl
    have v3 : IntKind.u64.wrap 65536 = 65536 := rfl
    have v4 : IntKind.u64.wrap 1024 = 1024 := rfl
    refine AWP.unroll hE mixed 5 ?_
    simp [v1, v2, v3, v4, ofSpec, wworksSpec, and_assoc, h0, z1, z2, z3, z4, b1, b2, b3, b4, b5, c1, c2, c3, c4, c5, d1, d2, d3, d4, d5, e1, e2, e3, e4, e5]

def lawCutsSpec : Spec := { pre := fun args => ∃ (s : List UInt8) (cols : Int), args = [.c (.str s), .c (.int .i64 cols)] ∧ I64 cols ∧ s.length ≤ 9223372036854775807, res := fun _ => .one (.val (.c (.bool true))) }

theorem min_nat (n k : Nat) : ∃ m : Nat, (if (k : Int) < (n : Int) then (k : Int) else (n : Int)) = m ∧ m ≤ k ∧ m ≤ n := by
  split
  · exact ⟨k, rfl, by omega, by omega⟩
  · exact ⟨n, rfl, by omega, by omega⟩

set_option maxRecDepth 10000 in
theorem lawCuts_sound : Sound Tryd.prog glW 4 lawCutsSpec := by
  refine sound_fn (N := Tryd.f4.ntmps) (rs := Tryd.f4.results.toList) mixed tok GWl_ok Tryd.func4 rfl rfl rfl rfl rfl ?_ ?_ ?_
  · rintro args ⟨s, cols, rfl, h0, h1⟩; simp [Tryd.f4]
  · rintro args ⟨s, cols, rfl, h0, h1⟩; simp [lawCutsSpec, Tryd.f4]
  · rintro args ⟨s, cols, rfl, h0, h1⟩ bs hgl hh hro
    have hE : Env.OK ⟨Tryd.prog, T, GWl, bs⟩ := ⟨tok, by rw [hgl]; exact GWl_ok⟩
    have z1 := modW cols 40 (by omega) (by omega)
    have r1 : 0 ≤ cols % 18446744073709551616 % 40 ∧ cols % 18446744073709551616 % 40 < 40 := by omega
    have w1 : IntKind.i64.wrap (cols % 18446744073709551616 % 40 - 1) = cols % 18446744073709551616 % 40 - 1 := wrap64 _ (by omega) (by omega)
    have w2 : I64 (cols % 18446744073709551616 % 40 - 1) := by unfold I64; omega
    simp [lawCutsSpec, Tryd.f4, and_assoc, z1, w1]
    generalize cols % 18446744073709551616 % 40 - 1 = y at *
    obtain ⟨m, hm', hm1, hm2⟩ := min_nat s.length 150
    have hm : (if (150 : Int) < (s.length : Int) then (150 : Int) else (s.length : Int)) = m := hm'
    rw [hm]
    refine ⟨by omega, by omega, ?_⟩
    simp only [Int.toNat_natCast]
    have hl : (s.take m).length ≤ 100000 := by simp; omega
    generalize s.take m = S at *
    refine AWP.unroll hE mixed 3 ?_
    simp [cutSpec, wtextSpec, wworksSpec, and_assoc, h0, w2, hl]

/-! the plain laws of cutting -/
theorem cutG_app : ∀ (cols n : Int) (l : List Int), (cutG cols n l).1 ++ (cutG cols n l).2 = l
  | cols, n, [] => rfl
  | cols, n, c :: l => by
    simp only [cutG]
    split
    · rfl
    · simp [cutG_app cols (widthG n c) l]
theorem cutG_fits : ∀ (cols n : Int) (l : List Int), 0 ≤ cols → n ≤ cols → sumF n (cutG cols n l).1 ≤ cols
  | cols, n, [], _, h => by simpa [cutG, sumF] using h
  | cols, n, c :: l, h0, h => by
    simp only [cutG]
    split
    · simpa [sumF] using h
    · simp only [sumF]
      exact cutG_fits cols (widthG n c) l h0 (by omega)
theorem cutG_next : ∀ (cols n : Int) (l : List Int) (x : Int) (r : List Int), 0 ≤ cols → n ≤ cols → (cutG cols n l).2 = x :: r → widthF x > 0 ∧ sumF n (cutG cols n l).1 + widthF x > cols
  | cols, n, [], x, r, _, _, e => by simp [cutG] at e
  | cols, n, c :: l, x, r, h0, h, e => by
    simp only [cutG] at e ⊢
    split at e
    · rename_i hc
      rw [if_pos hc]
      simp only [List.cons.injEq] at e
      obtain ⟨rfl, rfl⟩ := e
      simp only [sumF]
      unfold widthG at hc
      split at hc <;> omega
    · rename_i hc
      rw [if_neg hc]
      simp only [sumF]
      exact cutG_next cols (widthG n c) l x r h0 (by omega) e
theorem cutG_again : ∀ (cols n : Int) (l : List Int), 0 ≤ cols → cutG cols n (cutG cols n l).1 = ((cutG cols n l).1, [])
  | cols, n, [], _ => rfl
  | cols, n, c :: l, h0 => by
    simp only [cutG]
    split
    · rfl
    · rename_i hc
      simp only [cutG, if_neg hc, cutG_again cols (widthG n c) l h0]
theorem sumF_add : ∀ (n : Int) (l : List Int), sumF n l = n + sumF 0 l
  | n, [] => by simp [sumF]
  | n, c :: l => by
    simp only [sumF]
    rw [sumF_add (widthG n c) l, sumF_add (widthG 0 c) l]
    unfold widthG; omega

theorem normI_norm (n : Int) : normI (normI n) = normI n := normI_id (normI_cp n)
theorem codes_norm {l : List Int} (h : ∀ x ∈ l, normI x = x) : codesF (textF l) = l := by
  rw [textF_codes]
  exact (List.map_congr_left fun x hx => h x hx).trans (List.map_id l)
theorem textF_map (l : List Int) : textF (l.map normI) = textF l := by
  rw [textF_norm, textF_norm l, List.map_map]
  congr 1
  exact List.map_congr_left fun x _ => normI_norm x
theorem textF_nil {l : List Int} : textF l = [] ↔ l = [] := by
  refine ⟨fun h => ?_, fun h => by rw [h]; rfl⟩
  have := (textF_len l).1
  rw [h] at this
  exact List.eq_nil_of_length_eq_zero (by simpa using this)

def lawCutSpec : Spec := { pre := fun args => ∃ (l : List Int) (c : Int), args = [intsV l, .c (.int .u8 c)] ∧ (∀ x ∈ l, I64 x) ∧ l.length ≤ 9223372036854775807 ∧ 0 ≤ c ∧ c < 256, res := fun _ => .one (.val (.c (.bool true))) }

set_option maxRecDepth 10000 in
theorem lawCut_sound : Sound Tryd.prog glW 5 lawCutSpec := by
  refine sound_fn (N := Tryd.f5.ntmps) (rs := Tryd.f5.results.toList) mixed tok GWl_ok Tryd.func5 rfl rfl rfl rfl rfl ?_ ?_ ?_
  · rintro args ⟨l, c, rfl, h0, h1, h2, h3⟩; simp [Tryd.f5]
  · rintro args ⟨l, c, rfl, h0, h1, h2, h3⟩; simp [lawCutSpec, Tryd.f5]
  · rintro args ⟨l, c, rfl, h0, h1, h2, h3⟩ bs hgl hh hro
    have w1 : IntKind.i64.wrap c = c := wrap64 _ (by omega) (by omega)
    have w3 : c.tmod 60 = c % 60 := Int.tmod_eq_emod_of_nonneg h2
    have hn : 0 ≤ c % 60 ∧ c % 60 < 60 := by omega
    have hni : I64 (c % 60) := by unfold I64; omega
    obtain ⟨m, hm', hm1, hm2⟩ := min_nat l.length 50
    have hm : (if (50 : Int) < (l.length : Int) then (50 : Int) else (l.length : Int)) = m := hm'
    have hL : ∀ x ∈ l.take m, I64 x := fun x hx => h0 x (List.mem_of_mem_take hx)
    have hl : (l.take m).length = m := by simp; omega
    generalize c % 60 = n at *
    generalize hLL : l.take m = L at *
    have tl := textF_len L
    have hc : codesF (textF L) = L.map normI := textF_codes L
    have hM : ∀ x ∈ L.map normI, normI x = x := fun x hx => by
      obtain ⟨y, _, rfl⟩ := List.mem_map.1 hx
      exact normI_norm y
    have hML : (L.map normI).length = m := by simp [hl]
    have htM := textF_map L
    generalize L.map normI = M at *
    have e1 := cutG_app n 0 M
    have e2 := cutG_fits n 0 M hn.1 hn.1
    have e3 := cutG_again n 0 M hn.1
    have e4 := cutG_next n 0 M
    generalize hA : (cutG n 0 M).1 = A at *
    generalize hB : (cutG n 0 M).2 = B at *
    have cA : codesF (textF A) = A := codes_norm fun x hx => hM x (by rw [← e1]; exact List.mem_append_left _ hx)
    have cB : codesF (textF B) = B := codes_norm fun x hx => hM x (by rw [← e1]; exact List.mem_append_right _ hx)
    have lAB : A.length + B.length = m := by rw [← hML, ← e1]; simp
    have tA := textF_len A
    have tB := textF_len B
    have eT : textF A ++ textF B = textF L := by rw [← textF_app, e1, htM]
    have rA := sumF_range A 0
    have rB := sumF_range B 0
    have eS : sumF 0 M = sumF 0 A + sumF 0 B := by rw [← e1, sumF_app, sumF_add (sumF 0 A)]
    have w4 : IntKind.i64.wrap (sumF 0 A + sumF 0 B) = sumF 0 A + sumF 0 B := wrap64 _ (by omega) (by omega)
    have hx : ∀ x ∈ M, I64 x := by rw [← hc]; exact codes_i64 _
    cases B with
    | nil =>
      have s0 : sumF 0 ([] : List Int) = 0 := rfl
      have t0 : textF [] = [] := rfl
      have c0 : codesF [] = [] := rfl
      rw [s0, Int.add_zero] at eS w4
      rw [t0, List.append_nil] at eT
      have lA : (textF A).length ≤ 400 := by omega
      have lL : (textF L).length ≤ 400 := by omega
      simp [lawCutSpec, wworksSpec, textSpec, cutSpec, wtextSpec, cutsSpec, codesSpec, ofSpec, and_assoc, Tryd.f5, w1, w3, hm, hLL, hL, hni, hc, hA, hB, cA, eT, e3, cB, eS, w4, t0, c0, s0, e2]
      (repeat' apply And.intro) <;> first | rfl | omega | exact hL
    | cons x r =>
      obtain ⟨f1, f2⟩ := e4 x r hn.1 hn.1 rfl
      have w5 : IntKind.i64.wrap (sumF 0 A + widthF x) = sumF 0 A + widthF x := by have := widthF_range x; exact wrap64 _ (by omega) (by omega)
      have t0 : textF [] = [] := rfl
      have hne : textF (x :: r) ≠ [] := fun h => by rw [textF_nil] at h; cases h
      have hem : (textF (x :: r)).isEmpty = false := by cases q : textF (x :: r) with
        | nil => exact absurd q hne
        | cons _ _ => rfl
      have hxx : I64 x := hx x (by rw [← e1]; simp)
      generalize hTT : textF (x :: r) = TB at *
      simp [lawCutSpec, wworksSpec, textSpec, cutSpec, wtextSpec, cutsSpec, codesSpec, ofSpec, and_assoc, Tryd.f5, w1, w3, hm, hLL, hL, hni, hc, hA, hB, cA, hTT, eT, e3, cB, eS, w4, w5, hem, hne, hxx, f1, f2, e2, t0]
      (repeat' apply And.intro) <;> first | rfl | omega | exact hL
end Fen

namespace Fen
open Go Go.Proofs

theorem width_put (x : Int) : (if widthF (normI x) > 0 then widthF (normI x) else 0) ≤ (putI x).length := by
  have h1 := (putI_len1 x).1
  have h2 := widthF_range (normI x)
  rw [putI_eq] at h1 ⊢
  have hcp := normI_cp x
  generalize normI x = n at *
  by_cases h : n < 2048
  · have : widthF n ≤ 1 := by
      unfold widthF
      have hw : n < 4352 → inF n widesL = false := fun h => by
        rw [Bool.eq_false_iff, Ne]; simp [inF, widesL]; omega
      split
      · omega
      · split
        · omega
        · split
          · omega
          · rw [hw (by omega)]; simp
    split <;> omega
  · have : 3 ≤ (putE n).length := by
      unfold putE
      rw [if_neg (by omega), if_neg (by omega)]
      split <;> simp
    split <;> omega

theorem sum_bytes : ∀ l : List Int, sumF 0 (l.map normI) ≤ (textF l).length
  | [] => by simp [sumF, textF]
  | x :: l => by
    have ih := sum_bytes l
    have hw := width_put x
    rw [List.map_cons, sumF, sumF_add, textF, List.length_append]
    have : (bytesS (putI x)).length = (putI x).length := by simp [bytesS]
    unfold widthG
    omega

def lawSumsSpec : Spec := { pre := fun args => ∃ a b : List Int, args = [intsV a, intsV b] ∧ (∀ x ∈ a, I64 x) ∧ (∀ x ∈ b, I64 x) ∧ a.length ≤ 9223372036854775807 ∧ b.length ≤ 9223372036854775807, res := fun _ => .one (.val (.c (.bool true))) }

set_option maxRecDepth 10000 in
theorem lawSums_sound : Sound Tryd.prog glW 6 lawSumsSpec := by
  refine sound_fn (N := Tryd.f6.ntmps) (rs := Tryd.f6.results.toList) mixed tok GWl_ok Tryd.func6 rfl rfl rfl rfl rfl ?_ ?_ ?_
  · rintro args ⟨a, b, rfl, h0, h1, h2, h3⟩; simp [Tryd.f6]
  · rintro args ⟨a, b, rfl, h0, h1, h2, h3⟩; simp [lawSumsSpec, Tryd.f6]
  · rintro args ⟨a, b, rfl, h0, h1, h2, h3⟩ bs hgl hh hro
    obtain ⟨m, hm', hm1, hm2⟩ := min_nat a.length 50
    have hm : (if (50 : Int) < (a.length : Int) then (50 : Int) else (a.length : Int)) = m := hm'
    obtain ⟨k, hk', hk1, hk2⟩ := min_nat b.length 50
    have hk : (if (50 : Int) < (b.length : Int) then (50 : Int) else (b.length : Int)) = k := hk'
    have hA : ∀ x ∈ a.take m, I64 x := fun x hx => h0 x (List.mem_of_mem_take hx)
    have hB : ∀ x ∈ b.take k, I64 x := fun x hx => h1 x (List.mem_of_mem_take hx)
    have hlA : (a.take m).length = m := by simp; omega
    have hlB : (b.take k).length = k := by simp; omega
    generalize hAA : a.take m = A at *
    generalize hBB : b.take k = B at *
    have tA := textF_len A
    have tB := textF_len B
    have cA := textF_codes A
    have cB := textF_codes B
    have cAB : codesF (textF A ++ textF B) = A.map normI ++ B.map normI := by rw [← textF_app, textF_codes, List.map_append]
    have sb := sum_bytes A
    have lM : (A.map normI).length = m := by simp [hlA]
    have lN : (B.map normI).length = k := by simp [hlB]
    generalize A.map normI = M at *
    generalize B.map normI = N at *
    have rM := sumF_range M 0
    have rN := sumF_range N 0
    have eS : sumF 0 (M ++ N) = sumF 0 M + sumF 0 N := by rw [sumF_app, sumF_add (sumF 0 M)]
    have w4 : IntKind.i64.wrap (sumF 0 M + sumF 0 N) = sumF 0 M + sumF 0 N := wrap64 _ (by omega) (by omega)
    have w5 : IntKind.i64.wrap (2 * (M.length : Int)) = 2 * M.length := wrap64 _ (by omega) (by omega)
    have b1 : sumF 0 M ≤ 2 * (M.length : Int) := by omega
    have b2 : 0 ≤ sumF 0 M := rM.1
    simp [lawSumsSpec, wworksSpec, textSpec, cutSpec, wtextSpec, cutsSpec, codesSpec, ofSpec, and_assoc, Tryd.f6, hm, hk, hAA, hBB, hA, hB, cA, cB, cAB, eS, w4, w5, b1, b2, sb]
    (repeat' apply And.intro) <;> first | rfl | omega | exact hA | exact hB

def lawWKnownSpec : Spec := { pre := fun args => args = [], res := fun _ => .one (.val (.c (.bool true))) }
def zeroL : List Int := [768, 879, 1155, 1161, 1425, 1469, 1552, 1562, 1611, 1631, 6832, 6911, 7616, 7679, 8203, 8207, 8400, 8447, 65024, 65039, 65056, 65071]
def twoL : List Int := [4352, 4447, 11904, 12350, 12353, 19903, 19968, 42191, 44032, 55203, 63744, 64255, 65072, 65135, 65280, 65376, 65504, 65510, 127744, 128591, 131072, 262141]

def wknownS (k : Nat) : St :=
  ⟨148, [(1, .ptr 0 0 0), (2, .ptr 1 0 0), (3, .val (.int .i64 k))], [.box 38 (zeroL.map fun n => .val (.int .i64 n)), .box 38 (twoL.map fun n => .val (.int .i64 n))]⟩

theorem wk_row : ∀ k, k < 22 → widthF (zeroL.getD k 0) = 0 ∧ widthF (twoL.getD k 0) = 2 ∧ (zeroL.getD k 0 ≠ 65071 → widthF (zeroL.getD k 0 + (2 * ((k : Int) % 2) - 1)) = 1) ∧ (twoL.getD k 0 ≠ 65072 → widthF (twoL.getD k 0 + (2 * ((k : Int) % 2) - 1)) ≠ 2) := by decide

theorem allC_ints (l : List Int) : allC (l.map fun n => X.val (.int .i64 n)) = some (ints .i64 l) := by
  induction l with
  | nil => rfl
  | cons x l ih => simp only [List.map_cons, allC, ih]; rfl
theorem head_drop (l : List Int) (k : Nat) (h : k < l.length) : (ints .i64 (l.drop k)).head?.getD C.nilf = C.int .i64 (l.getD k 0) := by
  rw [List.drop_eq_getElem_cons h, List.getD_eq_getElem?_getD, List.getElem?_eq_getElem h]; rfl

theorem wm1 : widthF 128640 = 2 := by decide
theorem wm2 : widthF 128767 = 2 := by decide
theorem wm3 : widthF 129280 = 2 := by decide
theorem wm4 : widthF 129535 = 2 := by decide
theorem wm5 : widthF 128768 = 1 := by decide
theorem wm6 : widthF 129536 = 1 := by decide
theorem wm7 : widthF 128592 = 1 := by decide
theorem wn1 : widthF 0 = -1 := by decide
theorem wn2 : widthF 31 = -1 := by decide
theorem wn3 : widthF 32 = 1 := by decide
theorem wn4 : widthF 126 = 1 := by decide
theorem wn5 : widthF 127 = -1 := by decide
theorem wn6 : widthF 159 = -1 := by decide
theorem wn7 : widthF 160 = 1 := by decide
theorem wn8 : widthF 55296 = -1 := by decide
theorem wn9 : widthF 65533 = 1 := by decide
theorem wn10 : widthF (-1) = -1 := by decide
theorem wn11 : widthF 1114111 = 1 := by decide
theorem wo1 : codesF [] = [] := by decide
theorem wo2 : codesF [255] = [65533] := by decide
theorem wo3 : cutG 1 0 [65533] = ([65533], []) := by decide
theorem wo4 : textF [65533] = [239, 191, 189] := by decide
theorem wo5 : sumF 0 (codesF [7, 97, 127]) = 1 := by decide
theorem wo6 : cutG 5 0 [] = ([], []) := by decide

set_option maxHeartbeats 1000000 in
set_option maxRecDepth 10000 in
theorem lawWKnown_sound : Sound Tryd.prog glW 7 lawWKnownSpec := by
  refine sound_fn (N := Tryd.f7.ntmps) (rs := Tryd.f7.results.toList) mixed tok GWl_ok Tryd.func7 rfl rfl rfl rfl rfl ?_ ?_ ?_
  · rintro args rfl; simp [Tryd.f7]
  · rintro args rfl; simp [lawWKnownSpec, Tryd.f7]
  · rintro args rfl bs hgl hh hro
    have hE : Env.OK ⟨Tryd.prog, T, GWl, bs⟩ := ⟨tok, by rw [hgl]; exact GWl_ok⟩
    simp [lawWKnownSpec, Tryd.f7]
    refine AWP.rounds (fun k => k ≤ 22) wknownS (fun k => 22 - k) 0 (by omega) ?_ ?_
    · refine Weak.keep ?_
      simp [wknownS]
    · intro k hk
      refine wpc_ok hE mixed _ _ _ ?_
      rcases Nat.lt_or_ge k 22 with h | h
      · obtain ⟨r1, r2, r3, r4⟩ := wk_row k h
        have d1 := head_drop zeroL k h
        have d2 := head_drop twoL k h
        have w1 : IntKind.i64.wrap ((k : Int) + 1) = k + 1 := wrap64 _ (by omega) (by omega)
        have w2 : (k : Int).tmod 2 = k % 2 := Int.tmod_eq_emod_of_nonneg (by omega)
        have w3 : IntKind.i64.wrap (2 * ((k : Int) % 2)) = 2 * ((k : Int) % 2) := wrap64 _ (by omega) (by omega)
        have w4 : IntKind.i64.wrap (2 * ((k : Int) % 2) - 1) = 2 * ((k : Int) % 2) - 1 := wrap64 _ (by omega) (by omega)
        have rz : ∀ k, k < 22 → 0 ≤ zeroL.getD k 0 ∧ zeroL.getD k 0 ≤ 1000000 ∧ 0 ≤ twoL.getD k 0 ∧ twoL.getD k 0 ≤ 1000000 := by decide
        obtain ⟨q1, q2, q3, q4⟩ := rz k h
        have hl : zeroL.length = 22 := rfl
        have hl2 : twoL.length = 22 := rfl
        generalize hz : zeroL.getD k 0 = z at *
        generalize ht : twoL.getD k 0 = t at *
        have i1 : I64 z := by unfold I64; omega
        have i2 : I64 t := by unfold I64; omega
        have w5 : IntKind.i64.wrap (z + (2 * ((k : Int) % 2) - 1)) = z + (2 * ((k : Int) % 2) - 1) := wrap64 _ (by omega) (by omega)
        have w6 : IntKind.i64.wrap (t + (2 * ((k : Int) % 2) - 1)) = t + (2 * ((k : Int) % 2) - 1) := wrap64 _ (by omega) (by omega)
        have i3 : I64 (z + (2 * ((k : Int) % 2) - 1)) := by unfold I64; omega
        have i4 : I64 (t + (2 * ((k : Int) % 2) - 1)) := by unfold I64; omega
        have hki : (k : Int) < 22 := by omega
        have hkn : 0 < 22 - k := by omega
        have fin : True := trivial
        rcases Decidable.em (z = 65071) with c1 | c1 <;> rcases Decidable.em (t = 65072) with c2 | c2
        · subst c1; subst c2
          simp [wknownS, allC_ints, ofSpec, and_assoc, hki, hkn, hl, hl2, d1, d2, w1, w2, w3, w4, w5, w6, r1, r2, i1, i2, i3, i4]
          exact Next.mk (k + 1) (by omega) (by omega) (Weak.keep (by simp [wknownS]))
        · subst c1
          have r4 := r4 c2
          simp [wknownS, allC_ints, ofSpec, and_assoc, hki, hkn, hl, hl2, d1, d2, w1, w2, w3, w4, w5, w6, r1, r2, i1, i2, i3, i4, c2, r4]
          exact Next.mk (k + 1) (by omega) (by omega) (Weak.keep (by simp [wknownS]))
        · subst c2
          have r3 := r3 c1
          simp [wknownS, allC_ints, ofSpec, and_assoc, hki, hkn, hl, hl2, d1, d2, w1, w2, w3, w4, w5, w6, r1, r2, i1, i2, i3, i4, c1, r3]
          exact Next.mk (k + 1) (by omega) (by omega) (Weak.keep (by simp [wknownS]))
        · have r3 := r3 c1
          have r4 := r4 c2
          simp [wknownS, allC_ints, ofSpec, and_assoc, hki, hkn, hl, hl2, d1, d2, w1, w2, w3, w4, w5, w6, r1, r2, i1, i2, i3, i4, c1, c2, r3, r4]
          exact Next.mk (k + 1) (by omega) (by omega) (Weak.keep (by simp [wknownS]))
      · obtain rfl : k = 22 := by omega
        simp [wknownS, ofSpec, wworksSpec, wtextSpec, cutsSpec, and_assoc, I64, wm1, wm2, wm3, wm4, wm5, wm6, wm7, wn1, wn2, wn3, wn4, wn5, wn6, wn7, wn8, wn9, wn10, wn11, wo1, wo2, wo3, wo4, wo5, wo6, we5, sumF]
end Fen
