/- A part of the proof; no statement is proved here: SChkA, SChkB, SFeedP, SFeedA. -/
import Derived.Test.YthmebgohfigfpaaParA
import Derived.Test.YthmebgohfigfpaaUtfA
import Derived.Test.YthmebgohfigfpaaMacB
import Derived.Test.YthmebgohfigfpaaMacC
import Derived.Test.YthmebgohfigfpaaCoreE

set_option linter.unusedVariables false
set_option linter.unusedSimpArgs false

namespace Fen
open Go Go.Proofs
theorem u8_inj : ∀ {a b : List Int}, Bytes a → Bytes b → (a.map u8B = b.map u8B ↔ a = b)
 | [], [], _, _ => by simp
 | [], _ :: _, _, _ => by simp
 | _ :: _, [], _, _ => by simp
 | x :: a, y :: b, ha, hb => by
   have hx := ha.cons.1
   have hy := hb.cons.1
   have ih := u8_inj ha.cons.2 hb.cons.2
   have h1 : u8B x = u8B y ↔ x = y := by
     constructor
     · intro h
       have := congrArg UInt8.toNat h
       rw [u8B_nat hx, u8B_nat hy] at this
       omega
     · rintro rfl; rfl
   simp [h1, ih]
theorem nums_u8 (l : List Int) : nums (ints .u8 l) = l := toI_u8 l
def bequalSpec : Spec := { pre := fun args => ∃ a b : List Int, args = [bytesV a, bytesV b] ∧ Bytes a ∧ Bytes b, res := fun args => match args with
 | [.c (.sl _ a), .c (.sl _ b)] => .one (.val (.c (.bool (decide (nums a = nums b)))))
 | _ => .many [] }
def G_bequal : Specs := []
@[simp] theorem G_bequal_live : Specs.live G_bequal = false := rfl
theorem G_bequal_ok (gl : Gl) : SpecsOK Try.prog gl G_bequal := .nil _ _
set_option maxRecDepth 10000 in
theorem bequal_sound (gl : Gl) : Sound Try.prog gl 43 bequalSpec := by
 refine sound_fn (N := Try.f43.ntmps) (rs := Try.f43.results.toList) mixed tok (G_bequal_ok gl) Try.func43 rfl rfl rfl rfl rfl ?_ ?_ ?_
 · rintro args ⟨a,b,rfl,ha,hb⟩; simp [bytesV,nums_I, Try.f43]
 · rintro args ⟨a,b,rfl,ha,hb⟩; simp [bytesV,nums_I, bequalSpec, Try.f43]
 · rintro args ⟨a,b,rfl,ha,hb⟩ bs hgl hh hro
   have hE : Env.OK ⟨Try.prog, T, G_bequal, bs⟩ := ⟨tok, by rw [hgl]; exact G_bequal_ok gl⟩
   simp only [bequalSpec, bytesV,nums_I]
   have k := u8_inj ha hb
   have k2 : (a.map (fun n => UInt8.ofNat n.toNat) = b.map (fun n => UInt8.ofNat n.toNat)) ↔ a = b := k
   simp [bequalSpec, Try.f43]
   rw [nums_u8, nums_u8, Bool.eq_iff_iff]
   simp [k2]
def hasF (g w : Int) : Bool := decide (bits2 (fun _ x y => x &&& y) .i64 g w ≠ 0)
def hasHS : HS := { wr := false, eff := fun xs h => match xs with
 | [.val (.int q w), .ptr id 0 0] => (q = .i64 ∧ (∃ g, h[id]? = some (.box 3 [.val (.int .i64 g)])), (match h[id]? with | some (.box _ [.val (.int _ g)]) => .val (.bool (hasF g w)) | _ => .dead), h)
 | _ => (False, .dead, h) }
def hasSpec : Spec := { pre := fun _ => False, res := fun _ => .many [], hp := some hasHS }
def G_has : Specs := []
@[simp] theorem G_has_live : Specs.live G_has = false := rfl
theorem G_has_ok (gl : Gl) : SpecsOK Try.prog gl G_has := .nil _ _
set_option maxRecDepth 10000 in
theorem has_sound (gl : Gl) : Sound Try.prog gl 38 hasSpec := by
 refine sound_heap (hs := hasHS) (N := Try.f38.ntmps) (rs := Try.f38.results.toList) mixed tok (G_has_ok gl) Try.func38 rfl rfl rfl rfl rfl ?_ ?_
 · intro xs h hp
   simp only [hasHS] at hp
   split at hp
   all_goals first | exact hp.elim | simp [Try.f38]
 · intro xs h hp bs hgl hh hro
   have hE : Env.OK ⟨Try.prog, T, G_has, bs⟩ := ⟨tok, by rw [hgl]; exact G_has_ok gl⟩
   simp only [hasHS] at hp
   split at hp
   · rename_i q w id
     obtain ⟨rfl, g, hg⟩ := hp
     simp [Try.f38, hcEff, hasHS, hg, hasF]
     refine RetTo.same ⟨?_, rfl⟩
     simp [bne]
     rfl
   · exact hp.elim
def gathC : List C := [.int .i64 1, .int .i64 0, .int .i64 130, .int .i64 0, .int .i64 136, .int .i64 146, .int .i64 192, .int .i64 192, .int .i64 0, .int .i64 136, .int .i64 146, .int .i64 244, .int .i64 244, .int .i64 0, .int .i64 0]
def gathSpec : Spec := { pre := fun args => args = [], res := fun _ => .one (.val (.agg gathC)) }
def G_gath : Specs := []
@[simp] theorem G_gath_live : Specs.live G_gath = false := rfl
theorem G_gath_ok (gl : Gl) : SpecsOK Try.prog gl G_gath := .nil _ _
set_option maxRecDepth 10000 in
theorem gath_sound (gl : Gl) : Sound Try.prog gl 37 gathSpec := by
 refine sound_fn (N := Try.f37.ntmps) (rs := Try.f37.results.toList) mixed tok (G_gath_ok gl) Try.func37 rfl rfl rfl rfl rfl ?_ ?_ ?_
 · rintro args rfl; simp [Try.f37]
 · rintro args rfl; simp [gathSpec, Try.f37]
 · rintro args rfl bs hgl hh hro
   have hE : Env.OK ⟨Try.prog, T, G_gath, bs⟩ := ⟨tok, by rw [hgl]; exact G_gath_ok gl⟩
   simp [gathSpec, Try.f37, gathC]
def psOn (p : Ps) : Prop := Bytes p.u ∧ SubsOK p.ps
def sameSpec : Spec := { pre := fun args => ∃ a b : Ps, args = [.agg (psC a), .agg (psC b)] ∧ psOn a ∧ Bytes b.u, res := fun args => match args with
 | [.agg a, .agg b] => .one (.val (.c (.bool (decide (psOf a = psOf b)))))
 | _ => .many [] }
def G_same : Specs := [(43, bequalSpec), (44, psameSpec)]
@[simp] theorem G_same_live : Specs.live G_same = false := rfl
@[simp] theorem G_same_43 : G_same.find 43 = some bequalSpec := rfl
@[simp] theorem G_same_44 : G_same.find 44 = some psameSpec := rfl
theorem G_same_ok (gl : Gl) : SpecsOK Try.prog gl G_same := .cons (bequal_sound gl) (.cons (psame_sound gl) (.nil _ _))
set_option maxHeartbeats 2000000 in
set_option maxRecDepth 10000 in
theorem same_sound (gl : Gl) : Sound Try.prog gl 29 sameSpec := by
 refine sound_fn (N := Try.f29.ntmps) (rs := Try.f29.results.toList) mixed tok (G_same_ok gl) Try.func29 rfl rfl rfl rfl rfl ?_ ?_ ?_
 · rintro args ⟨a,b,rfl,ha,hb⟩; simp [psOf_C, Try.f29]
 · rintro args ⟨a,b,rfl,ha,hb⟩; simp [psOf_C, sameSpec, Try.f29]
 · rintro args ⟨a,b,rfl,ha,hb⟩ bs hgl hh hro
   have hE : Env.OK ⟨Try.prog, T, G_same, bs⟩ := ⟨tok, by rw [hgl]; exact G_same_ok gl⟩
   simp only [sameSpec, psOf_C]
   simp [sameSpec, bequalSpec, psameSpec, Try.f29, psC]
   refine ⟨fun h1 h2 => ⟨⟨h1, h2⟩, a.u, b.u, ⟨⟨rfl, rfl⟩, rfl, rfl⟩, ha.1, hb⟩, fun h1 h2 h3 h4 h5 h6 h7 => ⟨⟨⟨⟨⟨⟨⟨h1, h2⟩, h3⟩, h4⟩, h5⟩, h6⟩, h7⟩, a.ps, ⟨rfl, b.ps, rfl⟩, ha.2⟩, ?_⟩
   rw [nums_u8, nums_u8, Bool.eq_iff_iff]
   cases a
   cases b
   simp
   constructor
   · rintro ⟨⟨⟨⟨⟨⟨⟨rfl, rfl⟩, rfl⟩, rfl⟩, rfl⟩, rfl⟩, rfl⟩, rfl⟩; simp
   · rintro ⟨rfl, rfl, rfl, rfl, rfl, rfl, rfl, rfl⟩; simp
def alikeSpec : Spec := { pre := fun args => ∃ a b : Ev, args = [.agg (evC a), .agg (evC b)] ∧ SubsOK a.ps, res := fun args => match args with
 | [.agg a, .agg b] => .one (.val (.c (.bool (decide (evOf a = evOf b)))))
 | _ => .many [] }
def G_alike : Specs := [(44, psameSpec)]
@[simp] theorem G_alike_live : Specs.live G_alike = false := rfl
@[simp] theorem G_alike_44 : G_alike.find 44 = some psameSpec := rfl
theorem G_alike_ok (gl : Gl) : SpecsOK Try.prog gl G_alike := .cons (psame_sound gl) (.nil _ _)
set_option maxHeartbeats 2000000 in
set_option maxRecDepth 10000 in
theorem alike_sound (gl : Gl) : Sound Try.prog gl 30 alikeSpec := by
 refine sound_fn (N := Try.f30.ntmps) (rs := Try.f30.results.toList) mixed tok (G_alike_ok gl) Try.func30 rfl rfl rfl rfl rfl ?_ ?_ ?_
 · rintro args ⟨a,b,rfl,ha⟩; simp [evOf_C, Try.f30]
 · rintro args ⟨a,b,rfl,ha⟩; simp [evOf_C, alikeSpec, Try.f30]
 · rintro args ⟨a,b,rfl,ha⟩ bs hgl hh hro
   have hE : Env.OK ⟨Try.prog, T, G_alike, bs⟩ := ⟨tok, by rw [hgl]; exact G_alike_ok gl⟩
   simp only [alikeSpec, evOf_C]
   simp [alikeSpec, psameSpec, Try.f30, evC]
   refine ⟨fun h1 h2 h3 h4 h5 h6 => ⟨⟨⟨⟨⟨⟨h1, h2⟩, h3⟩, h4⟩, h5⟩, h6⟩, a.ps, ⟨rfl, b.ps, rfl⟩, ha⟩, ?_⟩
   rw [Bool.eq_iff_iff]
   cases a
   cases b
   simp
   constructor
   · rintro ⟨⟨⟨⟨⟨⟨rfl, rfl⟩, rfl⟩, rfl⟩, rfl⟩, rfl⟩, rfl⟩; simp
   · rintro ⟨rfl, rfl, rfl, rfl, rfl, rfl, rfl⟩; simp
def emptySpec : Spec := { pre := fun args => ∃ a : Ps, args = [.agg (psC a)] ∧ psOn a, res := fun args => match args with
 | [.agg a] => .one (.val (.c (.bool (noneIn (psOf a)))))
 | _ => .many [] }
def G_sempty : Specs := [(29, sameSpec)]
@[simp] theorem G_sempty_live : Specs.live G_sempty = false := rfl
@[simp] theorem G_sempty_29 : G_sempty.find 29 = some sameSpec := rfl
theorem G_sempty_ok (gl : Gl) : SpecsOK Try.prog gl G_sempty := .cons (same_sound gl) (.nil _ _)
set_option maxHeartbeats 2000000 in
set_option maxRecDepth 10000 in
theorem sempty_sound (gl : Gl) : Sound Try.prog gl 39 emptySpec := by
 refine sound_fn (N := Try.f39.ntmps) (rs := Try.f39.results.toList) mixed tok (G_sempty_ok gl) Try.func39 rfl rfl rfl rfl rfl ?_ ?_ ?_
 · rintro args ⟨a,rfl,ha⟩; simp [psOf_C, Try.f39]
 · rintro args ⟨a,rfl,ha⟩; simp [psOf_C, emptySpec, Try.f39]
 · rintro args ⟨a,rfl,ha⟩ bs hgl hh hro
   have hE : Env.OK ⟨Try.prog, T, G_sempty, bs⟩ := ⟨tok, by rw [hgl]; exact G_sempty_ok gl⟩
   simp only [emptySpec, psOf_C]
   have e1 : psOf [.int .i64 a.s, .sl 0 [], .int .u8 0, .int .u8 0, .sl 0 [], .str [], .str [], .bool a.bad] = ⟨a.s, [], 0, 0, [], [], [], a.bad⟩ := rfl
   have e2 := psOf_C a
   simp only [psC] at e2
   simp [emptySpec, sameSpec, Try.f39, psC, e1, e2]
   refine ⟨⟨a, ⟨a.s, [], 0, 0, [], [], [], a.bad⟩, ⟨⟨rfl, ⟨rfl, rfl⟩, rfl, rfl, ⟨rfl, rfl⟩, rfl, rfl, rfl⟩, rfl, ⟨rfl, rfl⟩, rfl, rfl, ⟨rfl, rfl⟩, rfl, rfl, rfl⟩, ha, fun x hx => by simp at hx⟩, ?_⟩
   unfold noneIn
   congr 1
   cases a
   simp
def checkSpec : Spec := { pre := fun args => ∃ a : Ps, args = [.agg (psC a)] ∧ psOn a ∧ a.u.length ≤ 1000000 ∧ a.it.length ≤ 1000000 ∧ a.tx.length ≤ 1000000, res := fun args => match args with
 | [.agg a] => .one (.val (.c (.int .i64 (if may6 (psOf a) = true then 0 else 160))))
 | _ => .many [] }
end Fen

namespace Fen
open Go Go.Proofs
def signB (c : UInt8) : Bool := decide (32 ≤ c.toNat) && decide (c.toNat ≤ 47)
def textB (c : UInt8) : Bool := decide (32 ≤ c.toNat) && decide (c.toNat ≠ 127)
theorem all_succ {α : Type} (f : α → Bool) {l : List α} {k : Nat} (h : k < l.length) : (l.take (k + 1)).all f = ((l.take k).all f && f l[k]) := by
 rw [List.take_add_one, List.getElem?_eq_getElem h, List.all_append]; simp
theorem bytes_at {l : List UInt8} {k : Nat} (h : k < l.length) : (l.map byteC).drop k = .int .u8 l[k].toNat :: (l.map byteC).drop (k + 1) := by
 rw [List.drop_eq_getElem_cons (by simpa using h)]; simp [byteC]
def chkR (a : Ps) (g : Int) : Bool :=
 rightF a.u && (decide (a.u = []) || hasF g 1) && parOK a.ps && (decide (a.ps = []) || hasF g 24) && (!hasF g 8 || decide (0 < a.ps.length) || !decide (a.pv = 0)) &&
 (decide (a.pv = 0) || hasF g 24 && (decide (60 ≤ a.pv) && decide (a.pv ≤ 63))) && decide (hasF g 32 = (a.fn != 0)) && (decide (a.fn = 0) || decide (64 ≤ a.fn) && decide (a.fn ≤ 126)) &&
 decide ((a.it.length : Int) ≤ 2) && (decide (a.it = []) || hasF g 6) && (!decide (a.it = []) || !hasF g 2) && decide ((a.tx.length : Int) ≤ 512) && (decide (a.tx = []) || hasF g 64)
theorem gath_has {s g : Int} (h0 : 0 ≤ s) (h1 : s < 15) (hg : gathC[s.toNat]?.getD .nilf = .int .i64 g) : hasF g 1 = decide (s = 0) ∧ hasF g 24 = (tail6 s || int6 s || par6 s) ∧ hasF g 8 = par6 s ∧ hasF g 32 = tail6 s ∧ hasF g 6 = (decide (s = 2) || int6 s || tail6 s) ∧ hasF g 2 = (decide (s = 2) || int6 s) ∧ hasF g 64 = (tail6 s || decide (s = 6 ∨ s = 7)) ∧ hasF g 128 = spoils s := by
 have : s.toNat < 15 := by omega
 obtain ⟨n, hn⟩ : ∃ n : Nat, s = n := ⟨s.toNat, by omega⟩
 rw [hn] at hg ⊢
 rw [hn] at this
 simp only [Int.toNat_natCast] at hg this
 match n, this with
 | 0, _ | 1, _ | 2, _ | 3, _ | 4, _ | 5, _ | 6, _ | 7, _ | 8, _ | 9, _ | 10, _ | 11, _ | 12, _ | 13, _ | 14, _ => cases hg; decide
 | n + 15, h => omega
theorem whole_chk {a : Ps} {g : Int} (h0 : 0 ≤ a.s) (h1 : a.s < 15) (hg : gathC[a.s.toNat]?.getD .nilf = .int .i64 g) : whole6 a = ((chkR a g && a.it.all signB) && a.tx.all textB) := by
 obtain ⟨k1, k2, k3, k4, k5, k6, k7, _⟩ := gath_has h0 h1 hg
 have e1 : signOK a.it = a.it.all signB := rfl
 have e2 : textOK a.tx = a.tx.all textB := rfl
 have e3 : decide (tail6 a.s = (a.fn != 0)) = (tail6 a.s == decide (a.fn ≠ 0)) := by by_cases q : a.fn = 0 <;> cases tail6 a.s <;> simp [q]
 have e4 : decide (0 < a.ps.length) = decide (a.ps ≠ []) := by rw [decide_eq_decide]; exact List.length_pos_iff
 unfold whole6 chkR
 rw [k1, k2, k3, k4, k5, k6, k7, e1, e2, e3, e4]
 generalize (tail6 a.s == decide (a.fn ≠ 0)) = q
 rw [Bool.eq_iff_iff]
 simp only [Bool.and_eq_true, Bool.or_eq_true, decide_eq_true_eq, Bool.not_eq_true', decide_eq_false_iff_not, Bool.or_eq_false_iff]
 constructor
 · rintro ⟨⟨⟨⟨⟨⟨⟨⟨⟨⟨⟨⟨⟨⟨h1, h2⟩, h3⟩, h4⟩, h5⟩, h6⟩, h7⟩, h8⟩, h9⟩, h10⟩, h11⟩, h12⟩, h13⟩, h14⟩, h15⟩
   refine ⟨⟨⟨⟨⟨⟨⟨⟨⟨⟨⟨⟨⟨⟨h1, h2⟩, h3⟩, ?_⟩, h5⟩, ?_⟩, h7⟩, h8⟩, by omega⟩, ?_⟩, h11⟩, by omega⟩, ?_⟩, h12⟩, h15⟩
   · rcases h4 with ((h | h) | h) | h <;> simp [h]
   · rcases h6 with h | ⟨⟨h, h'⟩, h''⟩
     · exact .inl h
     · exact .inr ⟨h, h', h''⟩
   · rcases h10 with ((h | h) | h) | h <;> simp [h]
   · rcases h14 with (h | h) | h <;> simp [h]
 · rintro ⟨⟨⟨⟨⟨⟨⟨⟨⟨⟨⟨⟨⟨⟨h1, h2⟩, h3⟩, h4⟩, h5⟩, h6⟩, h7⟩, h8⟩, h9⟩, h10⟩, h11⟩, h13⟩, h14⟩, h12⟩, h15⟩
   refine ⟨⟨⟨⟨⟨⟨⟨⟨⟨⟨⟨⟨⟨⟨h1, h2⟩, h3⟩, ?_⟩, h5⟩, ?_⟩, h7⟩, h8⟩, by omega⟩, ?_⟩, h11⟩, h12⟩, by omega⟩, ?_⟩, h15⟩
   · rcases h4 with h | (h | h) | h <;> simp [h]
   · rcases h6 with h | ⟨h, h', h''⟩
     · exact .inl h
     · exact .inr ⟨⟨h, h'⟩, h''⟩
   · rcases h10 with h | (h | h) | h <;> simp [h]
   · rcases h14 with h | h | h <;> simp [h]
def chkS1 (a : Ps) (R : Bool) (k : Nat) : St := ⟨185, [(1, .ptr 0 0 0), (5, .val (.bool (R && (a.it.take k).all signB))), (152, .val (.sl a.it.length (a.it.map byteC))), (153, .val (.int .i64 a.it.length)), (154, .val (.int .i64 k))], [.box 25 ((psC a).map .val)]⟩
def chkS2 (a : Ps) (R : Bool) (k : Nat) : St := ⟨185, [(5, .val (.bool (R && (a.tx.take k).all textB))), (167, .val (.sl a.tx.length (a.tx.map byteC))), (168, .val (.int .i64 a.tx.length)), (169, .val (.int .i64 k))], []⟩
def G_scheck : Specs := [(37, gathSpec), (38, hasSpec), (39, emptySpec), (40, rightSpec), (41, pcheckSpec), (42, outsSpec)]
@[simp] theorem G_scheck_live : Specs.live G_scheck = false := rfl
@[simp] theorem G_scheck_37 : G_scheck.find 37 = some gathSpec := rfl
@[simp] theorem G_scheck_38 : G_scheck.find 38 = some hasSpec := rfl
@[simp] theorem G_scheck_39 : G_scheck.find 39 = some emptySpec := rfl
@[simp] theorem G_scheck_40 : G_scheck.find 40 = some rightSpec := rfl
@[simp] theorem G_scheck_41 : G_scheck.find 41 = some pcheckSpec := rfl
@[simp] theorem G_scheck_42 : G_scheck.find 42 = some outsSpec := rfl
theorem G_scheck_ok (gl : Gl) : SpecsOK Try.prog gl G_scheck := .cons (gath_sound gl) (.cons (has_sound gl) (.cons (sempty_sound gl) (.cons (right_sound gl) (.cons (pcheck_sound gl) (.cons (outs_sound gl) (.nil _ _))))))
set_option maxHeartbeats 20000000 in
set_option maxRecDepth 10000 in
theorem scheck_sound (gl : Gl) : Sound Try.prog gl 18 checkSpec := by
 refine sound_awp (N := Try.f18.ntmps) (rs := Try.f18.results.toList) tok Try.func18 rfl rfl rfl rfl rfl ?_ ?_ ?_
 · rintro args ⟨a,rfl,ha,hu,hit,htx⟩; simp [psOf_C, Try.f18]
 · rintro args ⟨a,rfl,ha,hu,hit,htx⟩; simp [psOf_C, checkSpec, Try.f18]
 · rintro args ⟨a,rfl,ha,hu,hit,htx⟩ bs hgl hh hro
   have hE : Env.OK ⟨Try.prog, T, G_scheck, bs⟩ := ⟨tok, by rw [hgl]; exact G_scheck_ok gl⟩
   simp only [checkSpec, psOf_C]
   have e2 := psOf_C a
   simp only [psC] at e2
   by_cases h1 : a.s < 0
   · have h1' : (a.s < 0) = True := eq_true h1
     have hm : may6 a = false := by unfold may6; rw [if_pos (.inl h1)]
     refine wpc_ok hE mixed _ _ _ ?_
     simp [checkSpec, emptySpec, gathSpec, hasSpec, outsSpec, pcheckSpec, rightSpec, Try.f18, psC, h1', hm, e2]
   have h1' : (a.s < 0) = False := eq_false h1
   by_cases h2 : 15 ≤ a.s
   · have h2' : (15 ≤ a.s) = True := eq_true h2
     have hm : may6 a = false := by unfold may6; rw [if_pos (.inr h2)]
     refine wpc_ok hE mixed _ _ _ ?_
     simp [checkSpec, emptySpec, gathSpec, hasSpec, outsSpec, pcheckSpec, rightSpec, Try.f18, psC, h1', h2', hm, e2]
   have h2' : (15 ≤ a.s) = False := eq_false h2
   obtain ⟨g, hg⟩ : ∃ g : Int, gathC[a.s.toNat]?.getD .nilf = .int .i64 g := by
     have : a.s.toNat < 15 := by omega
     generalize a.s.toNat = n at *
     match n, this with
     | 0, _ | 1, _ | 2, _ | 3, _ | 4, _ | 5, _ | 6, _ | 7, _ | 8, _ | 9, _ | 10, _ | 11, _ | 12, _ | 13, _ | 14, _ => exact ⟨_, rfl⟩
     | n + 15, h => omega
   have hm : may6 a = if a.bad = true then spoils a.s && noneIn a else whole6 a := by unfold may6; rw [if_neg (by omega)]
   have hg' := hg
   simp only [gathC] at hg
   cases hb : a.bad with
   | true =>
     refine wpc_ok hE mixed _ _ _ ?_
     rw [hb] at e2
     have hsp : spoils a.s = hasF g 128 := (gath_has (by omega) (by omega) hg').2.2.2.2.2.2.2.symm
     rw [hsp] at hm
     simp [checkSpec, emptySpec, gathSpec, hasSpec, outsSpec, pcheckSpec, rightSpec, Try.f18, psC, h1', h2', hm, e2, gathC, hasHS, hcEff, hg, hb]
     refine ⟨by omega, rfl, fun h => ⟨h, a, ⟨rfl, ⟨rfl, rfl⟩, rfl, rfl, ⟨rfl, rfl⟩, rfl, rfl, hb⟩, ha⟩⟩
   | false =>
     refine wpc_ok hE mixed _ _ _ ?_
     simp [checkSpec, emptySpec, gathSpec, hasSpec, outsSpec, pcheckSpec, rightSpec, Try.f18, psC, h1', h2', hm, e2, gathC, hasHS, hcEff, hg, hb]
     refine ⟨by omega, rfl, ⟨a.u, ⟨rfl, rfl⟩, ha.1, by omega⟩, ?_⟩
     have ep : ∃ ps, V.c (C.sl a.ps.length (parC a.ps)) = parV ps ∧ SubsOK ps := ⟨a.ps, rfl, ha.2⟩
     iterate 11 refine ⟨by (repeat' (first | (refine And.intro ?_ ?_) | (intro _))) <;> first | assumption | contradiction, ?_⟩
     refine ⟨rfl, by omega, ?_⟩
     refine AWP.leaves 0 (chkS1 a (chkR a g) a.it.length) (AWP.rounds (fun k => k ≤ a.it.length) (chkS1 a (chkR a g)) (fun k => a.it.length - k) 0 (by simp) ?_ ?_) ?_
     · exact Weak.ren [some 0] (baseOK.nil hh) (by simp) (by simp [chkS1, psC, hb]) (by simp [chkS1, psC, chkR])
     · intro k hk
       refine wpc_ok hE mixed _ _ _ ?_
       rcases Nat.lt_or_ge k a.it.length with h | h
       · have hd := bytes_at h
         have hs := all_succ signB h
         have w1 : IntKind.i64.wrap ((k : Int) + 1) = ((k + 1 : Nat) : Int) := by rw [wrap64 _ (by omega) (by omega)]; omega
         have klt : ((k : Int) < a.it.length) = True := eq_true (by omega)
         generalize a.it[k] = c at *
         obtain ⟨w, hw⟩ : ∃ w, (chkR a g && (a.it.take k).all signB) = w := ⟨_, rfl⟩
         have hw2 : (chkR a g && (a.it.take (k + 1)).all signB) = (w && signB c) := by rw [hs, ← hw, Bool.and_assoc]
         have he : signB c = (!decide ((c.toNat : Int) < 32) && !decide (47 < (c.toNat : Int))) := by
           unfold signB; rw [Bool.eq_iff_iff]; simp; omega
         rw [he] at hw2
         cases w with
         | false =>
           simp [chkS1, hw, checkSpec, emptySpec, gathSpec, hasSpec, outsSpec, pcheckSpec, rightSpec, Try.f18, klt, hd, w1, psC]
           exact Next.mk (k + 1) (by omega) (by omega) (Weak.keep (by simp [chkS1, hw2]))
         | true =>
           simp [chkS1, hw, checkSpec, emptySpec, gathSpec, hasSpec, outsSpec, pcheckSpec, rightSpec, Try.f18, klt, hd, w1, psC]
           exact Next.mk (k + 1) (by omega) (by omega) (Weak.keep (by simp [chkS1, hw2]))
       · obtain rfl : k = a.it.length := by omega
         simp [chkS1]
         exact Leaves.mk (Weak.keep (by simp))
     have hW := whole_chk (by omega) (by omega) hg'
     obtain ⟨R, hR⟩ : ∃ R, (chkR a g && a.it.all signB) = R := ⟨_, rfl⟩
     rw [hR] at hW
     simp [chkS1, hR, checkSpec, emptySpec, gathSpec, hasSpec, outsSpec, pcheckSpec, rightSpec, Try.f18, psC]
     refine ⟨by omega, ?_⟩
     refine AWP.leaves 2 (chkS2 a R a.tx.length) (AWP.rounds (fun k => k ≤ a.tx.length) (chkS2 a R) (fun k => a.tx.length - k) 0 (by simp) ?_ ?_) ?_
     · exact Weak.ren [] (baseOK.nil hh) (by simp) (by simp [chkS2]) (by simp [chkS2])
     · intro k hk
       refine wpc_ok hE mixed _ _ _ ?_
       rcases Nat.lt_or_ge k a.tx.length with h | h
       · have hd := bytes_at h
         have hs := all_succ textB h
         have w1 : IntKind.i64.wrap ((k : Int) + 1) = ((k + 1 : Nat) : Int) := by rw [wrap64 _ (by omega) (by omega)]; omega
         have klt : ((k : Int) < a.tx.length) = True := eq_true (by omega)
         generalize a.tx[k] = c at *
         obtain ⟨w, hw⟩ : ∃ w, (R && (a.tx.take k).all textB) = w := ⟨_, rfl⟩
         have hw2 : (R && (a.tx.take (k + 1)).all textB) = (w && textB c) := by rw [hs, ← hw, Bool.and_assoc]
         have he : textB c = (decide (32 ≤ (c.toNat : Int)) && (c.toNat : Int) != 127) := by
           unfold textB; rw [Bool.eq_iff_iff]; simp; omega
         rw [he] at hw2
         cases w with
         | false =>
           simp [chkS2, hw, checkSpec, emptySpec, gathSpec, hasSpec, outsSpec, pcheckSpec, rightSpec, Try.f18, klt, hd, w1, psC]
           exact Next.mk (k + 1) (by omega) (by omega) (Weak.keep (by simp [chkS2, hw2]))
         | true =>
           simp [chkS2, hw, checkSpec, emptySpec, gathSpec, hasSpec, outsSpec, pcheckSpec, rightSpec, Try.f18, klt, hd, w1, psC]
           exact Next.mk (k + 1) (by omega) (by omega) (Weak.keep (by simp [chkS2, hw2]))
       · obtain rfl : k = a.tx.length := by omega
         simp [chkS2]
         exact Leaves.mk (Weak.keep (by simp))
     cases hz : (R && a.tx.all textB) with
     | false =>
       rw [hz] at hW
       simp [chkS2, hz, hW, checkSpec, emptySpec, gathSpec, hasSpec, outsSpec, pcheckSpec, rightSpec, Try.f18]
     | true =>
       rw [hz] at hW
       simp [chkS2, hz, hW, checkSpec, emptySpec, gathSpec, hasSpec, outsSpec, pcheckSpec, rightSpec, Try.f18]
end Fen

namespace Fen
open Go
def keepU (p x : Ps) : Prop := x.u = p.u ∨ x.u = []
theorem told_k (p : Ps) (e : Ev) : (told p e).1.u = [] ∧ (told p e).2.length ≤ 1 := by unfold told; split <;> simp [sbegin]
theorem signed_k (p : Ps) (b : Int) : keepU p (signed p b) := by unfold signed keepU; split <;> simp [sspoil]
theorem escape_k (b : Int) : (escapeF b).1.u = [] ∧ (escapeF b).2.length ≤ 1 := by unfold escapeF; (repeat' split) <;> simp [sbegin]
theorem last_k (p : Ps) (b : Int) : keepU p (lastF p b).1 ∧ (lastF p b).2.length ≤ 1 := by
 unfold lastF; split
 · exact ⟨.inr (told_k _ _).1, (told_k _ _).2⟩
 · simp [keepU]
theorem digit_k (p : Ps) (b : Int) : keepU p (digitF p b) := by unfold digitF keepU; split <;> simp [sspoil]
theorem goes_k (p : Ps) (b : Int) : keepU p (goes6 p b).1 ∧ (goes6 p b).2.length ≤ 1 := by
 unfold goes6
 split
 · simp [keepU]
 split
 · exact ⟨.inr (escape_k b).1, (escape_k b).2⟩
 split
 · unfold signsF; split
   · exact ⟨signed_k _ _, by simp⟩
   · exact ⟨.inr (told_k _ _).1, (told_k _ _).2⟩
 split
 · unfold entryF; split
   · simp [keepU, sbegin]
   split
   · simp [keepU, sbegin]
   split
   · simp [keepU, sbegin]
   · exact last_k p b
 split
 · unfold paramsF; split
   · exact ⟨signed_k { p with s := p.s + 1 } b, by simp⟩
   split
   · exact ⟨digit_k p b, by simp⟩
   split
   · simp [keepU, sspoil]
   · exact last_k p b
 · unfold intersF; split
   · exact ⟨signed_k p b, by simp⟩
   split
   · simp [keepU, sspoil]
   · exact last_k p b
theorem prints_k (u : List Int) (b : Int) : ((printsF u b).1.u = (stepF u b).1 ∨ (printsF u b).1.u = []) ∧ (printsF u b).2.length ≤ 2 := by
 constructor
 · have := code1_head (u := (stepF u b).1) (stepF u b).2 ({ sbegin 0 with u := (stepF u b).1 }, []) (.inl rfl)
   rcases this with q | q | q
   · left; show (List.foldl code1 _ _).1.u = _; rw [q]
   · right; show (List.foldl code1 _ _).1.u = _; rw [q]; rfl
   · right; show (List.foldl code1 _ _).1.u = _; rw [q]; rfl
 · have h1 := step_len u b
   rw [← atC_all (Nat.le_refl _)]
   have h2 := atC_len u b (stepF u b).2.length
   omega
theorem esc1_k (b : Int) : ((esc1F b).1.u = (stepF [] b).1 ∨ (esc1F b).1.u = []) ∧ (esc1F b).2.length ≤ 2 := by
 unfold esc1F
 split
 · simp [sbegin]
 split
 · simp [sbegin]
 split
 · exact prints_k [] b
 split
 · simp [sbegin]
 split
 · simp [sbegin]
 · exact ⟨.inr (escape_k b).1, Nat.le_trans (escape_k b).2 (by decide)⟩
theorem one_k (p : Ps) (b : Int) : ((one6 p b).1.u = p.u ∨ (one6 p b).1.u = [] ∨ (one6 p b).1.u = (stepF p.u b).1 ∨ (one6 p b).1.u = (stepF [] b).1) ∧ (one6 p b).2.length ≤ 2 := by
 have lift : ∀ {x : Ps × List Ev}, keepU p x.1 ∧ x.2.length ≤ 1 → (x.1.u = p.u ∨ x.1.u = [] ∨ x.1.u = (stepF p.u b).1 ∨ x.1.u = (stepF [] b).1) ∧ x.2.length ≤ 2 := fun h => ⟨by rcases h.1 with q | q <;> simp [q], by omega⟩
 unfold one6
 split
 · exact ⟨by rcases (prints_k p.u b).1 with q | q <;> simp [q], (prints_k p.u b).2⟩
 split
 · simp [sbegin]
 split
 · split
   · simp
   · simp [sbegin]
 split
 · unfold endsF; split
   · exact ⟨by rcases (esc1_k b).1 with q | q <;> simp [q], (esc1_k b).2⟩
   split
   · exact lift ⟨.inr (told_k _ _).1, (told_k _ _).2⟩
   split
   · exact lift ⟨.inr (told_k _ _).1, (told_k _ _).2⟩
   · simp [sbegin]
 split
 · unfold withinF; split
   · exact lift ⟨.inr (told_k _ _).1, (told_k _ _).2⟩
   split
   · simp
   split
   · simp [sspoil]
   · simp
 split
 · exact ⟨by rcases (prints_k [] b).1 with q | q <;> simp [q], (prints_k [] b).2⟩
 split
 · simp; split <;> simp
 split
 · simp
 · exact lift (goes_k p b)
theorem one_bytes {p : Ps} {b : Int} (hu : Bytes p.u) (hb : 0 ≤ b ∧ b < 256) : Bytes (one6 p b).1.u := by
 rcases (one_k p b).1 with h | h | h | h <;> rw [h]
 · exact hu
 · exact fun x hx => by simp at hx
 · exact step_bytes hu hb
 · exact step_bytes (fun x hx => by simp at hx) hb
theorem feed_bytes : ∀ {l : List Int} {p : Ps}, Bytes p.u → Bytes l → Bytes (feed6 p l).1.u
 | [], p, h, _ => h
 | b :: l, p, h, hl => feed_bytes (l := l) (one_bytes h hl.cons.1) hl.cons.2
theorem feed_len : ∀ (l : List Int) (p : Ps), (feed6 p l).2.length ≤ 2 * l.length
 | [], p => by simp [feed6]
 | b :: l, p => by
   have h1 := feed_len l (one6 p b).1
   have h2 := (one_k p b).2
   simp only [feed6, List.length_append, List.length_cons]
   omega
theorem subs_of {ps : List (List Int)} (h : parOK ps = true) : SubsOK ps := by
 obtain ⟨h1, h2, _⟩ := parOK_iff.1 h
 refine ⟨by omega, fun l hl => ?_⟩
 have := (subOK_iff.1 (h2 l hl)).2.1
 omega
theorem take_on {p : Ps} {b : Int} (h : may6 p = true) (hu : Bytes p.u) (hb : 0 ≤ b ∧ b < 256) : takeOn p b := by
 have hr := may_right h
 obtain ⟨hs, h1, h2⟩ := may_iff.1 h
 have h3 := right_len hr
 cases q : p.bad with
 | true =>
   obtain ⟨k1, k2⟩ := h1 q
   simp [noneIn] at k2
   obtain ⟨c1, c2, c3, c4, c5, c6⟩ := k2
   exact ⟨hb, hs.1, hs.2, hu, by omega, by simp [c5], by simp [c4, SubsOK], by simp [c6], fun e => by rw [spoils_iff] at k1; omega⟩
 | false =>
   have W := h2 q
   exact ⟨hb, hs.1, hs.2, hu, by omega, W.it, subs_of W.ps, W.tx, fun _ => q⟩
def feedF (p : Ps) (l : List Int) : Ps × List Ev × Int :=
 if may6 p = true then (if 4096 < l.length then (sbegin 0, [], 3) else ((feed6 p l).1, (feed6 p l).2, 0)) else (sbegin 0, [], 160)
theorem feed_snoc (p : Ps) {l : List Int} {k : Nat} (h : k < l.length) : feed6 p (l.take (k + 1)) = ((one6 (feed6 p (l.take k)).1 l[k]).1, (feed6 p (l.take k)).2 ++ (one6 (feed6 p (l.take k)).1 l[k]).2) := by
 rw [List.take_add_one, List.getElem?_eq_getElem h]
 show feed6 p (l.take k ++ [l[k]]) = _
 rw [feed6_app]
 simp [feed6]
end Fen

namespace Fen
open Go Go.Proofs
theorem ints_at8 {l : List Int} {k : Nat} (h : k < l.length) : (ints .u8 l).drop k = .int .u8 l[k] :: (ints .u8 l).drop (k + 1) := by
 rw [List.drop_eq_getElem_cons (by simpa [ints] using h)]; simp [ints]
theorem bytes_take {l : List Int} (h : Bytes l) (k : Nat) : Bytes (l.take k) := fun x hx => h x (List.mem_of_mem_take hx)
def psFit (p : Ps) : Prop := psOn p ∧ p.u.length ≤ 1000000 ∧ p.it.length ≤ 1000000 ∧ p.tx.length ≤ 1000000
def sfeedSpec : Spec := { pre := fun args => ∃ (p : Ps) (l : List Int), args = [.agg (psC p), bytesV l] ∧ psFit p ∧ Bytes l ∧ l.length ≤ 1000000, res := fun args => match args with
 | [.agg cs, .c (.sl _ l)] => .many [.val (.agg (psC (feedF (psOf cs) (nums l)).1)), .val (.c (.sl (feedF (psOf cs) (nums l)).2.1.length (evsC (feedF (psOf cs) (nums l)).2.1))), .val (.c (.int .i64 (feedF (psOf cs) (nums l)).2.2))]
 | _ => .many [] }
def feedH (p : Ps) : List Blk := [.box 25 ((psC p).map .val), .box 25 ((psC (sbegin 0)).map .val), .box tM (maX p .nil)]
def feedS (p : Ps) (l : List Int) (k : Nat) : St := ⟨42, [(4, .ptr 1 0 0), (8, .ptr 2 0 0), (24, .val (.sl l.length (ints .u8 l))), (25, .val (.int .i64 l.length)), (26, .val (.int .i64 k))], putM (feedH p) 2 .nil (feed6 p (l.take k)).1 (feed6 p (l.take k)).2⟩
def feedE (p : Ps) (y : Ps × List Ev) : St := ⟨42, [(4, .ptr 1 0 0), (8, .ptr 2 0 0)], [.box 25 ((psC p).map .val), .box 25 ((psC (sbegin 0)).map .val), .box tM (maX y.1 (.val (.sl y.2.length (evsC y.2))))]⟩
theorem feedM (p : Ps) : MachB (feedH p) 2 p .nil 0 := ⟨⟨rfl, .inl rfl⟩, by simp [evMany], ClosedH.of (by simp [feedH, psC, maX])⟩
def G_sfeed : Specs := [(18, checkSpec), (33, mtakeSpec)]
@[simp] theorem G_sfeed_live : Specs.live G_sfeed = false := rfl
@[simp] theorem G_sfeed_18 : G_sfeed.find 18 = some checkSpec := rfl
@[simp] theorem G_sfeed_33 : G_sfeed.find 33 = some mtakeSpec := rfl
theorem G_sfeed_ok (gl : Gl) : SpecsOK Try.prog gl G_sfeed := .cons (scheck_sound gl) (.cons (mtake_sound gl) (.nil _ _))
set_option maxHeartbeats 8000000 in
set_option maxRecDepth 10000 in
theorem sfeed_sound (gl : Gl) : Sound Try.prog gl 13 sfeedSpec := by
 refine sound_awp (N := Try.f13.ntmps) (rs := Try.f13.results.toList) tok Try.func13 rfl rfl rfl rfl rfl ?_ ?_ ?_
 · rintro args ⟨p,l,rfl,hp,hl,hll⟩; simp [psOf_C,bytesV,nums_u8, Try.f13]
 · rintro args ⟨p,l,rfl,hp,hl,hll⟩; simp [psOf_C,bytesV,nums_u8, sfeedSpec, Try.f13]
 · rintro args ⟨p,l,rfl,hp,hl,hll⟩ bs hgl hh hro
   have hE : Env.OK ⟨Try.prog, T, G_sfeed, bs⟩ := ⟨tok, by rw [hgl]; exact G_sfeed_ok gl⟩
   simp only [sfeedSpec, psOf_C,bytesV,nums_u8]
   have eC : ∃ p', psC p = psC p' ∧ psOn p' ∧ p'.u.length ≤ 1000000 ∧ p'.it.length ≤ 1000000 ∧ p'.tx.length ≤ 1000000 := ⟨p, rfl, hp⟩
   have e2 := psOf_C p
   simp only [psC] at e2
   cases hm : may6 p with
   | false =>
     have hF : feedF p l = (sbegin 0, [], 160) := by unfold feedF; rw [hm]; rfl
     refine wpc_ok hE mixed _ _ _ ?_
     simp [sfeedSpec, checkSpec, mtakeSpec, Try.f13, psC, e2, hm, hF, evsC]
     exact ⟨⟨p, ⟨rfl, ⟨rfl, rfl⟩, rfl, rfl, ⟨rfl, rfl⟩, rfl, rfl, rfl⟩, hp⟩, rfl, ⟨rfl, rfl⟩, rfl, rfl, ⟨rfl, rfl⟩, rfl, rfl, rfl⟩
   | true =>
     by_cases h2 : 4096 < l.length
     · have h2' : (4096 < (l.length : Int)) = True := eq_true (by omega)
       have hF : feedF p l = (sbegin 0, [], 3) := by unfold feedF; rw [hm, if_pos h2]; rfl
       refine wpc_ok hE mixed _ _ _ ?_
       simp [sfeedSpec, checkSpec, mtakeSpec, Try.f13, psC, e2, hm, hF, h2', evsC]
       exact ⟨⟨p, ⟨rfl, ⟨rfl, rfl⟩, rfl, rfl, ⟨rfl, rfl⟩, rfl, rfl, rfl⟩, hp⟩, rfl, ⟨rfl, rfl⟩, rfl, rfl, ⟨rfl, rfl⟩, rfl, rfl, rfl⟩
     have h2' : (4096 < (l.length : Int)) = False := eq_false (by omega)
     have hF : feedF p l = ((feed6 p l).1, (feed6 p l).2, 0) := by unfold feedF; rw [hm, if_neg h2]; rfl
     refine wpcU_ok hE mixed 6 _ _ _ ?_
     simp [sfeedSpec, checkSpec, mtakeSpec, Try.f13, psC, e2, hm, hF, h2']
     refine ⟨⟨p, ⟨rfl, ⟨rfl, rfl⟩, rfl, rfl, ⟨rfl, rfl⟩, rfl, rfl, rfl⟩, hp⟩, ?_⟩
     refine AWP.regionH hE 1 ?_
     simp
     refine OpW.buildL tok (by simp) ?_
     simp
     have M0 := feedM p
     obtain ⟨H, hH⟩ : ∃ H, feedH p = H := ⟨_, rfl⟩
     rw [hH] at M0
     have m := M0.m
     have hz : putM H 2 .nil p [] = H := putM_self m
     have pa : ∀ (q : Ps) (new : List Ev), (putM H 2 .nil q new)[2]? = some (.box tM (maX q (evY H new .nil))) := fun q new => putM_at m q new
     have pp : ∀ (q r : Ps) (a b : List Ev), putM (putM H 2 .nil q a) 2 (evY H a .nil) r b = putM H 2 .nil r (a ++ b) := fun q r a b => putM_two m q r a b
     simp only [tM, maX] at pa
     refine AWP.leaves 0 (feedE p (feed6 p l)) (AWP.rounds (fun k => k ≤ l.length) (feedS p l) (fun k => l.length - k) 0 (by simp) ?_ ?_) ?_
     · have hw : putM (feedH p) 2 .nil (feed6 p (l.take 0)).1 (feed6 p (l.take 0)).2 = feedH p := by rw [hH]; exact hz
       unfold feedS
       rw [hw]
       exact Weak.ren [some 0, some 1, some 2] (baseOK.nil hh) (by simp) (by simp [feedH, psC, sbegin, tM, maX, parC, ints]) (by simp [feedH, psC, sbegin, tM, maX, parC, ints])
     · intro k hk
       refine wpc_ok hE mixed _ _ _ ?_
       unfold feedS
       rw [hH]
       rcases Nat.lt_or_ge k l.length with h | h
       · have hd := ints_at8 h
         have hs := feed_snoc p h
         have hmay := feed_may (l := l.take k) hm (bytes_take hl k)
         have hby := feed_bytes (l := l.take k) hp.1.1 (bytes_take hl k)
         have hln := feed_len (l.take k) p
         rw [List.length_take] at hln
         have hc := hl _ (List.getElem_mem h)
         have w1 : IntKind.i64.wrap ((k : Int) + 1) = ((k + 1 : Nat) : Int) := by rw [wrap64 _ (by omega) (by omega)]; omega
         have klt : ((k : Int) < l.length) = True := eq_true (by omega)
         generalize l[k] = c at *
         obtain ⟨y, hy⟩ : ∃ y, feed6 p (l.take k) = y := ⟨_, rfl⟩
         rw [hy] at hs hmay hby hln
         have M1 := M0.put (k := 830000) y.1 y.2 (by omega) (by omega)
         simp [hy, mtakeHS, macHS, hcEff, and_assoc, checkSpec, mtakeSpec, klt, hd, w1, pa, pp, maE, maP]
         refine ⟨⟨_, _, M1, take_on hmay hby hc⟩, Next.mk (k + 1) (by omega) (by omega) ?_⟩
         rw [hs]
         exact Weak.keep (by simp)
       · obtain rfl : k = l.length := by omega
         simp
         refine Leaves.mk ?_
         obtain ⟨y, hy⟩ : ∃ y, feed6 p l = y := ⟨_, rfl⟩
         rw [hy]
         have gs : ∀ x, H.set 2 (.box tM (maX y.1 x)) = [.box 25 ((psC p).map .val), .box 25 ((psC (sbegin 0)).map .val), .box tM (maX y.1 x)] := fun x => by rw [← hH]; rfl
         by_cases ye : y.2 = []
         · rw [ye, putM_nil m, gs]
           exact Weak.ren [some 0, some 1, some 2] (baseOK.nil hh) (by simp) (by simp [feedE, ye, evsC, psC, maX, tM]) (by simp [feedE, psC, maX, tM])
         · rcases putM_nilE (h := H) (id := 2) (q := y.1) ye with z | z
           · have g3 : H.length = 3 := by rw [← hH]; rfl
             rw [z, gs, g3]
             refine Weak.trans (Weak.solid 2 3 8 (xs := maX y.1 (.ref 3 (y.2.length - 1))) (ty := tM) (ver := y.2.length - 1) (ty' := tE) (p := true) (sz := 7) (m := y.2.length) (cs := evsC y.2) rfl rfl rfl) ?_
             exact Weak.ren [some 0, some 1, some 2] (baseOK.nil hh) (by simp) (by simp [feedE, psC, maX, tM]) (by simp [feedE, psC, maX, tM])
           · rw [← hH] at z; simp [feedH] at z
     simp [feedE, maX, tM, psC]
     exact rfl
end Fen
