/- A part of the proof; no statement is proved here: SRefA, SRefB, STypS. -/
import Derived.Test.YthmebgohfigfpaaFeedA
import Derived.Test.YthmebgohfigfpaaStA
import Derived.Test.YthmebgohfigfpaaCoreE

set_option linter.unusedVariables false
set_option linter.unusedSimpArgs false

namespace Fen
open Go Go.Proofs
def r05sameSpec : Spec := { pre := psameSpec.pre, res := psameSpec.res }
def r5S (a b : List (List Int)) (i : Nat) : St := ⟨58, [(0, .val (.sl a.length (parC a))), (1, .val (.sl b.length (parC b))), (5, .val (.int .i64 i))], []⟩
def r5T (a b : List (List Int)) (i k : Nat) : St := ⟨58, [(0, .val (.sl a.length (parC a))), (1, .val (.sl b.length (parC b))), (5, .val (.int .i64 i)), (6, .val (.int .i64 k))], []⟩
def G_r05same : Specs := []
@[simp] theorem G_r05same_live : Specs.live G_r05same = false := rfl
theorem G_r05same_ok (gl : Gl) : SpecsOK Try.prog gl G_r05same := .nil _ _
set_option maxHeartbeats 4000000 in
set_option maxRecDepth 10000 in
theorem r05same_sound (gl : Gl) : Sound Try.prog gl 36 r05sameSpec := by
 refine sound_awp (N := Try.f36.ntmps) (rs := Try.f36.results.toList) tok Try.func36 rfl rfl rfl rfl rfl ?_ ?_ ?_
 · rintro args ⟨a,b,rfl,ha1,ha2⟩; simp [unP_C,parV,psameSpec, Try.f36]
 · rintro args ⟨a,b,rfl,ha1,ha2⟩; simp [unP_C,parV,psameSpec, r05sameSpec, Try.f36]
 · rintro args ⟨a,b,rfl,ha1,ha2⟩ bs hgl hh hro
   have hE : Env.OK ⟨Try.prog, T, G_r05same, bs⟩ := ⟨tok, by rw [hgl]; exact G_r05same_ok gl⟩
   simp only [r05sameSpec, unP_C,parV,psameSpec]
   rcases Decidable.em (a.length = b.length) with h1 | h1
   rotate_left
   · have e : decide (a = b) = false := by simp; rintro rfl; exact h1 rfl
     have h1' : ((a.length : Int) = b.length) = False := eq_false (by omega)
     refine wpc_ok hE mixed _ _ _ ?_
     simp [r05sameSpec, Try.f36, h1', e]
   have h1' : ((a.length : Int) = b.length) = True := eq_true (by omega)
   refine wpc_ok hE mixed _ _ _ ?_
   simp [r05sameSpec, Try.f36, h1']
   refine AWP.rounds (fun i => i ≤ a.length ∧ a.take i = b.take i) (r5S a b) (fun i => a.length - i) 0 ⟨by simp, by simp⟩ ?_ ?_
   · exact Weak.keep (by simp [r5S])
   · rintro i ⟨hi, ht⟩
     refine wpc_ok hE mixed _ _ _ ?_
     rcases Nat.lt_or_ge i a.length with h | h
     · have hb : i < b.length := by omega
       have w1 : IntKind.i64.wrap ((i : Int) + 1) = ((i + 1 : Nat) : Int) := by rw [wrap64 _ (by omega) (by omega)]; omega
       have hda := parC_at h
       have hdb := parC_at hb
       have ta := List.take_add_one (l := a) (i := i)
       have tb := List.take_add_one (l := b) (i := i)
       rw [List.getElem?_eq_getElem h] at ta
       rw [List.getElem?_eq_getElem hb] at tb
       have hne : ¬ a[i] = b[i] → ¬ a = b := fun q e => by subst e; exact q rfl
       have hxl := ha2 _ (List.getElem_mem h)
       have ilt : ((i : Int) < a.length) = True := eq_true (by omega)
       have ilb : ((i : Int) < b.length) = True := eq_true (by omega)
       have il0 : (0 ≤ (i : Int)) = True := eq_true (by omega)
       have la : ((parC a).length) = a.length := parC_len a
       have lb : ((parC b).length) = b.length := parC_len b
       have la2 : (0 < a.length - i) = True := eq_true (by omega)
       have lb2 : (0 < b.length - i) = True := eq_true (by omega)
       generalize a[i] = x at *
       generalize b[i] = y at *
       simp only [subC] at hda hdb
       by_cases hl : x.length = y.length
       · have hl' : ((x.length : Int) = y.length) = True := eq_true (by omega)
         simp [r5S, hda, hdb, ilt, ilb, la, lb, la2, lb2, hl']
         refine ⟨rfl, ?_⟩
         refine AWP.rounds (fun k => k ≤ x.length ∧ x.take k = y.take k) (r5T a b i) (fun k => x.length - k) 0 ⟨by simp, by simp⟩ ?_ ?_
         · exact Weak.keep (by simp [r5T])
         · rintro k ⟨hk, hc⟩
           refine wpc_ok hE mixed _ _ _ ?_
           rcases Nat.lt_or_ge k x.length with g | g
           · have gb : k < y.length := by omega
             have w2 : IntKind.i64.wrap ((k : Int) + 1) = ((k + 1 : Nat) : Int) := by rw [wrap64 _ (by omega) (by omega)]; omega
             have hd := ints_at g
             have hdy := ints_at gb
             have tx := List.take_add_one (l := x) (i := k)
             have ty := List.take_add_one (l := y) (i := k)
             rw [List.getElem?_eq_getElem g] at tx
             rw [List.getElem?_eq_getElem gb] at ty
             have hnx : ¬ x[k] = y[k] → ¬ x = y := fun q e => by subst e; exact q rfl
             have klt : ((k : Int) < x.length) = True := eq_true (by omega)
             have klb : ((k : Int) < y.length) = True := eq_true (by omega)
             generalize x[k] = u at *
             generalize y[k] = v at *
             by_cases huv : u = v
             · have huv' : (u = v) = True := eq_true huv
               simp [r5T, hda, hdb, ilt, ilb, la, lb, la2, lb2, klt, klb, hd, hdy, w2, huv', g, gb]
               exact ⟨rfl, Next.mk (k + 1) ⟨g, by rw [tx, ty, hc, huv]⟩ (by omega) (Weak.keep (by simp [r5T]))⟩
             · have huv' : (u = v) = False := eq_false huv
               have hab : (a = b) = False := eq_false (hne (hnx huv))
               simp [r5T, hda, hdb, ilt, ilb, la, lb, la2, lb2, klt, klb, hd, hdy, w2, huv', g, gb, hab]
               exact rfl
           · have : k = x.length := by omega
             subst this
             have e : x = y := by rw [List.take_length, hl, List.take_length] at hc; exact hc
             simp [r5T, hda, hdb, ilt, ilb, la, lb, la2, lb2, w1]
             exact Next.mk (i + 1) ⟨h, by rw [ta, tb, ht, e]⟩ (by omega) (Weak.keep (by simp [r5S]))
       · have hl' : ((x.length : Int) = y.length) = False := eq_false (by omega)
         have hab : (a = b) = False := eq_false (hne (fun e => hl (by rw [e])))
         simp [r5S, hda, hdb, ilt, ilb, la, lb, la2, lb2, hl', hab]
         exact rfl
     · have : i = a.length := by omega
       subst this
       have e : a = b := by
         rw [List.take_length, h1, List.take_length] at ht
         exact ht
       subst e
       simp [r5S]
def r6sameSpec : Spec := { pre := sameSpec.pre, res := sameSpec.res }
def G_r6same : Specs := [(36, r05sameSpec)]
@[simp] theorem G_r6same_live : Specs.live G_r6same = false := rfl
@[simp] theorem G_r6same_36 : G_r6same.find 36 = some r05sameSpec := rfl
theorem G_r6same_ok (gl : Gl) : SpecsOK Try.prog gl G_r6same := .cons (r05same_sound gl) (.nil _ _)
set_option maxHeartbeats 2000000 in
set_option maxRecDepth 10000 in
theorem r6same_sound (gl : Gl) : Sound Try.prog gl 15 r6sameSpec := by
 refine sound_fn (N := Try.f15.ntmps) (rs := Try.f15.results.toList) mixed tok (G_r6same_ok gl) Try.func15 rfl rfl rfl rfl rfl ?_ ?_ ?_
 · rintro args ⟨a,b,rfl,ha,hb⟩; simp [psOf_C,sameSpec, Try.f15]
 · rintro args ⟨a,b,rfl,ha,hb⟩; simp [psOf_C,sameSpec, r6sameSpec, Try.f15]
 · rintro args ⟨a,b,rfl,ha,hb⟩ bs hgl hh hro
   have hE : Env.OK ⟨Try.prog, T, G_r6same, bs⟩ := ⟨tok, by rw [hgl]; exact G_r6same_ok gl⟩
   simp only [r6sameSpec, psOf_C,sameSpec]
   have k := u8_inj ha.1 hb
   have k2 : (a.u.map (fun n => UInt8.ofNat n.toNat) = b.u.map (fun n => UInt8.ofNat n.toNat)) ↔ a.u = b.u := k
   simp [r6sameSpec, r05sameSpec, Try.f15, psC, psameSpec]
   refine ⟨fun h1 h2 h3 h4 => ⟨⟨⟨⟨h1, h2⟩, h3⟩, h4⟩, a.ps, ⟨rfl, b.ps, rfl⟩, ha.2⟩, ?_⟩
   simp only [k2]
   rw [Bool.eq_iff_iff]
   cases a
   cases b
   simp
   constructor
   · rintro ⟨⟨⟨⟨⟨⟨⟨rfl, rfl⟩, rfl⟩, rfl⟩, rfl⟩, rfl⟩, rfl⟩, rfl⟩; simp
   · rintro ⟨rfl, rfl, rfl, rfl, rfl, rfl, rfl, rfl⟩; simp
def r6alikeSpec : Spec := { pre := alikeSpec.pre, res := alikeSpec.res }
def G_r6alike : Specs := [(36, r05sameSpec)]
@[simp] theorem G_r6alike_live : Specs.live G_r6alike = false := rfl
@[simp] theorem G_r6alike_36 : G_r6alike.find 36 = some r05sameSpec := rfl
theorem G_r6alike_ok (gl : Gl) : SpecsOK Try.prog gl G_r6alike := .cons (r05same_sound gl) (.nil _ _)
set_option maxHeartbeats 2000000 in
set_option maxRecDepth 10000 in
theorem r6alike_sound (gl : Gl) : Sound Try.prog gl 19 r6alikeSpec := by
 refine sound_fn (N := Try.f19.ntmps) (rs := Try.f19.results.toList) mixed tok (G_r6alike_ok gl) Try.func19 rfl rfl rfl rfl rfl ?_ ?_ ?_
 · rintro args ⟨a,b,rfl,ha⟩; simp [evOf_C,alikeSpec, Try.f19]
 · rintro args ⟨a,b,rfl,ha⟩; simp [evOf_C,alikeSpec, r6alikeSpec, Try.f19]
 · rintro args ⟨a,b,rfl,ha⟩ bs hgl hh hro
   have hE : Env.OK ⟨Try.prog, T, G_r6alike, bs⟩ := ⟨tok, by rw [hgl]; exact G_r6alike_ok gl⟩
   simp only [r6alikeSpec, evOf_C,alikeSpec]
   simp [r6alikeSpec, r05sameSpec, Try.f19, evC, psameSpec]
   refine ⟨fun h1 h2 h3 h4 => ⟨⟨⟨⟨h1, h2⟩, h3⟩, h4⟩, a.ps, ⟨rfl, b.ps, rfl⟩, ha⟩, ?_⟩
   rw [Bool.eq_iff_iff]
   cases a
   cases b
   simp
   constructor
   · rintro ⟨⟨⟨⟨⟨⟨rfl, rfl⟩, rfl⟩, rfl⟩, rfl⟩, rfl⟩, rfl⟩; simp
   · rintro ⟨rfl, rfl, rfl, rfl, rfl, rfl, rfl⟩; simp
def EvsOK (l : List Ev) : Prop := l.length ≤ 1000000 ∧ ∀ e ∈ l, SubsOK e.ps
def unE : List C → List Ev
 | a :: b :: c :: d :: e :: f :: g :: l => evOf [a, b, c, d, e, f, g] :: unE l
 | _ => []
@[simp] theorem unE_C : ∀ l : List Ev, unE (evsC l) = l
 | [] => rfl
 | e :: l => by
   have h : evsC (e :: l) = evC e ++ evsC l := by simp [evsC]
   rw [h]
   show evOf (evC e) :: unE (evsC l) = _
   rw [evOf_C, unE_C l]
theorem evsC_drop (l : List Ev) : ∀ k : Nat, (evsC l).drop (k * 7) = evsC (l.drop k) := by
 induction l with
 | nil => intro k; simp [evsC]
 | cons e l ih =>
   intro k
   cases k with
   | zero => rfl
   | succ k =>
     have h : evsC (e :: l) = evC e ++ evsC l := by simp [evsC]
     rw [h, List.drop_succ_cons, ← ih k]
     have : (k + 1) * 7 = (evC e).length + k * 7 := by simp; omega
     rw [this, List.drop_append]
     simp
theorem evsC_at {l : List Ev} {k : Nat} (h : k < l.length) : (evsC l).drop (k * 7) = evC l[k] ++ (evsC l).drop ((k + 1) * 7) := by
 rw [evsC_drop, evsC_drop, List.drop_eq_getElem_cons h]
 simp only [evsC, List.flatMap_cons]
def eventsSpec : Spec := { pre := fun args => ∃ a b : List Ev, args = [.c (.sl a.length (evsC a)), .c (.sl b.length (evsC b))] ∧ EvsOK a, res := fun args => match args with
 | [.c (.sl _ a), .c (.sl _ b)] => .one (.val (.c (.bool (decide (unE a = unE b)))))
 | _ => .many [] }
def evS (a b : List Ev) (i : Nat) : St := ⟨27, [(0, .val (.sl a.length (evsC a))), (1, .val (.sl b.length (evsC b))), (5, .val (.int .i64 i))], []⟩
def G_events : Specs := [(19, r6alikeSpec)]
@[simp] theorem G_events_live : Specs.live G_events = false := rfl
@[simp] theorem G_events_19 : G_events.find 19 = some r6alikeSpec := rfl
theorem G_events_ok (gl : Gl) : SpecsOK Try.prog gl G_events := .cons (r6alike_sound gl) (.nil _ _)
set_option maxHeartbeats 4000000 in
set_option maxRecDepth 10000 in
theorem events_sound (gl : Gl) : Sound Try.prog gl 16 eventsSpec := by
 refine sound_awp (N := Try.f16.ntmps) (rs := Try.f16.results.toList) tok Try.func16 rfl rfl rfl rfl rfl ?_ ?_ ?_
 · rintro args ⟨a,b,rfl,ha1,ha2⟩; simp [unE_C, Try.f16]
 · rintro args ⟨a,b,rfl,ha1,ha2⟩; simp [unE_C, eventsSpec, Try.f16]
 · rintro args ⟨a,b,rfl,ha1,ha2⟩ bs hgl hh hro
   have hE : Env.OK ⟨Try.prog, T, G_events, bs⟩ := ⟨tok, by rw [hgl]; exact G_events_ok gl⟩
   simp only [eventsSpec, unE_C]
   rcases Decidable.em (a.length = b.length) with h1 | h1
   rotate_left
   · have e : decide (a = b) = false := by simp; rintro rfl; exact h1 rfl
     have h1' : ((a.length : Int) = b.length) = False := eq_false (by omega)
     refine wpc_ok hE mixed _ _ _ ?_
     simp [eventsSpec, r6alikeSpec, Try.f16, h1', e]
   have h1' : ((a.length : Int) = b.length) = True := eq_true (by omega)
   refine wpc_ok hE mixed _ _ _ ?_
   simp [eventsSpec, r6alikeSpec, Try.f16, h1']
   refine AWP.rounds (fun i => i ≤ a.length ∧ a.take i = b.take i) (evS a b) (fun i => a.length - i) 0 ⟨by simp, by simp⟩ ?_ ?_
   · exact Weak.keep (by simp [evS])
   · rintro i ⟨hi, ht⟩
     refine wpc_ok hE mixed _ _ _ ?_
     rcases Nat.lt_or_ge i a.length with h | h
     · have hb : i < b.length := by omega
       have w1 : IntKind.i64.wrap ((i : Int) + 1) = ((i + 1 : Nat) : Int) := by rw [wrap64 _ (by omega) (by omega)]; omega
       have hda := evsC_at h
       have hdb := evsC_at hb
       have ta := List.take_add_one (l := a) (i := i)
       have tb := List.take_add_one (l := b) (i := i)
       rw [List.getElem?_eq_getElem h] at ta
       rw [List.getElem?_eq_getElem hb] at tb
       have hne : ¬ a[i] = b[i] → ¬ a = b := fun q e => by subst e; exact q rfl
       have hxl := ha2 _ (List.getElem_mem h)
       have ilt : ((i : Int) < a.length) = True := eq_true (by omega)
       have ilb : ((i : Int) < b.length) = True := eq_true (by omega)
       generalize a[i] = x at *
       generalize b[i] = y at *
       have ex := evOf_C x
       have ey := evOf_C y
       simp only [evC] at hda hdb ex ey
       by_cases hl : x = y
       · have hl' : (x = y) = True := eq_true hl
         simp [evS, hda, hdb, ilt, ilb, hl', and_assoc, r6alikeSpec, alikeSpec, ex, ey, w1]
         exact ⟨⟨x, rfl, ⟨y, rfl⟩, hxl⟩, rfl, Next.mk (i + 1) ⟨h, by rw [ta, tb, ht, hl]⟩ (by omega) (Weak.keep (by simp [evS]))⟩
       · have hl' : (x = y) = False := eq_false hl
         have hab : (a = b) = False := eq_false (hne hl)
         simp [evS, hda, hdb, ilt, ilb, hl', hab, and_assoc, r6alikeSpec, alikeSpec, ex, ey]
         exact ⟨⟨x, rfl, ⟨y, rfl⟩, hxl⟩, rfl⟩
     · have : i = a.length := by omega
       subst this
       have e : a = b := by
         rw [List.take_length, h1, List.take_length] at ht
         exact ht
       subst e
       simp [evS]
end Fen

namespace Fen
open Go Go.Proofs
theorem one_evs {p : Ps} {b : Int} : ∀ e ∈ (one6 p b).2, e.ps = [] ∨ e.ps = p.ps := by
 have ht : ∀ {v : Ev}, (v.ps = [] ∨ v.ps = p.ps) → ∀ e ∈ (told p v).2, e.ps = [] ∨ e.ps = p.ps := fun {v} h e he => by
   unfold told at he
   split at he
   · simp at he
   · simp at he; subst he; exact h
 have hc : ∀ c, ∀ e ∈ (ctlF c).2, e.ps = [] := fun c e he => by
   unfold ctlF at he
   (repeat' split at he) <;> simp at he
   subst he; rfl
 have hp : ∀ u, ∀ e ∈ (printsF u b).2, e.ps = [] := fun u => by
   have key : ∀ (l : List Int) (x : Ps × List Ev), (∀ e ∈ x.2, e.ps = []) → ∀ e ∈ (l.foldl code1 x).2, e.ps = [] := by
     intro l
     induction l with
     | nil => intro x h; exact h
     | cons c l ih =>
       intro x h
       refine ih _ fun e he => ?_
       unfold code1 at he
       split at he
       · rcases List.mem_append.1 he with q | q
         · exact h e q
         · exact hc c e q
       · split at he
         · rcases List.mem_append.1 he with q | q
           · exact h e q
           · simp at q; subst q; rfl
         · exact h e he
   exact key _ _ (fun e he => by simp at he)
 have hx : ∀ e ∈ (escapeF b).2, e.ps = [] := fun e he => by
   unfold escapeF at he
   (repeat' split at he) <;> simp at he
   subst he; rfl
 have he1 : ∀ e ∈ (esc1F b).2, e.ps = [] := fun e he => by
   unfold esc1F at he
   split at he
   · simp at he
   split at he
   · simp at he
   split at he
   · exact hp _ e he
   split at he
   · simp at he; subst he; rfl
   split at he
   · simp at he
   · exact hx e he
 have hl : ∀ e ∈ (lastF p b).2, e.ps = [] ∨ e.ps = p.ps := fun e he => by
   unfold lastF at he
   split at he
   · exact ht (.inr rfl) e he
   · simp at he
 intro e he
 unfold one6 at he
 split at he
 · exact .inl (hp _ e he)
 split at he
 · simp at he
 split at he
 · split at he <;> simp at he
 split at he
 · unfold endsF at he
   split at he
   · exact .inl (he1 e he)
   split at he
   · exact ht (.inl rfl) e he
   split at he
   · exact ht (.inr rfl) e he
   · simp at he
 split at he
 · unfold withinF at he
   split at he
   · exact ht (.inl rfl) e he
   split at he
   · simp at he
   split at he <;> simp at he
 split at he
 · exact .inl (hp _ e he)
 split at he
 · simp at he
   obtain ⟨_, rfl⟩ := he
   exact .inl rfl
 split at he
 · simp at he
 unfold goes6 at he
 split at he
 · simp at he; subst he; exact .inl rfl
 split at he
 · exact .inl (hx e he)
 split at he
 · unfold signsF at he
   split at he
   · simp at he
   · exact ht (.inl rfl) e he
 split at he
 · unfold entryF at he
   split at he
   · simp at he
   split at he
   · simp at he
   split at he
   · simp at he
   · exact hl e he
 split at he
 · unfold paramsF at he
   split at he
   · simp at he
   split at he
   · simp at he
   split at he
   · simp at he
   · exact hl e he
 · unfold intersF at he
   split at he
   · simp at he
   split at he
   · simp at he
   · exact hl e he
theorem may_subs {p : Ps} (h : may6 p = true) : SubsOK p.ps := by
 obtain ⟨hs, h1, h2⟩ := may_iff.1 h
 cases q : p.bad with
 | true =>
   obtain ⟨k1, k2⟩ := h1 q
   simp [noneIn] at k2
   simp [k2.2.2.2.1, SubsOK]
 | false => exact subs_of (h2 q).ps
theorem feed_evs : ∀ {l : List Int} {p : Ps}, may6 p = true → Bytes l → ∀ e ∈ (feed6 p l).2, SubsOK e.ps
 | [], p, h, _, e, he => by simp [feed6] at he
 | b :: l, p, h, hl, e, he => by
   simp only [feed6] at he
   rcases List.mem_append.1 he with q | q
   · rcases one_evs e q with z | z
     · rw [z]; simp [SubsOK]
     · rw [z]; exact may_subs h
   · exact feed_evs (one_may h hl.cons.1) hl.cons.2 e q
theorem feed_evsOK {l : List Int} {p : Ps} (h : may6 p = true) (hl : Bytes l) (hn : l.length ≤ 400000) : EvsOK (feed6 p l).2 :=
 ⟨by have := feed_len l p; omega, feed_evs h hl⟩
theorem may_on {p : Ps} (h : may6 p = true) (hu : Bytes p.u) : psFit p := by
 have T := take_on (b := 0) h hu (by decide)
 exact ⟨⟨hu, T.ps⟩, T.ul, by have := T.it; omega, by have := T.tx; omega⟩
def ones (l : List Int) : List (List Int) := l.map fun n => [n]
def lparS (l : List Int) (i : Nat) : St := ⟨21, [(0, .val (.sl l.length (ints .i64 l))), (3, if i = 0 then .nil else .ref 0 (i - 1)), (4, .val (.int .i64 i))], if i = 0 then [] else [.sl 51 (i - 1) true 1 i (parC (ones (l.take i)))]⟩
def lparamsSpec : Spec := { pre := fun args => ∃ l : List Int, args = [intsV l] ∧ l.length ≤ 1000, res := fun args => match args with
 | [.c (.sl _ l)] => .one (.val (parV (ones (nums l))))
 | _ => .many [] }
def G_lparams : Specs := []
@[simp] theorem G_lparams_live : Specs.live G_lparams = false := rfl
theorem G_lparams_ok (gl : Gl) : SpecsOK Try.prog gl G_lparams := .nil _ _
set_option maxRecDepth 10000 in
theorem lparams_sound (gl : Gl) : Sound Try.prog gl 32 lparamsSpec := by
 refine sound_awp (N := Try.f32.ntmps) (rs := Try.f32.results.toList) tok Try.func32 rfl rfl rfl rfl rfl ?_ ?_ ?_
 · rintro args ⟨l,rfl,hl⟩; simp [nums_I,intsV, Try.f32]
 · rintro args ⟨l,rfl,hl⟩; simp [nums_I,intsV, lparamsSpec, Try.f32]
 · rintro args ⟨l,rfl,hl⟩ bs hgl hh hro
   have hE : Env.OK ⟨Try.prog, T, G_lparams, bs⟩ := ⟨tok, by rw [hgl]; exact G_lparams_ok gl⟩
   simp only [lparamsSpec, nums_I,intsV]
   refine wpc_ok hE mixed _ _ _ ?_
   simp [lparamsSpec, Try.f32]
   refine AWP.rounds (fun i => i ≤ l.length) (lparS l) (fun i => l.length - i) 0 (by simp) ?_ ?_
   · exact Weak.keep (by simp [lparS])
   · intro i hi
     refine wpc_ok hE mixed _ _ _ ?_
     rcases Nat.lt_or_ge i l.length with h | h
     · have w1 : IntKind.i64.wrap ((i : Int) + 1) = ((i + 1 : Nat) : Int) := by rw [wrap64 _ (by omega) (by omega)]; omega
       have hd := ints_at h
       have ilt : ((i : Int) < l.length) = True := eq_true (by omega)
       have ht : ones (l.take (i + 1)) = ones (l.take i) ++ [[l[i]]] := by unfold ones; rw [List.take_add_one, List.getElem?_eq_getElem h, List.map_append]; rfl
       generalize l[i] = n at *
       by_cases i0 : i = 0
       · subst i0
         have ilt' : (0 < l.length) = True := eq_true h
         have l0 : (l = []) = False := eq_false (fun e => by rw [e] at h; simp at h)
         have ht' : ones (l.take 1) = [[n]] := by have := ht; simpa [ones] using this
         simp [lparS, hd, ilt', l0]
         exact Next.mk 1 (by omega) (by omega) (Weak.ren [some 0] (baseOK.nil hh) (by simp) (by simp [lparS, ht', parC, subC, ints]) (by simp [lparS]))
       · simp [lparS, i0, hd, ilt, w1]
         have e1 : i - 1 + 1 = i := by omega
         have e2 : parC (ones (l.take (i + 1))) = parC (ones (l.take i)) ++ [.sl 1 [.int .i64 n]] := by rw [ht, parC_app]; rfl
         exact ⟨⟨by omega, by omega⟩, Next.mk (i + 1) (by omega) (by omega) (Weak.ren [some 0] (baseOK.nil hh) (by simp) (by simp [lparS, e1, e2]) (by simp [lparS, e1]))⟩
     · have : i = l.length := by omega
       subst this
       by_cases i0 : l.length = 0
       · simp [lparS, i0]
         have : l = [] := List.eq_nil_of_length_eq_zero i0
         subst this; rfl
       · simp [lparS, i0]
         simp [parV, ones]
def lcsiSpec : Spec := { pre := fun args => ∃ (f : Int) (l : List Int), args = [.c (.int .u8 f), intsV l] ∧ l.length ≤ 1000, res := fun args => match args with
 | [.c (.int _ f), .c (.sl _ l)] => .one (.val (.agg (evC ⟨4, 0, 0, f, ones (nums l), [], []⟩)))
 | _ => .many [] }
def G_lcsi : Specs := [(32, lparamsSpec)]
@[simp] theorem G_lcsi_live : Specs.live G_lcsi = false := rfl
@[simp] theorem G_lcsi_32 : G_lcsi.find 32 = some lparamsSpec := rfl
theorem G_lcsi_ok (gl : Gl) : SpecsOK Try.prog gl G_lcsi := .cons (lparams_sound gl) (.nil _ _)
set_option maxRecDepth 10000 in
theorem lcsi_sound (gl : Gl) : Sound Try.prog gl 24 lcsiSpec := by
 refine sound_fn (N := Try.f24.ntmps) (rs := Try.f24.results.toList) mixed tok (G_lcsi_ok gl) Try.func24 rfl rfl rfl rfl rfl ?_ ?_ ?_
 · rintro args ⟨f,l,rfl,hl⟩; simp [nums_I,intsV, Try.f24]
 · rintro args ⟨f,l,rfl,hl⟩; simp [nums_I,intsV, lcsiSpec, Try.f24]
 · rintro args ⟨f,l,rfl,hl⟩ bs hgl hh hro
   have hE : Env.OK ⟨Try.prog, T, G_lcsi, bs⟩ := ⟨tok, by rw [hgl]; exact G_lcsi_ok gl⟩
   simp only [lcsiSpec, nums_I,intsV]
   have el : ∃ l' : List Int, l.length = l'.length ∧ l = l' ∧ l'.length ≤ 1000 := ⟨l, rfl, rfl, hl⟩
   simp [and_assoc, lcsiSpec, lparamsSpec, Try.f24, evC, parV, intsV, el]
def lescSpec : Spec := { pre := fun args => ∃ (it : List UInt8) (f : Int), args = [.c (.str it), .c (.int .u8 f)], res := fun args => match args with
 | [.c (.str it), .c (.int _ f)] => .one (.val (.agg (evC (evEsc it f))))
 | _ => .many [] }
def G_lesc : Specs := []
@[simp] theorem G_lesc_live : Specs.live G_lesc = false := rfl
theorem G_lesc_ok (gl : Gl) : SpecsOK Try.prog gl G_lesc := .nil _ _
set_option maxRecDepth 10000 in
theorem lesc_sound (gl : Gl) : Sound Try.prog gl 20 lescSpec := by
 refine sound_fn (N := Try.f20.ntmps) (rs := Try.f20.results.toList) mixed tok (G_lesc_ok gl) Try.func20 rfl rfl rfl rfl rfl ?_ ?_ ?_
 · rintro args ⟨it,f,rfl⟩; simp [Try.f20]
 · rintro args ⟨it,f,rfl⟩; simp [lescSpec, Try.f20]
 · rintro args ⟨it,f,rfl⟩ bs hgl hh hro
   have hE : Env.OK ⟨Try.prog, T, G_lesc, bs⟩ := ⟨tok, by rw [hgl]; exact G_lesc_ok gl⟩
   simp [lescSpec, Try.f20, evC, evEsc, parC]
def loscSpec : Spec := { pre := fun args => ∃ (tx : List UInt8), args = [.c (.str tx)], res := fun args => match args with
 | [.c (.str tx)] => .one (.val (.agg (evC (evOsc tx))))
 | _ => .many [] }
def G_losc : Specs := []
@[simp] theorem G_losc_live : Specs.live G_losc = false := rfl
theorem G_losc_ok (gl : Gl) : SpecsOK Try.prog gl G_losc := .nil _ _
set_option maxRecDepth 10000 in
theorem losc_sound (gl : Gl) : Sound Try.prog gl 25 loscSpec := by
 refine sound_fn (N := Try.f25.ntmps) (rs := Try.f25.results.toList) mixed tok (G_losc_ok gl) Try.func25 rfl rfl rfl rfl rfl ?_ ?_ ?_
 · rintro args ⟨tx,rfl⟩; simp [Try.f25]
 · rintro args ⟨tx,rfl⟩; simp [loscSpec, Try.f25]
 · rintro args ⟨tx,rfl⟩ bs hgl hh hro
   have hE : Env.OK ⟨Try.prog, T, G_losc, bs⟩ := ⟨tok, by rw [hgl]; exact G_losc_ok gl⟩
   simp [loscSpec, Try.f25, evC, evOsc, parC]
def lprintSpec : Spec := { pre := fun args => ∃ c : Int, args = [.c (.int .i64 c)], res := fun args => match args with
 | [.c (.int _ c)] => .one (.val (.agg (evC (evCode 1 c))))
 | _ => .many [] }
def G_lprint : Specs := []
@[simp] theorem G_lprint_live : Specs.live G_lprint = false := rfl
theorem G_lprint_ok (gl : Gl) : SpecsOK Try.prog gl G_lprint := .nil _ _
set_option maxRecDepth 10000 in
theorem lprint_sound (gl : Gl) : Sound Try.prog gl 23 lprintSpec := by
 refine sound_fn (N := Try.f23.ntmps) (rs := Try.f23.results.toList) mixed tok (G_lprint_ok gl) Try.func23 rfl rfl rfl rfl rfl ?_ ?_ ?_
 · rintro args ⟨c,rfl⟩; simp [Try.f23]
 · rintro args ⟨c,rfl⟩; simp [lprintSpec, Try.f23]
 · rintro args ⟨c,rfl⟩ bs hgl hh hro
   have hE : Env.OK ⟨Try.prog, T, G_lprint, bs⟩ := ⟨tok, by rw [hgl]; exact G_lprint_ok gl⟩
   simp [lprintSpec, Try.f23, evC, evCode, parC]
def tellsB (s : List UInt8) (l : List Ev) : Bool := decide (feedF (sbegin 0) (nums8 s) = (sbegin 0, l, 0))
def TellsOK (n : Nat) (cs : List C) : Prop := ∃ l : List Ev, n = l.length ∧ cs = evsC l
theorem TellsOK.of {n : Nat} {cs : List C} (h1 : n = (unE cs).length) (h2 : cs = evsC (unE cs)) : TellsOK n cs := ⟨_, h1, h2⟩
def tellsSpec : Spec := { pre := fun args => ∃ (s : List UInt8) (n : Nat) (cs : List C), args = [.c (.str s), .c (.sl n cs)] ∧ TellsOK n cs ∧ s.length ≤ 100000, res := fun args => match args with
 | [.c (.str s), .c (.sl _ l)] => .one (.val (.c (.bool (tellsB s (unE l)))))
 | _ => .many [] }
def G_tells : Specs := [(13, sfeedSpec), (16, eventsSpec), (15, r6sameSpec)]
@[simp] theorem G_tells_live : Specs.live G_tells = false := rfl
@[simp] theorem G_tells_13 : G_tells.find 13 = some sfeedSpec := rfl
@[simp] theorem G_tells_16 : G_tells.find 16 = some eventsSpec := rfl
@[simp] theorem G_tells_15 : G_tells.find 15 = some r6sameSpec := rfl
theorem G_tells_ok (gl : Gl) : SpecsOK Try.prog gl G_tells := .cons (sfeed_sound gl) (.cons (events_sound gl) (.cons (r6same_sound gl) (.nil _ _)))
set_option maxHeartbeats 4000000 in
set_option maxRecDepth 10000 in
theorem tells_sound (gl : Gl) : Sound Try.prog gl 22 tellsSpec := by
 refine sound_fn (N := Try.f22.ntmps) (rs := Try.f22.results.toList) mixed tok (G_tells_ok gl) Try.func22 rfl rfl rfl rfl rfl ?_ ?_ ?_
 · rintro args ⟨s,n,cs,rfl,⟨l,rfl,rfl⟩,hs⟩; simp [unE_C, Try.f22]
 · rintro args ⟨s,n,cs,rfl,⟨l,rfl,rfl⟩,hs⟩; simp [unE_C, tellsSpec, Try.f22]
 · rintro args ⟨s,n,cs,rfl,⟨l,rfl,rfl⟩,hs⟩ bs hgl hh hro
   have hE : Env.OK ⟨Try.prog, T, G_tells, bs⟩ := ⟨tok, by rw [hgl]; exact G_tells_ok gl⟩
   simp only [tellsSpec, unE_C]
   have hby := nums8_bytes s
   have hm : may6 (sbegin 0) = true := may_begin.1
   have hl8 : (nums8 s).length = s.length := by simp [nums8]
   have e1 : s.map byteC = ints .u8 (nums8 s) := by simp [nums8, ints, byteC]
   have e2 : nums (ints .u8 (nums8 s)) = nums8 s := nums_u8 _
   have e3 : psOf [.int .i64 0, .sl 0 [], .int .u8 0, .int .u8 0, .sl 0 [], .str [], .str [], .bool false] = sbegin 0 := rfl
   obtain ⟨R, hR⟩ : ∃ R, feedF (sbegin 0) (nums8 s) = R := ⟨_, rfl⟩
   have e4 : psOf (psC R.1) = R.1 := psOf_C R.1
   simp only [psC] at e4
   have hT : tellsB s l = decide (R = (sbegin 0, l, 0)) := by unfold tellsB; rw [hR]
   have eF : (∃ p l, ((0 = p.s ∧ (0 = p.u.length ∧ p.u = []) ∧ 0 = p.pv ∧ 0 = p.fn ∧ (0 = p.ps.length ∧ parC p.ps = []) ∧ p.it = [] ∧ p.tx = [] ∧ p.bad = false) ∧ nums8 s = l ∧ s.length = l.length) ∧ psFit p ∧ Bytes l ∧ l.length ≤ 1000000) :=
     ⟨sbegin 0, nums8 s, ⟨⟨rfl, ⟨rfl, rfl⟩, rfl, rfl, ⟨rfl, rfl⟩, rfl, rfl, rfl⟩, rfl, hl8.symm⟩, may_on hm (fun x hx => by simp [sbegin] at hx), hby, by omega⟩
   have hRev : EvsOK R.2.1 := by
     rw [← hR]; unfold feedF
     rw [if_pos hm]
     split
     · exact ⟨by simp, fun e he => by simp at he⟩
     · exact feed_evsOK hm hby (by omega)
   have hRu : psOn R.1 ∧ Bytes (sbegin 0).u := by
     refine ⟨?_, fun x hx => by simp [sbegin] at hx⟩
     rw [← hR]; unfold feedF
     have h0 : psOn (sbegin 0) := ⟨fun x hx => by simp [sbegin] at hx, by simp [sbegin, SubsOK]⟩
     rw [if_pos hm]
     split
     · exact h0
     · exact (may_on (feed_may hm hby) (feed_bytes h0.1 hby)).1
   by_cases d1 : R.2.2 = 0
   · have d1' : (R.2.2 = 0) = True := eq_true d1
     by_cases d2 : R.2.1 = l
     · have d2' : (R.2.1 = l) = True := eq_true d2
       have hT2 : tellsB s l = decide (R.1 = sbegin 0) := by
         rw [hT, decide_eq_decide]
         constructor
         · intro h; rw [h]
         · intro h
           rcases R with ⟨q, m, e⟩
           simp only at d1 d2 h
           rw [d1, d2, h]
       simp [tellsSpec, eventsSpec, r6sameSpec, sfeedSpec, Try.f22, sameSpec, psC, e1, e2, e3, e4, hR, hT2, d1', d2', eF]
       exact ⟨by omega, ⟨R.2.1, ⟨⟨rfl, rfl⟩, l, rfl, rfl⟩, hRev⟩, R.1, sbegin 0, ⟨⟨rfl, ⟨rfl, rfl⟩, rfl, rfl, ⟨rfl, rfl⟩, rfl, rfl, rfl⟩, rfl, ⟨rfl, rfl⟩, rfl, rfl, ⟨rfl, rfl⟩, rfl, rfl, rfl⟩, hRu⟩
     · have d2' : (R.2.1 = l) = False := eq_false d2
       have hT2 : tellsB s l = false := by rw [hT]; exact decide_eq_false (fun h => d2 (by rw [h]))
       simp [tellsSpec, eventsSpec, r6sameSpec, sfeedSpec, Try.f22, sameSpec, psC, e1, e2, e3, e4, hR, hT2, d1', d2', eF]
       exact ⟨by omega, R.2.1, ⟨⟨rfl, rfl⟩, l, rfl, rfl⟩, hRev⟩
   · have d1' : (R.2.2 = 0) = False := eq_false d1
     have hT2 : tellsB s l = false := by rw [hT]; exact decide_eq_false (fun h => d1 (by rw [h]))
     simp [tellsSpec, eventsSpec, r6sameSpec, sfeedSpec, Try.f22, sameSpec, psC, e1, e2, e3, e4, hR, hT2, d1', eF]
     omega
def lworksSpec : Spec := { pre := fun args => args = [], res := fun _ => .one (.val (.c (.bool true))) }
def G_lworks : Specs := [(24, lcsiSpec), (32, lparamsSpec), (23, lprintSpec), (20, lescSpec), (25, loscSpec), (22, tellsSpec)]
@[simp] theorem G_lworks_live : Specs.live G_lworks = false := rfl
@[simp] theorem G_lworks_24 : G_lworks.find 24 = some lcsiSpec := rfl
@[simp] theorem G_lworks_32 : G_lworks.find 32 = some lparamsSpec := rfl
@[simp] theorem G_lworks_23 : G_lworks.find 23 = some lprintSpec := rfl
@[simp] theorem G_lworks_20 : G_lworks.find 20 = some lescSpec := rfl
@[simp] theorem G_lworks_25 : G_lworks.find 25 = some loscSpec := rfl
@[simp] theorem G_lworks_22 : G_lworks.find 22 = some tellsSpec := rfl
theorem G_lworks_ok (gl : Gl) : SpecsOK Try.prog gl G_lworks := .cons (lcsi_sound gl) (.cons (lparams_sound gl) (.cons (lprint_sound gl) (.cons (lesc_sound gl) (.cons (losc_sound gl) (.cons (tells_sound gl) (.nil _ _))))))
set_option maxHeartbeats 8000000 in
set_option maxRecDepth 10000 in
theorem lworks_sound (gl : Gl) : Sound Try.prog gl 17 lworksSpec := by
 refine sound_fn (N := Try.f17.ntmps) (rs := Try.f17.results.toList) mixed tok (G_lworks_ok gl) Try.func17 rfl rfl rfl rfl rfl ?_ ?_ ?_
 · rintro args rfl; simp [Try.f17]
 · rintro args rfl; simp [lworksSpec, Try.f17]
 · rintro args rfl bs hgl hh hro
   have hE : Env.OK ⟨Try.prog, T, G_lworks, bs⟩ := ⟨tok, by rw [hgl]; exact G_lworks_ok gl⟩
   have t0 : tellsB [97, 7, 195, 169] (unE [.int .i64 1, .int .i64 97, .int .u8 0, .int .u8 0, .sl 0 [], .str [], .str [], .int .i64 2, .int .i64 7, .int .u8 0, .int .u8 0, .sl 0 [], .str [], .str [], .int .i64 1, .int .i64 233, .int .u8 0, .int .u8 0, .sl 0 [], .str [], .str []]) = true := by decide +kernel
   have t1 : tellsB [27, 91, 49, 59, 50, 72, 27, 91, 63, 50, 53, 104] (unE [.int .i64 4, .int .i64 0, .int .u8 0, .int .u8 72, .sl 2 [.sl 1 [.int .i64 1], .sl 1 [.int .i64 2]], .str [], .str [], .int .i64 4, .int .i64 0, .int .u8 63, .int .u8 104, .sl 1 [.sl 1 [.int .i64 25]], .str [], .str []]) = true := by decide +kernel
   have t2 : tellsB [27, 40, 48, 27, 55, 27, 35, 56] (unE [.int .i64 3, .int .i64 0, .int .u8 0, .int .u8 48, .sl 0 [], .str [40], .str [], .int .i64 3, .int .i64 0, .int .u8 0, .int .u8 55, .sl 0 [], .str [], .str [], .int .i64 3, .int .i64 0, .int .u8 0, .int .u8 56, .sl 0 [], .str [35], .str []]) = true := by decide +kernel
   have t3 : tellsB [27, 93, 48, 59, 116, 7, 27, 93, 50, 59, 117, 27, 92] (unE [.int .i64 5, .int .i64 0, .int .u8 0, .int .u8 0, .sl 0 [], .str [], .str [48, 59, 116], .int .i64 5, .int .i64 0, .int .u8 0, .int .u8 0, .sl 0 [], .str [], .str [50, 59, 117]]) = true := by decide +kernel
   have t4 : tellsB [27, 91, 49, 13, 109] (unE [.int .i64 2, .int .i64 13, .int .u8 0, .int .u8 0, .sl 0 [], .str [], .str [], .int .i64 4, .int .i64 0, .int .u8 0, .int .u8 109, .sl 1 [.sl 1 [.int .i64 1]], .str [], .str []]) = true := by decide +kernel
   have t5 : tellsB [27, 91, 49, 24, 109, 27, 91, 60, 49, 63, 109, 120] (unE [.int .i64 1, .int .i64 109, .int .u8 0, .int .u8 0, .sl 0 [], .str [], .str [], .int .i64 1, .int .i64 120, .int .u8 0, .int .u8 0, .sl 0 [], .str [], .str []]) = true := by decide +kernel
   have t6 : tellsB [27, 80, 49, 36, 113, 109, 27, 92] (unE [.int .i64 6, .int .i64 0, .int .u8 0, .int .u8 113, .sl 1 [.sl 1 [.int .i64 1]], .str [36], .str [109]]) = true := by decide +kernel
   have t7 : tellsB [226, 130, 27, 99] (unE [.int .i64 1, .int .i64 65533, .int .u8 0, .int .u8 0, .sl 0 [], .str [], .str [], .int .i64 3, .int .i64 0, .int .u8 0, .int .u8 99, .sl 0 [], .str [], .str []]) = true := by decide +kernel
   simp [lworksSpec, lcsiSpec, lescSpec, loscSpec, lparamsSpec, lprintSpec, tellsSpec, Try.f17, evC, evCode, evEsc, evOsc, ones, nums, toI, parC, subC, ints, parV, t0, t1, t2, t3, t4, t5, t6, t7]
   exact ⟨⟨104, [25], ⟨rfl, rfl, rfl⟩, by decide⟩, ⟨[1], ⟨rfl, rfl⟩, by decide⟩, ⟨_, _, _, ⟨rfl, rfl, rfl⟩, .of rfl rfl, by decide⟩, ⟨72, [1, 2], ⟨rfl, rfl, rfl⟩, by decide⟩, ⟨_, _, _, ⟨rfl, rfl, rfl⟩, .of rfl rfl, by decide⟩, ⟨_, _, _, ⟨rfl, rfl, rfl⟩, .of rfl rfl, by decide⟩, rfl, ⟨_, _, _, ⟨rfl, rfl, rfl⟩, .of rfl rfl, by decide⟩, ⟨109, [1], ⟨rfl, rfl, rfl⟩, by decide⟩, ⟨_, _, _, ⟨rfl, rfl, rfl⟩, .of rfl rfl, by decide⟩, ⟨_, _, _, ⟨rfl, rfl, rfl⟩, .of rfl rfl, by decide⟩, rfl, ⟨_, _, _, ⟨rfl, rfl, rfl⟩, .of rfl rfl, by decide⟩, ⟨_, _, _, ⟨rfl, rfl, rfl⟩, .of rfl rfl, by decide⟩⟩
end Fen

namespace Fen
open Go Go.Proofs
theorem u8_rng {n : Int} (h : IntKind.u8.min ≤ n ∧ n ≤ IntKind.u8.max) : 0 ≤ n ∧ n < 256 := by
 simp [IntKind.min, IntKind.max, IntKind.signed, IntKind.bits] at h
 omega
theorem maxLen_le {n : Nat} (h : n ≤ maxLen) : (n : Int) ≤ 9223372036854775807 := by
 unfold maxLen at h; omega
theorem arg_bytes {A : V} (h : TypedV T 22 A) : ∃ l : List Int, A = bytesV l ∧ Bytes l ∧ (l.length : Int) ≤ 9223372036854775807 := by
 obtain ⟨l, rfl, hl, hq⟩ := arg_ints T_22 T_5 h
 exact ⟨l, rfl, fun a ha => u8_rng (hq a ha), maxLen_le hl⟩
theorem arg_u8 {A : V} (h : TypedV T 5 A) : ∃ n : Int, A = .c (.int .u8 n) ∧ 0 ≤ n ∧ n < 256 := by
 obtain ⟨n, rfl, hn⟩ := arg_int T_5 h
 exact ⟨n, rfl, u8_rng hn⟩
theorem arg_text {A : V} (h : TypedV T 9 A) : ∃ l : List UInt8, A = .c (.str l) ∧ (l.length : Int) ≤ 9223372036854775807 := by
 obtain ⟨l, rfl, hl⟩ := arg_str T_9 h
 exact ⟨l, rfl, maxLen_le hl⟩
end Fen
