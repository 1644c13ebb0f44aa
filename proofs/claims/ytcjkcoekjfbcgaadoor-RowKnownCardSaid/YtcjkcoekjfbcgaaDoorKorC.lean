/- A part of the proof; no statement is proved here: Kora21, Kora22, Kora23, Kora24, Kora25, Kora26, Kora27, Kora28, Kora29, Kora30. -/
import Derived.Test.YtcjkcoekjfbcgaaDoorKorB

set_option linter.unusedVariables false
set_option linter.unusedSimpArgs false

/- Part 21: the same, for one whole operation and its guard. -/
namespace Fen
open Go Go.RowKit

section
variable {T : TT} {G : Specs} {gd : Bool} {h : List Blk}

theorem partVs_congr {ev ev2 : Operand → X} : ∀ {ps : List (Nat × Operand)} {h : List Blk}, (∀ p ∈ ps, ev p.2 = ev2 p.2) → partVs h ev ps = partVs h ev2 ps
  | [], _, _ => rfl
  | (i, o) :: ps, h, hp => by
    have h1 := hp _ (List.mem_cons_self ..)
    simp only at h1
    simp only [partVs, h1]
    cases toV h (ev2 o) with
    | none => rfl
    | some r => simp only; rw [partVs_congr fun p hq => hp p (List.mem_cons_of_mem _ hq)]

theorem partsPlain_congr {ev ev2 : Operand → X} : ∀ {ps : List (Nat × Operand)}, (∀ p ∈ ps, ev p.2 = ev2 p.2) → partsPlain ev ps = partsPlain ev2 ps
  | [], _ => rfl
  | (i, o) :: ps, hp => by
    have h1 := hp _ (List.mem_cons_self ..)
    simp only at h1
    simp only [partsPlain, h1]
    rw [partsPlain_congr fun p hq => hp p (List.mem_cons_of_mem _ hq)]

theorem map_congr' {α β : Type} {f g : α → β} {l : List α} (h : ∀ x ∈ l, f x = g x) : l.map f = l.map g := List.map_congr_left h

theorem opt_congr {ev ev2 : Operand → X} {o : Option Operand} (h : ∀ x, o = some x → ev x = ev2 x) : o.map ev = o.map ev2 := by
  cases o with
  | none => rfl
  | some x => simp [h x rfl]

theorem opF_congr {ev ev2 : Operand → X} (op : Op) (he : ∀ x ∈ op.operands.toList, ev x = ev2 x) : opF T G gd ev h op = opF T G gd ev2 h op := by
  cases op with
  | move x => simp only [opF, he x (by simp [Op.operands])]
  | assign x => simp only [opF, he x (by simp [Op.operands])]
  | extract x i => simp only [opF, he x (by simp [Op.operands])]
  | unOp u t x => cases u <;> simp only [opF, he x (by simp [Op.operands])]
  | binOp op t x y t2 => simp only [opF, he x (by simp [Op.operands]), he y (by simp [Op.operands])]
  | convert s d x => simp only [opF, he x (by simp [Op.operands])]
  | box t x => simp only [opF, he x (by simp [Op.operands])]
  | build t ps =>
    have hq : ∀ p ∈ ps.toList, ev p.2 = ev2 p.2 := fun p hp => he p.2 (by simp [Op.operands]; exact ⟨p.1, by simpa using hp⟩)
    have hm : ps.toList.map (fun p => (p.1, ev p.2)) = ps.toList.map (fun p => (p.1, ev2 p.2)) := List.map_congr_left fun p hp => by rw [hq p hp]
    simp only [opF, opBuildL, hm, opBuild, partVs_congr hq, partsPlain_congr hq]
  | buildSlice t n ps =>
    have hq : ∀ p ∈ ps.toList, ev p.2 = ev2 p.2 := fun p hp => he p.2 (by simp [Op.operands]; exact ⟨p.1, by simpa using hp⟩)
    have hm : ps.toList.map (fun p => (p.1, ev p.2)) = ps.toList.map (fun p => (p.1, ev2 p.2)) := List.map_congr_left fun p hp => by rw [hq p hp]
    simp only [opF, opBuildSliceL, hm, opBuildSlice, partVs_congr hq, partsPlain_congr hq]
  | load t x => simp only [opF, he x (by simp [Op.operands])]
  | store t x y => simp only [opF, he x (by simp [Op.operands]), he y (by simp [Op.operands])]
  | nilCheck x => simp only [opF, he x (by simp [Op.operands])]
  | makeFunc f first captured =>
    cases f with
    | func f =>
      have : captured.toList.map ev = captured.toList.map ev2 := map_congr' fun x hx => he x (by simp [Op.operands]; right; simpa using hx)
      simp only [opF, this]
    | _ => rfl
  | makeSlice t l c => simp only [opF, he l (by simp [Op.operands]), he c (by simp [Op.operands])]
  | slice t x lo hi mx =>
    have h1 : lo.map ev = lo.map ev2 := opt_congr fun y hy => he y (by simp [Op.operands, hy])
    have h2 : hi.map ev = hi.map ev2 := opt_congr fun y hy => he y (by simp [Op.operands, hy])
    have h3 : mx.map ev = mx.map ev2 := opt_congr fun y hy => he y (by simp [Op.operands, hy])
    simp only [opF, he x (by simp [Op.operands]), h1, h2, h3]
  | fieldAddr t x f => simp only [opF, he x (by simp [Op.operands])]
  | field t x f => simp only [opF, he x (by simp [Op.operands])]
  | indexAddr t x i => simp only [opF, he x (by simp [Op.operands]), he i (by simp [Op.operands])]
  | index t x i => simp only [opF, he x (by simp [Op.operands]), he i (by simp [Op.operands])]
  | call c =>
    obtain ⟨callee, args, argTypes⟩ := c
    cases callee with
    | value f =>
      have h1 : args.toList.map ev = args.toList.map ev2 := map_congr' fun x hx => he x (by simp [Op.operands, Call.operands]; right; simpa using hx)
      simp only [opF, he f (by simp [Op.operands, Call.operands]), h1]
    | invoke r m => rfl
    | builtin b =>
      have h1 : args.toList.map ev = args.toList.map ev2 := map_congr' fun x hx => he x (by simpa [Op.operands, Call.operands] using hx)
      have h2 : ∀ x, x ∈ args.toList → ev x = ev2 x := fun x hx => he x (by simpa [Op.operands, Call.operands] using hx)
      cases b <;> try rfl
      · simp only [opF]
        split
        · rename_i x y t u hargs _
          rw [h2 x (by simp [hargs]), h2 y (by simp [hargs])]
        · rfl
      · simp only [opF]
        split
        · rename_i x y t u hargs _
          rw [h2 x (by simp [hargs]), h2 y (by simp [hargs])]
        · rfl
      · simp only [opF]
        split
        · rename_i x t hargs _
          rw [h2 x (by simp [hargs])]
        · rfl
      · simp only [opF, h1]
      · simp only [opF, h1]
  | _ => rfl

theorem opF_acc {ev : Operand → X} {op : Op} {e : Eff} (he : opF T G gd ev h op = some e) : AccOK (fun h => opF T G gd ev h op) h e := by
  cases op with
  | move x => simp only [opF] at he; cases he; exact ⟨fun _ => rfl, fun _ _ => by simp only [opF]⟩
  | assign x => simp only [opF] at he; cases he; exact ⟨fun _ => rfl, fun _ _ => by simp only [opF]⟩
  | extract x i =>
    refine AccOK.of_map ((opF T G gd ev [] (.extract x i)).map fun e => (e.pre, e.x)) (fun h => ?_) he
    simp only [opF]; split
    · split <;> rfl
    · rfl
  | unOp u t x =>
    refine AccOK.of_map ((opF T G gd ev [] (.unOp u t x)).map fun e => (e.pre, e.x)) (fun h => ?_) he
    cases u <;> simp only [opF] <;> (try rfl) <;> (split <;> rfl)
  | binOp op t x y t2 => simp only [opF] at he; exact bin_acc he
  | convert s d x => simp only [opF] at he; exact convert_acc he
  | alloc t =>
    simp only [opF] at he
    split at he
    · split at he
      · cases he
      · cases he; exact write_acc rfl
    · cases he
  | box t x =>
    simp only [opF] at he
    split at he
    · split at he
      · cases he
      · cases he; exact write_acc rfl
    · cases he
  | build t ps =>
    simp only [opF] at he ⊢
    split at he
    · rename_i q
      simp only [q, if_true]; exact buildL_acc he
    · rename_i q
      simp only [if_neg q]; exact build_acc he
  | buildSlice t n ps =>
    simp only [opF] at he ⊢
    split at he
    · unfold opBuildSliceL at he
      split at he
      · split at he
        · split at he
          · cases he
          · cases he; exact write_acc rfl
        · cases he
      · cases he
    · rename_i q
      simp only [if_neg q]; exact buildSlice_acc he
  | load t x => simp only [opF] at he; exact load_acc he
  | store t x y =>
    simp only [opF] at he
    split at he
    · cases he
    · unfold opStore at he
      split at he
      · split at he
        · split at he
          · split at he
            · cases he; exact write_acc rfl
            · cases he
          · cases he
        · split at he
          · split at he
            · cases he; exact write_acc rfl
            · cases he
          · cases he
        · split at he
          · split at he
            · split at he
              · cases he; exact write_acc rfl
              · cases he
            · cases he
          · cases he
        · cases he
      · cases he
  | nilCheck x =>
    refine AccOK.of_map ((opF T G gd ev [] (.nilCheck x)).map fun e => (e.pre, e.x)) (fun h => ?_) he
    simp only [opF]; split <;> rfl
  | makeFunc f first captured =>
    cases f with
    | func f =>
      refine AccOK.of_map ((opF T G gd ev [] (.makeFunc (.func f) first captured)).map fun e => (e.pre, e.x)) (fun h => ?_) he
      simp only [opF]; split
      · split <;> rfl
      · rfl
    | _ => simp [opF] at he
  | makeSlice t l c =>
    simp only [opF] at he
    split at he
    · rename_i q
      simp only [opF, if_pos q]
      refine AccOK.of_map ((opMakeSliceV T [] t (ev l) (ev c)).map fun e => (e.pre, e.x)) (fun h => ?_) he
      unfold opMakeSliceV
      split
      · split <;> rfl
      · rfl
    split at he
    · unfold opMakeSliceL at he
      split at he
      · split at he
        · split at he
          · cases he
          · cases he; exact write_acc rfl
        · cases he
      · cases he
    unfold opMakeSlice at he
    split at he
    · split at he
      · split at he
        · cases he
        · cases he; exact write_acc rfl
      · cases he
    · cases he
  | slice t x lo hi mx => simp only [opF] at he; exact slice_acc he
  | fieldAddr t x f => simp only [opF] at he; exact fieldAddr_acc he
  | field t x f => simp only [opF] at he; exact field_acc he
  | indexAddr t x i => simp only [opF] at he; exact indexAddr_acc he
  | index t x i => simp only [opF] at he; exact index_acc he
  | call c =>
    obtain ⟨callee, args, argTypes⟩ := c
    cases callee with
    | value f => simp only [opF] at he; exact call_acc he
    | invoke r m => simp [opF] at he
    | builtin b =>
      cases b <;> try (simp [opF] at he; done)
      · simp only [opF] at he
        split at he
        · split at he
          · split at he
            · unfold opAppendX at he
              split at he
              · split at he
                · unfold apY at he
                  split at he
                  · split at he
                    · cases he
                    · split at he
                      · cases he; exact write_acc rfl
                      · split at he
                        · split at he
                          · cases he; exact write_acc rfl
                          · cases he
                        · split at he
                          · cases he; exact write_acc rfl
                          · cases he
                        · cases he
                      · cases he
                  · cases he
                · cases he
              · cases he
            unfold opAppend at he
            split at he
            · split at he
              · split at he
                · cases he
                · split at he
                  · cases he; exact write_acc rfl
                  · cases he; exact write_acc rfl
                  · split at he
                    · split at he
                      · cases he; exact write_acc rfl
                      · cases he
                    · cases he
                  · cases he
              · cases he
            · cases he
          · cases he
        · cases he
      · simp only [opF] at he
        split at he
        · unfold opCopy at he
          split at he
          · unfold copyE at he
            split at he
            · split at he
              · cases he
              · split at he
                · unfold copyB at he
                  split at he
                  · split at he
                    · cases he; exact write_acc rfl
                    · cases he
                  · cases he
                · unfold copyB at he
                  split at he
                  · split at he
                    · cases he; exact write_acc rfl
                    · cases he
                  · cases he
                · cases he
            · cases he
          · cases he
        · cases he
      · simp only [opF] at he
        split at he
        · rename_i hargs htypes
          obtain ⟨q1, q2⟩ := len_acc he
          exact ⟨q1, fun hp h2 => by simp only [opF, hargs, htypes]; exact q2 hp h2⟩
        · cases he
      · simp only [opF] at he; exact minmax_acc he
      · simp only [opF] at he; exact minmax_acc he
  | _ => simp [opF] at he

/-- the slots that an operation looks at -/
theorem evO_congr {gl : Gl} {r r2 : List (Nat × X)} {o : Oper} {ops : Array Oper} (hr : ∀ t ∈ o.looksAt ops, lk r t = lk r2 t) : ∀ x ∈ o.op.operands.toList, evO gl r x = evO gl r2 x := fun x hx => by
  cases x with
  | tmp t => exact hr t (by unfold Oper.looksAt; refine List.mem_append.2 (.inl ?_); exact List.mem_filterMap.2 ⟨_, hx, rfl⟩)
  | _ => rfl

theorem condsP_congr {ev ev2 : Operand → X} : ∀ {l : List Operand}, (∀ x ∈ l, ev x = ev2 x) → condsP ev l = condsP ev2 l
  | [], _ => rfl
  | x :: l, h => by
    simp only [condsP, h x (List.mem_cons_self ..)]
    rw [condsP_congr fun y hy => h y (List.mem_cons_of_mem _ hy)]

theorem opX_congr {ev ev2 : Operand → X} (op : Op) (he : ∀ x ∈ op.operands.toList, ev x = ev2 x) : opX T G gd ev h op = opX T G gd ev2 h op := by
  unfold opX
  split
  · rename_i c a b
    simp only [opPick, he c (by simp [Op.operands]), he a (by simp [Op.operands]), he b (by simp [Op.operands])]
  · rw [opF_congr (ev := fun o => (strip (ev o)).2) (ev2 := fun o => (strip (ev2 o)).2) _ (fun x hx => by simp only [he x hx]), condsP_congr he]

theorem opX_acc {ev : Operand → X} {op : Op} {e : Eff} (he : opX T G gd ev h op = some e) : AccOK (fun h => opX T G gd ev h op) h e := by
  unfold opX at he
  split at he
  · rename_i c a b
    refine AccOK.of_map ((opPick ev [] c a b).map fun e => (e.pre, e.x)) (fun h => ?_) (e := e) (h := h) (by simpa only [opX] using he)
    simp only [opX, opPick]; split <;> rfl
  · rename_i hne
    split at he
    · rename_i e0 he0
      cases he
      obtain ⟨q1, q2⟩ := opF_acc he0
      refine ⟨q1, fun hp h2 => ?_⟩
      have hh : opX T G gd ev h2 op = (match opF T G gd (fun o => (strip (ev o)).2) h2 op with | some e => some ⟨condsP ev op.operands.toList ∧ e.pre, e.x, e.acc, e.h⟩ | none => none) := by
        cases op <;> first | rfl | exact absurd rfl (hne _ _ _)
      have q3 := q2 hp h2
      simp only at q3
      simp only
      rw [hh, q3]
    · cases he

theorem opG_congr {gl : Gl} {ops : Array Oper} {o : Oper} {r r2 : List (Nat × X)} (hr : ∀ t ∈ o.looksAt ops, lk r t = lk r2 t) : opG T G gl ops o r h = opG T G gl ops o r2 h := by
  have hev := evO_congr (gl := gl) hr
  unfold opG
  split
  · exact opX_congr _ hev
  · rename_i g hg
    obtain ⟨j, b⟩ := g
    have hgc : guardC ops r (j, b) = guardC ops r2 (j, b) := by
      simp only [guardC]
      cases hd : (ops[j]?).bind (·.dst) with
      | none => rfl
      | some d =>
        simp only
        rw [hr d (by unfold Oper.looksAt; refine List.mem_append.2 (.inr ?_); simp [hg, hd])]
    rw [hgc, opX_congr _ hev]

theorem opG_acc {gl : Gl} {ops : Array Oper} {o : Oper} {r : List (Nat × X)} {e : Eff} (he : opG T G gl ops o r h = some e) : AccOK (fun h => opG T G gl ops o r h) h e := by
  unfold opG at he
  split at he
  · rename_i hg
    obtain ⟨q1, q2⟩ := opX_acc he
    exact ⟨q1, fun hp h2 => by simp only [opG, hg]; exact q2 hp h2⟩
  · rename_i g hg
    split at he
    · cases he
    · rename_i c hc
      split at he
      · rename_i e0 he0
        cases he
        obtain ⟨q1, q2⟩ := opX_acc he0
        refine ⟨q1, fun hp h2 => ?_⟩
        have := q2 hp h2
        simp only at this
        simp only [opG, hg, hc, this]
      · cases he

end
end Fen

/- Part 22: regions that draw their order. -/
namespace Fen
open Go Go.RowKit

/-- an operation's predecessors, as a number's bits -/
def befStep (acc : List Nat) (o : Oper) : Nat :=
  o.after.toList.foldr (fun e s => if Region.binds .any e then s ||| (2 ^ e.on ||| acc.getD e.on 0) else s) 0

def befs : List Oper → List Nat → List Nat
  | [], acc => acc
  | o :: l, acc => befs l (acc ++ [befStep acc o])

/-- what an operation does to the private heap: nothing; it reads; it reads one block; it changes what was there; it changes one block alone of the first n, and lays further ones -/
inductive AccI where
  | pure | read | write
  | peek (id : Nat)
  | grow (o : Option Nat) (n : Nat)
  deriving DecidableEq

instance : Inhabited AccI := ⟨.pure⟩

def neqO : Option Nat → Nat → Bool
  | none, _ => true
  | some j, i => !(Nat.beq j i)

def clashI : AccI → AccI → Bool
  | .pure, _ => false
  | _, .pure => false
  | .read, .read => false
  | .read, .peek _ => false
  | .peek _, .read => false
  | .peek _, .peek _ => false
  | .peek id, .grow o n => !(Nat.blt id n && neqO o id)
  | .grow o n, .peek id => !(Nat.blt id n && neqO o id)
  | _, _ => true

def AccI.of : Acc → AccI
  | .pure => .pure
  | .read => .read
  | .write => .write

def rdP : X → AccI
  | .ptr id _ _ => .peek id
  | _ => .read
def rdS : X → AccI
  | .ref id _ => .peek id
  | .view id _ _ _ => .peek id
  | _ => .read
def growP (n : Nat) : X → AccI
  | .nil => .grow none n
  | .ex _ _ _ => .grow none n
  | .ref id _ => .grow (some id) n
  | _ => .write
def callP (G : Specs) (n : Nat) (xs : List X) : X → AccI
  | .val (.fn k _) => match G.find k with
    | some s => if s.hp.isNone && xs.all plainX then .grow none n else .write
    | none => .write
  | _ => .write
def storeP (n : Nat) (a x : X) : AccI :=
  match a with
  | .ptr id _ _ => if plainX x = true then .grow (some id) n else .write
  | _ => .write
/-- the same, of an operation that no guard holds back -/
def accO (G : Specs) (ev : Operand → X) (h : List Blk) (op : Op) : Acc → AccI
  | .pure => .pure
  | .read => match op with
    | .load _ x => rdP (strip (ev x)).2
    | .slice _ x _ _ none => rdS (strip (ev x)).2
    | .call ⟨.builtin .len, args, _⟩ => match args.toList with | [x] => rdS (strip (ev x)).2 | _ => .read
    | _ => .read
  | .write => match op with
    | .call ⟨.builtin .append, args, _⟩ => match args.toList with | [d, _] => growP h.length (strip (ev d)).2 | _ => .write
    | .call ⟨.value f, args, _⟩ => callP G h.length (args.toList.map fun o => (strip (ev o)).2) (strip (ev f)).2
    | .alloc _ => .grow none h.length
    | .box _ _ => .grow none h.length
    | .makeSlice _ _ _ => .grow none h.length
    | .store _ a x => storeP h.length (strip (ev a)).2 (strip (ev x)).2
    | _ => .write
def accI (G : Specs) (gl : Gl) (o : Oper) (r : List (Nat × X)) (h : List Blk) (a : Acc) : AccI :=
  match o.guard with
  | none => accO G (evO gl r) h o.op a
  | some _ => .of a

def accAt (accs : List AccI) (i : Nat) : AccI := accs.getD i .pure

/-- whatever is not put in order goes together -/
def drawOK (ops : Array Oper) (accs : List AccI) : Bool :=
  let b := befs ops.toList []
  (List.range ops.size).all fun j =>
    (match ops[j]? with | some o => o.after.toList.all (fun e => !Region.binds .any e || e.on < j) | none => false) &&
    (List.range j).all fun i =>
      (b.getD j 0).testBit i ||
        ((match ops[i]?, ops[j]? with | some x, some y => x.apart ops y | _, _ => false) && !clashI (accAt accs i) (accAt accs j))

def wpD (E : Env) (ops : Array Oper) : List Oper → List AccI → (St → Prop) → St → Prop
  | [], accs, K, st => drawOK ops accs = true ∧ K st
  | o :: l, accs, K, st =>
    match opG E.T E.G E.bs.gl ops o st.r st.h with
    | some e => dstOK st.n o.dst ∧ e.pre ∧ wpD E ops l (accs ++ [accI E.G E.bs.gl o st.r st.h e.acc]) K (st.put o.dst e.x e.h)
    | none => False

/-- what the run in the text's order comes to -/
inductive Trace (E : Env) (ops : Array Oper) : List Oper → St → List Eff → St → Prop
  | nil (st : St) : Trace E ops [] st [] st
  | cons {o : Oper} {l : List Oper} {st st' : St} {e : Eff} {es : List Eff} (he : opG E.T E.G E.bs.gl ops o st.r st.h = some e) (hd : dstOK st.n o.dst) (hp : e.pre) (ht : Trace E ops l (st.put o.dst e.x e.h) es st') : Trace E ops (o :: l) st (e :: es) st'

def infoL (E : Env) : List Oper → St → List Eff → List AccI
  | o :: l, st, e :: es => accI E.G E.bs.gl o st.r st.h e.acc :: infoL E l (st.put o.dst e.x e.h) es
  | _, _, _ => []

theorem wpD_trace {E : Env} {ops : Array Oper} {K : St → Prop} : ∀ {l : List Oper} {accs : List AccI} {st : St}, wpD E ops l accs K st → ∃ es st', Trace E ops l st es st' ∧ drawOK ops (accs ++ infoL E l st es) = true ∧ K st'
  | [], accs, st, h => ⟨[], st, .nil st, by simpa [infoL] using h.1, h.2⟩
  | o :: l, accs, st, h => by
    simp only [wpD] at h
    split at h
    · rename_i e he
      obtain ⟨h1, h2, h3⟩ := h
      obtain ⟨es, st', t, hd, hk⟩ := wpD_trace h3
      exact ⟨e :: es, st', .cons he h1 h2 t, by simpa [infoL] using hd, hk⟩
    · exact h.elim

/-- the state in the midst of a region: those operations of l that D names have run -/
def midR (r : List (Nat × X)) : List Oper → List Eff → (Nat → Bool) → Nat → List (Nat × X)
  | o :: l, e :: es, D, k => midR (if D k = true then putR o.dst e.x r else r) l es D (k + 1)
  | _, _, _, _ => r

def midH (h : List Blk) : List Oper → List Eff → (Nat → Bool) → Nat → List Blk
  | _ :: l, e :: es, D, k => midH (if (D k && decide (e.acc = .write)) = true then e.h else h) l es D (k + 1)
  | _, _, _, _ => h

theorem befs_app : ∀ (l : List Oper) (acc : List Nat), ∃ m, befs l acc = acc ++ m ∧ m.length = l.length
  | [], acc => ⟨[], by simp [befs], rfl⟩
  | o :: l, acc => by
    obtain ⟨m, h1, h2⟩ := befs_app l (acc ++ [befStep acc o])
    exact ⟨befStep acc o :: m, by simp [befs, h1], by simp [h2]⟩

theorem befs_at : ∀ (l : List Oper) (acc : List Nat) (j : Nat) (o : Oper), l[j]? = some o → (befs l acc).getD (acc.length + j) 0 = befStep ((befs l acc).take (acc.length + j)) o
  | [], acc, j, o, h => by simp at h
  | x :: l, acc, 0, o, h => by
    simp at h; subst h
    obtain ⟨m, h1, h2⟩ := befs_app l (acc ++ [befStep acc x])
    simp only [befs, h1, Nat.add_zero]
    rw [List.append_assoc, List.take_left' rfl]
    simp [List.getD_eq_getElem?_getD]
  | x :: l, acc, j + 1, o, h => by
    simp at h
    have := befs_at l (acc ++ [befStep acc x]) j o h
    simp only [List.length_append, List.length_singleton] at this
    simp only [befs]
    rw [show acc.length + (j + 1) = acc.length + 1 + j from by omega]
    exact this

theorem befStep_bit {acc : List Nat} {o : Oper} {i : Nat} (h : (befStep acc o).testBit i = true) : ∃ e ∈ o.after.toList, Region.binds .any e = true ∧ (e.on = i ∨ (acc.getD e.on 0).testBit i = true) := by
  unfold befStep at h
  generalize o.after.toList = es at h ⊢
  induction es with
  | nil => simp at h
  | cons e es ih =>
    simp only [List.foldr_cons] at h
    split at h
    · rename_i hb
      rw [Nat.testBit_or, Nat.testBit_or] at h
      simp only [Bool.or_eq_true] at h
      rcases h with h | h | h
      · obtain ⟨e', h1, h2⟩ := ih h; exact ⟨e', List.mem_cons_of_mem _ h1, h2⟩
      · rw [Nat.testBit_two_pow] at h
        exact ⟨e, List.mem_cons_self .., hb, .inl (by simpa using h)⟩
      · exact ⟨e, List.mem_cons_self .., hb, .inr h⟩
    · obtain ⟨e', h1, h2⟩ := ih h; exact ⟨e', List.mem_cons_of_mem _ h1, h2⟩

/-- what stands before an operation has run where all that it names has, and where whoever has run had all that it names run -/
theorem bef_run (ops : Array Oper) (D : Nat → Bool) (hD : ∀ j o, ops[j]? = some o → D j = true → ∀ e ∈ o.after.toList, Region.binds .any e = true → D e.on = true)
    (hlt : ∀ (j : Nat) (o : Oper), ops[j]? = some o → ∀ e ∈ o.after.toList, Region.binds .any e = true → e.on < j) :
    ∀ (j : Nat) (o : Oper), ops[j]? = some o → (∀ e ∈ o.after.toList, Region.binds .any e = true → D e.on = true) → ∀ i, ((befs ops.toList []).getD j 0).testBit i = true → D i = true := by
  intro j
  induction j using Nat.strongRecOn with
  | _ j ih =>
    intro o ho hpre i hi
    have hat := befs_at ops.toList [] j o (by simpa using ho)
    simp only [List.length_nil, Nat.zero_add] at hat
    rw [hat] at hi
    obtain ⟨e, he, hb, h⟩ := befStep_bit hi
    have hj := hlt j o ho e he hb
    rcases h with rfl | h
    · exact hpre e he hb
    · have : ((befs ops.toList []).take j).getD e.on 0 = (befs ops.toList []).getD e.on 0 := by
        simp only [List.getD_eq_getElem?_getD, List.getElem?_take, if_pos hj]
      rw [this] at h
      have hjs : j < ops.size := (Array.getElem?_eq_some_iff.1 ho).1
      obtain ⟨o', ho'⟩ : ∃ o', ops[e.on]? = some o' := ⟨_, Array.getElem?_eq_getElem (by omega)⟩
      exact ih e.on hj o' ho' (hD e.on o' ho' (hpre e he hb)) i h

end Fen

/- Part 23: a region that draws its order comes to what the text's order comes to. -/
namespace Fen
open Go Go.RowKit

theorem lk_put_ne {t : Nat} {d : Option Tmp} {x : X} {r : List (Nat × X)} (h : d ≠ some t) : lk (putR d x r) t = lk r t := by
  cases d with
  | none => rfl
  | some u =>
    simp only [putR, lk]
    rw [if_neg]
    rintro rfl; exact h rfl

theorem lk_put_eq {t : Nat} {d : Option Tmp} {x : X} {r : List (Nat × X)} (h : d = some t) : lk (putR d x r) t = x := by
  subst h; simp [putR, lk]

theorem midR_skip {t : Nat} : ∀ {l : List Oper} {es : List Eff} {D : Nat → Bool} {k : Nat} {r : List (Nat × X)}, (∀ j o, l[j]? = some o → o.dst = some t → D (k + j) = false) → lk (midR r l es D k) t = lk r t
  | [], es, D, k, r, h => by cases es <;> rfl
  | o :: l, [], D, k, r, h => rfl
  | o :: l, e :: es, D, k, r, h => by
    simp only [midR]
    rw [midR_skip fun j o' hj hd => by have := h (j + 1) o' (by simpa using hj) hd; rwa [show k + 1 + j = k + (j + 1) from by omega]]
    split
    · rename_i hD
      refine lk_put_ne fun hu => ?_
      have := h 0 o (by simp) hu
      rw [Nat.add_zero, hD] at this; cases this
    · rfl

theorem midR_congr {t : Nat} : ∀ {l : List Oper} {es : List Eff} {D D' : Nat → Bool} {k : Nat} {r r' : List (Nat × X)}, (∀ j o, l[j]? = some o → o.dst = some t → D (k + j) = D' (k + j)) → lk r t = lk r' t →
    lk (midR r l es D k) t = lk (midR r' l es D' k) t
  | [], es, D, D', k, r, r', h, hr => by cases es <;> exact hr
  | o :: l, [], D, D', k, r, r', h, hr => hr
  | o :: l, e :: es, D, D', k, r, r', h, hr => by
    simp only [midR]
    refine midR_congr (fun j o' hj hd => by have := h (j + 1) o' (by simpa using hj) hd; rwa [show k + 1 + j = k + (j + 1) from by omega]) ?_
    by_cases hd : o.dst = some t
    · have h0 := h 0 o (by simp) hd
      rw [Nat.add_zero] at h0
      rw [h0]
      split
      · rw [lk_put_eq hd, lk_put_eq hd]
      · exact hr
    · have key : ∀ (b : Bool) (r : List (Nat × X)), lk (if b = true then putR o.dst e.x r else r) t = lk r t := fun b r => by
        split
        · exact lk_put_ne hd
        · rfl
      rw [key, key]; exact hr

theorem midR_none : ∀ {l : List Oper} {es : List Eff} {D : Nat → Bool} {k : Nat} {r : List (Nat × X)}, (∀ j, j < l.length → D (k + j) = false) → midR r l es D k = r
  | [], es, D, k, r, h => by cases es <;> rfl
  | o :: l, [], D, k, r, h => rfl
  | o :: l, e :: es, D, k, r, h => by
    have h0 := h 0 (by simp)
    rw [Nat.add_zero] at h0
    simp only [midR, h0, Bool.false_eq_true, if_false]
    exact midR_none fun j hj => by have := h (j + 1) (by simpa using hj); rwa [show k + 1 + j = k + (j + 1) from by omega]

theorem midR_add {t i : Nat} {oi : Oper} {ei : Eff} : ∀ {l : List Oper} {es : List Eff} {D : Nat → Bool} {k : Nat} {r : List (Nat × X)}, l[i]? = some oi → es[i]? = some ei → oi.dst = some t → D (k + i) = true →
    (∀ j o, l[j]? = some o → o.dst = some t → i < j → D (k + j) = false) → lk (midR r l es D k) t = ei.x
  | [], es, D, k, r, h1, h2, h3, h4, h5 => by simp at h1
  | o :: l, [], D, k, r, h1, h2, h3, h4, h5 => by simp at h2
  | o :: l, e :: es, D, k, r, h1, h2, h3, h4, h5 => by
    simp only [midR]
    cases i with
    | zero =>
      simp at h1 h2; subst h1; subst h2
      rw [Nat.add_zero] at h4
      rw [midR_skip fun j o' hj hd => by have := h5 (j + 1) o' (by simpa using hj) hd (by omega); rwa [show k + 1 + j = k + (j + 1) from by omega]]
      rw [if_pos h4]; exact lk_put_eq h3
    | succ i =>
      exact midR_add (i := i) (by simpa using h1) (by simpa using h2) h3 (by rwa [show k + 1 + i = k + (i + 1) from by omega])
        (fun j o' hj hd hij => by have := h5 (j + 1) o' (by simpa using hj) hd (by omega); rwa [show k + 1 + j = k + (j + 1) from by omega])

theorem midH_congr : ∀ {l : List Oper} {es : List Eff} {D D' : Nat → Bool} {k : Nat} {h : List Blk}, (∀ j e, j < l.length → es[j]? = some e → e.acc = .write → D (k + j) = D' (k + j)) → midH h l es D k = midH h l es D' k
  | [], es, D, D', k, h, hh => by cases es <;> rfl
  | o :: l, [], D, D', k, h, hh => rfl
  | o :: l, e :: es, D, D', k, h, hh => by
    simp only [midH]
    have : (if (D k && decide (e.acc = .write)) = true then e.h else h) = (if (D' k && decide (e.acc = .write)) = true then e.h else h) := by
      by_cases hw : e.acc = .write
      · have h0 := hh 0 e (by simp) (by simp) hw
        rw [Nat.add_zero] at h0
        rw [h0]
      · simp [hw]
    rw [this]
    exact midH_congr fun j e' hj he hw => by have := hh (j + 1) e' (by simpa using hj) (by simpa using he) hw; rwa [show k + 1 + j = k + (j + 1) from by omega]

theorem midH_none {l : List Oper} {es : List Eff} {D : Nat → Bool} {k : Nat} {h : List Blk} (hD : ∀ j e, j < l.length → es[j]? = some e → e.acc = .write → D (k + j) = false) : midH h l es D k = h := by
  have h1 : midH h l es D k = midH h l es (fun _ => false) k := midH_congr hD
  rw [h1]
  clear hD h1
  induction l generalizing es k with
  | nil => cases es <;> rfl
  | cons o l ih => cases es with
    | nil => rfl
    | cons e es => simp only [midH, Bool.false_and, Bool.false_eq_true, if_false]; exact ih

theorem midH_add {i : Nat} {oi : Oper} {ei : Eff} : ∀ {l : List Oper} {es : List Eff} {D : Nat → Bool} {k : Nat} {h : List Blk}, l[i]? = some oi → es[i]? = some ei → ei.acc = .write → D (k + i) = true →
    (∀ j e, j < l.length → es[j]? = some e → e.acc = .write → i < j → D (k + j) = false) → midH h l es D k = ei.h
  | [], es, D, k, h, h1, h2, h3, h4, h5 => by simp at h1
  | o :: l, [], D, k, h, h1, h2, h3, h4, h5 => by simp at h2
  | o :: l, e :: es, D, k, h, h1, h2, h3, h4, h5 => by
    simp only [midH]
    cases i with
    | zero =>
      simp at h1 h2; subst h1; subst h2
      rw [Nat.add_zero] at h4
      rw [midH_none fun j e' hj he hw => by have := h5 (j + 1) e' (by simpa using hj) (by simpa using he) hw (by omega); rwa [show k + 1 + j = k + (j + 1) from by omega]]
      simp [h4, h3]
    | succ i =>
      exact midH_add (i := i) (by simpa using h1) (by simpa using h2) h3 (by rwa [show k + 1 + i = k + (i + 1) from by omega])
        (fun j e' hj he hw hij => by have := h5 (j + 1) e' (by simpa using hj) (by simpa using he) hw (by omega); rwa [show k + 1 + j = k + (j + 1) from by omega])

theorem Trace.length {E : Env} {ops : Array Oper} {l : List Oper} {st st' : St} {es : List Eff} (t : Trace E ops l st es st') : es.length = l.length := by
  induction t with
  | nil => rfl
  | cons _ _ _ _ ih => simp [ih]

/-- the i-th operation, as the text's order meets it -/
theorem Trace.at {E : Env} {ops : Array Oper} {l : List Oper} {st st' : St} {es : List Eff} (t : Trace E ops l st es st') : ∀ (k i : Nat) (o : Oper), l[i]? = some o →
    ∃ e, es[i]? = some e ∧ dstOK st.n o.dst ∧ e.pre ∧ opG E.T E.G E.bs.gl ops o (midR st.r l es (fun j => decide (j < k + i)) k) (midH st.h l es (fun j => decide (j < k + i)) k) = some e ∧
      accAt (infoL E l st es) i = accI E.G E.bs.gl o (midR st.r l es (fun j => decide (j < k + i)) k) (midH st.h l es (fun j => decide (j < k + i)) k) e.acc := by
  induction t with
  | nil => intro k i o h; simp at h
  | @cons o l st st' e es he hd hp ht ih =>
    intro k i o' ho'
    cases i with
    | zero =>
      simp at ho'; subst ho'
      refine ⟨e, by simp, hd, hp, ?_⟩
      rw [midR_none (fun j _ => by simp), midH_none (fun j _ _ _ _ => by simp)]
      exact ⟨he, rfl⟩
    | succ i =>
      obtain ⟨e', h1, h2, h3, h4⟩ := ih (k + 1) i o' (by simpa using ho')
      have hn : (st.put o.dst e.x e.h).n = st.n := rfl
      refine ⟨e', by simpa using h1, hn ▸ h2, h3, ?_⟩
      have hD : (fun j => decide (j < k + (i + 1))) = (fun j => decide (j < k + 1 + i)) := by funext j; congr 1; apply propext; omega
      rw [hD]
      have hk : decide (k < k + 1 + i) = true := by simp; omega
      have hr : (if decide (k < k + 1 + i) = true then putR o.dst e.x st.r else st.r) = (st.put o.dst e.x e.h).r := by
        rw [if_pos hk]; rfl
      have hh : (if (decide (k < k + 1 + i) && decide (e.acc = .write)) = true then e.h else st.h) = (st.put o.dst e.x e.h).h := by
        have : (st.put o.dst e.x e.h).h = e.h := rfl
        rw [this]
        by_cases hw : e.acc = .write
        · rw [if_pos (by simp [hw]; omega)]
        · rw [if_neg (by simp [hw])]
          exact ((opG_acc he).1 hw).symm
      simp only [midR, midH]
      rw [hr, hh]
      refine ⟨h4.1, ?_⟩
      have : accAt (infoL E (o :: l) st (e :: es)) (i + 1) = accAt (infoL E l (st.put o.dst e.x e.h) es) i := by simp [accAt, infoL]
      rw [this]
      exact h4.2

theorem Trace.final {E : Env} {ops : Array Oper} {l : List Oper} {st st' : St} {es : List Eff} (t : Trace E ops l st es st') : ∀ (k : Nat) (D : Nat → Bool), (∀ j, j < l.length → D (k + j) = true) → st'.n = st.n ∧ midR st.r l es D k = st'.r ∧ midH st.h l es D k = st'.h := by
  induction t with
  | nil st => intro k D _; exact ⟨rfl, rfl, rfl⟩
  | @cons o l st st' e es he hd hp ht ih =>
    intro k D hD
    have hk := hD 0 (by simp)
    rw [Nat.add_zero] at hk
    obtain ⟨h1, h2, h3⟩ := ih (k + 1) D (fun j hj => by have := hD (j + 1) (by simpa using hj); rwa [show k + 1 + j = k + (j + 1) from by omega])
    have hn : (st.put o.dst e.x e.h).n = st.n := rfl
    have hr : (if D k = true then putR o.dst e.x st.r else st.r) = (st.put o.dst e.x e.h).r := by
      rw [if_pos hk]; rfl
    have hh : (if (D k && decide (e.acc = .write)) = true then e.h else st.h) = (st.put o.dst e.x e.h).h := by
      have : (st.put o.dst e.x e.h).h = e.h := rfl
      rw [this]
      by_cases hw : e.acc = .write
      · rw [if_pos (by simp [hw, hk])]
      · rw [if_neg (by simp [hw])]
        exact ((opG_acc he).1 hw).symm
    simp only [midR, midH]
    rw [hr, hh]
    exact ⟨h1.trans hn, h2, h3⟩

theorem count_set : ∀ {l : List Bool} {i : Nat}, l[i]? = some false → (l.set i true).count false + 1 = l.count false
  | [], i, h => by simp at h
  | b :: l, 0, h => by simp at h; subst h; simp
  | b :: l, i + 1, h => by
    have := count_set (l := l) (i := i) (by simpa using h)
    simp only [List.set_cons_succ, List.count_cons]
    omega

end Fen

/- Part 24: a region that draws its order is sound. -/
namespace Fen
open Go Go.RowKit

/-! ### what the finer words say -/
theorem accI_pure {G : Specs} {gl : Gl} {o : Oper} {r : List (Nat × X)} {h : List Blk} {a : Acc} : a = .pure → accI G gl o r h a = .pure := by
  rintro rfl
  unfold accI
  split <;> rfl
theorem accI_read {G : Specs} {gl : Gl} {o : Oper} {r : List (Nat × X)} {h : List Blk} {a : Acc} : a = .read → accI G gl o r h a = .read ∨ ∃ id, accI G gl o r h a = .peek id := by
  rintro rfl
  unfold accI
  split
  · simp only [accO]
    have key : ∀ x, rdS x = .read ∨ ∃ id, rdS x = .peek id := fun x => by
      unfold rdS
      split
      · exact .inr ⟨_, rfl⟩
      · exact .inr ⟨_, rfl⟩
      · exact .inl rfl
    split
    · unfold rdP
      split
      · exact .inr ⟨_, rfl⟩
      · exact .inl rfl
    · exact key _
    · split
      · exact key _
      · exact .inl rfl
    · exact .inl rfl
  · exact .inl rfl
theorem accI_write {G : Specs} {gl : Gl} {o : Oper} {r : List (Nat × X)} {h : List Blk} {a : Acc} : a = .write → accI G gl o r h a = .write ∨ ∃ b n, accI G gl o r h a = .grow b n := by
  rintro rfl
  unfold accI
  split
  · simp only [accO]
    split
    · split
      · unfold growP
        split
        · exact .inr ⟨_, _, rfl⟩
        · exact .inr ⟨_, _, rfl⟩
        · exact .inr ⟨_, _, rfl⟩
        · exact .inl rfl
      · exact .inl rfl
    · unfold callP
      split
      · split
        · split
          · exact .inr ⟨_, _, rfl⟩
          · exact .inl rfl
        · exact .inl rfl
      · exact .inl rfl
    · exact .inr ⟨_, _, rfl⟩
    · exact .inr ⟨_, _, rfl⟩
    · exact .inr ⟨_, _, rfl⟩
    · unfold storeP
      split
      · split
        · exact .inr ⟨_, _, rfl⟩
        · exact .inl rfl
      · exact .inl rfl
    · exact .inl rfl
  · exact .inl rfl
theorem clash_ww {a b : AccI} (ha : a = .write ∨ ∃ o n, a = .grow o n) (hb : b = .write ∨ ∃ o n, b = .grow o n) : clashI a b = true := by
  obtain rfl | ⟨o, n, rfl⟩ := ha <;> obtain rfl | ⟨o2, n2, rfl⟩ := hb <;> rfl
theorem clash_wr {a b : AccI} (ha : a = .write ∨ ∃ o n, a = .grow o n) (hb : b = .read) : clashI a b = true ∧ clashI b a = true := by
  subst hb
  obtain rfl | ⟨o, n, rfl⟩ := ha <;> exact ⟨rfl, rfl⟩
theorem clash_wp {a b : AccI} {id : Nat} (ha : a = .write ∨ ∃ o n, a = .grow o n) (hb : b = .peek id) (hc : clashI a b = false ∨ clashI b a = false) : ∃ o n, a = .grow o n ∧ id < n ∧ o ≠ some id := by
  subst hb
  have key : ∀ (o : Option Nat) (n : Nat), (!(Nat.blt id n && neqO o id)) = false → id < n ∧ o ≠ some id := fun o n h => by
    simp only [Bool.not_eq_false', Bool.and_eq_true] at h
    refine ⟨by simpa [Nat.blt_eq] using h.1, ?_⟩
    rintro rfl
    have := h.2
    simp [neqO] at this
  obtain rfl | ⟨o, n, rfl⟩ := ha
  · rcases hc with hc | hc <;> cases hc
  · rcases hc with hc | hc
    · obtain ⟨k1, k2⟩ := key o n hc; exact ⟨o, n, rfl, k1, k2⟩
    · obtain ⟨k1, k2⟩ := key o n hc; exact ⟨o, n, rfl, k1, k2⟩

theorem load_peek {T : TT} {h : List Blk} {t : Nat} {id ver off : Nat} {e : Eff} (he : opLoad T h t (.ptr id ver off) = some e) (ha : e.acc = .read) (h2 : List Blk) (hq : h2[id]? = h[id]?) : opLoad T h2 t (.ptr id ver off) = some ⟨e.pre, e.x, e.acc, h2⟩ := by
  have hc : cellsAt h2 (.ptr id ver off) = cellsAt h (.ptr id ver off) := by simp only [cellsAt, hq]
  unfold opLoad at he ⊢
  rw [hc]
  split at he
  · rename_i ti cs acc ht hcs
    split at he
    · rename_i q; cases he; simp only [q, if_true]
    · rename_i q; cases he; simp only [if_neg q]
  · rename_i ti xs acc ht hcs
    split at he
    · split at he
      · cases he; cases ha
      · cases he
    · rename_i q
      split at he
      · cases he; simp only [if_neg q]
      · cases he
  · cases he

theorem slice_peek {T : TT} {h : List Blk} {t : Nat} {x : X} {lo hi : Option X} {id : Nat} {e : Eff} (he : opSlice T h t x lo hi none = some e) (hx : rdS x = .peek id) (h2 : List Blk) (hq : h2[id]? = h[id]?) : opSlice T h2 t x lo hi none = some ⟨e.pre, e.x, e.acc, h2⟩ := by
  cases x with
  | ref i ver =>
    cases hx
    simp only [opSlice, hq] at he ⊢
    split at he
    · cases he
    · split at he
      · cases he
      · split at he
        · split at he
          · rename_i hv
            split at he
            · cases he; simp only [if_pos hv]
            · cases he
          · cases he
        · cases he
    · cases he
  | view i ver off n =>
    cases hx
    simp only [opSlice, hq] at he ⊢
    split at he
    · cases he
    · split at he
      · cases he
      · split at he
        · split at he
          · rename_i hv
            split at he
            · cases he; simp only [if_pos hv]
            · cases he
          · cases he
        · cases he
    · cases he
  | _ => cases hx

theorem len_peek {T : TT} {h : List Blk} {t : Nat} {x : X} {id : Nat} {e : Eff} (he : opLen T h t x = some e) (ha : e.acc = .read) (hx : rdS x = .peek id) (h2 : List Blk) (hq : h2[id]? = h[id]?) : opLen T h2 t x = some ⟨e.pre, e.x, e.acc, h2⟩ := by
  have hs : slOf h2 x = slOf h x := by
    cases x with
    | ref i ver => cases hx; simp only [slOf, hq]
    | view i ver off n => cases hx; simp only [slOf, hq]
    | _ => cases hx
  have hl : lenX h2 x = lenX h x := by
    cases x with
    | ref i ver => cases hx; simp only [lenX, hq]
    | view i ver off n => rfl
    | _ => cases hx
  unfold opLen at he ⊢
  rw [hs, hl]
  split at he
  · cases he; cases ha
  · split at he
    · cases he; cases ha
    · cases he
  · split at he
    · cases he; rfl
    · split at he
      · cases he; rfl
      · cases he
  · cases he

theorem opG_peek {T : TT} {G : Specs} {gl : Gl} {ops : Array Oper} {o : Oper} {r : List (Nat × X)} {h : List Blk} {e : Eff} {id : Nat} (he : opG T G gl ops o r h = some e) (hi : accI G gl o r h e.acc = .peek id) (h2 : List Blk) (hq : h2[id]? = h[id]?) :
    opG T G gl ops o r h2 = some ⟨e.pre, e.x, e.acc, h2⟩ := by
  have hr : e.acc = .read := by
    cases ha : e.acc with
    | pure => rw [accI_pure ha] at hi; cases hi
    | read => rfl
    | write => obtain q | ⟨_, _, q⟩ := accI_write (G := G) (gl := gl) (o := o) (r := r) (h := h) ha <;> (rw [q] at hi; cases hi)
  rw [hr] at hi
  unfold accI at hi
  unfold opG at he ⊢
  split at hi
  · rename_i hg
    rw [hg] at he ⊢
    simp only at he ⊢
    simp only [accO] at hi
    split at hi
    · rename_i t x hop
      rw [hop] at he ⊢
      unfold rdP at hi
      split at hi
      · rename_i id' ver off hx
        cases hi
        unfold opX at he ⊢
        simp only [opF] at he ⊢
        rw [hx] at he ⊢
        split at he
        · rename_i e0 he0
          cases he
          rw [load_peek he0 hr h2 hq]
        · cases he
      · cases hi
    · rename_i t x lo hi' hop
      rw [hop] at he ⊢
      unfold opX at he ⊢
      simp only [opF, Option.map_none] at he ⊢
      split at he
      · rename_i e0 he0
        cases he
        rw [slice_peek he0 hi h2 hq]
      · cases he
    · rename_i args ats hop
      rw [hop] at he ⊢
      split at hi
      · rename_i x hargs
        unfold opX at he ⊢
        simp only [opF] at he ⊢
        rw [hargs] at he ⊢
        split at he
        · rename_i e0 he0
          cases he
          split at he0
          · rename_i y t' hy hts
            cases hy
            rw [len_peek he0 hr hi h2 hq]
          · cases he0
        · cases he
      · cases hi
    · cases hi
  · cases hi

theorem impCs_app : ∀ (cs : List Comp) (h : List Blk), ∃ ex, (impCs h cs).2 = h ++ ex
  | [], h => ⟨[], by simp [impCs]⟩
  | c :: cs, h => by
    obtain ⟨ex, hx⟩ := impCs_app cs (impC h c).2
    simp only [impCs]
    rw [hx]
    cases c with
    | val v => exact ⟨ex, rfl⟩
    | own ty p sz n cells => exact ⟨_, by simp only [impC]; rw [List.append_assoc]⟩
theorem imp_app (h : List Blk) (rv : RV) : ∃ ex, (imp h rv).2 = h ++ ex := by
  cases rv with
  | one c =>
    cases c with
    | val v => exact ⟨[], by simp [imp, impC]⟩
    | own ty p sz n cells => exact ⟨_, rfl⟩
  | many cs => exact impCs_app cs h

theorem grow_call {s : Spec} {gd : Bool} {h : List Blk} {xs ys : List X} {e : Eff} (he : opCallS s gd h xs ys = some e) (hn : s.hp.isNone = true) (hp : xs.all plainX = true) (id : Nat) (hid : id < h.length) : e.h[id]? = h[id]? := by
  unfold opCallS at he
  split at he
  · rename_i hs; rw [hs] at hn; cases hn
  · unfold cvE at he
    obtain ⟨as, has⟩ := toVs_plain hp
    rw [has] at he
    simp only at he
    split at he
    · split at he
      · cases he; rfl
      · cases he
    · cases he
      obtain ⟨ex, hx⟩ := imp_app h (s.res as)
      simp only [hx]
      rw [List.getElem?_append_left hid]

theorem store_grow {T : TT} {h : List Blk} {t : Nat} {a x : X} {e : Eff} {b : Option Nat} {n : Nat} (he : opStore T h t a x = some e) (hi : storeP n a x = .grow b n) (id : Nat) (hb : b ≠ some id) : e.h[id]? = h[id]? := by
  unfold storeP at hi
  split at hi
  · rename_i i v o
    split at hi
    · rename_i hp
      cases hi
      have hne : i ≠ id := fun q => hb (by rw [q])
      unfold opStore at he
      split at he
      · rename_i ti i' ver off ht hq
        cases hq
        split at he
        · split at he
          · split at he
            · cases he; exact List.getElem?_set_ne hne
            · cases he
          · cases he
        · split at he
          · split at he
            · cases he; exact List.getElem?_set_ne hne
            · cases he
          · cases he
        · obtain ⟨a, ha⟩ := toV_plain (h := []) hp
          unfold storeCs at he
          rw [ha] at he
          have fin : ∀ (ver off : Nat) (new : List C) (e : Eff), (match h[i]? with
              | some (.sl ty v p sz n cs) => if ver = v then some (⟨p = true ∧ new.length = ti.size ∧ off + ti.size ≤ cs.length, .dead, .write, h.set i (.sl ty v p sz n (setSeg cs off ti.size new))⟩ : Eff) else none
              | _ => none) = some e → e.h[id]? = h[id]? := fun ver off new e q => by
            split at q
            · split at q
              · cases q; exact List.getElem?_set_ne hne
              · cases q
            · cases q
          cases a with
          | c c => exact fin _ _ _ _ he
          | agg cs => exact fin _ _ _ _ he
        · cases he
      · cases he
    · cases hi
  · cases hi

theorem opG_grow {T : TT} {G : Specs} {gl : Gl} {ops : Array Oper} {o : Oper} {r : List (Nat × X)} {h : List Blk} {e : Eff} {b : Option Nat} {n : Nat} (he : opG T G gl ops o r h = some e) (hi : accI G gl o r h e.acc = .grow b n) (id : Nat) (hid : id < n) (hb : b ≠ some id) :
    e.h[id]? = h[id]? := by
  have hr : e.acc = .write := by
    cases ha : e.acc with
    | pure => rw [accI_pure ha] at hi; cases hi
    | read => obtain q | ⟨_, q⟩ := accI_read (G := G) (gl := gl) (o := o) (r := r) (h := h) ha <;> (rw [q] at hi; cases hi)
    | write => rfl
  rw [hr] at hi
  unfold accI at hi
  unfold opG at he
  split at hi
  · rename_i hg
    rw [hg] at he
    simp only at he
    simp only [accO] at hi
    split at hi
    · rename_i args ats hop
      rw [hop] at he
      unfold opX at he
      simp only at he
      split at he
      · rename_i e0 he0
        cases he
        simp only
        split at hi
        · rename_i d s hargs
          simp only [opF] at he0
          rw [hargs] at he0
          split at he0
          · rename_i x y t u hxy hts
            have hx : x = d := by cases hxy; rfl
            subst hx
            split at he0
            · split at he0
              · unfold opAppendX at he0
                split at he0
                · split at he0
                  · unfold apY at he0
                    split at he0
                    · simp only [Bool.false_eq_true, if_false] at he0
                      unfold growP at hi
                      split at he0
                      · rename_i hd
                        rw [hd] at hi
                        cases hi; cases he0
                        simp only
                        rw [List.getElem?_append_left hid]
                      · rename_i hd
                        rw [hd] at hi
                        cases hi
                        split at he0
                        · split at he0
                          · cases he0
                            simp only
                            rw [List.getElem?_set_ne (fun q => hb (by rw [q]))]
                          · cases he0
                        · split at he0
                          · cases he0
                            simp only
                            rw [List.getElem?_set_ne (fun q => hb (by rw [q]))]
                          · cases he0
                        · cases he0
                      · cases he0
                    · cases he0
                  · cases he0
                · cases he0
              unfold opAppend at he0
              split at he0
              · split at he0
                · simp only [Bool.false_eq_true, if_false] at he0
                  unfold growP at hi
                  split at he0
                  · rename_i hd
                    rw [hd] at hi
                    cases hi; cases he0
                    simp only
                    rw [List.getElem?_append_left hid]
                  · rename_i hd
                    rw [hd] at hi
                    cases hi; cases he0
                    simp only
                    rw [List.getElem?_append_left hid]
                  · rename_i hd
                    rw [hd] at hi
                    cases hi
                    split at he0
                    · split at he0
                      · cases he0
                        simp only
                        rw [List.getElem?_set_ne (fun q => hb (by rw [q]))]
                      · cases he0
                    · cases he0
                  · cases he0
                · cases he0
              · cases he0
            · cases he0
          · cases he0
        · cases hi
      · cases he
    · rename_i f args ats hop
      rw [hop] at he
      unfold opX at he
      simp only at he
      split at he
      · rename_i e0 he0
        cases he
        simp only
        simp only [opF] at he0
        unfold callP at hi
        split at hi
        · rename_i k caps hf
          rw [hf] at he0
          unfold opCall at he0
          simp only at he0
          split at hi
          · rename_i s hs
            rw [hs] at he0
            simp only at he0
            split at hi
            · rename_i q
              cases hi
              simp only [Bool.and_eq_true] at q
              refine grow_call he0 q.1 ?_ id hid
              rw [List.all_append, q.2]
              simp [plainX]
            · cases hi
          · cases hi
        · cases hi
      · cases he
    · rename_i t hop
      rw [hop] at he
      unfold opX at he
      simp only [opF] at he
      cases hi
      split at he
      · rename_i e0 he0
        cases he
        split at he0
        · simp only [Bool.false_eq_true, if_false] at he0
          cases he0
          simp only
          rw [List.getElem?_append_left hid]
        · cases he0
      · cases he
    · rename_i t x hop
      rw [hop] at he
      unfold opX at he
      simp only [opF] at he
      cases hi
      split at he
      · rename_i e0 he0
        cases he
        split at he0
        · simp only [Bool.false_eq_true, if_false] at he0
          cases he0
          simp only
          rw [List.getElem?_append_left hid]
        · cases he0
      · cases he
    · rename_i t l c hop
      rw [hop] at he
      unfold opX at he
      simp only [opF] at he
      cases hi
      split at he
      · rename_i e0 he0
        cases he
        split at he0
        · unfold opMakeSliceV at he0
          split at he0
          · split at he0
            · cases he0; rfl
            · cases he0
          · cases he0
        split at he0
        · unfold opMakeSliceL at he0
          split at he0
          · split at he0
            · simp only [Bool.false_eq_true, if_false] at he0
              cases he0
              simp only
              rw [List.getElem?_append_left hid]
            · cases he0
          · cases he0
        unfold opMakeSlice at he0
        split at he0
        · split at he0
          · simp only [Bool.false_eq_true, if_false] at he0
            cases he0
            simp only
            rw [List.getElem?_append_left hid]
          · cases he0
        · cases he0
      · cases he
    · rename_i t a x hop
      rw [hop] at he
      unfold opX at he
      simp only [opF] at he
      split at he
      · rename_i e0 he0
        cases he
        simp only [Bool.false_eq_true, if_false] at he0
        have hn : n = h.length := by
          unfold storeP at hi
          split at hi
          · split at hi
            · cases hi; rfl
            · cases hi
          · cases hi
        subst hn
        exact store_grow he0 hi id hb
      · cases he
    · cases hi
  · cases hi

/-- a part of the writers, closed downwards, is what stands before a place -/
theorem cut_at {es : List Eff} {D : Nat → Bool} (hdc : ∀ j j' ej ej', j < j' → es[j]? = some ej → es[j']? = some ej' → ej.acc = .write → ej'.acc = .write → D j' = true → D j = true) :
    ∀ N, ∃ m, m ≤ N ∧ ∀ j ej, j < N → es[j]? = some ej → ej.acc = .write → D j = decide (j < m)
  | 0 => ⟨0, Nat.le_refl _, fun j ej hj => by omega⟩
  | N + 1 => by
    obtain ⟨m, hm, h⟩ := cut_at hdc N
    by_cases hw : ∃ ej, es[N]? = some ej ∧ ej.acc = .write ∧ D N = true
    · obtain ⟨eN, h1, h2, h3⟩ := hw
      refine ⟨N + 1, Nat.le_refl _, fun j ej hj hej hwj => ?_⟩
      rcases Nat.lt_or_ge j N with q | q
      · rw [hdc j N ej eN q hej h1 hwj h2 h3]; simp; omega
      · obtain rfl : j = N := by omega
        rw [h3]; simp
    · refine ⟨m, by omega, fun j ej hj hej hwj => ?_⟩
      rcases Nat.lt_or_ge j N with q | q
      · exact h j ej q hej hwj
      · obtain rfl : j = N := by omega
        have : D j = false := by
          cases hD : D j with
          | false => rfl
          | true => exact absurd ⟨ej, hej, hwj, hD⟩ hw
        rw [this]; simp; omega

theorem drawOK_facts {ops : Array Oper} {accs : List AccI} (h : drawOK ops accs = true) :
    (∀ (j : Nat) (o : Oper), ops[j]? = some o → ∀ e ∈ o.after.toList, Region.binds .any e = true → e.on < j) ∧
    (∀ i j x y, i < j → ops[i]? = some x → ops[j]? = some y → ((befs ops.toList []).getD j 0).testBit i = true ∨ (x.apart ops y = true ∧ clashI (accAt accs i) (accAt accs j) = false)) := by
  unfold drawOK at h
  simp only [List.all_eq_true, List.mem_range, Bool.and_eq_true] at h
  refine ⟨fun j o ho e he hb => ?_, fun i j x y hij hx hy => ?_⟩
  · have := (h j (Array.getElem?_eq_some_iff.1 ho).1).1
    rw [ho] at this
    simp only [List.all_eq_true] at this
    have := this e he
    simpa [hb] using this
  · have := (h j (Array.getElem?_eq_some_iff.1 hy).1).2 i hij
    rw [hx, hy] at this
    simp only [Bool.or_eq_true, Bool.and_eq_true, Bool.not_eq_true'] at this
    exact this

theorem Rel.congr {bs : Base} {n : Nat} {r r' : List (Nat × X)} {h : List Blk} {a : Act} {w : World} (hr : ∀ t, lk r t = lk r' t) (R : Rel bs ⟨n, r, h⟩ a w) : Rel bs ⟨n, r', h⟩ a w := by
  obtain ⟨g, R⟩ := R
  exact ⟨g, R.ext, R.heap, R.defers, R.size, fun t => by have := R.slot t; simp only at this ⊢; rw [← hr t]; exact this⟩

theorem mem_ready {ops : Array Oper} {listed : Array Bool} {i : Nat} : i ∈ Region.ready .any ops listed ↔ i < ops.size ∧ listed.getD i true = false ∧ ∃ o, ops[i]? = some o ∧ ∀ e ∈ o.after.toList, Region.binds .any e = true → listed.getD e.on false = true := by
  unfold Region.ready
  simp only [List.mem_filter, List.mem_range, Bool.and_eq_true, Bool.not_eq_true']
  constructor
  · rintro ⟨h1, h2, h3⟩
    refine ⟨h1, h2, ops[i], Array.getElem?_eq_getElem h1, fun e he hb => ?_⟩
    rw [Array.getElem?_eq_getElem h1] at h3
    simp only [Option.map_some, Option.getD_some, Array.all_eq_true_iff_forall_mem] at h3
    have := h3 e (by simpa using he)
    simpa [hb] using this
  · rintro ⟨h1, h2, o, ho, h3⟩
    refine ⟨h1, h2, ?_⟩
    rw [ho]
    simp only [Option.map_some, Option.getD_some, Array.all_eq_true_iff_forall_mem]
    intro e he
    by_cases hb : Region.binds .any e = true
    · simp [hb, h3 e (by simpa using he) hb]
    · simp [hb]

section
variable {E : Env} {ops : Array Oper} {st st' : St} {es : List Eff}

/-- the state in the midst -/
def midS (st : St) (ops : Array Oper) (es : List Eff) (D : Nat → Bool) : St := ⟨st.n, midR st.r ops.toList es D 0, midH st.h ops.toList es D 0⟩

theorem draw_step (hE : E.OK) (tr : Trace E ops ops.toList st es st') (hd : drawOK ops (infoL E ops.toList st es) = true) {Q : Exit → Act → World → Prop} {D : Nat → Bool}
    (hcl : ∀ j o, ops[j]? = some o → D j = true → ∀ e ∈ o.after.toList, Region.binds .any e = true → D e.on = true)
    {i : Nat} {o : Oper} (ho : ops[i]? = some o) (hDi : D i = false) (hpre : ∀ e ∈ o.after.toList, Region.binds .any e = true → D e.on = true) {a : Act} {w : World} (R : Rel E.bs (midS st ops es D) a w) {K : Act → World → Prop}
    (hK : ∀ a' w', Rel E.bs (midS st ops es (fun k => D k || k == i)) a' w' → K a' w') : wpOpIn (fen E.bs.ro) 0 E.P ops Q i K a w := by
  obtain ⟨F1, F2⟩ := drawOK_facts hd
  have ho' : ops.toList[i]? = some o := by simpa using ho
  obtain ⟨e, hes, hdst, hp, hg, hI⟩ := tr.at 0 i o ho'
  simp only [Nat.zero_add] at hg hI
  -- the word of each
  have word : ∀ k ek, k < ops.size → es[k]? = some ek → (ek.acc = .write → accAt (infoL E ops.toList st es) k = .write ∨ ∃ b n, accAt (infoL E ops.toList st es) k = .grow b n) := fun k ek hk hek hw => by
    obtain ⟨e', h1, _, _, _, h5⟩ := tr.at 0 k ops[k] (by simp [hk])
    rw [h1] at hek; cases hek
    rw [h5]; exact accI_write hw
  have K1 : ∀ j, ((befs ops.toList []).getD i 0).testBit j = true → D j = true := fun j hj => bef_run ops D hcl F1 i o ho hpre j hj
  have K2 : ∀ j oj, ops[j]? = some oj → D j = true → ((befs ops.toList []).getD j 0).testBit i = true → False := fun j oj hoj hDj hb => by
    have := bef_run ops D hcl F1 j oj hoj (hcl j oj hoj hDj) i hb
    rw [hDi] at this; cases this
  have lenE := tr.length
  -- whoever is put in order with i has run just if it comes first
  have side : ∀ k ok, ops[k]? = some ok → (k < i → (ok.apart ops o = true ∧ clashI (accAt (infoL E ops.toList st es) k) (accAt (infoL E ops.toList st es) i) = false) → False) →
      (i < k → (o.apart ops ok = true ∧ clashI (accAt (infoL E ops.toList st es) i) (accAt (infoL E ops.toList st es) k) = false) → False) → D k = decide (k < i) := fun k ok hok h1 h2 => by
    rcases Nat.lt_trichotomy k i with hlt | rfl | hgt
    · rcases F2 k i ok o hlt hok ho with hb | hb
      · rw [K1 k hb]; simp [hlt]
      · exact (h1 hlt hb).elim
    · rw [hDi]; simp
    · rcases F2 i k o ok hgt ho hok with hb | hb
      · have : D k = false := by
          cases hDk : D k with
          | false => rfl
          | true => exact (K2 k ok hok hDk hb).elim
        rw [this]; simp; omega
      · exact (h2 hgt hb).elim
  have writers : ∀ t, t ∈ o.looksAt ops ∨ o.dst = some t → ∀ j oj, ops.toList[j]? = some oj → oj.dst = some t → D (0 + j) = decide (j < i) := fun t ht j oj hj hdj => by
    rw [Nat.zero_add]
    refine side j oj (by simpa using hj) (fun _ hap => ?_) (fun _ hap => ?_)
    · obtain ⟨s1, s2, s3⟩ := Oper.apart_spec hap.1
      rcases ht with ht | ht
      · exact s1 t hdj ht
      · exact s2 t hdj ht
    · obtain ⟨s1, s2, s3⟩ := Oper.apart_spec hap.1
      rcases ht with ht | ht
      · exact s3 t hdj ht
      · exact s2 t ht hdj
  -- the operation, at the state in the midst
  have hg2 : opG E.T E.G E.bs.gl ops o (midR st.r ops.toList es D 0) (midH st.h ops.toList es (fun j => decide (j < i)) 0) = some e := by
    rw [← hg]
    refine opG_congr fun t ht => midR_congr (fun j oj hj hdj => ?_) rfl
    rw [writers t (.inl ht) j oj hj hdj]; simp
  have sideW : ∀ j ej, es[j]? = some ej → j < ops.size → (clashI (accAt (infoL E ops.toList st es) j) (accAt (infoL E ops.toList st es) i) = false → False) → (clashI (accAt (infoL E ops.toList st es) i) (accAt (infoL E ops.toList st es) j) = false → False) → D j = decide (j < i) := fun j ej hej hjs c1 c2 =>
    side j ops[j] (Array.getElem?_eq_getElem hjs) (fun _ hap => c1 hap.2) (fun _ hap => c2 hap.2)
  have heapW : (e.acc = .write ∨ (e.acc = .read ∧ accAt (infoL E ops.toList st es) i = .read)) → midH st.h ops.toList es (fun j => decide (j < i)) 0 = midH st.h ops.toList es D 0 := fun hacc => by
    refine midH_congr fun j ej hj hej hw => ?_
    have hjs : j < ops.size := by simpa using hj
    have wj := word j ej hjs hej hw
    rw [Nat.zero_add]
    symm
    rcases hacc with hacc | ⟨_, hacc⟩
    · have wi : accAt (infoL E ops.toList st es) i = .write ∨ ∃ b n, accAt (infoL E ops.toList st es) i = .grow b n := by rw [hI]; exact accI_write hacc
      exact sideW j ej hej hjs (fun c => by rw [clash_ww wj wi] at c; cases c) (fun c => by rw [clash_ww wi wj] at c; cases c)
    · obtain ⟨c1, c2⟩ := clash_wr wj hacc
      exact sideW j ej hej hjs (fun c => by rw [c1] at c; cases c) (fun c => by rw [c2] at c; cases c)
  have dcl : ∀ j j' ej ej', j < j' → es[j]? = some ej → es[j']? = some ej' → ej.acc = .write → ej'.acc = .write → D j' = true → D j = true := fun j j' ej ej' hjj hej hej' hw hw' hD => by
    have hlen := lenE
    have hj's : j' < ops.size := by have := (List.getElem?_eq_some_iff.1 hej').1; simp at hlen; omega
    have hjs : j < ops.size := by omega
    rcases F2 j j' ops[j] ops[j'] hjj (Array.getElem?_eq_getElem hjs) (Array.getElem?_eq_getElem hj's) with hb | hb
    · exact bef_run ops D hcl F1 j' ops[j'] (Array.getElem?_eq_getElem hj's) (hcl j' ops[j'] (Array.getElem?_eq_getElem hj's) hD) j hb
    · have := hb.2
      rw [clash_ww (word j ej hjs hej hw) (word j' ej' hj's hej' hw')] at this
      cases this
  have heapP : ∀ id, accAt (infoL E ops.toList st es) i = .peek id → (midH st.h ops.toList es D 0)[id]? = (midH st.h ops.toList es (fun j => decide (j < i)) 0)[id]? := fun id hpk => by
    obtain ⟨m, hm, hcut⟩ := cut_at dcl ops.size
    have hDm : midH st.h ops.toList es D 0 = midH st.h ops.toList es (fun j => decide (j < m)) 0 := midH_congr fun j ej hj hej hw => by
      rw [Nat.zero_add]; exact hcut j ej (by simpa using hj) hej hw
    rw [hDm]
    have hi : i < ops.size := (Array.getElem?_eq_some_iff.1 ho).1
    -- one place further
    have one : ∀ j, j < ops.size → (∀ ej, es[j]? = some ej → ej.acc = .write → D j ≠ decide (j < i)) → (midH st.h ops.toList es (fun k => decide (k < j + 1)) 0)[id]? = (midH st.h ops.toList es (fun k => decide (k < j)) 0)[id]? := fun j hj hne => by
      obtain ⟨ej, h1, _, _, h4, h5⟩ := tr.at 0 j ops[j] (by simp [hj])
      simp only [Nat.zero_add] at h4 h5
      by_cases hw : ej.acc = .write
      · have wj := word j ej hj h1 hw
        have hcl2 : clashI (accAt (infoL E ops.toList st es) j) (accAt (infoL E ops.toList st es) i) = false ∨ clashI (accAt (infoL E ops.toList st es) i) (accAt (infoL E ops.toList st es) j) = false := by
          refine Classical.byContradiction fun hno => hne ej h1 hw ?_
          exact sideW j ej h1 hj (fun c => hno (.inl c)) (fun c => hno (.inr c))
        obtain ⟨b, n, hgw, hid, hb⟩ := clash_wp wj hpk hcl2
        rw [h5] at hgw
        have hadd : midH st.h ops.toList es (fun k => decide (k < j + 1)) 0 = ej.h := midH_add (i := j) (oi := ops[j]) (by simp [hj]) h1 hw (by simp) (fun k ek hk hek hwk hjk => by simp; omega)
        rw [hadd]
        exact opG_grow h4 hgw id hid hb
      · rw [midH_congr (D := fun k => decide (k < j + 1)) (D' := fun k => decide (k < j)) fun k ek hk hek hwk => ?_]
        have : k ≠ j := by rintro rfl; rw [h1] at hek; cases hek; exact hw hwk
        rw [Nat.zero_add, decide_eq_decide]; omega
    rcases Nat.lt_or_ge m i with hmi | hmi
    · have go : ∀ d, m + d ≤ i → (midH st.h ops.toList es (fun k => decide (k < m + d)) 0)[id]? = (midH st.h ops.toList es (fun k => decide (k < m)) 0)[id]? := fun d => by
        induction d with
        | zero => intro _; rfl
        | succ d ih =>
          intro hd2
          rw [← ih (by omega), ← Nat.add_assoc]
          refine one (m + d) (by omega) fun ej hej hw => ?_
          rw [hcut (m + d) ej (by omega) hej hw]
          have h1 : decide (m + d < m) = false := by simp
          have h2 : decide (m + d < i) = true := by simp; omega
          rw [h1, h2]; simp
      have := go (i - m) (by omega)
      rw [show m + (i - m) = i by omega] at this
      exact this.symm
    · have go : ∀ d, i + d ≤ m → (midH st.h ops.toList es (fun k => decide (k < i + d)) 0)[id]? = (midH st.h ops.toList es (fun k => decide (k < i)) 0)[id]? := fun d => by
        induction d with
        | zero => intro _; rfl
        | succ d ih =>
          intro hd2
          rw [← ih (by omega), ← Nat.add_assoc]
          refine one (i + d) (by omega) fun ej hej hw => ?_
          rw [hcut (i + d) ej (by omega) hej hw]
          have h1 : decide (i + d < i) = false := by simp
          have h2 : decide (i + d < m) = true := by simp; omega
          rw [h1, h2]; simp
      have := go (m - i) (by omega)
      rw [show i + (m - i) = m by omega] at this
      exact this
  obtain ⟨e2, hg3, hx, hpr, hacc2, hh⟩ : ∃ e2, opG E.T E.G E.bs.gl ops o (midR st.r ops.toList es D 0) (midH st.h ops.toList es D 0) = some e2 ∧ e2.x = e.x ∧ e2.pre = e.pre ∧ e2.acc = e.acc ∧ (e.acc = .write → e2.h = e.h) := by
    cases hpure : e.acc with
    | pure =>
      have := (opG_acc hg2).2 hpure (midH st.h ops.toList es D 0)
      exact ⟨_, this, rfl, rfl, rfl, fun hw => by cases hw⟩
    | write =>
      rw [heapW (.inl hpure)] at hg2
      exact ⟨e, hg2, rfl, rfl, hpure, fun _ => rfl⟩
    | read =>
      rcases (hI ▸ accI_read hpure : accAt (infoL E ops.toList st es) i = .read ∨ ∃ id, accAt (infoL E ops.toList st es) i = .peek id) with hr | ⟨id, hr⟩
      · rw [heapW (.inr ⟨hpure, hr⟩)] at hg2
        exact ⟨e, hg2, rfl, rfl, hpure, fun hw => by cases hw⟩
      · rw [hI] at hr
        have h1 := opG_peek hg hr (midH st.h ops.toList es D 0) (heapP id (by rw [hI]; exact hr))
        have h2 : opG E.T E.G E.bs.gl ops o (midR st.r ops.toList es D 0) (midH st.h ops.toList es D 0) = opG E.T E.G E.bs.gl ops o (midR st.r ops.toList es (fun j => decide (j < i)) 0) (midH st.h ops.toList es D 0) := opG_congr fun t ht => midR_congr (fun j oj hj hdj => by
          rw [writers t (.inl ht) j oj hj hdj]; simp) rfl
        rw [h1] at h2
        exact ⟨_, h2, rfl, rfl, hpure, fun hw => by cases hw⟩
  -- behind it
  have after : ∀ t, lk (putR o.dst e2.x (midR st.r ops.toList es D 0)) t = lk (midR st.r ops.toList es (fun k => D k || k == i) 0) t := fun t => by
    by_cases ht : o.dst = some t
    · rw [lk_put_eq ht, hx]
      symm
      refine midR_add (i := i) ho' hes ht (by simp) (fun j oj hj hdj hij => ?_)
      have := writers t (.inr ht) j oj hj hdj
      rw [Nat.zero_add] at this ⊢
      simp only [this]
      have h1 : decide (j < i) = false := by simp; omega
      have h2 : (j == i) = false := by simp; omega
      rw [h1, h2]; rfl
    · rw [lk_put_ne ht]
      refine midR_congr (fun j oj hj hdj => ?_) rfl
      have : j ≠ i := by rintro rfl; rw [ho'] at hj; cases hj; exact ht hdj
      simp [this]
  have hafter : e2.h = midH st.h ops.toList es (fun k => D k || k == i) 0 := by
    by_cases hw : e.acc = .write
    · rw [hh hw]
      symm
      refine midH_add (i := i) ho' hes hw (by simp) (fun j ej hj hej hwj hij => ?_)
      have hjs : j < ops.size := by simpa using hj
      have wi : accAt (infoL E ops.toList st es) i = .write ∨ ∃ b n, accAt (infoL E ops.toList st es) i = .grow b n := by rw [hI]; exact accI_write hw
      have := side j ops[j] (Array.getElem?_eq_getElem hjs) (fun hlt _ => by omega) (fun _ hap => by
        have := hap.2
        rw [clash_ww wi (word j ej hjs hej hwj)] at this
        cases this)
      rw [Nat.zero_add]
      simp only [this]
      have h1 : decide (j < i) = false := by simp; omega
      have h2 : (j == i) = false := by simp; omega
      rw [h1, h2]; rfl
    · rw [(opG_acc hg3).1 (by rw [hacc2]; exact hw)]
      refine midH_congr fun j ej hj hej hwj => ?_
      have : j ≠ i := by rintro rfl; rw [hes] at hej; cases hej; exact hw hwj
      simp [this]
  obtain ⟨g, R⟩ := R
  have hd' : ∀ t, o.dst = some t → t < st.n := fun t ht => by rw [ht] at hdst; exact hdst
  have fin : ∀ v w', After E.bs g (midS st ops es D).h e2 v w' → K (a.put o.dst v) w' := fun v w' A => by
    have := R.put A o.dst hd'
    refine hK _ _ ?_
    have q := Rel.congr (r' := midR st.r ops.toList es (fun k => D k || k == i) 0) after this
    rw [hafter] at q
    exact q
  have := opG_sound (Q := Q) hE.T hE.G R.heap R.ev R.slot hg3 (by rw [hpr]; exact hp)
  unfold wpOpIn
  rw [ho]
  simp only
  split at this
  · rename_i hw
    rw [if_pos hw]
    refine Oper.wpIn_mono (fun a' w' hq => ?_) this
    obtain ⟨v, rfl, A⟩ := hq
    exact fin v w' A
  · rename_i hw
    rw [if_neg hw]
    exact ⟨fun _ _ => trivial, fin undef w this⟩

theorem draw_any (hE : E.OK) (tr : Trace E ops ops.toList st es st') (hd : drawOK ops (infoL E ops.toList st es) = true) {Q : Exit → Act → World → Prop} (hQ : ∀ a w, Rel E.bs st' a w → Q .normal a w) : ∀ (fuel : Nat) (listed : Array Bool) (a : Act) (w : World),
    listed.size = ops.size → listed.toList.count false ≤ fuel → (∀ j o, ops[j]? = some o → listed.getD j false = true → ∀ e ∈ o.after.toList, Region.binds .any e = true → listed.getD e.on false = true) →
    Rel E.bs (midS st ops es (fun k => listed.getD k false)) a w → wpAnyIn (fen E.bs.ro) 0 E.P .any ops Q fuel listed a w := by
  obtain ⟨F1, F2⟩ := drawOK_facts hd
  intro fuel
  -- where nobody is ready all have run
  have stop : ∀ (listed : Array Bool), listed.size = ops.size → Region.ready .any ops listed = [] → ∀ j, j < ops.size → listed.getD j false = true := fun listed hsz hr j => by
    induction j using Nat.strongRecOn with
    | _ j ih =>
      intro hj
      refine Classical.byContradiction fun hne => ?_
      have hf : listed.getD j true = false := by
        have hlt : j < listed.size := by omega
        simp only [Array.getD_eq_getD_getElem?, Array.getElem?_eq_getElem hlt, Option.getD_some] at hne ⊢
        simpa using hne
      have : j ∈ Region.ready .any ops listed := mem_ready.2 ⟨hj, hf, ops[j], Array.getElem?_eq_getElem hj, fun e he hb => by
        have hl := F1 j ops[j] (Array.getElem?_eq_getElem hj) e he hb
        exact ih e.on hl (by omega)⟩
      rw [hr] at this; cases this
  have done : ∀ (listed : Array Bool) (a : Act) (w : World), listed.size = ops.size → Region.ready .any ops listed = [] → Rel E.bs (midS st ops es (fun k => listed.getD k false)) a w → Q .normal a w := fun listed a w hsz hr R => by
    have hall := stop listed hsz hr
    obtain ⟨h1, h2, h3⟩ := tr.final 0 (fun k => listed.getD k false) (fun j hj => by rw [Nat.zero_add]; exact hall j (by simpa using hj))
    refine hQ a w ?_
    have : midS st ops es (fun k => listed.getD k false) = st' := by
      unfold midS
      rw [h2, h3, ← h1]
    rw [this] at R; exact R
  induction fuel with
  | zero =>
    intro listed a w hsz hc hcl R
    have hr : Region.ready .any ops listed = [] := by
      refine List.eq_nil_iff_forall_not_mem.2 fun i hi => ?_
      obtain ⟨h1, h2, _⟩ := mem_ready.1 hi
      have hlt : i < listed.size := by omega
      have : listed.toList[i]? = some false := by
        simp only [Array.getD_eq_getD_getElem?, Array.getElem?_eq_getElem hlt, Option.getD_some] at h2
        simp [hlt, h2]
      have := count_set this
      omega
    exact ⟨hr, done listed a w hsz hr R⟩
  | succ fuel ih =>
    intro listed a w hsz hc hcl R
    refine ⟨fun hr => done listed a w hsz hr R, fun i hi => ?_⟩
    obtain ⟨h1, h2, o, ho, hpre⟩ := mem_ready.1 hi
    have hlt : i < listed.size := by omega
    have hl : listed.toList[i]? = some false := by
      simp only [Array.getD_eq_getD_getElem?, Array.getElem?_eq_getElem hlt, Option.getD_some] at h2
      simp [hlt, h2]
    have hDi : listed.getD i false = false := by
      simp only [Array.getD_eq_getD_getElem?, Array.getElem?_eq_getElem hlt, Option.getD_some] at h2 ⊢
      exact h2
    have hD : ∀ k, (listed.setIfInBounds i true).getD k false = (listed.getD k false || k == i) := fun k => by
      simp only [Array.getD_eq_getD_getElem?, Array.getElem?_setIfInBounds]
      by_cases c : i = k
      · subst c; simp [hlt]
      · have : (k == i) = false := by simp; exact fun h => c h.symm
        simp [c, this]
    refine draw_step hE tr hd hcl ho hDi hpre R fun a' w' R' => ih _ a' w' (by simpa using hsz) ?_ ?_ ?_
    · have := count_set hl
      rw [Array.toList_setIfInBounds]
      omega
    · intro j oj hoj hDj e he hb
      rw [hD] at hDj ⊢
      simp only [Bool.or_eq_true, beq_iff_eq] at hDj ⊢
      rcases hDj with hDj | rfl
      · exact .inl (hcl j oj hoj hDj e he hb)
      · rw [ho] at hoj; cases hoj
        exact .inl (hpre e he hb)
    · have : (fun k => (listed.setIfInBounds i true).getD k false) = (fun k => listed.getD k false || k == i) := funext hD
      rw [this]; exact R'

theorem AWP.draw (hE : E.OK) (hm : E.P.follows .mixedOrders = true) {id : Nat} {Q : Exit → St → Prop} (h : wpD E ops ops.toList [] (Q .normal) st) : AWP E.P E.bs (.region id ops true) Q st := fun a w R => by
  obtain ⟨es, st', tr, hd, hk⟩ := wpD_trace h
  simp only [List.nil_append] at hd
  refine wpIn_region_any hm (draw_any hE tr hd (fun a w R => ⟨st', hk, R⟩) ops.size _ a _ (by simp) (by simp [List.count_replicate]) (fun j o ho hD => ?_) ?_)
  · rw [Array.getD_eq_getD_getElem?, Array.getElem?_replicate] at hD
    split at hD <;> simp at hD
  · have h0 : (fun k => (Array.replicate ops.size false).getD k false) = fun _ => false := by
      funext k
      simp only [Array.getD_eq_getD_getElem?, Array.getElem?_replicate]
      split <;> rfl
    rw [h0]
    unfold midS
    rw [midR_none (fun _ _ => rfl), midH_none (fun _ _ _ _ _ => rfl)]
    obtain ⟨g, R⟩ := R
    exact ⟨g, R.ext, R.heap.drew, R.defers, R.size, R.slot⟩

end
end Fen

/- Part 25: the computed condition, drawn regions among it; a function's contract from it. -/
namespace Fen
open Go Go.RowKit

def wpc (E : Env) : Code → (Exit → St → Prop) → St → Prop
  | .skip, Q, st => Q .normal st
  | .region id ops draw, Q, st => if draw then wpD E ops ops.toList [] (Q .normal) st else wpR E ops ops.toList (Q .normal) st
  | .seq a b, Q, st => wpc E a (thenA (wpc E b Q) Q) st
  | .cond c x y, Q, st => condA (evO E.bs.gl st.r c) (wpc E x Q st) (wpc E y Q st)
  | .block id c, Q, st => wpc E c (inBlockA id Q) st
  | .loop c, Q, st => AWP E.P E.bs (.loop c) Q st
  | .rangeFunc f ps as c, Q, st => AWP E.P E.bs (.rangeFunc f ps as c) Q st
  | .exit id, Q, st => Q (.exit id) st
  | .scope c, Q, st => wpc E c (noGotoA Q) st
  | .label _, Q, st => Q .normal st
  | .goto l, Q, st => Q (.goto l) st
  | .ret, Q, st => Q .ret st
  | .refuse _, _, _ => False


section
variable {E : Env}

theorem wpc_ok (hE : E.OK) (hm : E.P.follows .mixedOrders = true) : ∀ (c : Code) (Q : Exit → St → Prop) (st : St), wpc E c Q st → AWP E.P E.bs c Q st
  | .skip, Q, st, h => fun a w R => wpIn_skip ⟨st, h, R⟩
  | .region id ops draw, Q, st, h => by
    simp only [wpc] at h
    cases draw with
    | true => exact AWP.draw hE hm (by simpa using h)
    | false => exact AWP.region hE (by simpa using h)
  | .seq x y, Q, st, h => AWP.seq ((wpc_ok hE hm x _ st h).mono fun e st' q => by
    cases e with
    | normal => exact wpc_ok hE hm y _ st' q
    | _ => exact q)
  | .cond c x y, Q, st, h => fun a w R => by
    simp only [wpc, condA] at h
    obtain ⟨g, R⟩ := R
    split at h
    · rename_i b hb
      have := R.ev c
      rw [hb, rel_bool] at this
      exact wpIn_cond_split this (fun hb => wpc_ok hE hm x Q st (h.1 hb) a w ⟨g, R⟩) (fun hb => wpc_ok hE hm y Q st (h.2 hb) a w ⟨g, R⟩)
    · exact h.elim
  | .block id c, Q, st, h => AWP.block (wpc_ok hE hm c _ st h)
  | .loop c, Q, st, h => h
  | .rangeFunc f ps as c, Q, st, h => h
  | .exit id, Q, st, h => fun a w R => wpIn_exit ⟨st, h, R⟩
  | .scope c, Q, st, h => AWP.scope (wpc_ok hE hm c _ st h)
  | .label l, Q, st, h => fun a w R => wpIn_label ⟨st, h, R⟩
  | .goto l, Q, st, h => fun a w R => wpIn_goto ⟨st, h, R⟩
  | .ret, Q, st, h => fun a w R => wpIn_ret ⟨st, h, R⟩
  | .refuse _, Q, st, h => h.elim


theorem sound_fn {P : Program} {T : TT} {G : Specs} {gl : Gl} (hm : P.follows .mixedOrders = true) (hT : TOK P T) (hG : SpecsOK P gl G) {f : FuncId} {fn : Func} {c : Code} (hf : P.funcs[f]? = some fn) (hb : fn.body = some c) (hn : (fn.name == "runtime.NumGoroutine") = false) {s : Spec} (hnh : s.hp = none) {N : Nat} (hN : fn.ntmps = N) {rs : List ResultVar} (hrs : fn.results = rs.toArray)
    (hlen : ∀ args, s.pre args → args.length ≤ N) (hshape : ∀ args, s.pre args → match s.res args with | .one _ => rs.length = 1 | .many cs => rs.length = cs.length ∧ rs.length ≠ 1)
    (h : ∀ args, s.pre args → ∀ bs : Base, bs.gl = gl → bs.h0 = [] → bs.ro = none → wpc ⟨P, T, G, bs⟩ c (endsA T rs (s.res args)) ⟨N, argsR 0 args, []⟩) : Sound P gl f s :=
  sound_of hT hf hb hn hnh hN hrs hlen hshape fun args hp w S => wpc_ok (E := ⟨P, T, G, base0 w S gl⟩) ⟨hT, hG⟩ hm c _ _ (h args hp _ rfl rfl rfl)

end
end Fen

/- Part 26: states made weaker: slots forgotten, blocks dropped and numbered anew, nil made a block. -/
namespace Fen
open Go Go.RowKit

def curV (h : List Blk) (i v : Nat) : Prop :=
  match h[i]? with
  | some b => b.ver = v
  | none => False

def isSl (h : List Blk) (i : Nat) : Prop :=
  match h[i]? with
  | some (.sl ..) => True
  | some (.slx ..) => True
  | _ => False

mutual
/-- the new value (first) says no more than the old one -/
def renX (h h' : List Blk) (ids : List (Option Nat)) : X → X → Prop
  | .dead, _ => True
  | .val c, .val c' => c = c'
  | .val c, .nil => c = .sl 0 []
  | .val c, .ex _ n cs => c = .sl n cs
  | .agg cs, .agg cs' => cs = cs'
  | .nil, .nil => True
  | .ex sz n cs, .ex sz' n' cs' => sz = sz' ∧ n = n' ∧ cs = cs'
  | .tup xs, .tup ys => renXs h h' ids xs ys
  | .recd xs, .recd ys => renXs h h' ids xs ys
  | .ref j v, .ref i u => ids[j]? = some (some i) ∧ curV h' j v ∧ curV h i u
  | .ref j v, .nil => ids[j]? = some none ∧ curV h' j v ∧ isSl h' j
  | .view j v off n, .view i u off' n' => ids[j]? = some (some i) ∧ curV h' j v ∧ curV h i u ∧ off = off' ∧ n = n'
  | .ptr j v off, .ptr i u off' => ids[j]? = some (some i) ∧ curV h' j v ∧ curV h i u ∧ off = off'
  | .fptr cs, .fptr cs' => cs = cs'
  | .clos f xs, .clos f' ys => f = f' ∧ renXs h h' ids xs ys
  | .ifb c x, .ifb c' y => c = c' ∧ renX h h' ids x y
  | .yld j, .yld i => ids[j]? = some (some i) ∧ curV h' j 0 ∧ curV h i 0
  | .mp j, .mp i => ids[j]? = some (some i) ∧ curV h' j 0 ∧ curV h i 0
  | .val c, .fptr cs => c = .ptr cs
  | _, _ => False
def renXs (h h' : List Blk) (ids : List (Option Nat)) : List X → List X → Prop
  | [], [] => True
  | x :: xs, y :: ys => renX h h' ids x y ∧ renXs h h' ids xs ys
  | _, _ => False
end

def renB (h h' : List Blk) (ids : List (Option Nat)) : Blk → Option Nat → Prop
  | .sl ty _ p sz n cs, some i => match h[i]? with | some (.sl ty' _ p' sz' n' cs') => ty = ty' ∧ (p = true → p' = true) ∧ sz = sz' ∧ n = n' ∧ cs = cs' | some (.slx ty' _ sz' n' cs') => ty = ty' ∧ sz = sz' ∧ n = n' ∧ cs' = cs.map .val | _ => False
  | .box ty xs, some i => match h[i]? with | some (.box ty' ys) => ty = ty' ∧ renXs h h' ids xs ys | _ => False
  | .sl ty _ _ sz n cs, none => 0 < sz ∧ n = 0 ∧ cs = []
  | .box _ _, none => False
  | .slx ty _ sz n cs, some i => match h[i]? with
    | some (.slx ty' _ sz' n' cs') => ty = ty' ∧ sz = sz' ∧ n = n' ∧ renXs h h' ids cs cs'
    | some (.sl ty' _ p' sz' n' cs') => ty = ty' ∧ p' = true ∧ sz = sz' ∧ n = n' ∧ cs = cs'.map .val
    | _ => False
  | .slx _ _ sz n cs, none => 0 < sz ∧ n = 0 ∧ cs = []
  | .obj o, some i => match h[i]? with | some (.obj o') => o = o' | _ => False
  | .mp a b es, some i => match h[i]? with | some (.mp a' b' es') => a = a' ∧ b = b' ∧ es = es' | _ => False
  | .mp _ _ _, none => False
  | .sb a b es, some i => match h[i]? with | some (.sb a' b' es') => a = a' ∧ b = b' ∧ es = es' | _ => False
  | .sb _ _ _, none => False
  | .gone l, some i => match h[i]? with | some (.gone l') => l = l' | _ => False
  | .obj _, none => False
  | .gone _, none => False
  | .hid, some i => match h[i]? with | some .hid => True | _ => False
  | .hid, none => False

def renBs (h h' : List Blk) (ids : List (Option Nat)) : List Blk → List (Option Nat) → Prop
  | [], [] => True
  | b :: bs, i :: is => renB h h' ids b i ∧ renBs h h' ids bs is
  | _, _ => False

def renR (h h' : List Blk) (ids : List (Option Nat)) (r : List (Nat × X)) : List (Nat × X) → Prop
  | [] => True
  | (k, x) :: l => renX h h' ids x (lk r k) ∧ renR h h' ids r l

def baseOK (bs : Base) (h h' : List Blk) (ids : List (Option Nat)) : Prop :=
  ∀ id, id < bs.h0.length → ids[id]? = some (some id) ∧ h'[id]?.map Blk.ver = h[id]?.map Blk.ver

theorem baseOK.nil {bs : Base} {h h' : List Blk} {ids : List (Option Nat)} (e : bs.h0 = []) : baseOK bs h h' ids := fun id hid => by simp [e] at hid

def Weak (bs : Base) (st st' : St) : Prop := ∀ a w, Rel bs st a w → Rel bs st' a w

theorem Weak.refl (bs : Base) (st : St) : Weak bs st st := fun _ _ h => h
theorem Weak.trans {bs : Base} {a b c : St} (h : Weak bs a b) (k : Weak bs b c) : Weak bs a c := fun _ _ r => k _ _ (h _ _ r)

/-- the ghost of the new numbers -/
def renG (g : Gh) (ids : List (Option Nat)) : Gh where
  S := g.S
  ad j := match ids[j]? with | some (some i) => g.ad i | _ => (0, 0)
  marks := g.marks
  hd j := match ids[j]? with | some (some i) => g.hd i | _ => .slice none 0 0
  ex j := match ids[j]? with | some (some i) => g.ex i | _ => false

section
variable {h h' : List Blk} {ids : List (Option Nat)} {g : Gh}

theorem renBs.at : ∀ {bs : List Blk} {is : List (Option Nat)}, renBs h h' ids bs is → bs.length = is.length ∧ ∀ (j : Nat) (b : Blk), bs[j]? = some b → ∃ i, is[j]? = some i ∧ renB h h' ids b i
  | [], [], _ => ⟨rfl, fun j b hb => by simp at hb⟩
  | b :: bs, i :: is, hr => by
    obtain ⟨h1, h2⟩ := hr
    obtain ⟨l, k⟩ := renBs.at h2
    refine ⟨by simp [l], fun j c hc => ?_⟩
    cases j with
    | zero => simp at hc; subst hc; exact ⟨i, rfl, h1⟩
    | succ j => simp at hc; simpa using k j c hc

theorem curV_get {i v : Nat} (c : curV h i v) : ∃ b, h[i]? = some b ∧ b.ver = v := by
  unfold curV at c
  split at c
  · exact ⟨_, ‹_›, c⟩
  · exact c.elim

/-- a block and its new number -/
theorem ren_blk (hb : renBs h h' ids h' ids) {j i : Nat} {b' b : Blk} (e' : h'[j]? = some b') (e : h[i]? = some b) (hi : ids[j]? = some (some i)) : b'.isBox = b.isBox := by
  obtain ⟨_, k⟩ := hb.at
  obtain ⟨i', h1, h2⟩ := k j b' e'
  rw [hi] at h1; cases h1
  cases b' with
  | box xs =>
    simp only [renB, e] at h2
    split at h2
    · rename_i q; cases q; rfl
    · exact h2.elim
  | sl ty v p sz n cs =>
    simp only [renB, e] at h2
    split at h2
    · rename_i q; cases q; rfl
    · rename_i q; cases q; rfl
    · exact h2.elim
  | slx ty v sz n cs =>
    simp only [renB, e] at h2
    split at h2
    · rename_i q; cases q; rfl
    · rename_i q; cases q; rfl
    · exact h2.elim
  | obj o =>
    simp only [renB, e] at h2
    split at h2
    · rename_i q; cases q; rfl
    · exact h2.elim
  | mp kk vk es =>
    simp only [renB, e] at h2
    split at h2
    · rename_i q; cases q; rfl
    · exact h2.elim
  | sb kk vk es =>
    simp only [renB, e] at h2
    split at h2
    · rename_i q; cases q; rfl
    · exact h2.elim
  | gone =>
    simp only [renB, e] at h2
    split at h2
    · rename_i q; cases q; rfl
    · exact h2.elim
  | hid =>
    simp only [renB, e] at h2
    split at h2
    · rename_i q; cases q; rfl
    · exact h2.elim

mutual
theorem renX_ok (hb : renBs h h' ids h' ids) : ∀ (x y : X) (v : Value), renX h h' ids x y → RelX g h y v → RelX (renG g ids) h' x v
  | .dead, _, _, _, _ => by simp only [RelX]
  | .val c, .val c', v, q, r => by simp only [renX] at q; subst q; simp only [RelX] at r ⊢; exact r
  | .val c, .nil, v, q, r => by simp only [renX] at q; subst q; simp only [RelX] at r ⊢; subst r; simp [RepV]
  | .val c, .ex sz n cs, v, q, r => by
    simp only [renX] at q; subst q
    simp only [RelX] at r ⊢
    obtain ⟨h0, hl, r⟩ := r
    simp only [RepV]
    rcases r with ⟨⟨zz, rfl⟩, rfl⟩ | ⟨b, o, vs, rfl, h1, h2, h3⟩
    · refine .inl ⟨⟨zz, rfl⟩, rfl, ?_⟩
      simpa using hl
    · exact .inr ⟨b, o, n, vs, rfl, Nat.le_refl _, h1, h2, h3⟩
  | .agg cs, .agg cs', v, q, r => by simp only [renX] at q; subst q; simp only [RelX] at r ⊢; exact r
  | .nil, .nil, v, q, r => by simpa only [RelX] using r
  | .ex sz n cs, .ex sz' n' cs', v, q, r => by simp only [renX] at q; obtain ⟨rfl, rfl, rfl⟩ := q; simp only [RelX] at r ⊢; exact r
  | .recd xs, .recd ys, v, q, r => by
    simp only [renX] at q
    simp only [RelX] at r ⊢
    obtain ⟨vs, rfl, hr, ho⟩ := r
    exact ⟨vs, rfl, renXs_ok hb xs ys vs q hr, ho⟩
  | .tup xs, .tup ys, v, q, r => by
    simp only [renX] at q
    simp only [RelX] at r ⊢
    obtain ⟨vs, rfl, hr⟩ := r
    exact ⟨vs, rfl, renXs_ok hb xs ys vs q hr⟩
  | .ref j v', .ref i u, v, q, r => by
    simp only [renX] at q
    obtain ⟨hi, c', c⟩ := q
    obtain ⟨b', e', q'⟩ := curV_get c'
    obtain ⟨b, e, q⟩ := curV_get c
    simp only [RelX] at r ⊢
    obtain ⟨b2, e2, hx, hv, hs, hh⟩ := r
    rw [e] at e2; cases e2
    exact ⟨b', e', (ren_blk hb e' e hi).trans hx, by omega, hs, fun _ => by rw [hh q.symm]; simp [renG, hi]⟩
  | .ref j v', .nil, v, q, r => by
    simp only [renX] at q
    obtain ⟨hi, c', hs⟩ := q
    obtain ⟨b', e', q'⟩ := curV_get c'
    simp only [RelX] at r ⊢
    subst r
    refine ⟨b', e', ?_, by omega, ⟨_, _, _, rfl⟩, fun _ => by simp [renG, hi]⟩
    unfold isSl at hs
    rw [e'] at hs
    cases b' with
    | sl => rfl
    | slx => rfl
    | _ => exact hs.elim
  | .view j v' off n, .view i u off' n', v, q, r => by
    simp only [renX] at q
    obtain ⟨hi, c', c, rfl, rfl⟩ := q
    obtain ⟨b', e', q'⟩ := curV_get c'
    obtain ⟨b, e, q⟩ := curV_get c
    simp only [RelX] at r ⊢
    obtain ⟨b2, e2, hx, hv, hs, hh⟩ := r
    rw [e] at e2; cases e2
    exact ⟨b', e', (ren_blk hb e' e hi).trans hx, by omega, hs, fun _ => by simpa [renG, hi] using hh q.symm⟩
  | .ptr j v' off, .ptr i u off', v, q, r => by
    simp only [renX] at q
    obtain ⟨hi, c', c, rfl⟩ := q
    obtain ⟨b', e', q'⟩ := curV_get c'
    obtain ⟨b, e, q⟩ := curV_get c
    simp only [RelX] at r ⊢
    obtain ⟨b2, e2, hv, hs, hh⟩ := r
    rw [e] at e2; cases e2
    exact ⟨b', e', by omega, hs, fun _ => by simpa [renG, hi] using hh q.symm⟩
  | .fptr cs, .fptr cs', v, q, r => by simp only [renX] at q; subst q; simp only [RelX] at r ⊢; exact r
  | .clos f xs, .clos f' ys, v, q, r => by
    simp only [renX] at q
    obtain ⟨rfl, q⟩ := q
    simp only [RelX] at r ⊢
    obtain ⟨vs, rfl, hr⟩ := r
    exact ⟨vs, rfl, renXs_ok hb xs ys vs q hr⟩
  | .ifb c x, .ifb c' y, v, q, r => by
    simp only [renX] at q
    obtain ⟨rfl, q⟩ := q
    simp only [RelX] at r ⊢
    exact ⟨fun hc => renX_ok hb x y v q (r.1 hc), r.2⟩
  | .yld j, .yld i, v, q, r => by
    simp only [renX] at q
    obtain ⟨hi, c', c⟩ := q
    obtain ⟨b', e', q'⟩ := curV_get c'
    obtain ⟨b, e, q⟩ := curV_get c
    simp only [RelX] at r ⊢
    obtain ⟨b2, e2, hx, hs, hh⟩ := r
    rw [e] at e2; cases e2
    exact ⟨b', e', (ren_blk hb e' e hi).trans hx, hs, fun _ => by simpa [renG, hi] using hh q⟩
  | .mp j, .mp i, v, q, r => by
    simp only [renX] at q
    obtain ⟨hi, c', c⟩ := q
    obtain ⟨b', e', q'⟩ := curV_get c'
    obtain ⟨b, e, q⟩ := curV_get c
    simp only [RelX] at r ⊢
    obtain ⟨b2, e2, hx, hs, hh⟩ := r
    rw [e] at e2; cases e2
    exact ⟨b', e', (ren_blk hb e' e hi).trans hx, hs, fun _ => by simpa [renG, hi] using hh q⟩
  | .val c, .fptr cs, v, q, r => by
    simp only [renX] at q; subst q
    simp only [RelX] at r ⊢
    simp only [RepV]
    exact r
theorem renXs_ok (hb : renBs h h' ids h' ids) : ∀ (xs ys : List X) (vs : List Value), renXs h h' ids xs ys → RelXs g h ys vs → RelXs (renG g ids) h' xs vs
  | [], [], vs, _, r => by simpa only [RelXs] using r
  | x :: xs, y :: ys, vs, q, r => by
    simp only [renXs] at q
    simp only [RelXs] at r ⊢
    obtain ⟨u, us, rfl, h1, h2⟩ := r
    exact ⟨u, us, rfl, renX_ok hb x y u q.1 h1, renXs_ok hb xs ys us q.2 h2⟩
end

theorem renR_ok (hb : renBs h h' ids h' ids) {r : List (Nat × X)} {f : Nat → Value} (hs : ∀ t, RelX g h (lk r t) (f t)) : ∀ {r' : List (Nat × X)}, renR h h' ids r r' → ∀ t, RelX (renG g ids) h' (lk r' t) (f t)
  | [], _, t => by simp [lk, RelX]
  | (k, x) :: l, hr, t => by
    simp only [renR] at hr
    simp only [lk]
    split
    · rename_i e; subst e; exact renX_ok hb _ _ _ hr.1 (hs k)
    · exact renR_ok hb hs hr.2 t

theorem nodup_at : ∀ {l : List (Option Nat)}, (l.filterMap id).Nodup → ∀ {i j x : Nat}, l[i]? = some (some x) → l[j]? = some (some x) → i = j
  | [], _, i, j, x, hi, _ => by simp at hi
  | a :: l, hn, i, j, x, hi, hj => by
    have htail : (l.filterMap id).Nodup := by
      cases a with
      | none => simpa using hn
      | some a => simp at hn; exact hn.2
    have hmem : ∀ k, l[k]? = some (some x) → a = some x → False := fun k hk ha => by
      subst ha
      simp at hn
      exact hn.1 (List.mem_of_getElem? hk)
    cases i with
    | zero =>
      cases j with
      | zero => rfl
      | succ j => simp at hi hj; exact (hmem j hj hi).elim
    | succ i =>
      cases j with
      | zero => simp at hi hj; exact (hmem i hi hj).elim
      | succ j => simp at hi hj; rw [nodup_at htail hi hj]

theorem vals_rep {g : Gh} {h : List Blk} : ∀ {cs : List C} {vs : List Value}, RelXs g h (cs.map .val) vs → RepL g.S cs vs
  | [], _, r => by simp only [List.map_nil, RelXs] at r; subst r; simp [RepL]
  | c :: cs, _, r => by
    simp only [List.map_cons, RelXs] at r
    obtain ⟨u, us, rfl, h1, h2⟩ := r
    simp only [RepL]
    exact ⟨u, us, rfl, by simpa only [RelX] using h1, vals_rep h2⟩
theorem renXs_len {h h' : List Blk} {ids : List (Option Nat)} : ∀ {xs ys : List X}, renXs h h' ids xs ys → xs.length = ys.length
  | [], [], _ => rfl
  | _ :: _, _ :: _, q => by simp only [renXs] at q; simp [renXs_len q.2]
  | [], _ :: _, q => by simp [renXs] at q
  | _ :: _, [], q => by simp [renXs] at q

theorem Weak.ren {bs : Base} {n : Nat} {r r' : List (Nat × X)} (ids : List (Option Nat)) (h0 : baseOK bs h h' ids) (nd : (ids.filterMap id).Nodup) (hb : renBs h h' ids h' ids) (hr : renR h h' ids r r') : Weak bs ⟨n, r, h⟩ ⟨n, r', h'⟩ := by
  rintro a w ⟨g, R⟩
  obtain ⟨hl, hk⟩ := hb.at
  have back : ∀ j i, ids[j]? = some (some i) → j < h'.length → i < h.length := fun j i hi hj => by
    obtain ⟨i', h1, h2⟩ := hk j _ (List.getElem?_eq_getElem hj)
    rw [hi] at h1; cases h1
    rcases Nat.lt_or_ge i h.length with c | c
    · exact c
    · have : h[i]? = none := by simp [c]
      generalize h'[j] = b' at h2
      cases b' <;> simp [renB, this] at h2
  have hex : ∀ j, (renG g ids).ex j = true → ∃ i, ids[j]? = some (some i) ∧ g.ex i = true ∧ (renG g ids).ad j = g.ad i := fun j hj => by
    simp only [renG] at hj
    split at hj
    · rename_i i hi; exact ⟨i, hi, hj, by simp [renG, hi]⟩
    · cases hj
  have H := R.heap
  refine ⟨renG g ids, ⟨R.ext.S, fun id b hb0 => ?_, R.ext.marks⟩, ⟨H.stable, fun j b' e' => ?_, fun i j hi hj h1 h2 he => ?_, fun j hj h1 => ?_, H.os, H.tape, H.output, H.size, H.frame, H.stab, H.gl, H.marks⟩, R.defers, R.size, renR_ok hb R.slot hr⟩
  · obtain ⟨b1, e1, x1, v1, q1⟩ := R.ext.blk id b hb0
    obtain ⟨hid, hv⟩ := h0 id (lt_of_get hb0)
    rw [e1] at hv
    cases e' : h'[id]? with
    | none => simp [e'] at hv
    | some b' =>
      simp [e'] at hv
      refine ⟨b', rfl, x1.trans (ren_blk hb e' e1 hid).symm, by omega, fun q => ?_⟩
      have := q1 (by omega)
      simpa [renG, hid] using this
  · obtain ⟨i, hi, hq⟩ := hk j b' e'
    cases i with
    | none =>
      cases b' with
      | sl ty v p sz n cs =>
        obtain ⟨hz, rfl, rfl⟩ := hq
        exact ⟨hz, by simp, .inl ⟨⟨none, by simp [renG, hi]⟩, rfl, by simp [renG, hi]⟩⟩
      | slx ty v sz n cs =>
        obtain ⟨hz, rfl, rfl⟩ := hq
        exact ⟨hz, by simp, .inl ⟨⟨none, by simp [renG, hi]⟩, rfl, by simp [renG, hi]⟩⟩
      | _ => exact hq.elim
    | some i =>
      cases b' with
      | box xs =>
        simp only [renB] at hq
        split at hq
        · rename_i ys e
          obtain ⟨rfl, hq⟩ := hq
          obtain ⟨k1, k2, k3, cs, k4, k5⟩ := H.blk i _ e
          have ha : (renG g ids).ad j = g.ad i := by simp [renG, hi]
          refine ⟨by simpa [renG, hi] using k1, by rw [ha]; exact k2, by rw [ha]; exact k3, cs, by rw [ha]; exact k4, renXs_ok hb _ _ _ hq k5⟩
        · exact hq.elim
      | sl ty v p sz n cs =>
        simp only [renB] at hq
        split at hq
        · rename_i ty' u p' sz' n' cs' e
          obtain ⟨rfl, q1, rfl, rfl, rfl⟩ := hq
          have k := H.blk i _ e
          simp only [BlkOK] at k ⊢
          have ha : (renG g ids).ad j = g.ad i := by simp [renG, hi]
          have hh : (renG g ids).hd j = g.hd i := by simp [renG, hi]
          have hx : (renG g ids).ex j = g.ex i := by simp [renG, hi]
          rw [ha, hh, hx]
          obtain ⟨k0, k1, k2⟩ := k
          refine ⟨k0, k1, ?_⟩
          rcases k2 with k2 | ⟨a1, a2, cap, cur, a3, a4, a5, a6, a7, a8, a9⟩ | ⟨a1, a2, a3, a4, a5⟩
          · exact .inl k2
          · refine .inr (.inl ⟨a1, a2, cap, cur, a3, a4, a5, a6, a7, a8, fun o ho => ⟨?_, (a9 o ho).2⟩⟩)
            have := (a9 o ho).1
            cases hpp : p with
            | false => rfl
            | true => rw [q1 hpp] at this; cases this
          · refine .inr (.inr ⟨a1, ?_, a3, a4, a5⟩)
            cases hpp : p with
            | false => rfl
            | true => rw [q1 hpp] at a2; cases a2
        · rename_i ty' u sz' n' cs' e
          obtain ⟨rfl, rfl, rfl, rfl⟩ := hq
          have k := H.blk i _ e
          simp only [BlkOK] at k ⊢
          have ha : (renG g ids).ad j = g.ad i := by simp [renG, hi]
          have hh : (renG g ids).hd j = g.hd i := by simp [renG, hi]
          have hx : (renG g ids).ex j = g.ex i := by simp [renG, hi]
          rw [ha, hh, hx]
          obtain ⟨k0, k1, k2⟩ := k
          refine ⟨k0, by simpa using k1, ?_⟩
          rcases k2 with k2 | ⟨a1, a2, cap, cur, a3, a4, a5, a6, a7, a8, a9⟩
          · exact .inl k2
          · exact .inr (.inl ⟨a1, a2, cap, cur, a3, a4, a5, a6, a7, (vals_rep (g := g) (h := h) a8 : RepL g.S _ _), fun o ho => absurd (a9 o) ho⟩)
        · exact hq.elim
      | slx ty v sz n cs =>
        simp only [renB] at hq
        split at hq
        · rename_i ty' u sz' n' cs' e
          obtain ⟨rfl, rfl, rfl, q1⟩ := hq
          have k := H.blk i _ e
          simp only [BlkOK] at k ⊢
          have ha : (renG g ids).ad j = g.ad i := by simp [renG, hi]
          have hh : (renG g ids).hd j = g.hd i := by simp [renG, hi]
          have hx : (renG g ids).ex j = g.ex i := by simp [renG, hi]
          rw [ha, hh, hx]
          obtain ⟨k0, k1, k2⟩ := k
          refine ⟨k0, by rw [renXs_len q1]; exact k1, ?_⟩
          rcases k2 with k2 | ⟨a1, a2, cap, cur, a3, a4, a5, a6, a7, a8, a9⟩
          · exact .inl k2
          · exact .inr ⟨a1, a2, cap, cur, a3, a4, a5, a6, a7, renXs_ok hb _ _ _ q1 a8, a9⟩
        · rename_i ty' u p' sz' n' cs' e
          obtain ⟨rfl, rfl, rfl, rfl, rfl⟩ := hq
          have k := H.blk i _ e
          simp only [BlkOK] at k ⊢
          have ha : (renG g ids).ad j = g.ad i := by simp [renG, hi]
          have hh : (renG g ids).hd j = g.hd i := by simp [renG, hi]
          have hx : (renG g ids).ex j = g.ex i := by simp [renG, hi]
          rw [ha, hh, hx]
          obtain ⟨k0, k1, k2⟩ := k
          refine ⟨k0, by simpa using k1, ?_⟩
          rcases k2 with k2 | ⟨a1, a2, cap, cur, a3, a4, a5, a6, a7, a8, a9⟩ | ⟨_, a2, _⟩
          · exact .inl k2
          · refine .inr ⟨a1, a2, cap, cur, a3, a4, a5, a6, a7, RelXs.of_vals a8, fun o => ?_⟩
            rcases q : g.S (g.ad i).1 o with _ | z
            · exact q
            · have := (a9 o (by simp [q])).1; cases this
          · cases a2
        · exact hq.elim
      | obj o =>
        simp only [renB] at hq
        split at hq
        · rename_i o' e
          subst hq
          obtain ⟨k1, k2, k3⟩ := H.blk i _ e
          have ha : (renG g ids).ad j = g.ad i := by simp [renG, hi]
          exact ⟨by simpa [renG, hi] using k1, by rw [ha]; exact k2, by rw [ha]; exact k3⟩
        · exact hq.elim
      | mp kk vk es =>
        simp only [renB] at hq
        split at hq
        · rename_i a' b' es' e
          obtain ⟨rfl, rfl, rfl⟩ := hq
          obtain ⟨k1, k2, k0, ms, clock, k3, k4⟩ := H.blk i _ e
          have ha : (renG g ids).ad j = g.ad i := by simp [renG, hi]
          have hh0 : (renG g ids).hd j = g.hd i := by simp [renG, hi]
          exact ⟨by simpa [renG, hi] using k1, by rw [ha]; exact k2, by rw [hh0, ha]; exact k0, ms, clock, by rw [ha]; exact k3, k4⟩
        · exact hq.elim
      | sb kk vk es =>
        simp only [renB] at hq
        split at hq
        · rename_i a' b' es' e
          obtain ⟨rfl, rfl, rfl⟩ := hq
          obtain ⟨k1, k5, k2, cap, cur, fz, k6, k7, k8, k9, kA, kB, kC, kD⟩ := H.blk i _ e
          have ha : (renG g ids).ad j = g.ad i := by simp [renG, hi]
          have hh0 : (renG g ids).hd j = g.hd i := by simp [renG, hi]
          exact ⟨by simpa [renG, hi] using k1, by rw [ha]; exact k5, by rw [ha]; exact k2, cap, cur, fz, by rw [hh0, ha]; exact k6, k7, k8, by rw [ha]; exact k9, kA, kB, kC, kD⟩
        · exact hq.elim
      | gone =>
        simp only [renB] at hq
        split at hq
        · rename_i l' e
          subst hq
          obtain ⟨k1, k2, k3⟩ := H.blk i _ e
          have ha : (renG g ids).ad j = g.ad i := by simp [renG, hi]
          exact ⟨fun he => by rw [ha]; exact k1 (by simpa [renG, hi] using he), by rw [ha]; exact k2, by rw [ha]; exact k3⟩
        · exact hq.elim
      | hid =>
        simp only [renB] at hq
        split at hq
        · rename_i e
          have k := H.blk i _ e
          have ha : (renG g ids).ad j = g.ad i := by simp [renG, hi]
          intro he
          rw [ha]
          exact k (by simpa [renG, hi] using he)
        · exact hq.elim
  · obtain ⟨i1, e1, x1, a1⟩ := hex i h1
    obtain ⟨j1, e2, x2, a2⟩ := hex j h2
    rw [a1, a2] at he
    have := H.inj i1 j1 (back i i1 e1 hi) (back j j1 e2 hj) x1 x2 he
    subst this
    exact nodup_at nd e1 e2
  · obtain ⟨i1, e1, x1, a1⟩ := hex j h1
    rw [a1]
    exact H.loc i1 (back j i1 e1 hj) x1

/-- the next round's head: a thing y that the invariant knows, its number less, its state weaker than the present one -/
def Next {α : Type} (bs : Base) (inv : α → Prop) (S : α → St) (m : α → Nat) (x : α) (st : St) : Prop := ∃ y, inv y ∧ m y < m x ∧ Weak bs st (S y)

theorem Next.mk {α : Type} {bs : Base} {inv : α → Prop} {S : α → St} {m : α → Nat} {x : α} {st : St} (y : α) (h : inv y) (hm : m y < m x) (hw : Weak bs st (S y)) : Next bs inv S m x st := ⟨y, h, hm, hw⟩

@[congr] theorem Next_congr {α : Type} {bs : Base} {inv : α → Prop} {S : α → St} {m : α → Nat} {x : α} {st st' : St} (h : st = st') : Next bs inv S m x st = Next bs inv S m x st' := by rw [h]

/-- A LOOP, by what holds at each round's head: states S x of things x, and a number that goes down. -/
theorem AWP.rounds {P : Program} {bs : Base} {c : Code} {Q : Exit → St → Prop} {α : Type} (inv : α → Prop) (S : α → St) (m : α → Nat) {st : St} (x0 : α) (h0 : inv x0) (hw : Weak bs st (S x0))
    (round : ∀ x, inv x → AWP P bs c (thenA (Next bs inv S m x) Q) (S x)) : AWP P bs (.loop c) Q st :=
  AWP.weaken hw (AWP.loop (fun n st => ∃ x, inv x ∧ m x = n ∧ st = S x) (n := m x0) (fun n st hI => by
    obtain ⟨x, hi, hm, rfl⟩ := hI
    refine (round x hi).mono fun e st' q => ?_
    cases e with
    | normal =>
      obtain ⟨y, h1, h2, h3⟩ := q
      exact ⟨m y, by omega, fun a w R => ⟨S y, ⟨y, h1, rfl, rfl⟩, h3 a w R⟩⟩
    | _ => exact q) ⟨x0, h0, rfl, rfl⟩)

/-- a cut: what comes before, to a state of its own, and what goes on from there -/
theorem AWP.cut {P : Program} {bs : Base} {x y : Code} {Q : Exit → St → Prop} {st : St} (M : St → Prop) (h : AWP P bs x (thenA M Q) st) (k : ∀ st', M st' → AWP P bs y Q st') : AWP P bs (.seq x y) Q st :=
  AWP.seq (h.mono fun e st' q => by
    cases e with
    | normal => exact k st' q
    | _ => exact q)

end
end Fen

/- Part 27: the words that compute: each a rewriting rule that fires where its head is known, so nothing is tried in vain. -/
namespace Fen
open Go Go.RowKit

/-! ### helpers: what is asked next, behind what is known by then -/
def exE (p : Prop) : Option Eff → Option Eff
  | some e => some ⟨p ∧ e.pre, e.x, e.acc, e.h⟩
  | none => none
def gV (b : Bool) : Bool × X → Option Bool
  | (c, .val (.bool y)) => some (c && (y == b))
  | _ => none
def gK (r : List (Nat × X)) (b : Bool) : Option Tmp → Option Bool
  | some d => gV b (strip (lk r d))
  | none => none
def gdE (e : Option Eff) : Option Bool → Option Eff
  | none => none
  | some c => match e with
    | some e => some ⟨c = true → e.pre, .ifb c e.x, e.acc, e.h⟩
    | none => none
def dstAt : List Oper → Nat → Option Tmp
  | [], _ => none
  | o :: _, 0 => o.dst
  | _ :: l, j + 1 => dstAt l j
theorem dstAt_eq : ∀ (l : List Oper) (j : Nat), dstAt l j = (l[j]?).bind (·.dst)
  | [], j => by simp [dstAt]
  | o :: l, 0 => by simp [dstAt]
  | o :: l, j + 1 => by simp [dstAt, dstAt_eq l j]
def pkK (h : List Blk) : Bool × X → Bool × X → Bool × X → Option Eff
  | (cc, .val (.bool c0)), (ca, .val (.bool x)), (cb, .val (.bool y)) => some ⟨cc = true ∧ (c0 = true → ca = true) ∧ (c0 = false → cb = true), .val (.bool (if c0 then x else y)), .pure, h⟩
  | _, _, _ => none
def txK (h : List Blk) : Option X → Option Eff
  | some y => some ⟨True, y, .pure, h⟩
  | none => none
def agK (T : TT) (t : Nat) (op : BinOp) (h : List Blk) (as bs : List C) : Option (List EK) → Option Eff
  | some ks => aggEq T t op h as bs ks
  | none => none
def agT : Option TI → Prop
  | some ti => ti.k.agg = true
  | none => False
def cpT (T : TT) (h : List Blk) (gd : Bool) (d s : X) : Option TI → Option Eff
  | some ⟨.slice e, _, _, _⟩ => copyE h gd d (T e) (srcOf h s)
  | _ => none
def bbK (h : List Blk) (op : BinOp) (a b : Bool) : Option TI → Option Eff
  | some ⟨.bool, _, _, _⟩ => match op with
    | .eql => some ⟨True, .val (.bool (a == b)), .pure, h⟩
    | .neq => some ⟨True, .val (.bool !(a == b)), .pure, h⟩
    | _ => none
  | _ => none
def tvR (h : List Blk) (id ver : Nat) : Option Blk → Option (V × List Blk)
  | some (.sl ty v _ sz n c) => if ver = v then some (.c (.sl n c), h.set id (.sl ty v false sz n c)) else none
  | _ => none
def tvW (h : List Blk) (id ver off n : Nat) : Option Blk → Option (V × List Blk)
  | some (.sl ty v _ sz m c) => if ver = v then some (.c (.sl n ((c.drop off).take (n * sz))), h.set id (.sl ty v false sz m c)) else none
  | _ => none
def tvL (v : V) : Option (List V × List Blk) → Option (List V × List Blk)
  | some (vs, h) => some (v :: vs, h)
  | none => none
def tvK (xs : List X) : Option (V × List Blk) → Option (List V × List Blk)
  | some (v, h) => tvL v (toVs h xs)
  | none => none
def caX (off : Nat) (cs : List X) : Option (List C) → Option (Cs × Acc)
  | some l => some (.c (l.drop off), .read)
  | none => some (.x (cs.drop off), .read)
def caK (ver off : Nat) : Option Blk → Option (Cs × Acc)
  | some (.box _ cs) => if ver = 0 then caX off cs (allC cs) else none
  | some (.sl ty v _ _ _ cs) => if ver = v then some (.c (cs.drop off), .read) else none
  | some (.slx ty v _ _ cs) => if ver = v then some (.x (cs.drop off), .read) else none
  | some (.gone l) => if ver = 0 then some (.c (l.drop off), .read) else none
  | _ => none
def ldA (ti : TI) : Option (List C × List Blk) → Option Eff
  | some (cs, h') => some ⟨ti.size = cs.length, .agg cs, .write, h'⟩
  | none => none
def ldX (acc : Acc) (h : List Blk) : List X → Option Eff
  | x :: _ => some ⟨True, x, acc, h⟩
  | [] => none
def ldK (h : List Blk) : Option TI → Option (Cs × Acc) → Option Eff
  | some ti, some (.c cs, acc) => if ti.k.agg = true then some ⟨ti.size ≤ cs.length, .agg (cs.take ti.size), acc, h⟩ else some ⟨0 < cs.length, .val (cs.headD (zC (ti.zero.headD .nil))), acc, h⟩
  | some ti, some (.x xs, acc) => if ti.k.agg = true then ldA ti (toCs h (xs.take ti.size)) else ldX acc h xs
  | _, _ => none
def tcL (c : C) : Option (List C × List Blk) → Option (List C × List Blk)
  | some (cs, h) => some (c :: cs, h)
  | none => none
def tcK (xs : List X) : Option (V × List Blk) → Option (List C × List Blk)
  | some (.c c, h) => tcL c (toCs h xs)
  | _ => none
def stB (h : List Blk) (ty : TypeId) (ti : TI) (cs : List X) (id off : Nat) : Option (List X) → Option Eff
  | some new => some ⟨new.length = ti.size ∧ off + ti.size ≤ cs.length, .dead, .write, h.set id (.box ty (setSeg cs off ti.size new))⟩
  | none => none
def stT (h' : List Blk) (ti : TI) (new : List C) (id ver off : Nat) : Option Blk → Option Eff
  | some (.sl ty v p sz n cs) => if ver = v then some ⟨p = true ∧ new.length = ti.size ∧ off + ti.size ≤ cs.length, .dead, .write, h'.set id (.sl ty v p sz n (setSeg cs off ti.size new))⟩ else none
  | _ => none
def stS (ti : TI) (id ver off : Nat) : Option (List C × List Blk) → Option Eff
  | some (new, h') => stT h' ti new id ver off (h'[id]?)
  | none => none
def stX (h : List Blk) (ty v sz n : Nat) (ti : TI) (cs : List X) (id off : Nat) : Option (List X) → Option Eff
  | some new => some ⟨new.length = ti.size ∧ off + ti.size ≤ cs.length, .dead, .write, h.set id (.slx ty v sz n (setSeg cs off ti.size new))⟩
  | none => none
def stP (h : List Blk) (x : X) (id ver off : Nat) : Option TI → Option Blk → Option Eff
  | some ti, some (.box ty cs) => if ver = 0 then stB h ty ti cs id off (storeXs x) else none
  | some ti, some (.slx ty v sz n cs) => if ver = v then stX h ty v sz n ti cs id off (storeXs x) else none
  | some ti, some (.sl ty _ _ _ _ _) => stS ti id ver off (storeCs h x)
  | _, _ => none
def scK : Option (V × List Blk) → Option (List C × List Blk)
  | some (.c c, h') => some ([c], h')
  | some (.agg cs, h') => some (cs, h')
  | none => none
def fcK (place : Nat → Option (Nat × Nat)) (cells : List C) (v : V) (rest : List (Nat × V)) : Option (Nat × Nat) → Prop × List C
  | none => (False, cells)
  | some (off, n) => (v.cells.length = n ∧ off + n ≤ cells.length ∧ (fillC place (setSeg cells off n v.cells) rest).1, (fillC place (setSeg cells off n v.cells) rest).2)
def pvL (i : Nat) (v : V) : Option (List (Nat × V) × List Blk) → Option (List (Nat × V) × List Blk)
  | some (vs, h) => some ((i, v) :: vs, h)
  | none => none
def pvK (ev : Operand → X) (i : Nat) (rest : List (Nat × Operand)) : Option (V × List Blk) → Option (List (Nat × V) × List Blk)
  | some (v, h) => pvL i v (partVs h ev rest)
  | none => none
def plK (o : Nat) : Option TI → Option (List (Nat × Nat)) → Option (List (Nat × Nat))
  | some ti, some pl => some ((o, ti.size) :: pl)
  | _, _ => none
def bdT (ti : TI) (ps : List (Nat × V)) (h' : List Blk) (b : Bool) : Option (List (Nat × Nat)) → Option Eff
  | some pl => some ⟨(fillC (fun i => pl[i]?) (ti.zero.map zC) ps).1, .agg (fillC (fun i => pl[i]?) (ti.zero.map zC) ps).2, if b = true then .pure else .write, h'⟩
  | none => none
def bdA (ti : TI) (ps : List (Nat × V)) (h' : List Blk) (b : Bool) : Option TI → Option Eff
  | some ei => some ⟨(fillC (fun i => some (i * ei.size, ei.size)) (ti.zero.map zC) ps).1, .agg (fillC (fun i => some (i * ei.size, ei.size)) (ti.zero.map zC) ps).2, if b = true then .pure else .write, h'⟩
  | none => none
def bdK (T : TT) (b : Bool) : Option TI → Option (List (Nat × V) × List Blk) → Option Eff
  | some ti, some (ps, h') => match ti.k with
    | .struct fs => bdT ti ps h' b (placesOf T fs)
    | .array _ e => bdA ti ps h' b (T e)
    | _ => none
  | _, _ => none
def bsE (len : Nat) (b : Bool) : Option TI → Option (List (Nat × V) × List Blk) → Option Eff
  | some ei, some (ps, h') => some ⟨(fillC (fun i => some (i * ei.size, ei.size)) (rep len (ei.zero.map zC)) ps).1 ∧ 0 < ei.size ∧ len * ei.size ≤ 16777216, .ex ei.size len (fillC (fun i => some (i * ei.size, ei.size)) (rep len (ei.zero.map zC)) ps).2, if b = true then .pure else .write, h'⟩
  | _, _ => none
def bsK (T : TT) (ev : Operand → X) (h : List Blk) (len : Nat) (parts : List (Nat × Operand)) : Option TI → Option Eff
  | some ⟨.slice e, _, _, _⟩ => bsE len (partsPlain ev parts) (T e) (partVs h ev parts)
  | _ => none
def iaA (h : List Blk) (len : Nat) (n : Int) (x : X) : Option TI → Option Eff
  | some ei => match x with
    | .ptr id ver off => some ⟨0 ≤ n ∧ n < len, .ptr id ver (off + n.toNat * ei.size), .pure, h⟩
    | .fptr cs => some ⟨0 ≤ n ∧ n < len, .fptr (cs.drop (n.toNat * ei.size)), .pure, h⟩
    | _ => none
  | none => none
def iaR (h : List Blk) (ei : TI) (id ver : Nat) (n : Int) : Option Blk → Option Eff
  | some (.sl ty v _ _ m _) => if ver = v then some ⟨0 ≤ n ∧ n < m, .ptr id ver (n.toNat * ei.size), .read, h⟩ else none
  | some (.slx ty v _ m _) => if ver = v then some ⟨0 ≤ n ∧ n < m, .ptr id ver (n.toNat * ei.size), .read, h⟩ else none
  | _ => none
def iaW (h : List Blk) (ei : TI) (id ver off m : Nat) (n : Int) : Option Blk → Option Eff
  | some (.sl ty v _ _ _ _) => if ver = v then some ⟨0 ≤ n ∧ n < m, .ptr id ver (off + n.toNat * ei.size), .read, h⟩ else none
  | _ => none
def iaS (h : List Blk) (n : Int) (x : X) : Option TI → Option Eff
  | some ei => match x with
    | .val (.sl m cs) => some ⟨0 ≤ n ∧ n < m, .fptr (cs.drop (n.toNat * ei.size)), .pure, h⟩
    | .ex _ m cs => some ⟨0 ≤ n ∧ n < m, .fptr (cs.drop (n.toNat * ei.size)), .pure, h⟩
    | .ref id ver => iaR h ei id ver n (h[id]?)
    | .view id ver off m => iaW h ei id ver off m n (h[id]?)
    | _ => none
  | none => none
def iaT (T : TT) (h : List Blk) (x : X) (n : Int) : Option TI → Option Eff
  | some ⟨.array len e, _, _, _⟩ => iaA h len n x (T e)
  | some ⟨.slice e, _, _, _⟩ => iaS h n x (T e)
  | _ => none
def faX (h : List Blk) (off : Nat) (x : X) : Option TI → Option Eff
  | some fi => match x with
    | .ptr id ver o => some ⟨0 < fi.size, .ptr id ver (o + off), .pure, h⟩
    | .fptr cs => some ⟨0 < fi.size, .fptr (cs.drop off), .pure, h⟩
    | _ => none
  | none => none
def faF (T : TT) (h : List Blk) (x : X) : Option (Nat × Nat) → Option Eff
  | some (off, ft) => faX h off x (T ft)
  | none => none
def faT (T : TT) (h : List Blk) (x : X) (f : Nat) : Option TI → Option Eff
  | some ⟨.struct fs, _, _, _⟩ => faF T h x (fs[f]?)
  | _ => none
def ofX (h : List Blk) (cs : List C) (off : Nat) : Option TI → Option Eff
  | some fi => some (partX fi cs off h)
  | none => none
def ofF (T : TT) (h : List Blk) (cs : List C) : Option (Nat × Nat) → Option Eff
  | some (off, ft) => ofX h cs off (T ft)
  | none => none
def ofT (T : TT) (h : List Blk) (cs : List C) (f : Nat) : Option TI → Option Eff
  | some ⟨.struct fs, _, _, _⟩ => ofF T h cs (fs[f]?)
  | _ => none
def ixE (h : List Blk) (len : Nat) (cs : List C) (n : Int) : Option TI → Option Eff
  | some ei => some ⟨0 ≤ n ∧ n < len ∧ (partX ei cs (n.toNat * ei.size) h).pre, (partX ei cs (n.toNat * ei.size) h).x, .pure, h⟩
  | none => none
def ixA (T : TT) (h : List Blk) (cs : List C) (n : Int) : Option TI → Option Eff
  | some ⟨.array len e, _, _, _⟩ => ixE h len cs n (T e)
  | _ => none
def ixS (h : List Blk) (l : List UInt8) (n : Int) : Option TI → Option Eff
  | some ⟨.str, _, _, _⟩ => some ⟨0 ≤ n ∧ n < l.length, .val (byteC (l.getD n.toNat 0)), .pure, h⟩
  | _ => none
def slStr (h : List Blk) (l : List UInt8) : Option Int → Option Int → Option Eff
  | some a, some b => some ⟨0 ≤ a ∧ a ≤ b ∧ b ≤ l.length, .val (.str ((l.take b.toNat).drop a.toNat)), .pure, h⟩
  | _, _ => none
def slVal (h : List Blk) (ei : TI) (n : Nat) (cs : List C) : Option Int → Option Int → Option Eff
  | some a, some b => some ⟨0 ≤ a ∧ a ≤ b ∧ b ≤ n, .val (.sl (b - a).toNat ((cs.drop (a.toNat * ei.size)).take ((b - a).toNat * ei.size))), .pure, h⟩
  | _, _ => none
def slNil (h : List Blk) : Option Int → Option Int → Option Eff
  | some a, some b => some ⟨a = 0 ∧ b = 0, .nil, .pure, h⟩
  | _, _ => none
def slView (h : List Blk) (id ver off sz n : Nat) : Option Int → Option Int → Option Eff
  | some a, some b => some ⟨0 ≤ a ∧ a ≤ b ∧ b ≤ n, .view id ver (off + a.toNat * sz) (b - a).toNat, .read, h⟩
  | _, _ => none
def slRef (h : List Blk) (ei : TI) (id ver : Nat) (lo hi : Option X) : Option Blk → Option Eff
  | some (.sl ty v _ _ n _) => if ver = v then (match bound lo 0, bound hi n with
      | some a, some b => some ⟨0 ≤ a ∧ a ≤ b ∧ b ≤ n, .view id ver (a.toNat * ei.size) (b - a).toNat, .read, h⟩
      | _, _ => none) else none
  | _ => none
def slWiew (h : List Blk) (ei : TI) (id ver off n : Nat) (lo hi : Option X) : Option Blk → Option Eff
  | some (.sl ty v _ _ _ _) => if ver = v then slView h id ver off ei.size n (bound lo 0) (bound hi n) else none
  | _ => none
def slMx (ei : TI) (b : Bool) (lo hi : Option X) (m : X) : Option (V × List Blk) → Option Eff
  | some (.c (.sl n cs), h') =>
    match bound lo 0, hi, m with
    | some a, some (.val (.int _ b')), .val (.int _ c) =>
      some ⟨0 ≤ a ∧ a ≤ b' ∧ b' ≤ n ∧ c = b' ∧ 0 < ei.size ∧ ((cs.drop (a.toNat * ei.size)).take ((b' - a).toNat * ei.size)).length = (b' - a).toNat * ei.size, .ex ei.size (b' - a).toNat ((cs.drop (a.toNat * ei.size)).take ((b' - a).toNat * ei.size)), if b = true then .pure else .write, h'⟩
    | _, _, _ => none
  | _ => none
def slE (h : List Blk) (x : X) (lo hi mx : Option X) : Option TI → Option Eff
  | none => none
  | some ei =>
    match mx with
    | none =>
      match x with
      | .val (.sl n cs) => slVal h ei n cs (bound lo 0) (bound hi n)
      | .ex _ n cs => slVal h ei n cs (bound lo 0) (bound hi n)
      | .nil => slNil h (bound lo 0) (bound hi 0)
      | .ref id ver => slRef h ei id ver lo hi (h[id]?)
      | .view id ver off n => slWiew h ei id ver off n lo hi (h[id]?)
      | _ => none
    | some m => slMx ei (plainX x) lo hi m (toV h x)
def slT (T : TT) (h : List Blk) (x : X) (lo hi mx : Option X) : Option TI → Option Eff
  | some ⟨.str, _, _, _⟩ =>
    match x, mx with
    | .val (.str l), none => slStr h l (bound lo 0) (bound hi l.length)
    | _, _ => none
  | some ⟨.slice e, _, _, _⟩ => slE h x lo hi mx (T e)
  | _ => none
def soR (id ver : Nat) : Option Blk → Option (Nat × List C × Acc)
  | some (.sl ty v _ _ n c) => if ver = v then some (n, c, .read) else none
  | _ => none
def soW (ver off n : Nat) : Option Blk → Option (Nat × List C × Acc)
  | some (.sl ty v _ sz _ c) => if ver = v then some (n, (c.drop off).take (n * sz), .read) else none
  | _ => none
def cvS (h : List Blk) : Option TI → Option (Nat × List C × Acc) → Option Eff
  | some ⟨.int .u8, 1, _, _⟩, some (n, cs, acc) => some ⟨cs.all isByte = true ∧ cs.length = n, .val (.str (cs.map byteOf)), acc, h⟩
  | _, _ => none
def cvB (h : List Blk) (l : List UInt8) : Option TI → Option Eff
  | some ⟨.int .u8, 1, _, _⟩ => some ⟨l.length ≤ 9223372036854775807, .val (.sl l.length (l.map byteC)), .pure, h⟩
  | _ => none
def cvK (T : TT) (h : List Blk) (x : X) : Option TI → Option TI → Option Eff
  | some si, some di =>
    match si.k, di.k, x with
    | .int _, .int k, .val (.int _ n) => some ⟨True, .val (.int k (k.wrap n)), .pure, h⟩
    | .str, .str, .val (.str l) => some ⟨True, .val (.str l), .pure, h⟩
    | .slice e, .str, x => cvS h (T e) (slOf h x)
    | .str, .slice e, .val (.str l) => cvB h l (T e)
    | _, _, _ => none
  | _, _ => none
def mkE (h : List Blk) (gd : Bool) (e : TypeId) (n m : Int) : Option TI → Option Eff
  | some ei => if gd = true then none else some ⟨0 ≤ n ∧ n ≤ m ∧ m * ei.bytes ≤ 140737488355328 ∧ m ≤ 9223372036854775807 ∧ 0 < ei.size, .ref h.length 0, .write, h ++ [.sl e 0 true ei.size n.toNat (rep n.toNat (ei.zero.map zC))]⟩
  | none => none
def mkT (T : TT) (h : List Blk) (gd : Bool) (n m : Int) : Option TI → Option Eff
  | some ⟨.slice e, _, _, _⟩ => mkE h gd e n m (T e)
  | _ => none
def soM : Option (Nat × List C × Acc) → Option (Nat × List C)
  | some r => some (r.1, r.2.1)
  | none => none
def stK2 : Option TI → Bool
  | some ⟨.slice _, _, _, _⟩ | some ⟨.str, _, _, _⟩ => true
  | _ => false
def apR (h : List Blk) (e : TypeId) (ei : TI) (id ver m : Nat) (new : List C) : Option Blk → Option Eff
  | some (.sl ty v p sz n cs) => if ver = v then some ⟨e = ty ∧ new.length = m * ei.size ∧ sz = ei.size ∧ (n + m) * ei.bytes ≤ 140737488355328 ∧ n + m ≤ 9223372036854775807, .ref id (ver + 1), .write, h.set id (.sl ty (v + 1) p sz (n + m) (cs ++ new))⟩ else none
  | _ => none
def apE (h : List Blk) (gd : Bool) (e : TypeId) (d : X) : Option TI → Option (Nat × List C) → Option Eff
  | some ei, some (m, new) => if gd = true then none else
      match d with
      | .nil => some ⟨new.length = m * ei.size ∧ 0 < ei.size ∧ m * ei.bytes ≤ 140737488355328 ∧ m ≤ 9223372036854775807, .ref h.length 0, .write, h ++ [.sl e 0 true ei.size m new]⟩
      | .ex sz n cs => some ⟨new.length = m * ei.size ∧ sz = ei.size ∧ (n + m) * ei.bytes ≤ 140737488355328 ∧ n + m ≤ 9223372036854775807, .ref h.length 0, .write, h ++ [.sl e 0 (n == 0) sz (n + m) (cs ++ new)]⟩
      | .ref id ver => apR h e ei id ver m new (h[id]?)
      | _ => none
  | _, _ => none
def apT (T : TT) (h : List Blk) (gd : Bool) (d s : X) : Option TI → Option Eff
  | some ⟨.slice e, _, _, _⟩ => apE h gd e d (T e) (srcOf h s)
  | _ => none
def mmK (k : IntKind) (h : List Blk) : Option Int → Option Eff
  | some r => some ⟨True, .val (.int k r), .pure, h⟩
  | none => none
def lnS (h : List Blk) : Option (Nat × List C × Acc) → Option Eff
  | some (n, _, acc) => some ⟨True, .val (.int .i64 n), acc, h⟩
  | none => none
def lnY (h : List Blk) : Option (Nat × List C × Acc) → Option Nat → Option Eff
  | some (n, _, acc), _ => some ⟨True, .val (.int .i64 n), acc, h⟩
  | none, some n => some ⟨True, .val (.int .i64 n), .read, h⟩
  | none, none => none
def lxR (ver : Nat) : Option Blk → Option Nat
  | some (.slx _ v _ n _) => if ver = v then some n else none
  | _ => none
def sxR (ver : Nat) : Option Blk → Option (Nat × List X)
  | some (.slx _ v _ n c) => if ver = v then some (n, c) else none
  | _ => none
def syK (q : Option (Nat × List X)) : Option (Nat × List C) → Option (Nat × List X)
  | some (m, new) => some (m, new.map .val)
  | none => q
def isB : Option Blk → Bool
  | some (.slx ..) => true
  | _ => false
def ayR (h : List Blk) (e : TypeId) (ei : TI) (id ver m : Nat) (new : List X) : Option Blk → Option Eff
  | some (.sl ty v p sz n cs) =>
    if ver = v then some ⟨p = true ∧ e = ty ∧ new.length = m * ei.size ∧ sz = ei.size ∧ (n + m) * ei.bytes ≤ 140737488355328 ∧ n + m ≤ 9223372036854775807 ∧ new.all cellX = true, .ref id (ver + 1), .write,
      h.set id (.slx ty (v + 1) sz (n + m) (cs.map .val ++ new))⟩ else none
  | some (.slx ty v sz n cs) =>
    if ver = v then some ⟨e = ty ∧ new.length = m * ei.size ∧ sz = ei.size ∧ (n + m) * ei.bytes ≤ 140737488355328 ∧ n + m ≤ 9223372036854775807 ∧ new.all cellX = true, .ref id (ver + 1), .write,
      h.set id (.slx ty (v + 1) sz (n + m) (cs ++ new))⟩ else none
  | _ => none
def ayE (h : List Blk) (gd : Bool) (e : TypeId) (d : X) (q : Option (Nat × List X)) : Option TI → Option Eff
  | some ei => apY h gd e ei d q
  | none => none
def ayT (T : TT) (h : List Blk) (gd : Bool) (d : X) (q : Option (Nat × List X)) : Option TI → Option Eff
  | some ⟨.slice e, _, _, _⟩ => ayE h gd e d q (T e)
  | _ => none
def mvE (h : List Blk) (n m : Int) : Option TI → Option Eff
  | some ei => some ⟨0 ≤ n ∧ n ≤ m ∧ m * ei.bytes ≤ 140737488355328 ∧ m ≤ 9223372036854775807 ∧ 0 < ei.size ∧ n = m, .ex ei.size n.toNat (rep n.toNat (ei.zero.map zC)), .pure, h⟩
  | none => none
def mvT (T : TT) (h : List Blk) (n m : Int) : Option TI → Option Eff
  | some ⟨.slice e, _, _, _⟩ => mvE h n m (T e)
  | _ => none
def mlE (h : List Blk) (gd : Bool) (e : TypeId) (n m : Int) : Option TI → Option Eff
  | some ei => if gd = true then none else some ⟨0 ≤ n ∧ n ≤ m ∧ m * ei.bytes ≤ 140737488355328 ∧ m ≤ 9223372036854775807 ∧ 0 < ei.size, .ref h.length 0, .write, h ++ [.slx e 0 ei.size n.toNat (rep n.toNat ei.zero)]⟩
  | none => none
def mlT (T : TT) (h : List Blk) (gd : Bool) (n m : Int) : Option TI → Option Eff
  | some ⟨.slice e, _, _, _⟩ => mlE h gd e n m (T e)
  | _ => none
def blE (h : List Blk) (gd : Bool) (e len : Nat) (ps : List (Nat × X)) : Option TI → Option Eff
  | some ei => if gd = true then none else
      some ⟨(fillX (fun i => some (i * ei.size, ei.size)) (rep len ei.zero) ps).1 ∧ 0 < ei.size ∧ len * ei.size ≤ 16777216 ∧ 0 < len, .ref h.length 0, .write,
        h ++ [.slx e 0 ei.size len (fillX (fun i => some (i * ei.size, ei.size)) (rep len ei.zero) ps).2]⟩
  | none => none
def blT (T : TT) (h : List Blk) (gd : Bool) (len : Nat) (ps : List (Nat × X)) : Option TI → Option Eff
  | some ⟨.slice e, _, _, _⟩ => blE h gd e len ps (T e)
  | _ => none
def lnT (h : List Blk) (x : X) : Option TI → Option Eff
  | some ⟨.array n _, _, _, _⟩ => some ⟨True, .val (.int .i64 n), .pure, h⟩
  | some ⟨.str, _, _, _⟩ => match x with | .val (.str l) => some ⟨True, .val (.int .i64 l.length), .pure, h⟩ | _ => none
  | some ⟨.slice _, _, _, _⟩ => lnY h (slOf h x) (lenX h x)
  | _ => none
def clG (p : Prop) (b : Bool) (h' : List Blk) : RV → Option Eff
  | .one c => some ⟨p, c.frz.x, if b = true then .pure else .write, h'⟩
  | .many _ => none
def clK (gd : Bool) (h : List Blk) (xs ys : List X) : Option Spec → Option Eff
  | some s => opCallS s gd h xs ys
  | none => none
def cwK (s : Spec) (gd : Bool) (xs : List X) : Option (List V × List Blk) → Option Eff
  | some (vs, h') => if gd = true then clG (s.pre vs) (xs.all plainX) h' (s.res vs) else
      some ⟨s.pre vs, (imp h' (s.res vs)).1, if (xs.all plainX && onlyVals (s.res vs)) = true then .pure else .write, (imp h' (s.res vs)).2⟩
  | none => none
def csK (s : Spec) (gd : Bool) (h : List Blk) (xs ys : List X) : Option HS → Option Eff
  | some hs => hcE hs gd h ys
  | none => cwK s gd xs (toVs h xs)
def hcA (wr : Bool) : Acc := if wr = true then .write else .read
def hcH (wr : Bool) (h' h : List Blk) : List Blk := if wr = true then h' else h
def hcO (wr : Bool) (e : Eff) : Option Eff := if wr = true then none else some e
def tdL (c : C) : Option (List C × List Blk) → Option (List C × List Blk)
  | some (cs, h) => some (c :: cs, h)
  | none => none
def tdK (xs : List X) : Option (V × List Blk) → Option (List C × List Blk)
  | some (.c c, h) => tdL c (toCs1 h xs)
  | _ => none
def isV : Comp → Bool
  | .val _ => true
  | .own .. => false
def rcK (alt : Option (Prop × X)) : Option Eff → Option (Prop × X)
  | some e => if e.acc = .write then alt else some (e.pre, e.x)
  | none => alt
def rlK : Option TI → Option (Cs × Acc) → Option (Prop × X)
  | some ti, some (.x xs, _) => if ti.k.agg && xs.all oneX then some (xs.length = ti.size, .recd xs) else none
  | _, _ => none
def rsK : Option (Prop × X) → Option (Prop × List X) → Option (Prop × List X)
  | some (p, x), some (ps, xs) => some (p ∧ ps, x :: xs)
  | _, _ => none
def fzL (p : Prop) : Option (Prop × List Blk) → Option (Prop × List Blk)
  | some (q, h) => some (p ∧ q, h)
  | none => none
def fzK (a : V) (xs : List X) (cs : List Comp) : Option (V × List Blk) → Option (Prop × List Blk)
  | some (b, h') => fzL (b = a) (frzAll h' xs cs)
  | none => none
def owR (h : List Blk) (used : List Nat) (id ver : Nat) (ty : TypeId) (p : Bool) (sz n : Nat) (cells : List C) (xs : List X) (cs : List Comp) : Option Blk → Prop
  | some (.sl ty' v p' sz' n' cs') => id ∉ used ∧ ver = v ∧ ty' = ty ∧ (p = true → p' = true) ∧ sz' = sz ∧ n' = n ∧ cs' = cells ∧ ownAll h (id :: used) xs cs
  | _ => False
def rtL (p : Prop) (xs : List X) (rv : RV) : Option (Prop × List Blk) → Prop
  | some (q, h') => p ∧ q ∧ ownAll h' [] xs rv.comps
  | none => False
def rtK (h : List Blk) (rv : RV) : Option (Prop × List X) → Prop
  | some (p, xs) => rtL p xs rv (frzAll h xs rv.comps)
  | none => False
def cvV (v : Nat) : Option Blk → Prop
  | some b => b.ver = v
  | none => False
def isS : Option Blk → Prop
  | some (.sl ..) => True
  | some (.slx ..) => True
  | _ => False
def rbS (ty : TypeId) (p : Bool) (sz n : Nat) (cs : List C) : Option Blk → Prop
  | some (.sl ty' _ p' sz' n' cs') => ty = ty' ∧ (p = true → p' = true) ∧ sz = sz' ∧ n = n' ∧ cs = cs'
  | some (.slx ty' _ sz' n' cs') => ty = ty' ∧ sz = sz' ∧ n = n' ∧ cs' = cs.map .val
  | _ => False
def rbX (h h' : List Blk) (ids : List (Option Nat)) (ty : TypeId) (sz n : Nat) (cs : List X) : Option Blk → Prop
  | some (.slx ty' _ sz' n' cs') => ty = ty' ∧ sz = sz' ∧ n = n' ∧ renXs h h' ids cs cs'
  | some (.sl ty' _ p' sz' n' cs') => ty = ty' ∧ p' = true ∧ sz = sz' ∧ n = n' ∧ cs = cs'.map .val
  | _ => False
def rbB (h h' : List Blk) (ids : List (Option Nat)) (ty : TypeId) (xs : List X) : Option Blk → Prop
  | some (.box ty' ys) => ty = ty' ∧ renXs h h' ids xs ys
  | _ => False

def rbO (q : Loop) : Option Blk → Prop
  | some (.obj q') => q = q'
  | _ => False
def rbM (a b : IntKind) (es : List (Int × Int)) : Option Blk → Prop
  | some (.mp a' b' es') => a = a' ∧ b = b' ∧ es = es'
  | _ => False
def rbB2 (a b : Nat) (es : List C) : Option Blk → Prop
  | some (.sb a' b' es') => a = a' ∧ b = b' ∧ es = es'
  | _ => False
def rbG (l : List C) : Option Blk → Prop
  | some (.gone l') => l = l'
  | _ => False

def rbI : Option Blk → Prop
  | some .hid => True
  | _ => False

/-- a branch: the one that isn't taken is not looked at -/
def cndA (b : Bool) (A B : Prop) : Prop := (b = true → A) ∧ (b = false → B)
/-- what comes behind, in words that nothing opens before there is an end to look at -/
def thenC (E : Env) (b : Code) (Q : Exit → St → Prop) : Exit → St → Prop := thenA (wpc E b Q) Q

def stepR (E : Env) (ops : Array Oper) (d : Option Tmp) (o : Oper) (l : List Oper) (K : St → Prop) (st : St) : Option Eff → Prop
  | some e => dstOK st.n d ∧ e.pre ∧ wpR E ops l K (st.put d e.x e.h)
  | none => OpW E.P E.bs ops o st (wpR E ops l K)
def stepD (E : Env) (ops : Array Oper) (d : Option Tmp) (o : Oper) (l : List Oper) (accs : List AccI) (K : St → Prop) (st : St) : Option Eff → Prop
  | some e => dstOK st.n d ∧ e.pre ∧ wpD E ops l (accs ++ [accI E.G E.bs.gl o st.r st.h e.acc]) K (st.put d e.x e.h)
  | none => False

/-! ### where the words are not to look -/
section
variable {E : Env} {Q : Exit → St → Prop} {st st' : St} {a b c : Code} {ops : Array Oper} {l : List Oper} {K : St → Prop} {o : Oper} {d : Option Tmp}
@[congr] theorem cndA_congr {b b' : Bool} {A B : Prop} (h : b = b') : cndA b A B = cndA b' A B := by rw [h]
@[congr] theorem condA_congr {x x' : X} {A B : Prop} (h : x = x') : condA x A B = condA x' A B := by rw [h]
@[congr] theorem wpc_congr (h : st = st') : wpc E c Q st = wpc E c Q st' := by rw [h]
@[congr] theorem AWP_congr {P : Program} {bs : Base} (h : st = st') : AWP P bs c Q st = AWP P bs c Q st' := by rw [h]
@[congr] theorem wpR_congr (h : st = st') : wpR E ops l K st = wpR E ops l K st' := by rw [h]
@[congr] theorem wpD_congr {as as' : List AccI} (h : st = st') (h' : as = as') : wpD E ops l as K st = wpD E ops l as' K st' := by rw [h, h']
@[congr] theorem stepR_congr {e e' : Option Eff} (h : e = e') : stepR E ops d o l K st e = stepR E ops d o l K st e' := by rw [h]
@[congr] theorem stepD_congr {as : List AccI} {e e' : Option Eff} (h : e = e') : stepD E ops d o l as K st e = stepD E ops d o l as K st e' := by rw [h]
@[congr] theorem accI_congr {G : Specs} {gl : Gl} {r : List (Nat × X)} {h : List Blk} {a a' : Acc} (e : a = a') : accI G gl o r h a = accI G gl o r h a' := by rw [e]
@[congr] theorem accO_congr {G : Specs} {ev : Operand → X} {h : List Blk} {p : Op} {a a' : Acc} (e : a = a') : accO G ev h p a = accO G ev h p a' := by rw [e]
@[congr] theorem thenC_congr {e e' : Exit} (h : st = st') (h' : e = e') : thenC E b Q e st = thenC E b Q e st' := by rw [h]
@[congr] theorem thenA_congr {K : St → Prop} {e : Exit} (h : st = st') : thenA K Q e st = thenA K Q e st' := by rw [h]
@[congr] theorem inBlockA_congr {id : Nat} {e : Exit} (h : st = st') : inBlockA id Q e st = inBlockA id Q e st' := by rw [h]
@[congr] theorem noGotoA_congr {e : Exit} (h : st = st') : noGotoA Q e st = noGotoA Q e st' := by rw [h]
@[congr] theorem opG_congr2 {T : TT} {G : Specs} {gl : Gl} {r r' : List (Nat × X)} {h h' : List Blk} (e : r = r') (e' : h = h') : opG T G gl ops o r h = opG T G gl ops o r' h' := by rw [e, e']
@[congr] theorem guardC_congr {r r' : List (Nat × X)} {g : Nat × Bool} (e : r = r') : guardC ops r g = guardC ops r' g := by rw [e]
@[congr] theorem dstAt_congr {j j' : Nat} (e : j = j') : dstAt l j = dstAt l j' := by rw [e]
@[congr] theorem OpW_congr {P : Program} {bs : Base} {K : St → Prop} (h : st = st') : OpW P bs ops o st K = OpW P bs ops o st' K := by rw [h]
end

attribute [simp] lk evO condsP St.put putR dstOK argsR intBin Comp.frz impC impCs imp Specs.find Spec.pre Spec.res Spec.hp HS.wr HS.eff RV.comps

@[simp] theorem Vx_c (k : C) : (V.c k).x = k.x := rfl
@[simp] theorem Vx_agg (ks : List C) : (V.agg ks).x = .agg ks := rfl
@[simp] theorem Vcells_c (k : C) : (V.c k).cells = [k] := rfl
@[simp] theorem Vcells_agg (ks : List C) : (V.agg ks).cells = ks := rfl

/-! ### the rules of the code -/
section
variable (E : Env) (Q : Exit → St → Prop) (st : St) (a b c : Code)
@[simp] theorem condA_bool (b : Bool) (A B : Prop) : condA (.val (.bool b)) A B = cndA b A B := rfl
@[simp] theorem cndA_true (A B : Prop) : cndA true A B = A := by simp [cndA]
@[simp] theorem cndA_false (A B : Prop) : cndA false A B = B := by simp [cndA]
@[simp low] theorem cndA_any (b : Bool) (A B : Prop) : cndA b A B = ((b = true → A) ∧ (b = false → B)) := rfl
@[simp] theorem thenC_normal : thenC E b Q .normal st = wpc E b Q st := rfl
@[simp] theorem thenC_ret : thenC E b Q .ret st = Q .ret st := rfl
@[simp] theorem thenC_exit (i : Nat) : thenC E b Q (.exit i) st = Q (.exit i) st := rfl
@[simp] theorem thenC_goto (i : Nat) : thenC E b Q (.goto i) st = Q (.goto i) st := rfl
@[simp] theorem thenA_normal (K : St → Prop) : thenA K Q .normal st = K st := rfl
@[simp] theorem thenA_ret (K : St → Prop) : thenA K Q .ret st = Q .ret st := rfl
@[simp] theorem thenA_exit (K : St → Prop) (i : Nat) : thenA K Q (.exit i) st = Q (.exit i) st := rfl
@[simp] theorem thenA_goto (K : St → Prop) (i : Nat) : thenA K Q (.goto i) st = Q (.goto i) st := rfl
@[simp] theorem inB_normal (id : Nat) : inBlockA id Q .normal st = Q .normal st := rfl
@[simp] theorem inB_ret (id : Nat) : inBlockA id Q .ret st = Q .ret st := rfl
@[simp] theorem inB_exit (id i : Nat) : inBlockA id Q (.exit i) st = if id = i then Q .normal st else Q (.exit i) st := by simp [inBlockA, eq_comm]
@[simp] theorem inB_goto (id i : Nat) : inBlockA id Q (.goto i) st = Q (.goto i) st := rfl
@[simp] theorem nog_normal : noGotoA Q .normal st = Q .normal st := rfl
@[simp] theorem nog_ret : noGotoA Q .ret st = Q .ret st := rfl
@[simp] theorem nog_exit (i : Nat) : noGotoA Q (.exit i) st = Q (.exit i) st := rfl
@[simp] theorem nog_goto (i : Nat) : noGotoA Q (.goto i) st = False := rfl
@[simp] theorem ends_normal (T : TT) (rs : List ResultVar) (rv : RV) : endsA T rs rv .normal st = retOK T rs rv st := rfl
@[simp] theorem ends_ret (T : TT) (rs : List ResultVar) (rv : RV) : endsA T rs rv .ret st = retOK T rs rv st := rfl
@[simp] theorem wpc_skip : wpc E .skip Q st = Q .normal st := rfl
@[simp] theorem wpc_region (id : Nat) (l : List Oper) : wpc E (.region id l.toArray false) Q st = wpR E l.toArray l (Q .normal) st := rfl
@[simp] theorem wpc_draw (id : Nat) (l : List Oper) : wpc E (.region id l.toArray true) Q st = wpD E l.toArray l [] (Q .normal) st := rfl
@[simp] theorem wpc_seq : wpc E (.seq a b) Q st = wpc E a (thenC E b Q) st := rfl
@[simp] theorem wpc_cond (x : Operand) : wpc E (.cond x a b) Q st = condA (evO E.bs.gl st.r x) (wpc E a Q st) (wpc E b Q st) := rfl
@[simp] theorem wpc_block (id : Nat) : wpc E (.block id c) Q st = wpc E c (inBlockA id Q) st := rfl
@[simp] theorem wpc_loop : wpc E (.loop c) Q st = AWP E.P E.bs (.loop c) Q st := rfl
@[simp] theorem wpc_rangeFunc (f : Operand) (ps : Array Tmp) : wpc E (.rangeFunc f ps a c) Q st = AWP E.P E.bs (.rangeFunc f ps a c) Q st := rfl
@[simp] theorem wpc_exit (i : Nat) : wpc E (.exit i) Q st = Q (.exit i) st := rfl
@[simp] theorem wpc_scope : wpc E (.scope c) Q st = wpc E c (noGotoA Q) st := rfl
@[simp] theorem wpc_label (i : Nat) : wpc E (.label i) Q st = Q .normal st := rfl
@[simp] theorem wpc_goto (i : Nat) : wpc E (.goto i) Q st = Q (.goto i) st := rfl
@[simp] theorem wpc_ret : wpc E .ret Q st = Q .ret st := rfl
variable (ops : Array Oper) (l : List Oper) (K : St → Prop) (d : Option Tmp) (op : Op) (ty : TypeId) (pos : String) (af : Array Edge) (g : Option (Nat × Bool))
@[simp] theorem wpR_nil : wpR E ops [] K st = K st := rfl
@[simp] theorem wpR_cons : wpR E ops (⟨d, op, ty, pos, af, g⟩ :: l) K st = stepR E ops d ⟨d, op, ty, pos, af, g⟩ l K st (opG E.T E.G E.bs.gl ops ⟨d, op, ty, pos, af, g⟩ st.r st.h) := by
  simp only [wpR]; generalize opG _ _ _ _ _ _ _ = e; cases e <;> rfl
@[simp] theorem stepR_some (o : Oper) (e : Eff) : stepR E ops d o l K st (some e) = (dstOK st.n d ∧ e.pre ∧ wpR E ops l K (st.put d e.x e.h)) := rfl
@[simp] theorem stepR_none (o : Oper) : stepR E ops d o l K st none = OpW E.P E.bs ops o st (wpR E ops l K) := rfl
@[simp] theorem accI_some (G : Specs) (gl : Gl) (r : List (Nat × X)) (h : List Blk) (q : Nat × Bool) (a : Acc) : accI G gl ⟨d, op, ty, pos, af, some q⟩ r h a = AccI.of a := rfl
@[simp] theorem accI_none (G : Specs) (gl : Gl) (r : List (Nat × X)) (h : List Blk) (a : Acc) : accI G gl ⟨d, op, ty, pos, af, none⟩ r h a = accO G (evO gl r) h op a := rfl
section
variable (G : Specs) (ev : Operand → X) (h : List Blk)
@[simp] theorem AccI_of_pure : AccI.of .pure = .pure := rfl
@[simp] theorem AccI_of_read : AccI.of .read = .read := rfl
@[simp] theorem AccI_of_write : AccI.of .write = .write := rfl
@[simp] theorem accO_pure (op : Op) : accO G ev h op .pure = .pure := by cases op <;> rfl
@[simp] theorem accO_load (t : TypeId) (x : Operand) : accO G ev h (.load t x) .read = rdP (strip (ev x)).2 := rfl
@[simp] theorem accO_append (args : List Operand) (ats : Array TypeId) (x y : Operand) : accO G ev h (.call ⟨.builtin .append, #[x, y], ats⟩) .write = growP h.length (strip (ev x)).2 := rfl
@[simp] theorem accO_call (f : Operand) (args : List Operand) (ats : Array TypeId) : accO G ev h (.call ⟨.value f, args.toArray, ats⟩) .write = callP G h.length (args.map fun o => (strip (ev o)).2) (strip (ev f)).2 := by simp [accO]
@[simp] theorem accO_slice (t : TypeId) (x : Operand) (lo hi : Option Operand) : accO G ev h (.slice t x lo hi none) .read = rdS (strip (ev x)).2 := rfl
@[simp] theorem accO_len (x : Operand) (ats : Array TypeId) : accO G ev h (.call ⟨.builtin .len, #[x], ats⟩) .read = rdS (strip (ev x)).2 := rfl
@[simp low] theorem accO_read (op : Op) : accO G ev h op .read = match (generalizing := false) op with
    | .load _ x => rdP (strip (ev x)).2
    | .slice _ x _ _ none => rdS (strip (ev x)).2
    | .call ⟨.builtin .len, args, _⟩ => match args.toList with | [x] => rdS (strip (ev x)).2 | _ => .read
    | _ => .read := by cases op <;> rfl
@[simp low] theorem accO_write (op : Op) : accO G ev h op .write = match (generalizing := false) op with
    | .call ⟨.builtin .append, args, _⟩ => match args.toList with | [d, _] => growP h.length (strip (ev d)).2 | _ => .write
    | .call ⟨.value f, args, _⟩ => callP G h.length (args.toList.map fun o => (strip (ev o)).2) (strip (ev f)).2
    | .alloc _ => .grow none h.length
    | .box _ _ => .grow none h.length
    | .makeSlice _ _ _ => .grow none h.length
    | .store _ a x => storeP h.length (strip (ev a)).2 (strip (ev x)).2
    | _ => .write := by cases op <;> rfl
@[simp] theorem storeP_ptr (n i v o : Nat) (x : X) : storeP n (.ptr i v o) x = if plainX x = true then .grow (some i) n else .write := rfl
@[simp] theorem accO_alloc (t : TypeId) : accO G ev h (.alloc t) .write = .grow none h.length := rfl
@[simp] theorem accO_box (t : TypeId) (x : Operand) : accO G ev h (.box t x) .write = .grow none h.length := rfl
@[simp] theorem accO_make (t : TypeId) (x y : Operand) : accO G ev h (.makeSlice t x y) .write = .grow none h.length := rfl
@[simp] theorem accO_store (t : TypeId) (a x : Operand) : accO G ev h (.store t a x) .write = storeP h.length (strip (ev a)).2 (strip (ev x)).2 := rfl
@[simp] theorem rdP_ptr (i v o : Nat) : rdP (.ptr i v o) = .peek i := rfl
@[simp] theorem rdP_fptr (cs : List C) : rdP (.fptr cs) = .read := rfl
@[simp] theorem rdS_ref (i v : Nat) : rdS (.ref i v) = .peek i := rfl
@[simp] theorem rdS_view (i v o n : Nat) : rdS (.view i v o n) = .peek i := rfl
@[simp] theorem growP_nil (n : Nat) : growP n .nil = .grow none n := rfl
@[simp] theorem growP_ex (n s m : Nat) (cs : List C) : growP n (.ex s m cs) = .grow none n := rfl
@[simp] theorem growP_ref (n i v : Nat) : growP n (.ref i v) = .grow (some i) n := rfl
end
attribute [simp] callP plainX
@[simp] theorem wpD_nil (as : List AccI) : wpD E ops [] as K st = (drawOK ops as = true ∧ K st) := rfl
@[simp] theorem wpD_cons (as : List AccI) : wpD E ops (⟨d, op, ty, pos, af, g⟩ :: l) as K st = stepD E ops d ⟨d, op, ty, pos, af, g⟩ l as K st (opG E.T E.G E.bs.gl ops ⟨d, op, ty, pos, af, g⟩ st.r st.h) := by
  simp only [wpD]; generalize opG _ _ _ _ _ _ _ = e; cases e <;> rfl
@[simp] theorem stepD_some (as : List AccI) (o : Oper) (e : Eff) : stepD E ops d o l as K st (some e) = (dstOK st.n d ∧ e.pre ∧ wpD E ops l (as ++ [accI E.G E.bs.gl o st.r st.h e.acc]) K (st.put d e.x e.h)) := rfl
@[simp] theorem stepD_none (as : List AccI) (o : Oper) : stepD E ops d o l as K st none = False := rfl
end

/-! ### guards and operands -/
section
variable (T : TT) (G : Specs) (gl : Gl) (ops : Array Oper) (l : List Oper) (d : Option Tmp) (op : Op) (ty : TypeId) (pos : String) (af : Array Edge) (g : Option (Nat × Bool)) (r : List (Nat × X)) (h : List Blk) (ev : Operand → X) (gd b : Bool)
@[simp] theorem opG_none : opG T G gl ops ⟨d, op, ty, pos, af, none⟩ r h = opX T G false (evO gl r) h op := rfl
@[simp] theorem opG_some (q : Nat × Bool) : opG T G gl ops ⟨d, op, ty, pos, af, some q⟩ r h = gdE (opX T G true (evO gl r) h op) (guardC ops r q) := by
  simp only [opG, gdE]; split
  · simp_all
  · split <;> simp_all
@[simp] theorem gdE_some (c : Bool) (e : Eff) : gdE (some e) (some c) = some ⟨c = true → e.pre, .ifb c e.x, e.acc, e.h⟩ := rfl
@[simp] theorem guardC_lit (j : Nat) : guardC l.toArray r (j, b) = gK r b (dstAt l j) := by
  simp only [guardC, dstAt_eq, List.getElem?_toArray]
  generalize (l[j]?).bind _ = d
  cases d with
  | none => rfl
  | some d =>
    simp only [gK]
    generalize strip (lk r d) = q
    obtain ⟨c, x⟩ := q
    unfold gV
    split <;> simp_all
@[simp] theorem gK_some (t : Tmp) : gK r b (some t) = gV b (strip (lk r t)) := rfl
@[simp] theorem gV_bool (c y : Bool) : gV b (c, .val (.bool y)) = some (c && (y == b)) := rfl
@[simp] theorem dstAt_zero : dstAt (⟨d, op, ty, pos, af, g⟩ :: l) 0 = d := rfl
@[simp] theorem dstAt_succ (o : Oper) (j : Nat) : dstAt (o :: l) (j + 1) = dstAt l j := rfl
@[simp] theorem strip_dead : strip .dead = (true, .dead) := rfl
@[simp] theorem strip_val (c : C) : strip (.val c) = (true, .val c) := rfl
@[simp] theorem strip_agg (c : List C) : strip (.agg c) = (true, .agg c) := rfl
@[simp] theorem strip_nil : strip .nil = (true, .nil) := rfl
@[simp] theorem strip_ex (a n : Nat) (c : List C) : strip (.ex a n c) = (true, .ex a n c) := rfl
@[simp] theorem strip_recd (c : List X) : strip (.recd c) = (true, .recd c) := rfl
@[simp] theorem strip_tup (c : List X) : strip (.tup c) = (true, .tup c) := rfl
@[simp] theorem strip_ref (i v : Nat) : strip (.ref i v) = (true, .ref i v) := rfl
@[simp] theorem strip_view (i v o n : Nat) : strip (.view i v o n) = (true, .view i v o n) := rfl
@[simp] theorem strip_ptr (i v o : Nat) : strip (.ptr i v o) = (true, .ptr i v o) := rfl
@[simp] theorem strip_fptr (c : List C) : strip (.fptr c) = (true, .fptr c) := rfl
@[simp] theorem strip_clos (f : FuncId) (c : List X) : strip (.clos f c) = (true, .clos f c) := rfl
@[simp] theorem strip_ifb (c : Bool) (x : X) : strip (.ifb c x) = (c, x) := rfl
@[simp] theorem constX_int (k : IntKind) (n : Int) : constX (.int k n) = .val (.int k n) := rfl
@[simp] theorem constX_bool (b : Bool) : constX (.bool b) = .val (.bool b) := rfl
@[simp] theorem constX_string (s : ByteArray) : constX (.string s) = .val (.str s.data.toList) := rfl
@[simp] theorem constX_nilf : constX .nilFunc = .val .nilf := rfl
@[simp] theorem constX_nilp : constX (.pointer none) = .val .nilp := rfl
@[simp] theorem constX_nils : constX (.slice none 0 0) = .nil := rfl
attribute [simp] glk
@[simp] theorem exE_some (p : Prop) (e : Eff) : exE p (some e) = some ⟨p ∧ e.pre, e.x, e.acc, e.h⟩ := rfl
end

/-! ### operations -/
section
variable (T : TT) (G : Specs) (gd : Bool) (ev : Operand → X) (h : List Blk) (x y z : Operand) (t u : Nat)
private theorem opX_of (op : Op) (hne : ∀ c a b, op ≠ .pick c a b) : opX T G gd ev h op = exE (condsP ev op.operands.toList) (opF T G gd (fun o => (strip (ev o)).2) h op) := by
  unfold opX exE
  split
  · exact absurd rfl (hne _ _ _)
  · rfl
@[simp] theorem opX_pick : opX T G gd ev h (.pick x y z) = pkK h (strip (ev x)) (strip (ev y)) (strip (ev z)) := by
  simp only [opX, opPick, pkK]; split <;> simp_all
@[simp] theorem pkK_bool (cc c0 ca a cb b : Bool) : pkK h (cc, .val (.bool c0)) (ca, .val (.bool a)) (cb, .val (.bool b)) = some ⟨cc = true ∧ (c0 = true → ca = true) ∧ (c0 = false → cb = true), .val (.bool (if c0 then a else b)), .pure, h⟩ := rfl
@[simp] theorem opX_move : opX T G gd ev h (.move x) = some ⟨((strip (ev x)).1 = true ∧ True) ∧ True, (strip (ev x)).2, .pure, h⟩ := rfl
@[simp] theorem opX_assign : opX T G gd ev h (.assign x) = some ⟨((strip (ev x)).1 = true ∧ True) ∧ True, (strip (ev x)).2, .pure, h⟩ := rfl
def exT (i : Nat) (h : List Blk) : X → Option Eff
  | .tup xs => txK h (xs[i]?)
  | _ => none
@[simp] theorem opX_extract (i : Nat) : opX T G gd ev h (.extract x i) = exE ((strip (ev x)).1 = true ∧ True) (exT i h (strip (ev x)).2) := by
  rw [opX_of _ _ _ _ _ _ (by simp)]; rfl
@[simp] theorem exT_tup (i : Nat) (xs : List X) : exT i h (.tup xs) = txK h (xs[i]?) := rfl
@[simp] theorem txK_some (y : X) : txK h (some y) = some ⟨True, y, .pure, h⟩ := rfl
def notK (h : List Blk) : X → Option Eff
  | .val (.bool b) => some ⟨True, .val (.bool !b), .pure, h⟩
  | _ => none
def negK (h : List Blk) : X → Option Eff
  | .val (.int k n) => some ⟨True, .val (.int k (k.wrap (0 - n))), .pure, h⟩
  | _ => none
@[simp] theorem opX_not : opX T G gd ev h (.unOp .not t x) = exE ((strip (ev x)).1 = true ∧ True) (notK h (strip (ev x)).2) := by rw [opX_of _ _ _ _ _ _ (by simp)]; rfl
@[simp] theorem opX_neg : opX T G gd ev h (.unOp .neg t x) = exE ((strip (ev x)).1 = true ∧ True) (negK h (strip (ev x)).2) := by rw [opX_of _ _ _ _ _ _ (by simp)]; rfl
@[simp] theorem notK_bool (b : Bool) : notK h (.val (.bool b)) = some ⟨True, .val (.bool !b), .pure, h⟩ := rfl
@[simp] theorem negK_int (k : IntKind) (n : Int) : negK h (.val (.int k n)) = some ⟨True, .val (.int k (k.wrap (0 - n))), .pure, h⟩ := rfl
@[simp] theorem opX_binOp (op : BinOp) : opX T G gd ev h (.binOp op t x y u) = exE ((strip (ev x)).1 = true ∧ (strip (ev y)).1 = true ∧ True) (opBin T h op t (strip (ev x)).2 (strip (ev y)).2) := rfl
@[simp] theorem opX_convert : opX T G gd ev h (.convert t u x) = exE ((strip (ev x)).1 = true ∧ True) (opConvert T h t u (strip (ev x)).2) := rfl
def alK (h : List Blk) (gd : Bool) (t : TypeId) : Option TI → Option Eff
  | some ti => if gd = true then none else some ⟨True, .ptr h.length 0 0, .write, h ++ [.box t ti.zero]⟩
  | none => none
def bxK (h : List Blk) (gd : Bool) (t : TypeId) : Option (List X) → Option Eff
  | some xs => if gd = true then none else some ⟨True, .ptr h.length 0 0, .write, h ++ [.box t xs]⟩
  | none => none
@[simp] theorem opX_alloc : opX T G gd ev h (.alloc t) = exE True (alK h gd t (T t)) := by rw [opX_of _ _ _ _ _ _ (by simp)]; rfl
@[simp] theorem opX_box : opX T G gd ev h (.box t x) = exE ((strip (ev x)).1 = true ∧ True) (bxK h gd t (storeXs (strip (ev x)).2)) := by rw [opX_of _ _ _ _ _ _ (by simp)]; rfl
@[simp] theorem alK_some (ti : TI) : alK h false t (some ti) = some ⟨True, .ptr h.length 0 0, .write, h ++ [.box t ti.zero]⟩ := rfl
@[simp] theorem bxK_some (xs : List X) : bxK h false t (some xs) = some ⟨True, .ptr h.length 0 0, .write, h ++ [.box t xs]⟩ := rfl
def bldK (lv nl : Bool) (T : TT) (ev : Operand → X) (h : List Blk) (t : Nat) (ps : List (Nat × Operand)) : Option Eff :=
  if (nl || (lv && !partsPlain ev ps)) = true then opBuildL T ev h t ps else opBuild T ev h t ps
@[simp] theorem bldK_nils (lv : Bool) (ev : Operand → X) (ps : List (Nat × Operand)) : bldK lv true T ev h t ps = opBuildL T ev h t ps := rfl
@[simp] theorem bldK_false (ev : Operand → X) (ps : List (Nat × Operand)) : bldK false false T ev h t ps = opBuild T ev h t ps := rfl
@[simp] theorem bldK_true (ev : Operand → X) (ps : List (Nat × Operand)) : bldK true false T ev h t ps = if partsPlain ev ps = true then opBuild T ev h t ps else opBuildL T ev h t ps := by
  unfold bldK; cases partsPlain ev ps <;> rfl
def bslK (lv : Bool) (T : TT) (gd : Bool) (ev : Operand → X) (h : List Blk) (t n : Nat) (ps : List (Nat × Operand)) : Option Eff :=
  if (lv && !partsPlain ev ps) = true then opBuildSliceL T gd ev h t n ps else opBuildSlice T ev h t n ps
@[simp] theorem bslK_false (ev : Operand → X) (n : Nat) (ps : List (Nat × Operand)) : bslK false T gd ev h t n ps = opBuildSlice T ev h t n ps := rfl
@[simp] theorem bslK_true (ev : Operand → X) (n : Nat) (ps : List (Nat × Operand)) : bslK true T gd ev h t n ps = if partsPlain ev ps = true then opBuildSlice T ev h t n ps else opBuildSliceL T gd ev h t n ps := by
  unfold bslK; cases partsPlain ev ps <;> rfl
def mksK (lv fz : Bool) (T : TT) (gd : Bool) (h : List Blk) (t : Nat) (l c : X) : Option Eff :=
  if fz = true then opMakeSliceV T h t l c else if lv = true then opMakeSliceL T gd h t l c else opMakeSlice T gd h t l c
@[simp] theorem mksK_froz (lv : Bool) (l c : X) : mksK lv true T gd h t l c = opMakeSliceV T h t l c := rfl
@[simp] theorem mksK_false (l c : X) : mksK false false T gd h t l c = opMakeSlice T gd h t l c := rfl
@[simp] theorem mksK_true (l c : X) : mksK true false T gd h t l c = opMakeSliceL T gd h t l c := rfl
@[simp] theorem live_nil : Specs.live [] = false := rfl
@[simp] theorem nils_nil : Specs.nils [] = false := rfl
@[simp] theorem froz_nil : Specs.froz [] = false := rfl
@[simp] theorem opX_build (ps : Array (Nat × Operand)) : opX T G gd ev h (.build t ps) = exE (condsP ev (Op.operands (.build t ps)).toList) (bldK (Specs.live G) (Specs.nils G) T (fun o => (strip (ev o)).2) h t ps.toList) := rfl
@[simp] theorem opX_buildSlice (n : Nat) (ps : Array (Nat × Operand)) : opX T G gd ev h (.buildSlice t n ps) = exE (condsP ev (Op.operands (.buildSlice t n ps)).toList) (bslK (Specs.live G) T gd (fun o => (strip (ev o)).2) h t n ps.toList) := rfl
@[simp] theorem opX_load : opX T G gd ev h (.load t x) = exE ((strip (ev x)).1 = true ∧ True) (opLoad T h t (strip (ev x)).2) := rfl
@[simp] theorem opX_store : opX T G false ev h (.store t x y) = exE ((strip (ev x)).1 = true ∧ (strip (ev y)).1 = true ∧ True) (opStore T h t (strip (ev x)).2 (strip (ev y)).2) := rfl
def ncK (h : List Blk) : X → Option Eff
  | .ptr i v o => some ⟨True, .ptr i v o, .pure, h⟩
  | .fptr cs => some ⟨True, .fptr cs, .pure, h⟩
  | _ => none
@[simp] theorem opX_nilCheck : opX T G gd ev h (.nilCheck x) = exE ((strip (ev x)).1 = true ∧ True) (ncK h (strip (ev x)).2) := by rw [opX_of _ _ _ _ _ _ (by simp)]; rfl
@[simp] theorem ncK_ptr (i v o : Nat) : ncK h (.ptr i v o) = some ⟨True, .ptr i v o, .pure, h⟩ := rfl
@[simp] theorem ncK_fptr (cs : List C) : ncK h (.fptr cs) = some ⟨True, .fptr cs, .pure, h⟩ := rfl
def mfK (h : List Blk) (f : FuncId) (xs : List X) : Option (List C) → Option Eff
  | some cs => some ⟨True, .val (.fn f cs), .pure, h⟩
  | none => some ⟨True, .clos f xs, .pure, h⟩
@[simp] theorem opX_makeFunc (f : FuncId) (cap : Array Operand) : opX T G gd ev h (.makeFunc (.func f) #[] cap) = exE (condsP ev (Op.operands (.makeFunc (.func f) #[] cap)).toList) (mfK h f (cap.toList.map fun o => (strip (ev o)).2) (allC (cap.toList.map fun o => (strip (ev o)).2))) := by
  rw [opX_of _ _ _ _ _ _ (by simp)]; rfl
@[simp] theorem mfK_some (f : FuncId) (xs : List X) (cs : List C) : mfK h f xs (some cs) = some ⟨True, .val (.fn f cs), .pure, h⟩ := rfl
@[simp] theorem mfK_none (f : FuncId) (xs : List X) : mfK h f xs none = some ⟨True, .clos f xs, .pure, h⟩ := rfl
@[simp] theorem opX_makeSlice : opX T G gd ev h (.makeSlice t x y) = exE ((strip (ev x)).1 = true ∧ (strip (ev y)).1 = true ∧ True) (mksK (Specs.live G) (Specs.froz G) T gd h t (strip (ev x)).2 (strip (ev y)).2) := rfl
@[simp] theorem opX_slice (lo hi mx : Option Operand) : opX T G gd ev h (.slice t x lo hi mx) = exE (condsP ev (Op.operands (.slice t x lo hi mx)).toList) (opSlice T h t (strip (ev x)).2 (lo.map fun o => (strip (ev o)).2) (hi.map fun o => (strip (ev o)).2) (mx.map fun o => (strip (ev o)).2)) := rfl
@[simp] theorem opX_fieldAddr (f : Nat) : opX T G gd ev h (.fieldAddr t x f) = exE ((strip (ev x)).1 = true ∧ True) (opFieldAddr T h t (strip (ev x)).2 f) := rfl
@[simp] theorem opX_field (f : Nat) : opX T G gd ev h (.field t x f) = exE ((strip (ev x)).1 = true ∧ True) (opField T h t (strip (ev x)).2 f) := rfl
@[simp] theorem opX_indexAddr : opX T G gd ev h (.indexAddr t x y) = exE ((strip (ev x)).1 = true ∧ (strip (ev y)).1 = true ∧ True) (opIndexAddr T h t (strip (ev x)).2 (strip (ev y)).2) := rfl
@[simp] theorem opX_index : opX T G gd ev h (.index t x y) = exE ((strip (ev x)).1 = true ∧ (strip (ev y)).1 = true ∧ True) (opIndex T h t (strip (ev x)).2 (strip (ev y)).2) := rfl
@[simp] theorem opX_len : opX T G gd ev h (.call { callee := .builtin .len, args := #[x], argTypes := #[t] }) = exE ((strip (ev x)).1 = true ∧ True) (opLen T h t (strip (ev x)).2) := rfl
@[simp] theorem opX_append : opX T G gd ev h (.call { callee := .builtin .append, args := #[x, y], argTypes := #[t, u] }) = exE ((strip (ev x)).1 = true ∧ (strip (ev y)).1 = true ∧ True) (if srcType T u = true then (if (isSlx h (strip (ev x)).2 || isSlx h (strip (ev y)).2) = true then opAppendX T gd h t (strip (ev x)).2 (strip (ev y)).2 else opAppend T gd h t (strip (ev x)).2 (strip (ev y)).2) else none) := rfl
@[simp] theorem opX_copy : opX T G gd ev h (.call { callee := .builtin .copy, args := #[x, y], argTypes := #[t, u] }) = exE ((strip (ev x)).1 = true ∧ (strip (ev y)).1 = true ∧ True) (opCopy T gd h t (strip (ev x)).2 (strip (ev y)).2) := rfl
@[simp] theorem opX_min (as : Array Operand) (ts : Array TypeId) : opX T G gd ev h (.call { callee := .builtin .min, args := as, argTypes := ts }) = exE (condsP ev (Op.operands (.call { callee := .builtin .min, args := as, argTypes := ts })).toList) (opMinMax (fun a b => if b < a then b else a) h (as.toList.map fun o => (strip (ev o)).2)) := rfl
@[simp] theorem opX_max (as : Array Operand) (ts : Array TypeId) : opX T G gd ev h (.call { callee := .builtin .max, args := as, argTypes := ts }) = exE (condsP ev (Op.operands (.call { callee := .builtin .max, args := as, argTypes := ts })).toList) (opMinMax (fun a b => if b > a then b else a) h (as.toList.map fun o => (strip (ev o)).2)) := rfl
@[simp] theorem opX_call (as : Array Operand) (ts : Array TypeId) : opX T G gd ev h (.call { callee := .value x, args := as, argTypes := ts }) = exE (condsP ev (Op.operands (.call { callee := .value x, args := as, argTypes := ts })).toList) (opCall G gd h (strip (ev x)).2 (as.toList.map fun o => (strip (ev o)).2)) := rfl
attribute [simp] Op.operands Call.operands
end
end Fen

/- Part 28: the same, of what the operations ask: values, cells, types. -/
namespace Fen
open Go Go.RowKit

section
variable (ty ty' : TypeId) (T : TT) (G : Specs) (gd : Bool) (h : List Blk) (t u : Nat) (k : IntKind) (n m : Int) (ti ei fi di : TI) (sz by_ len : Nat) (zs : List X) (cs new : List C) (id ver v off o e : Nat) (p b : Bool) (op : BinOp) (x y : X) (l : List UInt8) (N : Nat)
/-! values -/
@[simp] theorem toV_val (c : C) : toV h (.val c) = some (.c c, h) := rfl
@[simp] theorem toV_agg : toV h (.agg cs) = some (.agg cs, h) := rfl
@[simp] theorem toV_nil : toV h .nil = some (.c (.sl 0 []), h) := rfl
@[simp] theorem toV_ex : toV h (.ex sz N cs) = some (.c (.sl N cs), h) := rfl
@[simp] theorem toV_ref : toV h (.ref id ver) = frzY h id ver (h[id]?) := rfl
@[simp] theorem frzY_sl : frzY h id ver (some (.sl ty v p sz N cs)) = if ver = v then some (.c (.sl N cs), h.set id (.sl ty v false sz N cs)) else none := rfl
@[simp] theorem frzY_slx (xs : List X) : frzY h id ver (some (.slx ty v sz N xs)) = if ver = v then frzX ty id v sz N (toCs1 h xs) else none := rfl
@[simp] theorem frzX_some : frzX ty id v sz N (some (cs, h)) = some (.c (.sl N cs), h.set id (.sl ty v false sz N cs)) := rfl
@[simp] theorem toV_view : toV h (.view id ver off N) = tvW h id ver off N (h[id]?) := rfl
@[simp] theorem tvR_some : tvR h id ver (some (.sl ty v p sz N cs)) = if ver = v then some (.c (.sl N cs), h.set id (.sl ty v false sz N cs)) else none := rfl
@[simp] theorem tvW_some (M : Nat) : tvW h id ver off N (some (.sl ty v p sz M cs)) = if ver = v then some (.c (.sl N ((cs.drop off).take (N * sz))), h.set id (.sl ty v false sz M cs)) else none := rfl
@[simp] theorem toV_fptr : toV h (.fptr cs) = some (.c (.ptr cs), h) := rfl
@[simp] theorem toV_ptr : toV h (.ptr id ver off) = frzB h id ver off (h[id]?) := rfl
@[simp] theorem frzB_box (ty : TypeId) (xs : List X) : frzB h id ver off (some (.box ty xs)) = if ver = 0 then frzP h id off (allF xs) else none := rfl
@[simp] theorem frzP_some : frzP h id off (some cs) = some (.c (.ptr (cs.drop off)), h.set id (.gone cs)) := rfl
@[simp] theorem frzB_gone : frzB h id ver off (some (.gone cs)) = if ver = 0 then some (.c (.ptr (cs.drop off)), h) else none := rfl
@[simp] theorem allF_nil : allF [] = some [] := rfl
@[simp] theorem allF_val (c : C) (xs : List X) : allF (.val c :: xs) = (allF xs).map (c :: ·) := rfl
@[simp] theorem allF_nilx (xs : List X) : allF (.nil :: xs) = (allF xs).map (.sl 0 [] :: ·) := rfl
@[simp] theorem allF_ex (xs : List X) : allF (.ex sz N cs :: xs) = (allF xs).map (.sl N cs :: ·) := rfl
@[simp] theorem allF_fptr (xs : List X) : allF (.fptr cs :: xs) = (allF xs).map (.ptr cs :: ·) := rfl
@[simp] theorem allF_map : ∀ cs : List C, allF (cs.map .val) = some cs
  | [] => rfl
  | c :: cs => by simp [allF, allF_map cs]
@[simp] theorem toV_clos (f : FuncId) (xs : List X) : toV h (.clos f xs) = frzF f (toCs1 h xs) := rfl
@[simp] theorem toV_recd (xs : List X) : toV h (.recd xs) = frzR (toCs1 h xs) := rfl
@[simp] theorem frzR_some : frzR (some (cs, h)) = some (.agg cs, h) := rfl
@[simp] theorem frzF_some (f : FuncId) : frzF f (some (cs, h)) = some (.c (.fn f cs), h) := rfl
@[simp] theorem toCs1_nil : toCs1 h [] = some ([], h) := rfl
@[simp] theorem toCs1_cons (xs : List X) : toCs1 h (x :: xs) = tdK xs (toV1 h x) := by
  simp only [toCs1, tdK, tdL]
  generalize toV1 h x = q
  rcases q with _ | ⟨_ | _, h'⟩
  · rfl
  · simp only
    generalize toCs1 h' xs = q
    rcases q with _ | ⟨v, h'⟩ <;> rfl
  · rfl
@[simp] theorem tdK_some (xs : List X) (c : C) : tdK xs (some (.c c, h)) = tdL c (toCs1 h xs) := rfl
@[simp] theorem tdL_some (c : C) : tdL c (some (cs, h)) = some (c :: cs, h) := rfl
@[simp] theorem toV1_val (c : C) : toV1 h (.val c) = some (.c c, h) := rfl
@[simp] theorem toV1_nil : toV1 h .nil = some (.c (.sl 0 []), h) := rfl
@[simp] theorem toV1_ex : toV1 h (.ex sz N cs) = some (.c (.sl N cs), h) := rfl
@[simp] theorem toV1_ref : toV1 h (.ref id ver) = tvR h id ver (h[id]?) := rfl
@[simp] theorem toV1_view : toV1 h (.view id ver off N) = tvW h id ver off N (h[id]?) := rfl
@[simp] theorem toV1_fptr : toV1 h (.fptr cs) = some (.c (.ptr cs), h) := rfl
@[simp] theorem toV1_ptr : toV1 h (.ptr id ver off) = frzB h id ver off (h[id]?) := rfl
@[simp] theorem Cx_int (a : Int) : C.x (.int k a) = .val (.int k a) := rfl
@[simp] theorem Cx_bool : C.x (.bool b) = .val (.bool b) := rfl
@[simp] theorem Cx_str : C.x (.str l) = .val (.str l) := rfl
@[simp] theorem Cx_nilf : C.x .nilf = .val .nilf := rfl
@[simp] theorem Cx_nilp : C.x .nilp = .val .nilp := rfl
@[simp] theorem Cx_sl : C.x (.sl N cs) = .val (.sl N cs) := rfl
@[simp] theorem Cx_fn (f : FuncId) : C.x (.fn f cs) = .val (.fn f cs) := rfl
@[simp] theorem Cx_ptr : C.x (.ptr cs) = .fptr cs := rfl
@[simp] theorem toVs_nil : toVs h [] = some ([], h) := rfl
@[simp] theorem toVs_cons (xs : List X) : toVs h (x :: xs) = tvK xs (toV h x) := by
  simp only [toVs, tvK, tvL]
  generalize toV h x = q
  rcases q with _ | ⟨v, h'⟩
  · rfl
  · simp only
    generalize toVs h' xs = q
    rcases q with _ | ⟨v, h'⟩ <;> rfl
@[simp] theorem tvK_some (xs : List X) (a : V) : tvK xs (some (a, h)) = tvL a (toVs h xs) := rfl
@[simp] theorem tvL_some (vs : List V) (a : V) : tvL a (some (vs, h)) = some (a :: vs, h) := rfl
@[simp] theorem toCs_nil : toCs h [] = some ([], h) := rfl
@[simp] theorem toCs_cons (xs : List X) : toCs h (x :: xs) = tcK xs (toV h x) := by
  simp only [toCs, tcK, tcL]
  generalize toV h x = q
  rcases q with _ | ⟨_ | _, h'⟩
  · rfl
  · simp only
    generalize toCs h' xs = q
    rcases q with _ | ⟨v, h'⟩ <;> rfl
  · rfl
@[simp] theorem tcK_some (xs : List X) (c : C) : tcK xs (some (.c c, h)) = tcL c (toCs h xs) := rfl
@[simp] theorem tcL_some (c : C) : tcL c (some (cs, h)) = some (c :: cs, h) := rfl
@[simp] theorem allC_nil : allC [] = some [] := rfl
@[simp] theorem allC_val (c : C) (xs : List X) : allC (.val c :: xs) = (allC xs).map (c :: ·) := rfl
@[simp] theorem allC_nilx (xs : List X) : allC (.nil :: xs) = none := rfl
@[simp] theorem allC_ex (xs : List X) : allC (.ex sz N cs :: xs) = none := rfl
@[simp] theorem allC_ref (xs : List X) : allC (.ref id ver :: xs) = none := rfl
@[simp] theorem allC_view (xs : List X) : allC (.view id ver off N :: xs) = none := rfl
@[simp] theorem allC_ptr (xs : List X) : allC (.ptr id ver off :: xs) = none := rfl
@[simp] theorem allC_fptr (xs : List X) : allC (.fptr cs :: xs) = none := rfl
@[simp] theorem allC_recd (ys xs : List X) : allC (.recd ys :: xs) = none := rfl
@[simp] theorem allC_yld (xs : List X) : allC (.yld id :: xs) = none := rfl
@[simp] theorem allC_mp (xs : List X) : allC (.mp id :: xs) = none := rfl
@[simp] theorem allC_dead (xs : List X) : allC (.dead :: xs) = none := rfl
@[simp] theorem allC_clos (f : FuncId) (ys xs : List X) : allC (.clos f ys :: xs) = none := rfl
@[simp] theorem allC_map : ∀ cs : List C, allC (cs.map .val) = some cs
  | [] => rfl
  | c :: cs => by simp [allC, allC_map cs]
@[simp] theorem plainX_val (c : C) : plainX (.val c) = true := rfl
@[simp] theorem plainX_agg : plainX (.agg cs) = true := rfl
@[simp] theorem plainX_nil : plainX .nil = true := rfl
@[simp] theorem plainX_ex : plainX (.ex sz N cs) = true := rfl
@[simp] theorem plainX_ref : plainX (.ref id ver) = false := rfl
@[simp] theorem plainX_view : plainX (.view id ver off N) = false := rfl
@[simp] theorem plainX_ptr : plainX (.ptr id ver off) = false := rfl
@[simp] theorem plainX_fptr : plainX (.fptr cs) = true := rfl
@[simp] theorem plainX_recd (xs : List X) : plainX (.recd xs) = false := rfl
@[simp] theorem plainX_yld : plainX (.yld id) = false := rfl
@[simp] theorem plainX_mp : plainX (.mp id) = false := rfl
@[simp] theorem plainX_clos (f : FuncId) (xs : List X) : plainX (.clos f xs) = false := rfl
@[simp] theorem partsPlain_nil (ev : Operand → X) : partsPlain ev [] = true := rfl
@[simp] theorem partsPlain_cons (ev : Operand → X) (i : Nat) (q : Operand) (l : List (Nat × Operand)) : partsPlain ev ((i, q) :: l) = (plainX (ev q) && partsPlain ev l) := rfl
@[simp] theorem storeXs_val (c : C) : storeXs (.val c) = some [.val c] := rfl
@[simp] theorem storeXs_agg : storeXs (.agg cs) = some (cs.map .val) := rfl
@[simp] theorem storeXs_nil : storeXs .nil = some [.nil] := rfl
@[simp] theorem storeXs_ex : storeXs (.ex sz N cs) = some [.ex sz N cs] := rfl
@[simp] theorem storeXs_ref : storeXs (.ref id ver) = some [.ref id ver] := rfl
@[simp] theorem storeXs_view : storeXs (.view id ver off N) = some [.view id ver off N] := rfl
@[simp] theorem storeXs_ptr : storeXs (.ptr id ver off) = some [.ptr id ver off] := rfl
@[simp] theorem storeXs_fptr : storeXs (.fptr cs) = some [.fptr cs] := rfl
@[simp] theorem storeXs_clos (f : FuncId) (ys : List X) : storeXs (.clos f ys) = some [.clos f ys] := rfl
@[simp] theorem storeXs_recd (xs : List X) : storeXs (.recd xs) = some xs := rfl
@[simp] theorem storeXs_yld : storeXs (.yld id) = some [.yld id] := rfl
@[simp] theorem storeXs_mp : storeXs (.mp id) = some [.mp id] := rfl
@[simp] theorem storeCs_eq : storeCs h x = scK (toV h x) := by
  simp only [storeCs, scK]
  generalize toV h x = q
  rcases q with _ | ⟨_ | _, h'⟩ <;> rfl
@[simp] theorem scK_c (c : C) : scK (some (.c c, h)) = some ([c], h) := rfl
@[simp] theorem scK_agg : scK (some (.agg cs, h)) = some (cs, h) := rfl
/-! types -/
@[simp] theorem agg_int : TK.agg (.int k) = false := rfl
@[simp] theorem agg_bool : TK.agg .bool = false := rfl
@[simp] theorem agg_str : TK.agg .str = false := rfl
@[simp] theorem agg_slice : TK.agg (.slice e) = false := rfl
@[simp] theorem agg_struct (fs : List (Nat × Nat)) : TK.agg (.struct fs) = true := rfl
@[simp] theorem agg_array : TK.agg (.array N e) = true := rfl
@[simp] theorem agg_other : TK.agg .other = false := rfl
@[simp] theorem zC_val (c : C) : zC (.val c) = c := rfl
@[simp] theorem zC_nil : zC .nil = .sl 0 [] := rfl
attribute [simp] rep setSeg partX byteC
/-! arithmetic -/
@[simp] theorem opBin_int (ka kb : IntKind) (a c : Int) : opBin T h op t (.val (.int ka a)) (.val (.int kb c)) = some ⟨(intBin op ka a kb c).1, .val (intBin op ka a kb c).2, .pure, h⟩ := rfl
@[simp] theorem opBin_str (a c : List UInt8) : opBin T h op t (.val (.str a)) (.val (.str c)) = some ⟨(strBin op a c).1, .val (strBin op a c).2, .pure, h⟩ := rfl
@[simp] theorem opBin_bool (a c : Bool) : opBin T h op t (.val (.bool a)) (.val (.bool c)) = bbK h op a c (T t) := by
  simp only [opBin, bbK]
  generalize T t = q
  rcases q with _ | ⟨_ | _ | _ | _ | _ | _, _, _, _⟩ <;> first | rfl | (cases op <;> rfl)
@[simp] theorem bbK_eql (a c : Bool) : bbK h .eql a c (some ⟨.bool, sz, by_, zs⟩) = some ⟨True, .val (.bool (a == c)), .pure, h⟩ := rfl
@[simp] theorem bbK_neq (a c : Bool) : bbK h .neq a c (some ⟨.bool, sz, by_, zs⟩) = some ⟨True, .val (.bool !(a == c)), .pure, h⟩ := rfl
@[simp] theorem opBin_nl (c : C) : opBin T h op t (.val .nilf) (.val c) = some ⟨False, .val (junkC op), .pure, h⟩ := by cases c <;> rfl
@[simp] theorem opBin_nr (k : IntKind) (n : Int) : opBin T h op t (.val (.int k n)) (.val .nilf) = some ⟨False, .val (junkC op), .pure, h⟩ := rfl
@[simp] theorem opBin_nb (b : Bool) : opBin T h op t (.val (.bool b)) (.val .nilf) = some ⟨False, .val (junkC op), .pure, h⟩ := rfl
@[simp] theorem opBin_ns (s : List UInt8) : opBin T h op t (.val (.str s)) (.val .nilf) = some ⟨False, .val (junkC op), .pure, h⟩ := rfl
attribute [simp] junkC
@[simp] theorem opBin_agg (as bs : List C) : opBin T h op t (.agg as) (.agg bs) = agK T t op h as bs (eqK T 8 t) := by
  simp only [opBin, agK]; generalize eqK T 8 t = q; cases q <;> rfl
@[simp] theorem agK_eql (as bs : List C) (ks : List EK) : agK T t .eql h as bs (some ks) = some ⟨aggT T t ∧ kindsOK ks as ∧ kindsOK ks bs, .val (.bool (cellsEq as bs)), .pure, h⟩ := rfl
@[simp] theorem agK_neq (as bs : List C) (ks : List EK) : agK T t .neq h as bs (some ks) = some ⟨aggT T t ∧ kindsOK ks as ∧ kindsOK ks bs, .val (.bool !(cellsEq as bs)), .pure, h⟩ := rfl
@[simp] theorem aggT_eq : aggT T t = agT (T t) := by
  simp only [aggT, agT]; generalize T t = q; cases q <;> simp
@[simp] theorem agT_some (ti : TI) : agT (some ti) = (ti.k.agg = true) := rfl
@[simp] theorem kindsOK_nil : kindsOK [] [] = True := by simp [kindsOK]
@[simp] theorem kindsOK_cons (k : EK) (ks : List EK) (c : C) (cs : List C) : kindsOK (k :: ks) (c :: cs) = (kindC c = some k ∧ kindsOK ks cs) := by simp [kindsOK]
@[simp] theorem kindC_int (k : IntKind) (n : Int) : kindC (.int k n) = some (.int k) := rfl
@[simp] theorem kindC_bool (b : Bool) : kindC (.bool b) = some .bool := rfl
@[simp] theorem kindC_str (l : List UInt8) : kindC (.str l) = some .str := rfl
@[simp] theorem cellsEq_nil : cellsEq [] [] = true := rfl
@[simp] theorem cellsEq_cons (a b : C) (as bs : List C) : cellsEq (a :: as) (b :: bs) = (cellEq a b && cellsEq as bs) := rfl
@[simp] theorem cellEq_int (k k' : IntKind) (a b : Int) : cellEq (.int k a) (.int k' b) = (k == k' && a == b) := rfl
@[simp] theorem cellEq_bool (a b : Bool) : cellEq (.bool a) (.bool b) = (a == b) := rfl
@[simp] theorem cellEq_str (a b : List UInt8) : cellEq (.str a) (.str b) = (a == b) := rfl
@[simp] theorem strBin_add (a c : List UInt8) : strBin .add a c = (a.length + c.length ≤ 9223372036854775807, .str (a ++ c)) := rfl
@[simp] theorem strBin_eql (a c : List UInt8) : strBin .eql a c = (True, .bool (a == c)) := rfl
@[simp] theorem strBin_neq (a c : List UInt8) : strBin .neq a c = (True, .bool !(a == c)) := rfl
/-! memory -/
@[simp] theorem cellsAt_fptr : cellsAt h (.fptr cs) = some (.c cs, .pure) := rfl
@[simp] theorem cellsAt_ptr : cellsAt h (.ptr id ver off) = caK ver off (h[id]?) := by
  simp only [cellsAt, caK, caX]
  generalize h[id]? = q
  rcases q with _ | _ | _ | _ | _ | _ | _ | _ | _
  · rfl
  · rename_i xs; simp only; generalize allC xs = q; cases q <;> rfl
  · rfl
  · rfl
  · rfl
  · rfl
  · rfl
  · rfl
  · rfl
@[simp] theorem caK_box (ty : TypeId) (xs : List X) : caK ver off (some (.box ty xs)) = if ver = 0 then caX off xs (allC xs) else none := rfl
@[simp] theorem caK_sl : caK ver off (some (.sl ty v p sz N cs)) = if ver = v then some (.c (cs.drop off), .read) else none := rfl
@[simp] theorem caK_slx (xs : List X) : caK ver off (some (.slx ty v sz N xs)) = if ver = v then some (.x (xs.drop off), .read) else none := rfl
@[simp] theorem caK_gone : caK ver off (some (.gone cs)) = if ver = 0 then some (.c (cs.drop off), .read) else none := rfl
@[simp] theorem caX_some (xs : List X) : caX off xs (some cs) = some (.c (cs.drop off), .read) := rfl
@[simp] theorem caX_none (xs : List X) : caX off xs none = some (.x (xs.drop off), .read) := rfl
@[simp] theorem opLoad_eq : opLoad T h t x = ldK h (T t) (cellsAt h x) := by
  simp only [opLoad, ldK, ldA, ldX]
  generalize T t = q; generalize cellsAt h x = q'
  rcases q with _ | ti <;> rcases q' with _ | ⟨_ | xs, acc⟩ <;> try rfl
@[simp] theorem ldK_c (acc : Acc) : ldK h (some ti) (some (.c cs, acc)) = if ti.k.agg = true then some ⟨ti.size ≤ cs.length, .agg (cs.take ti.size), acc, h⟩ else some ⟨0 < cs.length, .val (cs.headD (zC (ti.zero.headD .nil))), acc, h⟩ := rfl
@[simp] theorem ldK_x (xs : List X) (acc : Acc) : ldK h (some ti) (some (.x xs, acc)) = if ti.k.agg = true then ldA ti (toCs h (xs.take ti.size)) else ldX acc h xs := rfl
@[simp] theorem ldA_some : ldA ti (some (cs, h)) = some ⟨ti.size = cs.length, .agg cs, .write, h⟩ := rfl
@[simp] theorem ldX_cons (xs : List X) (acc : Acc) : ldX acc h (x :: xs) = some ⟨True, x, acc, h⟩ := rfl
@[simp] theorem opStore_ptr : opStore T h t (.ptr id ver off) x = stP h x id ver off (T t) (h[id]?) := by
  simp only [opStore, stP, stB, stS, stT, stX]
  generalize T t = q
  rcases q with _ | ti
  · rfl
  · simp only
    generalize h[id]? = q'
    rcases q' with _ | _ | _ | _ | _ | _ | _ | _ | _
    · rfl
    · simp only; generalize storeXs x = q; cases q <;> rfl
    · simp only
      generalize storeCs h x = q; rcases q with _ | ⟨new, h'⟩
      · rfl
      · simp only; generalize h'[id]? = q; rcases q with _ | _ | _ | _ | _ | _ | _ | _ | _ <;> rfl
    · simp only; generalize storeXs x = q; cases q <;> rfl
    · rfl
    · rfl
    · rfl
    · rfl
    · rfl
@[simp] theorem stP_box (ty : TypeId) (xs : List X) : stP h x id ver off (some ti) (some (.box ty xs)) = if ver = 0 then stB h ty ti xs id off (storeXs x) else none := rfl
@[simp] theorem stP_sl : stP h x id ver off (some ti) (some (.sl ty v p sz N cs)) = stS ti id ver off (storeCs h x) := rfl
@[simp] theorem stP_slx (xs : List X) : stP h x id ver off (some ti) (some (.slx ty v sz N xs)) = if ver = v then stX h ty v sz N ti xs id off (storeXs x) else none := rfl
@[simp] theorem stX_some (xs ys : List X) : stX h ty v sz N ti xs id off (some ys) = some ⟨ys.length = ti.size ∧ off + ti.size ≤ xs.length, .dead, .write, h.set id (.slx ty v sz N (setSeg xs off ti.size ys))⟩ := rfl
@[simp] theorem stB_some (ty : TypeId) (xs ys : List X) : stB h ty ti xs id off (some ys) = some ⟨ys.length = ti.size ∧ off + ti.size ≤ xs.length, .dead, .write, h.set id (.box ty (setSeg xs off ti.size ys))⟩ := rfl
@[simp] theorem stS_some : stS ti id ver off (some (new, h)) = stT h ti new id ver off (h[id]?) := rfl
@[simp] theorem stT_some : stT h ti new id ver off (some (.sl ty v p sz N cs)) = if ver = v then some ⟨p = true ∧ new.length = ti.size ∧ off + ti.size ≤ cs.length, .dead, .write, h.set id (.sl ty v p sz N (setSeg cs off ti.size new))⟩ else none := rfl
/-! build -/
@[simp] theorem fillC_nil (pl : Nat → Option (Nat × Nat)) : fillC pl cs [] = (True, cs) := rfl
@[simp] theorem fillC_cons (pl : Nat → Option (Nat × Nat)) (i : Nat) (a : V) (rest : List (Nat × V)) : fillC pl cs ((i, a) :: rest) = fcK pl cs a rest (pl i) := by
  simp only [fillC, fcK]
  generalize pl i = q
  rcases q with _ | ⟨_, _⟩ <;> rfl
@[simp] theorem fcK_some (pl : Nat → Option (Nat × Nat)) (a : V) (rest : List (Nat × V)) (i j : Nat) : fcK pl cs a rest (some (i, j)) = (a.cells.length = j ∧ i + j ≤ cs.length ∧ (fillC pl (setSeg cs i j a.cells) rest).1, (fillC pl (setSeg cs i j a.cells) rest).2) := rfl
@[simp] theorem partVs_nil (ev : Operand → X) : partVs h ev [] = some ([], h) := rfl
@[simp] theorem partVs_cons (ev : Operand → X) (i : Nat) (q : Operand) (rest : List (Nat × Operand)) : partVs h ev ((i, q) :: rest) = pvK ev i rest (toV h (ev q)) := by
  simp only [partVs, pvK, pvL]
  generalize toV h (ev q) = z
  rcases z with _ | ⟨v, h'⟩
  · rfl
  · simp only; generalize partVs h' ev rest = z; rcases z with _ | ⟨_, _⟩ <;> rfl
@[simp] theorem pvK_some (ev : Operand → X) (i : Nat) (a : V) (rest : List (Nat × Operand)) : pvK ev i rest (some (a, h)) = pvL i a (partVs h ev rest) := rfl
@[simp] theorem pvL_some (i : Nat) (a : V) (vs : List (Nat × V)) : pvL i a (some (vs, h)) = some ((i, a) :: vs, h) := rfl
@[simp] theorem placesOf_nil : placesOf T [] = some [] := rfl
@[simp] theorem placesOf_cons (fs : List (Nat × Nat)) : placesOf T ((o, t) :: fs) = plK o (T t) (placesOf T fs) := by
  simp only [placesOf, plK]
  generalize T t = q; generalize placesOf T fs = q'
  cases q <;> cases q' <;> rfl
@[simp] theorem plK_some (pl : List (Nat × Nat)) : plK o (some ti) (some pl) = some ((o, ti.size) :: pl) := rfl
@[simp] theorem opBuild_eq (ev : Operand → X) (parts : List (Nat × Operand)) : opBuild T ev h t parts = bdK T (partsPlain ev parts) (T t) (partVs h ev parts) := by
  simp only [opBuild, bdK, bdT, bdA]
  generalize T t = q; generalize partVs h ev parts = q'
  rcases q with _ | ⟨_ | _ | _ | _ | fs | ⟨_, e⟩, _, _, _⟩ <;> rcases q' with _ | ⟨_, _⟩ <;> try rfl
@[simp] theorem bdK_struct (fs : List (Nat × Nat)) (ps : List (Nat × V)) : bdK T b (some ⟨.struct fs, sz, by_, zs⟩) (some (ps, h)) = bdT ⟨.struct fs, sz, by_, zs⟩ ps h b (placesOf T fs) := rfl
@[simp] theorem bdK_array (ps : List (Nat × V)) : bdK T b (some ⟨.array N e, sz, by_, zs⟩) (some (ps, h)) = bdA ⟨.array N e, sz, by_, zs⟩ ps h b (T e) := rfl
@[simp] theorem bdT_some (ps : List (Nat × V)) (pl : List (Nat × Nat)) : bdT ti ps h b (some pl) = some ⟨(fillC (fun i => pl[i]?) (ti.zero.map zC) ps).1, .agg (fillC (fun i => pl[i]?) (ti.zero.map zC) ps).2, if b = true then .pure else .write, h⟩ := rfl
@[simp] theorem bdA_some (ps : List (Nat × V)) : bdA ti ps h b (some ei) = some ⟨(fillC (fun i => some (i * ei.size, ei.size)) (ti.zero.map zC) ps).1, .agg (fillC (fun i => some (i * ei.size, ei.size)) (ti.zero.map zC) ps).2, if b = true then .pure else .write, h⟩ := rfl
def blP (ev : Operand → X) (h : List Blk) (ps : List (Nat × Operand)) (z : List X) : Option (List (Nat × Nat)) → Option Eff
  | some pl => some ⟨(fillX (fun i => pl[i]?) z (ps.map fun p => (p.1, ev p.2))).1, .recd (fillX (fun i => pl[i]?) z (ps.map fun p => (p.1, ev p.2))).2, .pure, h⟩
  | none => none
def blL (T : TT) (ev : Operand → X) (h : List Blk) (ps : List (Nat × Operand)) : Option TI → Option Eff
  | some ⟨.struct fs, _, _, z⟩ => blP ev h ps z (placesOf T fs)
  | _ => none
def fxK (place : Nat → Option (Nat × Nat)) (cells : List X) (rest : List (Nat × X)) : Option (Nat × Nat) → Option (List X) → Prop × List X
  | some (off, n), some xs => (xs.length = n ∧ off + n ≤ cells.length ∧ (fillX place (setSeg cells off n xs) rest).1, (fillX place (setSeg cells off n xs) rest).2)
  | _, _ => (False, cells)
@[simp] theorem opBuildL_eq (ev : Operand → X) (parts : List (Nat × Operand)) : opBuildL T ev h t parts = blL T ev h parts (T t) := by
  simp only [opBuildL, blL, blP]
  generalize T t = q
  rcases q with _ | ⟨k, _, _, _⟩
  · rfl
  · cases k with
    | struct fs => simp only; generalize placesOf T fs = q; cases q <;> rfl
    | _ => rfl
@[simp] theorem blL_struct (ev : Operand → X) (parts : List (Nat × Operand)) (fs : List (Nat × Nat)) (sz by_ : Nat) (z : List X) : blL T ev h parts (some ⟨.struct fs, sz, by_, z⟩) = blP ev h parts z (placesOf T fs) := rfl
@[simp] theorem blP_some (ev : Operand → X) (ps : List (Nat × Operand)) (z : List X) (pl : List (Nat × Nat)) : blP ev h ps z (some pl) = some ⟨(fillX (fun i => pl[i]?) z (ps.map fun p => (p.1, ev p.2))).1, .recd (fillX (fun i => pl[i]?) z (ps.map fun p => (p.1, ev p.2))).2, .pure, h⟩ := rfl
@[simp] theorem fillX_nil (place : Nat → Option (Nat × Nat)) (cells : List X) : fillX place cells [] = (True, cells) := rfl
@[simp] theorem fillX_cons (place : Nat → Option (Nat × Nat)) (cells : List X) (i : Nat) (x : X) (rest : List (Nat × X)) : fillX place cells ((i, x) :: rest) = fxK place cells rest (place i) (storeXs x) := by
  simp only [fillX, fxK]
  generalize place i = a; generalize storeXs x = b
  rcases a with _ | ⟨_, _⟩ <;> cases b <;> rfl
@[simp] theorem fxK_some (place : Nat → Option (Nat × Nat)) (cells xs : List X) (rest : List (Nat × X)) (off n : Nat) : fxK place cells rest (some (off, n)) (some xs) = (xs.length = n ∧ off + n ≤ cells.length ∧ (fillX place (setSeg cells off n xs) rest).1, (fillX place (setSeg cells off n xs) rest).2) := rfl
@[simp] theorem opBuildSlice_eq (ev : Operand → X) (parts : List (Nat × Operand)) : opBuildSlice T ev h t len parts = bsK T ev h len parts (T t) := by
  simp only [opBuildSlice, bsK, bsE]
  generalize T t = q
  rcases q with _ | ⟨_ | _ | _ | e | _ | _, _, _, _⟩ <;> try rfl
@[simp] theorem opBuildSliceL_eq (ev : Operand → X) (parts : List (Nat × Operand)) : opBuildSliceL T gd ev h t len parts = blT T h gd len (parts.map fun p => (p.1, ev p.2)) (T t) := by
  simp only [opBuildSliceL, blT, blE]
  generalize T t = q
  rcases q with _ | ⟨_ | _ | _ | e | _ | _, _, _, _⟩ <;> try rfl
@[simp] theorem blT_slice (ps : List (Nat × X)) : blT T h gd len ps (some ⟨.slice e, sz, by_, zs⟩) = blE h gd e len ps (T e) := rfl
@[simp] theorem blE_some (ps : List (Nat × X)) : blE h false e len ps (some ei) = some ⟨(fillX (fun i => some (i * ei.size, ei.size)) (rep len ei.zero) ps).1 ∧ 0 < ei.size ∧ len * ei.size ≤ 16777216 ∧ 0 < len, .ref h.length 0, .write,
        h ++ [.slx e 0 ei.size len (fillX (fun i => some (i * ei.size, ei.size)) (rep len ei.zero) ps).2]⟩ := rfl
@[simp] theorem bsK_slice (ev : Operand → X) (parts : List (Nat × Operand)) : bsK T ev h len parts (some ⟨.slice e, sz, by_, zs⟩) = bsE len (partsPlain ev parts) (T e) (partVs h ev parts) := rfl
@[simp] theorem bsE_some (ps : List (Nat × V)) : bsE len b (some ei) (some (ps, h)) = some ⟨(fillC (fun i => some (i * ei.size, ei.size)) (rep len (ei.zero.map zC)) ps).1 ∧ 0 < ei.size ∧ len * ei.size ≤ 16777216, .ex ei.size len (fillC (fun i => some (i * ei.size, ei.size)) (rep len (ei.zero.map zC)) ps).2, if b = true then .pure else .write, h⟩ := rfl
end
end Fen

/- Part 29: the same: places, slices, conversions, calls, results; states made weaker. -/
namespace Fen
open Go Go.RowKit

section
variable (ty ty' : TypeId) (T : TT) (G : Specs) (gd : Bool) (h h' : List Blk) (t u : Nat) (k : IntKind) (n m : Int) (ti ei fi di : TI) (sz by_ len : Nat) (zs : List X) (cs new : List C) (id ver v off o e : Nat) (p b : Bool) (op : BinOp) (x y : X) (l : List UInt8) (N M : Nat) (f : Nat) (lo hi : Option X)
/-! places -/
@[simp] theorem opIndexAddr_eq : opIndexAddr T h t x (.val (.int k n)) = iaT T h x n (T t) := by
  simp only [opIndexAddr, iaT, iaA, iaS]
  generalize T t = q
  rcases q with _ | ⟨_ | _ | _ | e | _ | ⟨_, e⟩, _, _, _⟩ <;> try rfl
  all_goals (simp only; generalize T e = q; cases q <;> cases x <;> try rfl)
@[simp] theorem iaT_array : iaT T h x n (some ⟨.array len e, sz, by_, zs⟩) = iaA h len n x (T e) := rfl
@[simp] theorem iaT_slice : iaT T h x n (some ⟨.slice e, sz, by_, zs⟩) = iaS h n x (T e) := rfl
@[simp] theorem iaA_ptr : iaA h len n (.ptr id ver off) (some ei) = some ⟨0 ≤ n ∧ n < len, .ptr id ver (off + n.toNat * ei.size), .pure, h⟩ := rfl
@[simp] theorem iaA_fptr : iaA h len n (.fptr cs) (some ei) = some ⟨0 ≤ n ∧ n < len, .fptr (cs.drop (n.toNat * ei.size)), .pure, h⟩ := rfl
@[simp] theorem iaS_val : iaS h n (.val (.sl M cs)) (some ei) = some ⟨0 ≤ n ∧ n < M, .fptr (cs.drop (n.toNat * ei.size)), .pure, h⟩ := rfl
@[simp] theorem iaS_ex : iaS h n (.ex sz M cs) (some ei) = some ⟨0 ≤ n ∧ n < M, .fptr (cs.drop (n.toNat * ei.size)), .pure, h⟩ := rfl
@[simp] theorem iaS_ref : iaS h n (.ref id ver) (some ei) = iaR h ei id ver n (h[id]?) := rfl
@[simp] theorem iaS_view : iaS h n (.view id ver off M) (some ei) = iaW h ei id ver off M n (h[id]?) := rfl
@[simp] theorem iaR_some : iaR h ei id ver n (some (.sl ty v p sz M cs)) = if ver = v then some ⟨0 ≤ n ∧ n < M, .ptr id ver (n.toNat * ei.size), .read, h⟩ else none := rfl
@[simp] theorem iaR_slx (xs : List X) : iaR h ei id ver n (some (.slx ty v sz M xs)) = if ver = v then some ⟨0 ≤ n ∧ n < M, .ptr id ver (n.toNat * ei.size), .read, h⟩ else none := rfl
@[simp] theorem iaW_some : iaW h ei id ver off N n (some (.sl ty v p sz M cs)) = if ver = v then some ⟨0 ≤ n ∧ n < N, .ptr id ver (off + n.toNat * ei.size), .read, h⟩ else none := rfl
@[simp] theorem opFieldAddr_eq : opFieldAddr T h t x f = faT T h x f (T t) := by
  simp only [opFieldAddr, faT, faF, faX]
  generalize T t = q
  rcases q with _ | ⟨_ | _ | _ | _ | fs | _, _, _, _⟩ <;> try rfl
@[simp] theorem faT_some (fs : List (Nat × Nat)) : faT T h x f (some ⟨.struct fs, sz, by_, zs⟩) = faF T h x (fs[f]?) := rfl
@[simp] theorem faF_some : faF T h x (some (off, t)) = faX h off x (T t) := rfl
@[simp] theorem faX_ptr : faX h off (.ptr id ver o) (some fi) = some ⟨0 < fi.size, .ptr id ver (o + off), .pure, h⟩ := rfl
@[simp] theorem faX_fptr : faX h off (.fptr cs) (some fi) = some ⟨0 < fi.size, .fptr (cs.drop off), .pure, h⟩ := rfl
@[simp] theorem opField_eq : opField T h t (.agg cs) f = ofT T h cs f (T t) := by
  simp only [opField, ofT, ofF, ofX]
  generalize T t = q
  rcases q with _ | ⟨_ | _ | _ | _ | fs | _, _, _, _⟩ <;> try rfl
@[simp] theorem ofT_some (fs : List (Nat × Nat)) : ofT T h cs f (some ⟨.struct fs, sz, by_, zs⟩) = ofF T h cs (fs[f]?) := rfl
@[simp] theorem ofF_some : ofF T h cs (some (off, t)) = ofX h cs off (T t) := rfl
@[simp] theorem ofX_some : ofX h cs off (some fi) = some (partX fi cs off h) := rfl
@[simp] theorem opIndex_agg : opIndex T h t (.agg cs) (.val (.int k n)) = ixA T h cs n (T t) := by
  simp only [opIndex, ixA, ixE]
  generalize T t = q
  rcases q with _ | ⟨_ | _ | _ | _ | _ | ⟨_, e⟩, _, _, _⟩ <;> try rfl
@[simp] theorem ixA_some : ixA T h cs n (some ⟨.array len e, sz, by_, zs⟩) = ixE h len cs n (T e) := rfl
@[simp] theorem ixE_some : ixE h len cs n (some ei) = some ⟨0 ≤ n ∧ n < len ∧ (partX ei cs (n.toNat * ei.size) h).pre, (partX ei cs (n.toNat * ei.size) h).x, .pure, h⟩ := rfl
@[simp] theorem opIndex_str : opIndex T h t (.val (.str l)) (.val (.int k n)) = ixS h l n (T t) := by
  simp only [opIndex, ixS]
  generalize T t = q
  rcases q with _ | ⟨_ | _ | _ | _ | _ | _, _, _, _⟩ <;> try rfl
@[simp] theorem ixS_some : ixS h l n (some ⟨.str, sz, by_, zs⟩) = some ⟨0 ≤ n ∧ n < l.length, .val (byteC (l.getD n.toNat 0)), .pure, h⟩ := rfl
/-! slices -/
@[simp] theorem bound_none : bound none n = some n := rfl
@[simp] theorem bound_int : bound (some (.val (.int k m))) n = some m := rfl
@[simp] theorem opSlice_eq (mx : Option X) : opSlice T h t x lo hi mx = slT T h x lo hi mx (T t) := by
  unfold opSlice slT
  generalize T t = q
  rcases q with _ | ⟨_ | _ | _ | e | _ | _, _, _, _⟩ <;> try rfl
@[simp] theorem slT_str : slT T h (.val (.str l)) lo hi none (some ⟨.str, sz, by_, zs⟩) = slStr h l (bound lo 0) (bound hi l.length) := rfl
@[simp] theorem slT_slice (mx : Option X) : slT T h x lo hi mx (some ⟨.slice e, sz, by_, zs⟩) = slE h x lo hi mx (T e) := rfl
@[simp] theorem slStr_some : slStr h l (some n) (some m) = some ⟨0 ≤ n ∧ n ≤ m ∧ m ≤ l.length, .val (.str ((l.take m.toNat).drop n.toNat)), .pure, h⟩ := rfl
@[simp] theorem slE_val : slE h (.val (.sl N cs)) lo hi none (some ei) = slVal h ei N cs (bound lo 0) (bound hi N) := rfl
@[simp] theorem slE_ex : slE h (.ex sz N cs) lo hi none (some ei) = slVal h ei N cs (bound lo 0) (bound hi N) := rfl
@[simp] theorem slE_nil : slE h .nil lo hi none (some ei) = slNil h (bound lo 0) (bound hi 0) := rfl
@[simp] theorem slE_ref : slE h (.ref id ver) lo hi none (some ei) = slRef h ei id ver lo hi (h[id]?) := rfl
@[simp] theorem slE_view : slE h (.view id ver off N) lo hi none (some ei) = slWiew h ei id ver off N lo hi (h[id]?) := rfl
@[simp] theorem slE_max : slE h x lo hi (some y) (some ei) = slMx ei (plainX x) lo hi y (toV h x) := rfl
@[simp] theorem slVal_some : slVal h ei N cs (some n) (some m) = some ⟨0 ≤ n ∧ n ≤ m ∧ m ≤ N, .val (.sl (m - n).toNat ((cs.drop (n.toNat * ei.size)).take ((m - n).toNat * ei.size))), .pure, h⟩ := rfl
@[simp] theorem slNil_some : slNil h (some n) (some m) = some ⟨n = 0 ∧ m = 0, .nil, .pure, h⟩ := rfl
@[simp] theorem slRef_some : slRef h ei id ver lo hi (some (.sl ty v p sz M cs)) = if ver = v then (match bound lo 0, bound hi M with
      | some a, some b => some ⟨0 ≤ a ∧ a ≤ b ∧ b ≤ M, .view id ver (a.toNat * ei.size) (b - a).toNat, .read, h⟩
      | _, _ => none) else none := rfl
@[simp] theorem slWiew_some : slWiew h ei id ver off N lo hi (some (.sl ty v p sz M cs)) = if ver = v then slView h id ver off ei.size N (bound lo 0) (bound hi N) else none := rfl
@[simp] theorem slView_some : slView h id ver off sz N (some n) (some m) = some ⟨0 ≤ n ∧ n ≤ m ∧ m ≤ N, .view id ver (off + n.toNat * sz) (m - n).toNat, .read, h⟩ := rfl
@[simp] theorem slMx_some (k' : IntKind) (c : Int) : slMx ei b lo (some (.val (.int k m))) (.val (.int k' c)) (some (.c (.sl N cs), h)) = (match bound lo 0 with
    | some a => some ⟨0 ≤ a ∧ a ≤ m ∧ m ≤ N ∧ c = m ∧ 0 < ei.size ∧ ((cs.drop (a.toNat * ei.size)).take ((m - a).toNat * ei.size)).length = (m - a).toNat * ei.size, .ex ei.size (m - a).toNat ((cs.drop (a.toNat * ei.size)).take ((m - a).toNat * ei.size)), if b = true then .pure else .write, h⟩
    | none => none) := by
  simp only [slMx]; generalize bound lo 0 = q; cases q <;> rfl
@[simp] theorem slOf_val : slOf h (.val (.sl N cs)) = some (N, cs, .pure) := rfl
@[simp] theorem slOf_nil : slOf h .nil = some (0, [], .pure) := rfl
@[simp] theorem slOf_ex : slOf h (.ex sz N cs) = some (N, cs, .pure) := rfl
@[simp] theorem slOf_ref : slOf h (.ref id ver) = soR id ver (h[id]?) := rfl
@[simp] theorem slOf_view : slOf h (.view id ver off N) = soW ver off N (h[id]?) := rfl
@[simp] theorem soR_some : soR id ver (some (.sl ty v p sz N cs)) = if ver = v then some (N, cs, .read) else none := rfl
@[simp] theorem soR_slx (xs : List X) : soR id ver (some (.slx ty v sz N xs)) = none := rfl
@[simp] theorem soM_none : soM none = none := rfl
@[simp] theorem lenX_ref : lenX h (.ref id ver) = lxR ver (h[id]?) := rfl
@[simp] theorem lxR_some (xs : List X) : lxR ver (some (.slx ty v sz N xs)) = if ver = v then some N else none := rfl
@[simp] theorem soW_some : soW ver off N (some (.sl ty v p sz M cs)) = if ver = v then some (N, (cs.drop off).take (N * sz), .read) else none := rfl
/-! conversions -/
@[simp] theorem opConvert_eq : opConvert T h t u x = cvK T h x (T t) (T u) := by
  unfold opConvert cvK
  generalize T t = q; generalize T u = q'
  rcases q with _ | ⟨_ | _ | _ | e | _ | _, _, _, _⟩ <;> rcases q' with _ | ⟨_ | _ | _ | e' | _ | _, _, _, _⟩ <;> try rfl
@[simp] theorem cvK_int (k1 k2 k3 : IntKind) (s1 b1 s2 b2 : Nat) (z1 z2 : List X) : cvK T h (.val (.int k3 n)) (some ⟨.int k1, s1, b1, z1⟩) (some ⟨.int k2, s2, b2, z2⟩) = some ⟨True, .val (.int k2 (k2.wrap n)), .pure, h⟩ := rfl
@[simp] theorem cvK_str (s1 b1 s2 b2 : Nat) (z1 z2 : List X) : cvK T h (.val (.str l)) (some ⟨.str, s1, b1, z1⟩) (some ⟨.str, s2, b2, z2⟩) = some ⟨True, .val (.str l), .pure, h⟩ := rfl
@[simp] theorem cvK_bytes (s1 b1 s2 b2 : Nat) (z1 z2 : List X) : cvK T h x (some ⟨.slice e, s1, b1, z1⟩) (some ⟨.str, s2, b2, z2⟩) = cvS h (T e) (slOf h x) := rfl
@[simp] theorem cvK_text (s1 b1 s2 b2 : Nat) (z1 z2 : List X) : cvK T h (.val (.str l)) (some ⟨.str, s1, b1, z1⟩) (some ⟨.slice e, s2, b2, z2⟩) = cvB h l (T e) := rfl
@[simp] theorem cvS_some (acc : Acc) : cvS h (some ⟨.int .u8, 1, by_, zs⟩) (some (N, cs, acc)) = some ⟨cs.all isByte = true ∧ cs.length = N, .val (.str (cs.map byteOf)), acc, h⟩ := rfl
@[simp] theorem cvB_some : cvB h l (some ⟨.int .u8, 1, by_, zs⟩) = some ⟨l.length ≤ 9223372036854775807, .val (.sl l.length (l.map byteC)), .pure, h⟩ := rfl
/-! make, append, len, min, max -/
@[simp] theorem opMakeSlice_eq (k' : IntKind) : opMakeSlice T gd h t (.val (.int k n)) (.val (.int k' m)) = mkT T h gd n m (T t) := by
  simp only [opMakeSlice, mkT, mkE]
  generalize T t = q
  rcases q with _ | ⟨_ | _ | _ | e | _ | _, _, _, _⟩ <;> try rfl
@[simp] theorem mkT_some : mkT T h gd n m (some ⟨.slice e, sz, by_, zs⟩) = mkE h gd e n m (T e) := rfl
@[simp] theorem mkE_some : mkE h false e n m (some ei) = some ⟨0 ≤ n ∧ n ≤ m ∧ m * ei.bytes ≤ 140737488355328 ∧ m ≤ 9223372036854775807 ∧ 0 < ei.size, .ref h.length 0, .write, h ++ [.sl e 0 true ei.size n.toNat (rep n.toNat (ei.zero.map zC))]⟩ := rfl
@[simp] theorem opMakeSliceL_eq (k' : IntKind) : opMakeSliceL T gd h t (.val (.int k n)) (.val (.int k' m)) = mlT T h gd n m (T t) := by
  simp only [opMakeSliceL, mlT, mlE]
  generalize T t = q
  rcases q with _ | ⟨_ | _ | _ | e | _ | _, _, _, _⟩ <;> try rfl
@[simp] theorem mlT_some : mlT T h gd n m (some ⟨.slice e, sz, by_, zs⟩) = mlE h gd e n m (T e) := rfl
@[simp] theorem mlE_some : mlE h false e n m (some ei) = some ⟨0 ≤ n ∧ n ≤ m ∧ m * ei.bytes ≤ 140737488355328 ∧ m ≤ 9223372036854775807 ∧ 0 < ei.size, .ref h.length 0, .write, h ++ [.slx e 0 ei.size n.toNat (rep n.toNat ei.zero)]⟩ := rfl
@[simp] theorem opMakeSliceV_eq (k' : IntKind) : opMakeSliceV T h t (.val (.int k n)) (.val (.int k' m)) = mvT T h n m (T t) := by
  simp only [opMakeSliceV, mvT, mvE]
  generalize T t = q
  rcases q with _ | ⟨_ | _ | _ | e | _ | _, _, _, _⟩ <;> try rfl
@[simp] theorem mvT_some : mvT T h n m (some ⟨.slice e, sz, by_, zs⟩) = mvE h n m (T e) := rfl
@[simp] theorem mvE_some : mvE h n m (some ei) = some ⟨0 ≤ n ∧ n ≤ m ∧ m * ei.bytes ≤ 140737488355328 ∧ m ≤ 9223372036854775807 ∧ 0 < ei.size ∧ n = m, .ex ei.size n.toNat (rep n.toNat (ei.zero.map zC)), .pure, h⟩ := rfl
@[simp] theorem srcOf_str : srcOf h (.val (.str l)) = some (l.length, l.map byteC) := rfl
@[simp] theorem srcOf_sl : srcOf h (.val (.sl N cs)) = some (N, cs) := rfl
@[simp] theorem srcOf_nil : srcOf h .nil = some (0, []) := rfl
@[simp] theorem srcOf_ex : srcOf h (.ex sz N cs) = some (N, cs) := rfl
@[simp] theorem srcOf_ref : srcOf h (.ref id ver) = soM (soR id ver (h[id]?)) := by
  simp only [srcOf, slOf_ref]; generalize soR id ver _ = q; cases q <;> rfl
@[simp] theorem srcOf_view : srcOf h (.view id ver off N) = soM (soW ver off N (h[id]?)) := by
  simp only [srcOf, slOf_view]; generalize soW ver off N _ = q; cases q <;> rfl
@[simp] theorem soM_some (r : Nat × List C × Acc) : soM (some r) = some (r.1, r.2.1) := rfl
@[simp] theorem srcType_eq : srcType T u = stK2 (T u) := rfl
@[simp] theorem stK2_slice : stK2 (some ⟨.slice e, sz, by_, zs⟩) = true := rfl
@[simp] theorem stK2_str : stK2 (some ⟨.str, sz, by_, zs⟩) = true := rfl
@[simp] theorem opAppend_eq : opAppend T gd h t x y = apT T h gd x y (T t) := by
  simp only [opAppend, apT, apE, apR]
  generalize T t = q
  rcases q with _ | ⟨_ | _ | _ | e | _ | _, _, _, _⟩ <;> try rfl
@[simp] theorem apT_some : apT T h gd x y (some ⟨.slice e, sz, by_, zs⟩) = apE h gd e x (T e) (srcOf h y) := rfl
@[simp] theorem apE_nil : apE h false e .nil (some ei) (some (N, new)) = some ⟨new.length = N * ei.size ∧ 0 < ei.size ∧ N * ei.bytes ≤ 140737488355328 ∧ N ≤ 9223372036854775807, .ref h.length 0, .write, h ++ [.sl e 0 true ei.size N new]⟩ := rfl
@[simp] theorem apE_ex : apE h false e (.ex sz M cs) (some ei) (some (N, new)) = some ⟨new.length = N * ei.size ∧ sz = ei.size ∧ (M + N) * ei.bytes ≤ 140737488355328 ∧ M + N ≤ 9223372036854775807, .ref h.length 0, .write, h ++ [.sl e 0 (M == 0) sz (M + N) (cs ++ new)]⟩ := rfl
@[simp] theorem apE_ref : apE h false e (.ref id ver) (some ei) (some (N, new)) = apR h e ei id ver N new (h[id]?) := rfl
@[simp] theorem apR_some : apR h e ei id ver N new (some (.sl ty v p sz M cs)) = if ver = v then some ⟨e = ty ∧ new.length = N * ei.size ∧ sz = ei.size ∧ (M + N) * ei.bytes ≤ 140737488355328 ∧ M + N ≤ 9223372036854775807, .ref id (ver + 1), .write, h.set id (.sl ty (v + 1) p sz (M + N) (cs ++ new))⟩ else none := rfl
@[simp] theorem isSlx_val (c : C) : isSlx h (.val c) = false := rfl
@[simp] theorem isSlx_nil : isSlx h .nil = false := rfl
@[simp] theorem isSlx_ex : isSlx h (.ex sz N cs) = false := rfl
@[simp] theorem isSlx_view : isSlx h (.view id ver off N) = false := rfl
@[simp] theorem isSlx_ref : isSlx h (.ref id ver) = isB (h[id]?) := by
  simp only [isSlx, isB]; generalize h[id]? = q; rcases q with _ | _ | _ | _ | _ | _ | _ | _ | _ <;> rfl
@[simp] theorem isB_sl : isB (some (.sl ty v p sz N cs)) = false := rfl
@[simp] theorem isB_slx (xs : List X) : isB (some (.slx ty v sz N xs)) = true := rfl
@[simp] theorem srcY_eq : srcY h y = syK (srcX h y) (srcOf h y) := by
  simp only [srcY, syK]; generalize srcOf h y = q; rcases q with _ | ⟨_, _⟩ <;> rfl
@[simp] theorem syK_some (q : Option (Nat × List X)) : syK q (some (N, cs)) = some (N, cs.map .val) := rfl
@[simp] theorem syK_none (q : Option (Nat × List X)) : syK q none = q := rfl
@[simp] theorem srcX_ref : srcX h (.ref id ver) = sxR ver (h[id]?) := rfl
@[simp] theorem sxR_some (xs : List X) : sxR ver (some (.slx ty v sz N xs)) = if ver = v then some (N, xs) else none := rfl
@[simp] theorem opAppendX_eq : opAppendX T gd h t x y = ayT T h gd x (srcY h y) (T t) := by
  simp only [opAppendX, ayT, ayE]
  generalize T t = q
  rcases q with _ | ⟨_ | _ | _ | e | _ | _, _, _, _⟩ <;> try rfl
@[simp] theorem ayT_some (q : Option (Nat × List X)) : ayT T h gd x q (some ⟨.slice e, sz, by_, zs⟩) = ayE h gd e x q (T e) := rfl
@[simp] theorem ayE_some (q : Option (Nat × List X)) : ayE h gd e x q (some ei) = apY h gd e ei x q := rfl
@[simp] theorem apY_nil (xs : List X) : apY h false e ei .nil (some (N, xs)) = some ⟨xs.length = N * ei.size ∧ 0 < ei.size ∧ N * ei.bytes ≤ 140737488355328 ∧ N ≤ 9223372036854775807 ∧ xs.all cellX = true, .ref h.length 0, .write, h ++ [.slx e 0 ei.size N xs]⟩ := rfl
@[simp] theorem apY_ref (xs : List X) : apY h false e ei (.ref id ver) (some (N, xs)) = ayR h e ei id ver N xs (h[id]?) := by
  simp only [apY, ayR, Bool.false_eq_true, if_false]; generalize h[id]? = q; rcases q with _ | _ | _ | _ | _ | _ | _ | _ | _ <;> rfl
@[simp] theorem ayR_sl (xs : List X) : ayR h e ei id ver N xs (some (.sl ty v p sz M cs)) = if ver = v then some ⟨p = true ∧ e = ty ∧ xs.length = N * ei.size ∧ sz = ei.size ∧ (M + N) * ei.bytes ≤ 140737488355328 ∧ M + N ≤ 9223372036854775807 ∧ xs.all cellX = true, .ref id (ver + 1), .write,
      h.set id (.slx ty (v + 1) sz (M + N) (cs.map .val ++ xs))⟩ else none := rfl
@[simp] theorem ayR_slx (xs ys : List X) : ayR h e ei id ver N xs (some (.slx ty v sz M ys)) = if ver = v then some ⟨e = ty ∧ xs.length = N * ei.size ∧ sz = ei.size ∧ (M + N) * ei.bytes ≤ 140737488355328 ∧ M + N ≤ 9223372036854775807 ∧ xs.all cellX = true, .ref id (ver + 1), .write,
      h.set id (.slx ty (v + 1) sz (M + N) (ys ++ xs))⟩ else none := rfl
@[simp] theorem cellX_val (c : C) : cellX (.val c) = true := rfl
@[simp] theorem cellX_nil : cellX .nil = true := rfl
@[simp] theorem cellX_ex : cellX (.ex sz N cs) = true := rfl
@[simp] theorem cellX_ref : cellX (.ref id ver) = true := rfl
@[simp] theorem cellX_fptr : cellX (.fptr cs) = true := rfl
@[simp] theorem cellX_ptr : cellX (.ptr id ver off) = true := rfl
@[simp] theorem cellX_map : ∀ cs : List C, (cs.map X.val).all cellX = true
  | [] => rfl
  | c :: cs => by simp [cellX_map cs]
@[simp] theorem opCopy_eq : opCopy T gd h t x y = cpT T h gd x y (T t) := by
  simp only [opCopy, cpT]
  generalize T t = q
  rcases q with _ | ⟨_ | _ | _ | e | _ | _, _, _, _⟩ <;> try rfl
@[simp] theorem cpT_some : cpT T h gd x y (some ⟨.slice e, sz, by_, zs⟩) = copyE h gd x (T e) (srcOf h y) := rfl
@[simp] theorem copyE_ref : copyE h false (.ref id ver) (some ei) (some (N, new)) = copyB h ei id ver 0 none N new (h[id]?) := rfl
@[simp] theorem copyE_view (M : Nat) : copyE h false (.view id ver off M) (some ei) (some (N, new)) = copyB h ei id ver off (some M) N new (h[id]?) := rfl
@[simp] theorem copyB_some (nd : Option Nat) : copyB h ei id ver off nd N new (some (.sl ty v p sz M cs)) = if ver = v then some ⟨p = true ∧ sz = ei.size ∧ new.length = N * sz ∧ off + nd.getD M * sz ≤ cs.length, .val (.int .i64 ((min N (nd.getD M) : Nat) : Int)), .write,
      h.set id (.sl ty v p sz M (setSeg cs off (min N (nd.getD M) * sz) (new.take (min N (nd.getD M) * sz))))⟩ else none := rfl
@[simp] theorem minInts_nil (g : Int → Int → Int) : minInts g k n [] = some n := rfl
@[simp] theorem minInts_cons (g : Int → Int → Int) (k' : IntKind) (xs : List X) : minInts g k n (.val (.int k' m) :: xs) = if k = k' then minInts g k (g n m) xs else none := rfl
@[simp] theorem opMinMax_eq (g : Int → Int → Int) (xs : List X) : opMinMax g h (.val (.int k n) :: xs) = mmK k h (minInts g k n xs) := by
  simp only [opMinMax]; generalize minInts g k n xs = q; cases q <;> rfl
@[simp] theorem mmK_some : mmK k h (some n) = some ⟨True, .val (.int k n), .pure, h⟩ := rfl
@[simp] theorem opLen_eq : opLen T h t x = lnT h x (T t) := by
  simp only [opLen, lnT, lnY]
  generalize T t = q
  rcases q with _ | ⟨_ | _ | _ | e | _ | _, _, _, _⟩ <;> try rfl
  simp only; generalize slOf h x = a; generalize lenX h x = b
  rcases a with _ | ⟨_, _, _⟩ <;> rcases b with _ | _ <;> rfl
@[simp] theorem lnT_array : lnT h x (some ⟨.array N e, sz, by_, zs⟩) = some ⟨True, .val (.int .i64 N), .pure, h⟩ := rfl
@[simp] theorem lnT_str : lnT h (.val (.str l)) (some ⟨.str, sz, by_, zs⟩) = some ⟨True, .val (.int .i64 l.length), .pure, h⟩ := rfl
@[simp] theorem lnT_slice : lnT h x (some ⟨.slice e, sz, by_, zs⟩) = lnY h (slOf h x) (lenX h x) := rfl
@[simp] theorem lnY_some (acc : Acc) (q : Option Nat) : lnY h (some (N, cs, acc)) q = some ⟨True, .val (.int .i64 N), acc, h⟩ := rfl
@[simp] theorem lnY_x : lnY h none (some N) = some ⟨True, .val (.int .i64 N), .read, h⟩ := rfl
/-! calls -/
@[simp] theorem opCall_eq (g : FuncId) (args : List X) : opCall G gd h (.val (.fn g cs)) args = clK gd h (args ++ cs.map .val) (args ++ cs.map C.x) (G.find g) := by
  simp only [opCall, clK]
  generalize G.find g = q
  cases q <;> rfl
@[simp] theorem opCall_clos (g : FuncId) (args caps : List X) : opCall G gd h (.clos g caps) args = clK gd h (args ++ caps) (args ++ caps) (G.find g) := by
  simp only [opCall, clK]
  generalize G.find g = q
  cases q <;> rfl
@[simp] theorem clK_some (s : Spec) (args ys : List X) : clK gd h args ys (some s) = csK s gd h args ys s.hp := by
  simp only [clK, opCallS, csK, cvE, cwK, clG]
  generalize s.hp = q
  cases q with
  | some hs => rfl
  | none => simp only; generalize toVs h args = q; rcases q with _ | ⟨vs, h'⟩ <;> rfl
@[simp] theorem csK_none (s : Spec) (args ys : List X) : csK s gd h args ys none = cwK s gd args (toVs h args) := rfl
@[simp] theorem csK_some (s : Spec) (hs : HS) (args ys : List X) : csK s gd h args ys (some hs) = hcE hs gd h ys := rfl
@[simp] theorem hcE_false (hs : HS) (ys : List X) : hcE hs false h ys = some ⟨(hs.eff ys h).1, (hs.eff ys h).2.1, hcA hs.wr, hcH hs.wr (hs.eff ys h).2.2 h⟩ := by
  simp [hcE, hcA, hcH]
@[simp] theorem hcE_true (hs : HS) (ys : List X) : hcE hs true h ys = hcO hs.wr ⟨(hs.eff ys h).1, (hs.eff ys h).2.1, .read, h⟩ := by
  simp only [hcE, hcO]
  cases hs.wr <;> rfl
@[simp] theorem hcA_true : hcA true = .write := rfl
@[simp] theorem hcA_false : hcA false = .read := rfl
@[simp] theorem hcH_true : hcH true h' h = h' := rfl
@[simp] theorem hcH_false : hcH false h' h = h := rfl
@[simp] theorem hcO_false (e : Eff) : hcO false e = some e := rfl
@[simp] theorem cwK_some (s : Spec) (args : List X) (vs : List V) : cwK s false args (some (vs, h)) = some ⟨s.pre vs, (imp h (s.res vs)).1, if (args.all plainX && onlyVals (s.res vs)) = true then .pure else .write, (imp h (s.res vs)).2⟩ := rfl
@[simp] theorem cwK_guard (s : Spec) (args : List X) (vs : List V) : cwK s true args (some (vs, h)) = clG (s.pre vs) (args.all plainX) h (s.res vs) := rfl
@[simp] theorem clG_one (q : Prop) (c : Comp) : clG q b h (.one c) = some ⟨q, c.frz.x, if b = true then .pure else .write, h⟩ := rfl
@[simp] theorem onlyVals_val (a : V) : onlyVals (.one (.val a)) = true := rfl
@[simp] theorem onlyVals_own : onlyVals (.one (.own ty p sz N cs)) = false := rfl
@[simp] theorem onlyVals_many (l : List Comp) : onlyVals (.many l) = l.all isV := by
  simp only [onlyVals]; congr 1; funext c; cases c <;> rfl
@[simp] theorem isV_val (a : V) : isV (.val a) = true := rfl
@[simp] theorem isV_own : isV (.own ty p sz N cs) = false := rfl
/-! results -/
variable (st : St) (rs : List ResultVar) (xs : List X) (rv : RV)
@[simp] theorem resX_tmp : resX T st (.tmp t) = some (True, lk st.r t) := rfl
theorem recL_eq (h : List Blk) (t : Nat) (p : X) : recL T h t p = rlK (T t) (cellsAt h p) := by
  unfold recL rlK; generalize T t = a; generalize cellsAt h p = b
  rcases a with _ | a <;> rcases b with _ | ⟨_ | _, _⟩ <;> rfl
@[simp] theorem resX_cell : resX T st (.cell t u) = rcK (rlK (T u) (cellsAt st.h (lk st.r t))) (opLoad T st.h u (lk st.r t)) := by
  simp only [resX]; rw [recL_eq]; generalize opLoad T st.h u _ = q; cases q <;> rfl
@[simp] theorem rcK_some (alt : Option (Prop × X)) (ef : Eff) : rcK alt (some ef) = if ef.acc = .write then alt else some (ef.pre, ef.x) := rfl
@[simp] theorem rcK_none (alt : Option (Prop × X)) : rcK alt none = alt := rfl
@[simp] theorem rlK_c (ti : TI) (cs : List C) (a : Acc) : rlK (some ti) (some (.c cs, a)) = none := rfl
@[simp] theorem rlK_x (ti : TI) (xs : List X) (a : Acc) : rlK (some ti) (some (.x xs, a)) = if ti.k.agg && xs.all oneX then some (xs.length = ti.size, .recd xs) else none := rfl
@[simp] theorem oneX_val (c : C) : oneX (.val c) = true := rfl
@[simp] theorem oneX_nil : oneX .nil = true := rfl
@[simp] theorem oneX_ref (i v : Nat) : oneX (.ref i v) = true := rfl
@[simp] theorem ressX_nil : ressX T st [] = some (True, []) := rfl
@[simp] theorem ressX_cons (r : ResultVar) : ressX T st (r :: rs) = rsK (resX T st r) (ressX T st rs) := by
  simp only [ressX]; generalize resX T st r = q; generalize ressX T st rs = q'
  rcases q with _ | ⟨_, _⟩ <;> rcases q' with _ | ⟨_, _⟩ <;> rfl
@[simp] theorem rsK_some (q q' : Prop) : rsK (some (q, x)) (some (q', xs)) = some (q ∧ q', x :: xs) := rfl
@[simp] theorem frzAll_nil : frzAll h [] [] = some (True, h) := rfl
@[simp] theorem frzAll_val (a : V) (l : List Comp) : frzAll h (x :: xs) (.val a :: l) = fzK a xs l (toV h x) := by
  simp only [frzAll, fzK, fzL]
  generalize toV h x = q
  rcases q with _ | ⟨_, h'⟩
  · rfl
  · simp only; generalize frzAll h' xs l = q; rcases q with _ | ⟨_, _⟩ <;> rfl
@[simp] theorem frzAll_own (l : List Comp) : frzAll h (x :: xs) (.own ty p sz N cs :: l) = frzAll h xs l := rfl
@[simp] theorem fzK_some (a c : V) (l : List Comp) : fzK a xs l (some (c, h)) = fzL (c = a) (frzAll h xs l) := rfl
@[simp] theorem fzL_some (q q' : Prop) : fzL q (some (q', h)) = some (q ∧ q', h) := rfl
variable (used : List Nat) (l : List Comp)
@[simp] theorem ownAll_nil : ownAll h used [] [] = True := rfl
@[simp] theorem ownAll_val (a : V) : ownAll h used (x :: xs) (.val a :: l) = ownAll h used xs l := rfl
@[simp] theorem ownAll_xnil : ownAll h used (.nil :: xs) (.own ty p sz N cs :: l) = (0 < sz ∧ N = 0 ∧ cs = [] ∧ ownAll h used xs l) := rfl
@[simp] theorem ownAll_ex (s' n' : Nat) (c' : List C) : ownAll h used (.ex s' n' c' :: xs) (.own ty p sz N cs :: l) = (p = false ∧ s' = sz ∧ n' = N ∧ c' = cs ∧ ownAll h used xs l) := rfl
@[simp] theorem ownAll_ref : ownAll h used (.ref id ver :: xs) (.own ty p sz N cs :: l) = owR h used id ver ty p sz N cs xs l (h[id]?) := by
  simp only [ownAll, owR]; generalize h[id]? = q; rcases q with _ | _ | _ | _ | _ | _ | _ | _ | _ <;> rfl
@[simp] theorem owR_some (v : Nat) (p' : Bool) (s' n' : Nat) (c' : List C) : owR h used id ver ty p sz N cs xs l (some (.sl ty' v p' s' n' c')) = (id ∉ used ∧ ver = v ∧ ty' = ty ∧ (p = true → p' = true) ∧ s' = sz ∧ n' = N ∧ c' = cs ∧ ownAll h (id :: used) xs l) := rfl
@[simp] theorem retOK_eq : retOK T rs rv st = rtK st.h rv (ressX T st rs) := by
  simp only [retOK, rtK, rtL]; generalize ressX T st rs = q
  rcases q with _ | ⟨_, xs⟩
  · rfl
  · simp only; generalize frzAll st.h xs rv.comps = q; rcases q with _ | ⟨_, _⟩ <;> rfl
@[simp] theorem rtK_some (q : Prop) : rtK h rv (some (q, xs)) = rtL q xs rv (frzAll h xs rv.comps) := rfl
@[simp] theorem rtL_some (q q' : Prop) : rtL q xs rv (some (q', h)) = (q ∧ q' ∧ ownAll h [] xs rv.comps) := rfl
/-! weaker states -/
variable (ids : List (Option Nat)) (i j : Nat) (c c' : C)
@[simp] theorem renX_dead : renX h h' ids .dead x = True := by simp [renX]
@[simp] theorem renX_val : renX h h' ids (.val c) (.val c') = (c = c') := by simp [renX]
@[simp] theorem renX_valnil : renX h h' ids (.val c) .nil = (c = .sl 0 []) := by simp [renX]
@[simp] theorem renX_valex : renX h h' ids (.val c) (.ex sz N cs) = (c = .sl N cs) := by simp [renX]
@[simp] theorem renX_agg : renX h h' ids (.agg cs) (.agg new) = (cs = new) := by simp [renX]
@[simp] theorem renX_nil : renX h h' ids .nil .nil = True := by simp [renX]
@[simp] theorem renX_ex (s' n' : Nat) (c' : List C) : renX h h' ids (.ex sz N cs) (.ex s' n' c') = (sz = s' ∧ N = n' ∧ cs = c') := by simp [renX]
@[simp] theorem renX_ref (v' : Nat) : renX h h' ids (.ref j v) (.ref i v') = (ids[j]? = some (some i) ∧ curV h' j v ∧ curV h i v') := by simp [renX]
@[simp] theorem renX_refnil : renX h h' ids (.ref j v) .nil = (ids[j]? = some none ∧ curV h' j v ∧ isSl h' j) := by simp [renX]
@[simp] theorem renX_view (v' o' n' : Nat) : renX h h' ids (.view j v off N) (.view i v' o' n') = (ids[j]? = some (some i) ∧ curV h' j v ∧ curV h i v' ∧ off = o' ∧ N = n') := by simp [renX]
@[simp] theorem renX_ptr (v' o' : Nat) : renX h h' ids (.ptr j v off) (.ptr i v' o') = (ids[j]? = some (some i) ∧ curV h' j v ∧ curV h i v' ∧ off = o') := by simp [renX]
@[simp] theorem renX_fptr : renX h h' ids (.fptr cs) (.fptr new) = (cs = new) := by simp [renX]
@[simp] theorem renX_recd (xs ys : List X) : renX h h' ids (.recd xs) (.recd ys) = renXs h h' ids xs ys := by simp [renX]
@[simp] theorem renX_clos (f f' : FuncId) (ys : List X) : renX h h' ids (.clos f xs) (.clos f' ys) = (f = f' ∧ renXs h h' ids xs ys) := by simp [renX]
@[simp] theorem renX_yld : renX h h' ids (.yld j) (.yld i) = (ids[j]? = some (some i) ∧ curV h' j 0 ∧ curV h i 0) := by simp [renX]
@[simp] theorem renX_mp : renX h h' ids (.mp j) (.mp i) = (ids[j]? = some (some i) ∧ curV h' j 0 ∧ curV h i 0) := by simp [renX]
@[simp] theorem renX_valfptr : renX h h' ids (.val c) (.fptr cs) = (c = .ptr cs) := by simp [renX]
@[simp] theorem renXs_nil : renXs h h' ids [] [] = True := by simp [renXs]
@[simp] theorem renXs_cons (ys : List X) : renXs h h' ids (x :: xs) (y :: ys) = (renX h h' ids x y ∧ renXs h h' ids xs ys) := by simp [renXs]
attribute [simp] renR Blk.ver
@[simp] theorem curV_eq : curV h i v = cvV v (h[i]?) := rfl
@[simp] theorem cvV_some (b : Blk) : cvV v (some b) = (b.ver = v) := rfl
@[simp] theorem isSl_eq : isSl h i = isS (h[i]?) := rfl
@[simp] theorem isS_sl : isS (some (.sl ty v p sz N cs)) = True := rfl
@[simp] theorem renB_sl : renB h h' ids (.sl ty v p sz N cs) (some i) = rbS ty p sz N cs (h[i]?) := rfl
@[simp] theorem renB_slx (xs : List X) : renB h h' ids (.slx ty v sz N xs) (some i) = rbX h h' ids ty sz N xs (h[i]?) := rfl
@[simp] theorem renB_slxnone (xs : List X) : renB h h' ids (.slx ty v sz N xs) none = (0 < sz ∧ N = 0 ∧ xs = []) := rfl
@[simp] theorem rbS_slx (v' : Nat) (s' n' : Nat) (c' : List X) : rbS ty p sz N cs (some (.slx ty' v' s' n' c')) = (ty = ty' ∧ sz = s' ∧ N = n' ∧ c' = cs.map .val) := rfl
@[simp] theorem rbX_slx (xs : List X) (v' : Nat) (s' n' : Nat) (c' : List X) : rbX h h' ids ty sz N xs (some (.slx ty' v' s' n' c')) = (ty = ty' ∧ sz = s' ∧ N = n' ∧ renXs h h' ids xs c') := rfl
@[simp] theorem rbX_sl (xs : List X) (v' : Nat) (p' : Bool) (s' n' : Nat) (c' : List C) : rbX h h' ids ty sz N xs (some (.sl ty' v' p' s' n' c')) = (ty = ty' ∧ p' = true ∧ sz = s' ∧ N = n' ∧ xs = c'.map .val) := rfl
@[simp] theorem renB_box (ty : TypeId) : renB h h' ids (.box ty xs) (some i) = rbB h h' ids ty xs (h[i]?) := rfl
@[simp] theorem renB_obj (q : Loop) : renB h h' ids (.obj q) (some i) = rbO q (h[i]?) := rfl
@[simp] theorem renB_mp (a b : IntKind) (es : List (Int × Int)) : renB h h' ids (.mp a b es) (some i) = rbM a b es (h[i]?) := rfl
@[simp] theorem rbM_some (a b a' b' : IntKind) (es es' : List (Int × Int)) : rbM a b es (some (.mp a' b' es')) = (a = a' ∧ b = b' ∧ es = es') := rfl
@[simp] theorem renB_sb (a b : Nat) (es : List C) : renB h h' ids (.sb a b es) (some i) = rbB2 a b es (h[i]?) := rfl
@[simp] theorem rbB2_some (a b a' b' : Nat) (es es' : List C) : rbB2 a b es (some (.sb a' b' es')) = (a = a' ∧ b = b' ∧ es = es') := rfl
@[simp] theorem renB_gone : renB h h' ids (.gone cs) (some i) = rbG cs (h[i]?) := rfl
@[simp] theorem rbO_some (q q' : Loop) : rbO q (some (.obj q')) = (q = q') := rfl
@[simp] theorem rbG_some : rbG cs (some (.gone new)) = (cs = new) := rfl
@[simp] theorem renB_hid : renB h h' ids .hid (some i) = rbI (h[i]?) := rfl
@[simp] theorem rbI_some : rbI (some .hid) = True := rfl
@[simp] theorem renB_none : renB h h' ids (.sl ty v p sz N cs) none = (0 < sz ∧ N = 0 ∧ cs = []) := rfl
@[simp] theorem rbS_some (v' : Nat) (p' : Bool) (s' n' : Nat) (c' : List C) : rbS ty p sz N cs (some (.sl ty' v' p' s' n' c')) = (ty = ty' ∧ (p = true → p' = true) ∧ sz = s' ∧ N = n' ∧ cs = c') := rfl
@[simp] theorem rbB_some (ty ty' : TypeId) (ys : List X) : rbB h h' ids ty xs (some (.box ty' ys)) = (ty = ty' ∧ renXs h h' ids xs ys) := rfl
@[simp] theorem renBs_nil : renBs h h' ids [] [] = True := rfl
@[simp] theorem renBs_cons (b : Blk) (bs : List Blk) (q : Option Nat) (qs : List (Option Nat)) : renBs h h' ids (b :: bs) (q :: qs) = (renB h h' ids b q ∧ renBs h h' ids bs qs) := rfl
end
end Fen

/- Part 30: rows of numbers. -/
namespace Fen
open Go Go.RowKit

@[simp] theorem wrap64 (n : Int) (h1 : -9223372036854775808 ≤ n) (h2 : n ≤ 9223372036854775807) : IntKind.i64.wrap n = n := by rw [IntKind.wrap_i64]; omega

@[simp] theorem cast_succ_ne (n : Nat) : ((n : Int) + 1 = 0) = False := by simp only [eq_iff_iff, iff_false]; omega
@[simp] theorem cast_succ_beq (n : Nat) : ((n : Int) + 1 == 0) = false := by rw [beq_eq_false_iff_ne]; omega

def toI : C → Int
  | .int _ n => n
  | _ => 0

@[simp] theorem toI_int (k : IntKind) (n : Int) : toI (.int k n) = n := rfl

/-- numbers, as cells -/
def ints (k : IntKind) (l : List Int) : List C := l.map (C.int k)

section
variable (k : IntKind) (l m : List Int) (a b : Int) (n : Nat)
@[simp] theorem ints_nil : ints k [] = [] := rfl
@[simp] theorem ints_len : (ints k l).length = l.length := by simp [ints]
@[simp] theorem ints_take : (ints k l).take n = ints k (l.take n) := by simp [ints]
@[simp] theorem ints_drop : (ints k l).drop n = ints k (l.drop n) := by simp [ints]
@[simp] theorem ints_app : ints k l ++ ints k m = ints k (l ++ m) := by simp [ints]
@[simp] theorem ints_app1 : ints k l ++ [C.int k a] = ints k (l ++ [a]) := by simp [ints]
@[simp] theorem ints_app2 : ints k l ++ [C.int k a, C.int k b] = ints k (l ++ [a, b]) := by simp [ints]
@[simp] theorem ints_cons : C.int k a :: ints k l = ints k (a :: l) := rfl
@[simp] theorem ints_head (d : C) : (ints k (a :: l)).headD d = C.int k a := rfl
@[simp] theorem ints_head2 : (ints k (a :: l)).head? = some (C.int k a) := rfl
@[simp] theorem ints_get (i : Nat) : (ints k l)[i]? = (l[i]?).map (C.int k) := by simp [ints]
@[simp] theorem ints_tail : (ints k l).tail = ints k l.tail := by simp [ints]
@[simp] theorem ints_inj : ints k l = ints k m ↔ l = m := by
  refine ⟨fun h => ?_, fun h => by rw [h]⟩
  have : (ints k l).map toI = (ints k m).map toI := by rw [h]
  simpa [ints, Function.comp_def, toI] using this
@[simp] theorem ints_one : [C.int k a] = ints k l ↔ [a] = l := by rw [← ints_inj k]; rfl
@[simp] theorem ints_two : [C.int k a, C.int k b] = ints k l ↔ [a, b] = l := by rw [← ints_inj k]; rfl
@[simp] theorem ints_three (c : Int) : [C.int k a, C.int k b, C.int k c] = ints k l ↔ [a, b, c] = l := by rw [← ints_inj k]; rfl
@[simp] theorem ints_four (c d : Int) : [C.int k a, C.int k b, C.int k c, C.int k d] = ints k l ↔ [a, b, c, d] = l := by rw [← ints_inj k]; rfl
@[simp] theorem ints_isnil : ([] : List C) = ints k l ↔ l = [] := by rw [← ints_nil k, ints_inj]; exact ⟨fun h => h.symm, fun h => h.symm⟩
@[simp] theorem ints_toI : (ints k l).map toI = l := by simp [ints, Function.comp_def, toI]
@[simp] theorem ints_isByte : (ints .u8 l).all isByte = true := by simp [ints, isByte]
end

@[simp] theorem isByte_u8 (n : Int) : isByte (.int .u8 n) = true := rfl
@[simp] theorem byteOf_int (k : IntKind) (n : Int) : byteOf (.int k n) = UInt8.ofNat n.toNat := rfl
@[simp] theorem byteOf_map (k : IntKind) (l : List Int) : (ints k l).map byteOf = l.map fun n => UInt8.ofNat n.toNat := by simp [ints, Function.comp_def]

def Bytes (l : List Int) : Prop := ∀ x ∈ l, 0 ≤ x ∧ x < 256

theorem Bytes.cons {a : Int} {l : List Int} (h : Bytes (a :: l)) : (0 ≤ a ∧ a < 256) ∧ Bytes l := ⟨h a (by simp), fun x hx => h x (by simp [hx])⟩
theorem Bytes.mk {a : Int} {l : List Int} (h : 0 ≤ a ∧ a < 256) (k : Bytes l) : Bytes (a :: l) := fun x hx => (List.mem_cons.1 hx).elim (fun e => e ▸ h) (k x)
theorem Bytes.nil : Bytes [] := fun x h => by simp at h
theorem Bytes.app {l m : List Int} (h : Bytes l) (k : Bytes m) : Bytes (l ++ m) := fun x hx => (List.mem_append.1 hx).elim (h x) (k x)
theorem Bytes.right {l m : List Int} (h : Bytes (l ++ m)) : Bytes m := fun x hx => h x (by simp [hx])
theorem Bytes.left {l m : List Int} (h : Bytes (l ++ m)) : Bytes l := fun x hx => h x (by simp [hx])

@[simp] theorem Bytes_nil : Bytes [] := Bytes.nil
@[simp] theorem Bytes_cons (a : Int) (l : List Int) : Bytes (a :: l) ↔ (0 ≤ a ∧ a < 256) ∧ Bytes l := ⟨Bytes.cons, fun h => Bytes.mk h.1 h.2⟩

/-- a row of bytes, of ints -/
def bytesV (l : List Int) : V := .c (.sl l.length (ints .u8 l))
def intsV (l : List Int) : V := .c (.sl l.length (ints .i64 l))

@[simp] theorem bytesV_x (l : List Int) : (bytesV l).x = .val (.sl l.length (ints .u8 l)) := rfl
@[simp] theorem intsV_x (l : List Int) : (intsV l).x = .val (.sl l.length (ints .i64 l)) := rfl

/-- what an argument holds: numbers, a number, a bool, a text -/
def V.ints : V → List Int
  | .c (.sl _ cs) => cs.map toI
  | _ => []
def V.int : V → Int
  | .c (.int _ n) => n
  | _ => 0
def V.bool : V → Bool
  | .c (.bool b) => b
  | _ => false
def V.str : V → List UInt8
  | .c (.str l) => l
  | _ => []
@[simp] theorem V.ints_b (l : List Int) : (bytesV l).ints = l := by simp [V.ints, bytesV]
@[simp] theorem V.ints_i (l : List Int) : (intsV l).ints = l := by simp [V.ints, intsV]
@[simp] theorem V.ints_sl (n : Nat) (k : IntKind) (l : List Int) : V.ints (.c (.sl n (Fen.ints k l))) = l := by simp [V.ints]
@[simp] theorem V.ints_gen (n : Nat) (cs : List C) : V.ints (.c (.sl n cs)) = cs.map toI := rfl
@[simp] theorem V.ints_nil (n : Nat) : V.ints (.c (.sl n [])) = [] := rfl
@[simp] theorem V.int_c (k : IntKind) (n : Int) : V.int (.c (.int k n)) = n := rfl
@[simp] theorem V.bool_c (b : Bool) : V.bool (.c (.bool b)) = b := rfl
@[simp] theorem V.str_c (l : List UInt8) : V.str (.c (.str l)) = l := rfl
@[simp] theorem sl_bytesV (n : Nat) (cs : List C) (p : List Int) : (V.c (.sl n cs) = bytesV p) ↔ (cs = ints .u8 p ∧ n = p.length) := by simp [bytesV]; exact And.comm
@[simp] theorem sl_intsV (n : Nat) (cs : List C) (p : List Int) : (V.c (.sl n cs) = intsV p) ↔ (cs = ints .i64 p ∧ n = p.length) := by simp [intsV]; exact And.comm
@[simp] theorem bytesV_inj (p q : List Int) : bytesV p = bytesV q ↔ p = q := by simp [bytesV]; exact fun h => by rw [h]
@[simp] theorem intsV_inj (p q : List Int) : intsV p = intsV q ↔ p = q := by simp [intsV]; exact fun h => by rw [h]
@[simp] theorem isEmpty_ints (k : IntKind) (l : List Int) : (ints k l).isEmpty = l.isEmpty := by cases l <;> rfl
@[simp] theorem ints_eq_nil (k : IntKind) (l : List Int) : ints k l = [] ↔ l = [] := by cases l <;> simp [ints]

end Fen
