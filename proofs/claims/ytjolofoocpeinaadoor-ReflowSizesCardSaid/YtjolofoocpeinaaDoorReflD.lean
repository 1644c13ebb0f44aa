/- A part of the proof; no statement is proved here: FReflD, FReflE, FReflG, FReflH. -/
import Derived.Test.YtjolofoocpeinaaDoorReflC
import Derived.Test.YtjolofoocpeinaaDoorReflB
import Derived.Test.YtjolofoocpeinaaDoorCoreF
import Derived.Test.YtjolofoocpeinaaDoorGridA

set_option linter.unusedVariables false
set_option linter.unusedSimpArgs false

namespace Fen
open Go Go.Proofs
def txC (ls : List (List Cel)) : List C := ls.map fun l => .sl l.length (celsC l)
def txV (ls : List (List Cel)) : V := .c (.sl ls.length (txC ls))
theorem txC_snoc (ls : List (List Cel)) (l : List Cel) : txC (ls ++ [l]) = txC ls ++ [.sl l.length (celsC l)] := by simp [txC]
@[simp] theorem txC_len (ls : List (List Cel)) : (txC ls).length = ls.length := by simp [txC]
def linesSpec : Spec := { pre := fun args => ∃ h : Hd, args = [hdV h] ∧ HdOK h, res := fun args => match args with
 | [.agg cs] => .many [.val (txV (saidF (hdOf cs)).1), .val (.c (.int .i64 (saidF (hdOf cs)).2))]
 | _ => .many [] }
def linH (hc : List C) (T : List (List Cel)) (n : Nat) : List Blk :=
 [.box 43 (hc.map .val), .box 39 [.ref 2 n], .sl 28 n true 1 n (txC (T.take n)), .hid]
def G_lines : Specs := [(15, heldckSpec), (37, hlinesSpec), (38, longSpec)]
@[simp] theorem G_lines_live : Specs.live G_lines = false := rfl
@[simp] theorem G_lines_nils : Specs.nils G_lines = false := rfl
@[simp] theorem G_lines_15 : G_lines.find 15 = some heldckSpec := rfl
@[simp] theorem G_lines_37 : G_lines.find 37 = some hlinesSpec := rfl
@[simp] theorem G_lines_38 : G_lines.find 38 = some longSpec := rfl
theorem G_lines_ok : SpecsOK Tryd.prog glW G_lines := .cons heldck_sound (.cons (hlines_sound glW) (.cons (long_sound glW) (.nil _ _)))
set_option maxHeartbeats 4000000 in
set_option maxRecDepth 10000 in
theorem lines_sound : Sound Tryd.prog glW 12 linesSpec := by
 refine sound_fn (N := Tryd.f12.ntmps) (rs := Tryd.f12.results.toList) mixed tok G_lines_ok Tryd.func12 rfl rfl rfl rfl rfl ?_ ?_ ?_
 · rintro args ⟨h,rfl,h1,h2⟩; simp [hdV,hdC, Tryd.f12]
 · rintro args ⟨h,rfl,h1,h2⟩; simp [hdV,hdC, linesSpec, Tryd.f12]
 · rintro args ⟨h,rfl,h1,h2⟩ bs hgl hh hro
   have hE : Env.OK ⟨Tryd.prog, T, G_lines, bs⟩ := ⟨tok, by rw [hgl]; exact G_lines_ok⟩
   simp only [linesSpec, hdV,hdC]
   have eo := hdOf_C h
   have eh : ∃ x : Hd, (h.past.length = x.past.length ∧ h.past = x.past ∧ h.rows.length = x.rows.length ∧ h.rows = x.rows ∧ h.ar = x.ar ∧ h.ac = x.ac) ∧ HdOK x := ⟨h, ⟨rfl, rfl, rfl, rfl, rfl, rfl⟩, h1, h2⟩
   by_cases q : heldF h = 0
   · have v := HV.of q
     simp [and_assoc, linesSpec, heldckSpec, hlinesSpec, longSpec, Tryd.f12, eo, saidF, q]
     refine ⟨⟨h, rfl, h1, h2⟩, ⟨h, rfl⟩, AWP.weaken (Weak.mkEmpty 1 0 28 1 (by decide) rfl rfl) ?_⟩
     have hcnt := v.lines_count
     have hlen := v.lines_len
     refine AWP.rangeFunc hro rfl (seq := (linesH h).map fun l => [lnV l]) (by rw [hgl]; exact lines1_iter _ v) (by simp) (by simp) (fun n y => y = n ∧ n ≤ (linesH h).length) (linH (hdC h) (textH h)) (fun _ _ => False) 0 ⟨rfl, by simp⟩ (by simp [linH, hdC, txC]) ?_ (by simp) ?_ ?_ (by simp) (fun n y _ => ClosedH.of (by simp [linH, hdC]))
     · rintro n y ⟨rfl, hn⟩
       simp [linH]
     · rintro n y args ⟨rfl, hn⟩ hseq bs' hgl' hh'
       simp at hseq
       obtain ⟨c, hc, rfl⟩ := hseq
       have hE : Env.OK ⟨Tryd.prog, T, G_lines, bs'⟩ := ⟨tok, by rw [hgl', hgl]; exact G_lines_ok⟩
       refine wpc_ok hE mixed _ _ _ ?_
       have hlt := lt_of_get hc
       have hcl := hlen c (List.mem_of_getElem? hc)
       have ht : (textH h).take (y + 1) = (textH h).take y ++ [c.cells.take (longF c.cells)] := by
         rw [List.take_add_one]
         congr 1
         simp [textH, hc]
       simp [linH, lnV]
       intro bs2 hgl2 hh2
       have hE2 : Env.OK ⟨Tryd.prog, T, G_lines, bs2⟩ := ⟨tok, by rw [hgl2, hgl]; exact G_lines_ok⟩
       refine wpc_ok hE2 mixed _ _ _ ?_
       have tk : List.take (longF c.cells * 12) (celsC c.cells) = celsC (c.cells.take (longF c.cells)) := celsC_take _ _
       have ll := long_le c.cells
       have er : rowOf [C.sl c.cells.length (celsC c.cells), C.bool false] = ⟨c.cells, false⟩ := rowOf_C ⟨c.cells, false⟩
       have tm : min (longF c.cells) c.cells.length = longF c.cells := Nat.min_eq_left ll
       simp [and_assoc, heldckSpec, hlinesSpec, longSpec, tk, ll, er]
       refine ⟨⟨⟨c.cells, false⟩, rfl, by simp only; omega⟩, by omega, by omega, rfl, y + 1, ⟨rfl, by omega⟩, ?_⟩
       have W := Weak.drop (bs := bs2) (n := 26) (h := linH (hdC h) (textH h) (y + 1)) (ex := [.box 97 [.val (.sl c.cells.length (celsC c.cells)), .val (.bool c.opn), .val (.int .i64 c.at'), .val (.int .i64 c.fst)]]) (r := []) (r' := []) (ClosedH.of (by simp [linH, hdC])) (by rw [hh2]; simp [linH]) trivial trivial
       refine Weak.trans (Weak.heap (r := []) (r' := []) ?_ trivial) W
       simp [linH, ht, txC_snoc, tm]
     · rintro y ⟨rfl, hn⟩
       have hT : (textH h).length = (linesH h).length := by simp [textH]
       have hk : List.take (linesH h).length (textH h) = textH h := List.take_of_length_le (by omega)
       simp [linH, hk, txV, hT]
   · have e := (heldF_or h).resolve_left q
     simp [and_assoc, linesSpec, heldckSpec, hlinesSpec, longSpec, Tryd.f12, eo, saidF, q, e, txV, txC]
     exact ⟨h, rfl, h1, h2⟩
end Fen

namespace Fen
open Go Go.Proofs
def an1HS : HS := { wr := true, eff := fun xs h => match xs, h with
 | [.agg [.sl m cs, .bool w], .ptr 4 0 0], a0 :: a1 :: b0 :: b1 :: .box 107 [.ref 5 vr, x1, x2, x3] :: .sl 30 vr' p 2 nr rows :: t =>
   ((vr' = vr ∧ p = true ∧ nr ≤ 2000000 ∧ rows.length = nr * 2), .tup [], a0 :: a1 :: b0 :: b1 :: .box 107 [.ref 5 (vr + 1), x1, x2, x3] :: .sl 30 (vr + 1) true 2 (nr + 1) (rows ++ [.sl m cs, .bool w]) :: (t ++ [.box 30 [.val (.sl m cs), .val (.bool w)]]))
 | _, _ => (False, .dead, h) }
def an1Spec : Spec := { pre := fun _ => False, res := fun _ => .many [], hp := some an1HS }
def G_an1 : Specs := []
@[simp] theorem G_an1_live : Specs.live G_an1 = false := rfl
@[simp] theorem G_an1_nils : Specs.nils G_an1 = false := rfl
theorem G_an1_ok (gl : Gl) : SpecsOK Tryd.prog gl G_an1 := .nil _ _
set_option maxRecDepth 10000 in
theorem an1_sound (gl : Gl) : Sound Tryd.prog gl 64 an1Spec := by
 refine sound_heap (hs := an1HS) (N := Tryd.f64.ntmps) (rs := Tryd.f64.results.toList) mixed tok (G_an1_ok gl) Tryd.func64 rfl rfl rfl rfl rfl ?_ ?_
 · intro xs h hp
   simp only [an1HS] at hp
   split at hp
   all_goals first | exact hp.elim | simp [Tryd.f64]
 · intro xs h hp bs hgl hh hro
   have hE : Env.OK ⟨Tryd.prog, T, G_an1, bs⟩ := ⟨tok, by rw [hgl]; exact G_an1_ok gl⟩
   simp only [an1HS] at hp
   split at hp
   · rename_i m cs w a0 a1 b0 b1 vr x1 x2 x3 vr' p nr rows t
     obtain ⟨rfl, rfl, h1, h2⟩ := hp
     simp [Tryd.f64, hcEff, an1HS, h2]
     exact ⟨⟨by omega, by omega⟩, RetTo.same ⟨rfl, rfl⟩⟩
   · exact hp.elim
def padC (n : Nat) : List C := celsC (List.replicate n (blankF sty0))
theorem padC_succ (n : Nat) : padC (n + 1) = padC n ++ celC (blankF sty0) := by
 unfold padC
 rw [List.replicate_succ', celsC_app, celsC_one]
@[simp] theorem padC_len (n : Nat) : (padC n).length = n * 12 := by simp [padC]
def endsHS : HS := { wr := true, eff := fun xs h => match xs, h with
 | [.ptr 8 0 0, .val (.bool w)], a0 :: a1 :: b0 :: b1 :: .box 107 [.ref 5 vr, x1, x2, x3] :: .sl 30 vr' p 2 nr rows :: b4 :: b5 :: .box 127 [.ref 9 vc, y1, .val (.int .i64 cols), .clos f [.ptr 4 0 0]] :: .sl 77 vc' pc 12 nc cells :: t =>
   ((vr' = vr ∧ p = true ∧ nr ≤ 1999999 ∧ rows.length = nr * 2 ∧ vc' = vc ∧ pc = true ∧ f = 64 ∧ (nc : Int) ≤ cols ∧ cols ≤ 80 ∧ cells.length = nc * 12), .tup [],
     a0 :: a1 :: b0 :: b1 :: .box 107 [.ref 5 (vr + 1), x1, x2, x3] :: .sl 30 (vr + 1) true 2 (nr + 1) (rows ++ [.sl cols.toNat (cells ++ padC (cols.toNat - nc)), .bool w]) :: b4 :: b5 ::
     .box 127 [.nil, .val (.bool false), .val (.int .i64 cols), .clos 64 [.ptr 4 0 0]] :: .sl 77 (vc + (cols.toNat - nc)) false 12 cols.toNat (cells ++ padC (cols.toNat - nc)) :: (t ++ [.box 30 [.val (.sl cols.toNat (cells ++ padC (cols.toNat - nc))), .val (.bool w)]]))
 | _, _ => (False, .dead, h) }
def endsS (w : Bool) (a0 a1 b0 b1 b4 b5 : Blk) (x1 x2 x3 y1 : X) (vr nr : Nat) (rows : List C) (vc nc : Nat) (cells : List C) (cols : Int) (t : List Blk) (j : Nat) : St :=
 ⟨45, [(0, .ptr 8 0 0), (1, .val (.bool w))], a0 :: a1 :: b0 :: b1 :: .box 107 [.ref 5 vr, x1, x2, x3] :: .sl 30 vr true 2 nr rows :: b4 :: b5 ::
   .box 127 [.ref 9 (vc + j), y1, .val (.int .i64 cols), .clos 64 [.ptr 4 0 0]] :: .sl 77 (vc + j) true 12 (nc + j) (cells ++ padC j) :: t⟩
def endsS2 (w : Bool) (a0 a1 b0 b1 b4 b5 : Blk) (x1 x2 x3 y1 : X) (vr nr : Nat) (rows : List C) (vc k : Nat) (cells : List C) (t : List Blk) : St :=
 ⟨45, [(0, .ptr 8 0 0), (1, .val (.bool w))], a0 :: a1 :: b0 :: b1 :: .box 107 [.ref 5 vr, x1, x2, x3] :: .sl 30 vr true 2 nr rows :: b4 :: b5 ::
   .box 127 [.val (.sl k cells), y1, .val (.int .i64 k), .clos 64 [.ptr 4 0 0]] :: .sl 77 vc false 12 k cells :: t⟩
def endsSpec : Spec := { pre := fun _ => False, res := fun _ => .many [], hp := some endsHS }
def G_ends : Specs := [(52, (nilsOf plainSpec)), (64, an1Spec)]
@[simp] theorem G_ends_live : Specs.live G_ends = false := rfl
@[simp] theorem G_ends_nils : Specs.nils G_ends = true := rfl
@[simp] theorem G_ends_52 : G_ends.find 52 = some (nilsOf plainSpec) := rfl
@[simp] theorem G_ends_64 : G_ends.find 64 = some an1Spec := rfl
theorem G_ends_ok (gl : Gl) : SpecsOK Tryd.prog gl G_ends := .cons (plainc_sound gl).nils (.cons (an1_sound gl) (.nil _ _))
set_option maxHeartbeats 2000000 in
set_option maxRecDepth 10000 in
theorem ends_sound (gl : Gl) : Sound Tryd.prog gl 66 endsSpec := by
 refine sound_heapA (hs := endsHS) (N := Tryd.f66.ntmps) (rs := Tryd.f66.results.toList) tok Tryd.func66 rfl rfl rfl rfl rfl ?_ ?_
 · intro xs h hp
   simp only [endsHS] at hp
   split at hp
   all_goals first | exact hp.elim | simp [Tryd.f66]
 · intro xs h hp bs hgl hh hro
   have hE : Env.OK ⟨Tryd.prog, T, G_ends, bs⟩ := ⟨tok, by rw [hgl]; exact G_ends_ok gl⟩
   simp only [endsHS] at hp
   split at hp
   · rename_i w a0 a1 b0 b1 vr x1 x2 x3 vr' p nr rows b4 b5 vc y1 cols f vc' pc nc cells t
     obtain ⟨rfl, rfl, h1, h2, rfl, rfl, rfl, h3, h4, h5⟩ := hp
     obtain ⟨k, rfl⟩ : ∃ k : Nat, cols = k := ⟨cols.toNat, by omega⟩
     refine wpcU_ok hE mixed 3 _ _ _ ?_
     simp [Tryd.f66, hcEff, endsHS]
     refine AWP.leaves 0 (endsS2 w a0 a1 b0 b1 b4 b5 x1 x2 x3 y1 vr' nr rows (vc' + (k - nc)) k (cells ++ padC (k - nc)) t) (AWP.rounds (fun j => nc + j ≤ k) (endsS w a0 a1 b0 b1 b4 b5 x1 x2 x3 y1 vr' nr rows vc' nc cells k t) (fun j => k - (nc + j)) 0 (by omega) ?_ ?_) ?_
     · refine Weak.heap ?_ ?_
       · simp [padC]
       · simp [endsS]
     · intro j hj
       refine wpc_ok hE mixed _ _ _ ?_
       rcases Nat.lt_or_ge (nc + j) k with h | h
       · have h' : ((nc : Int) + j < k) = True := eq_true (by omega)
         simp [endsS, and_assoc, an1Spec, plainSpec, h', h5, hcEff]
         refine ⟨rfl, by omega, by omega, rfl, Next.mk (j + 1) (by omega) (by omega) (Weak.heap ?_ ?_)⟩
         · simp [padC_succ, Nat.add_assoc]
         · simp [endsS]
       · have h' : ((nc : Int) + j < k) = False := eq_false (by omega)
         have ej : k - nc = j := by omega
         have ek : nc + j = k := by omega
         simp [endsS, and_assoc, an1Spec, plainSpec, h', h5]
         refine ⟨rfl, Leaves.mk (Weak.trans (Weak.solid 8 9 0 rfl rfl rfl) (Weak.heap ?_ ?_))⟩
         · simp [ej, ek]
         · simp [endsS2]
     · simp [endsS2]
       refine AWP.draw2 hE mixed [0, 1, 2, 4, 5, 6] 3 7 [8] ?_ ?_
       · simp [and_assoc, an1Spec, plainSpec, hcEff, an1HS, h2]
         exact ⟨by omega, by decide +kernel, RetTo.same ⟨rfl, rfl⟩⟩
       · simp [and_assoc, an1Spec, plainSpec, hcEff, an1HS, h2]
         exact ⟨by omega, by decide +kernel, RetTo.same ⟨rfl, rfl⟩⟩
   · exact hp.elim
/-- a cell is put -/
def putsHS : HS := { wr := true, eff := fun xs h => match xs, h with
 | [.ptr 8 0 0, .agg xc], a0 :: a1 :: b0 :: b1 :: .box 107 [.ref 5 vr, x1, x2, x3] :: .sl 30 vr' p 2 nr rows :: b4 :: b5 :: .box 127 [.ref 9 vc, y1, .val (.int .i64 cols), .clos f [.ptr 4 0 0]] :: .sl 77 vc' pc 12 nc cells :: t =>
   ((vr' = vr ∧ p = true ∧ nr ≤ 1999999 ∧ rows.length = nr * 2 ∧ vc' = vc ∧ pc = true ∧ f = 64 ∧ (nc : Int) ≤ cols ∧ cols ≤ 80 ∧ cells.length = nc * 12 ∧ ∃ c : Cel, xc = celC c ∧ (c.wide = 0 ∨ c.wide = 1 ∨ c.wide = 2)), .tup [],
     if cols < nc + (wideN (celOf xc) : Int) then
       a0 :: a1 :: b0 :: b1 :: .box 107 [.ref 5 (vr + 1), x1, x2, x3] :: .sl 30 (vr + 1) true 2 (nr + 1) (rows ++ [.sl cols.toNat (cells ++ padC (cols.toNat - nc)), .bool true]) :: b4 :: b5 ::
       .box 127 [.ref (t.length + 12) 0, .val (.bool false), .val (.int .i64 cols), .clos 64 [.ptr 4 0 0]] :: .sl 77 (vc + (cols.toNat - nc)) false 12 cols.toNat (cells ++ padC (cols.toNat - nc)) ::
       (t ++ [.box 77 (xc.map .val), .box 30 [.val (.sl cols.toNat (cells ++ padC (cols.toNat - nc))), .val (.bool true)], .sl 77 0 true 12 1 xc])
     else a0 :: a1 :: b0 :: b1 :: .box 107 [.ref 5 vr, x1, x2, x3] :: .sl 30 vr true 2 nr rows :: b4 :: b5 :: .box 127 [.ref 9 (vc + 1), y1, .val (.int .i64 cols), .clos 64 [.ptr 4 0 0]] :: .sl 77 (vc + 1) true 12 (nc + 1) (cells ++ xc) ::
       (t ++ [.box 77 (xc.map .val)]))
 | _, _ => (False, .dead, h) }
def putsSpec : Spec := { pre := fun _ => False, res := fun _ => .many [], hp := some putsHS }
def G_puts : Specs := [(66, (nilsOf endsSpec))]
@[simp] theorem G_puts_live : Specs.live G_puts = false := rfl
@[simp] theorem G_puts_nils : Specs.nils G_puts = true := rfl
@[simp] theorem G_puts_66 : G_puts.find 66 = some (nilsOf endsSpec) := rfl
theorem G_puts_ok (gl : Gl) : SpecsOK Tryd.prog gl G_puts := .cons (ends_sound gl).nils (.nil _ _)
set_option maxHeartbeats 2000000 in
set_option maxRecDepth 10000 in
theorem puts_sound (gl : Gl) : Sound Tryd.prog gl 65 putsSpec := by
 refine sound_heap (hs := putsHS) (N := Tryd.f65.ntmps) (rs := Tryd.f65.results.toList) mixed tok (G_puts_ok gl) Tryd.func65 rfl rfl rfl rfl rfl ?_ ?_
 · intro xs h hp
   simp only [putsHS] at hp
   split at hp
   all_goals first | exact hp.elim | simp [Tryd.f65]
 · intro xs h hp bs hgl hh hro
   have hE : Env.OK ⟨Tryd.prog, T, G_puts, bs⟩ := ⟨tok, by rw [hgl]; exact G_puts_ok gl⟩
   simp only [putsHS] at hp
   split at hp
   · rename_i xc a0 a1 b0 b1 vr x1 x2 x3 vr' p nr rows b4 b5 vc y1 cols f vc' pc nc cells t
     obtain ⟨rfl, rfl, h1, h2, rfl, rfl, rfl, h3, h4, h5, c, rfl, hw⟩ := hp
     obtain ⟨k, rfl⟩ : ∃ k : Nat, cols = k := ⟨cols.toNat, by omega⟩
     have hwn : wideN c = if c.wide = 1 then 2 else 1 := rfl
     have v2 : IntKind.i64.wrap 2 = 2 := by decide
     have v0 : IntKind.i64.wrap 0 = 0 := by decide
     by_cases hc : k < nc + wideN c
     · rcases hw with hw | hw | hw
       · have e1 : wideN c = 1 := by rw [hwn, hw]; rfl
         have wn : IntKind.i64.wrap ((nc : Int) + 1) = (nc : Int) + 1 := wrap64 _ (by omega) (by omega)
         have d : ((k : Int) < (nc : Int) + 1) = True := eq_true (by omega)
         have d2 : ((nc : Int) + 1 ≤ (k : Int)) = False := eq_false (by omega)
         simp [Tryd.f65, hcEff, putsHS, endsSpec, endsHS, celV, styV, hw, h1, h2, h5, e1, v0, v2, wn, d, d2]
         exact ⟨rfl, ⟨by omega, by omega⟩, rfl, RetTo.same ⟨rfl, rfl⟩⟩
       · have e1 : wideN c = 2 := by rw [hwn, hw]; rfl
         have wn : IntKind.i64.wrap ((nc : Int) + 2) = (nc : Int) + 2 := wrap64 _ (by omega) (by omega)
         have d : ((k : Int) < (nc : Int) + 2) = True := eq_true (by omega)
         have d2 : ((nc : Int) + 2 ≤ (k : Int)) = False := eq_false (by omega)
         simp [Tryd.f65, hcEff, putsHS, endsSpec, endsHS, celV, styV, hw, h1, h2, h5, e1, v0, v2, wn, d, d2]
         exact ⟨rfl, ⟨by omega, by omega⟩, rfl, RetTo.same ⟨rfl, rfl⟩⟩
       · have e1 : wideN c = 1 := by rw [hwn, hw]; rfl
         have wn : IntKind.i64.wrap ((nc : Int) + 1) = (nc : Int) + 1 := wrap64 _ (by omega) (by omega)
         have d : ((k : Int) < (nc : Int) + 1) = True := eq_true (by omega)
         have d2 : ((nc : Int) + 1 ≤ (k : Int)) = False := eq_false (by omega)
         simp [Tryd.f65, hcEff, putsHS, endsSpec, endsHS, celV, styV, hw, h1, h2, h5, e1, v0, v2, wn, d, d2]
         exact ⟨rfl, ⟨by omega, by omega⟩, rfl, RetTo.same ⟨rfl, rfl⟩⟩
     · rcases hw with hw | hw | hw
       · have e1 : wideN c = 1 := by rw [hwn, hw]; rfl
         have wn : IntKind.i64.wrap ((nc : Int) + 1) = (nc : Int) + 1 := wrap64 _ (by omega) (by omega)
         have d : ((k : Int) < (nc : Int) + 1) = False := eq_false (by omega)
         have d2 : ((nc : Int) + 1 ≤ (k : Int)) = True := eq_true (by omega)
         simp [Tryd.f65, hcEff, putsHS, endsSpec, endsHS, celV, styV, hw, h1, h2, h5, e1, v0, v2, wn, d, d2]
         exact ⟨rfl, ⟨by omega, by omega⟩, rfl, RetTo.same ⟨rfl, rfl⟩⟩
       · have e1 : wideN c = 2 := by rw [hwn, hw]; rfl
         have wn : IntKind.i64.wrap ((nc : Int) + 2) = (nc : Int) + 2 := wrap64 _ (by omega) (by omega)
         have d : ((k : Int) < (nc : Int) + 2) = False := eq_false (by omega)
         have d2 : ((nc : Int) + 2 ≤ (k : Int)) = True := eq_true (by omega)
         simp [Tryd.f65, hcEff, putsHS, endsSpec, endsHS, celV, styV, hw, h1, h2, h5, e1, v0, v2, wn, d, d2]
         exact ⟨rfl, ⟨by omega, by omega⟩, rfl, RetTo.same ⟨rfl, rfl⟩⟩
       · have e1 : wideN c = 1 := by rw [hwn, hw]; rfl
         have wn : IntKind.i64.wrap ((nc : Int) + 1) = (nc : Int) + 1 := wrap64 _ (by omega) (by omega)
         have d : ((k : Int) < (nc : Int) + 1) = False := eq_false (by omega)
         have d2 : ((nc : Int) + 1 ≤ (k : Int)) = True := eq_true (by omega)
         simp [Tryd.f65, hcEff, putsHS, endsSpec, endsHS, celV, styV, hw, h1, h2, h5, e1, v0, v2, wn, d, d2]
         exact ⟨rfl, ⟨by omega, by omega⟩, rfl, RetTo.same ⟨rfl, rfl⟩⟩
   · exact hp.elim
end Fen

namespace Fen
open Go Go.Proofs
def concatOSpec : Spec := { pre := concatSpec.pre, res := fun args => match args with
 | [.c (.sl _ [.sl _ a, .sl _ b])] => .one (.own 30 true 2 (rowsOf a ++ rowsOf b).length (rowsC (rowsOf a ++ rowsOf b)))
 | _ => .many [] }
def G_concatO : Specs := [(77, growSpec)]
@[simp] theorem G_concatO_live : Specs.live G_concatO = false := rfl
@[simp] theorem G_concatO_nils : Specs.nils G_concatO = false := rfl
@[simp] theorem G_concatO_77 : G_concatO.find 77 = some growSpec := rfl
theorem G_concatO_ok (gl : Gl) : SpecsOK Tryd.prog gl G_concatO := .cons (grow_sound gl) (.nil _ _)
set_option maxRecDepth 10000 in
theorem concatO_sound (gl : Gl) : Sound Tryd.prog gl 60 concatOSpec := by
 refine sound_fn (N := Tryd.f60.ntmps) (rs := Tryd.f60.results.toList) mixed tok (G_concatO_ok gl) Tryd.func60 rfl rfl rfl rfl rfl ?_ ?_ ?_
 · rintro args ⟨p,w,rfl,h0,h1⟩; simp [rowsOf_C, Tryd.f60]
 · rintro args ⟨p,w,rfl,h0,h1⟩; simp [rowsOf_C, concatOSpec, Tryd.f60]
 · rintro args ⟨p,w,rfl,h0,h1⟩ bs hgl hh hro
   have hE : Env.OK ⟨Tryd.prog, T, G_concatO, bs⟩ := ⟨tok, by rw [hgl]; exact G_concatO_ok gl⟩
   simp only [concatOSpec, rowsOf_C]
   have w1 : IntKind.i64.wrap (p.length : Int) = p.length := wrap64 _ (by omega) (by omega)
   have w2 : IntKind.i64.wrap ((p.length : Int) + w.length) = p.length + w.length := wrap64 _ (by omega) (by omega)
   have n1 : ¬ (p.length : Int) < 0 := by omega
   have n2 : ¬ (p.length : Int) + w.length < 0 := by omega
   have n3 : 0 < (p.length : Int) + w.length := by omega
   have n4 : (p.length : Int) + w.length ≤ 1000 := by omega
   simp [Tryd.f60]
   refine AWP.unroll hE mixed 3 ?_
   simp [and_assoc, growSpec, growHS, w1, w2, n1, n2, n3, n4]
   refine AWP.unroll hE mixed 3 ?_
   simp [and_assoc, growSpec, growHS, rowsV]
   exact ⟨by omega, by omega, by omega, by omega, (rowsC_app p w).symm⟩
def anewHS : HS := { wr := true, eff := fun xs h => match xs, h with
 | [.agg hd, .val (.int .i64 cols)], [.box 43 y0, .box 43 y1] =>
   ((∃ (w n : Nat) (H : Hd), hd = hdC H ∧ HV w n H ∧ y0 = (hdC H).map .val ∧ y1 = [.nil, .nil, .val (.int .i64 0), .val (.int .i64 0)] ∧ 2 ≤ cols ∧ cols ≤ 80),
     .recd [.ref 2 0, .val (.int .i64 (anewF (hdOf hd) cols.toNat).border), .val (.int .i64 (anewF (hdOf hd) cols.toNat).ar), .val (.int .i64 (anewF (hdOf hd) cols.toNat).ac)],
     [.box 43 y0, .box 43 y1, .sl 30 0 true 2 (anewF (hdOf hd) cols.toNat).rows.length (rowsC (anewF (hdOf hd) cols.toNat).rows)])
 | _, _ => (False, .dead, h) }
theorem VL_wide {l : List Cel} (h : VL l) {k : Nat} (hk : k < l.length) : l[k].wide = 0 ∨ l[k].wide = 1 ∨ l[k].wide = 2 := by
 have v := chain_val h
 have e := cat_eq hk
 rw [← e]
 by_cases q : halfF (cat l k) = true
 · exact .inr (.inr ((v.half k hk).1 q))
 · rcases cell_wide (v.ok k hk) q with c | c
   · exact .inl c
   · exact .inr (.inl c)
theorem bordF_succ {K : Nat} {W : Wh} {l : Ln} {k : Nat} : bordF K W l (k + 1) = if (k : Int) = l.fst then W.rows.length + (cutF K (l.cells.take (k + 1))).1.length else bordF K W l k := by
 unfold bordF spotC
 by_cases e : (k : Int) = l.fst
 · rw [if_pos e, if_pos (by omega), if_pos (by omega), ← e, Int.toNat_natCast]
 · rw [if_neg e]
   split
   · by_cases c : l.fst < k
     · rw [if_pos (by omega), if_pos c]
     · rw [if_neg (by omega), if_neg c]
   · rfl
theorem atF_succ {K : Nat} {W : Wh} {l : Ln} {k : Nat} : atF K W l (k + 1) = if (k : Int) = l.at' then (W.rows.length + (cutF K (l.cells.take (k + 1))).1.length, (cutF K (l.cells.take (k + 1))).2.length - 1) else atF K W l k := by
 unfold atF spotC
 by_cases e : (k : Int) = l.at'
 · rw [if_pos e, if_pos (by omega), ← e, Int.toNat_natCast]
 · rw [if_neg e]
   by_cases c : 0 ≤ l.at' ∧ l.at' < k
   · rw [if_pos (by omega), if_pos c]
   · rw [if_neg (by omega), if_neg c]
theorem rowsC_pad (rows : List Rw) {cs : List Cel} {K : Nat} (b : Bool) (h : cs.length ≤ K) : rowsC rows ++ [C.sl K (celsC cs ++ padC (K - cs.length)), C.bool b] = rowsC (rows ++ [⟨padF K cs, b⟩]) := by
 rw [rowsC_app]
 simp [rowsC, rowC, pad_len h]
 simp [padF, celsC_app, padC]
/-- within a line: the rows so far, the row's cells so far -/
def anJ (hc : List C) (K : Nat) (l : Ln) (k : Nat) (rows : List Rw) (cs : List Cel) (b a1 a2 : Nat) : St :=
 ⟨105, [(3, .ptr 3 0 0), (4, .ptr 4 0 0), (5, .ptr 7 0 0), (6, .ptr 8 0 0), (49, .val (.sl l.cells.length (celsC l.cells))), (50, .val (.int .i64 l.cells.length)), (51, .val (.int .i64 k))],
   [.box 43 (hc.map .val), .box 43 [.nil, .nil, .val (.int .i64 0), .val (.int .i64 0)], .box 43 (hc.map .val), .box 3 [.val (.int .i64 K)],
     .box 107 [.ref 5 rows.length, .val (.int .i64 b), .val (.int .i64 a1), .val (.int .i64 a2)],
     .sl 30 rows.length true 2 rows.length (rowsC rows), .hid,
     .box 97 [.val (.sl l.cells.length (celsC l.cells)), .val (.bool l.opn), .val (.int .i64 l.at'), .val (.int .i64 l.fst)],
     .box 127 [.ref 9 0, .val (.bool false), .val (.int .i64 K), .clos 64 [.ptr 4 0 0]],
     .sl 77 0 true 12 cs.length (celsC cs)]⟩
/-- a line begun -/
def anB (hc : List C) (K : Nat) (W : Wh) (l : Ln) : St :=
 ⟨105, [(3, .ptr 3 0 0), (4, .ptr 4 0 0), (5, .ptr 7 0 0), (6, .ptr 8 0 0)],
   [.box 43 (hc.map .val), .box 43 [.nil, .nil, .val (.int .i64 0), .val (.int .i64 0)], .box 43 (hc.map .val), .box 3 [.val (.int .i64 K)],
     .box 107 [.ref 5 W.rows.length, .val (.int .i64 (bordF K W l 0)), .val (.int .i64 W.ar), .val (.int .i64 W.ac)],
     .sl 30 W.rows.length true 2 W.rows.length (rowsC W.rows), .hid,
     .box 97 [.val (.sl l.cells.length (celsC l.cells)), .val (.bool l.opn), .val (.int .i64 l.at'), .val (.int .i64 l.fst)],
     .box 127 [.ref 9 0, .val (.bool false), .val (.int .i64 K), .clos 64 [.ptr 4 0 0]], .sl 77 0 true 12 0 []]⟩
theorem Weak.cutTo {bs : Base} {n : Nat} {h0 h : List Blk} (k : Nat) (e : h0.take k = h) (hc : ClosedH h) (hl : bs.h0.length ≤ h.length) : Weak bs ⟨n, [], h0⟩ ⟨n, [], h⟩ := by
 have := Weak.drop (bs := bs) (n := n) (h := h) (ex := h0.drop k) (r := []) (r' := []) hc hl trivial trivial
 have e2 : h ++ h0.drop k = h0 := by rw [← e, List.take_append_drop]
 rwa [e2] at this
def anH (hc : List C) (K : Nat) (y : Wh) : List Blk :=
 [.box 43 (hc.map .val), .box 43 [.nil, .nil, .val (.int .i64 0), .val (.int .i64 0)], .box 43 (hc.map .val), .box 3 [.val (.int .i64 K)],
   .box 107 [.ref 5 y.rows.length, .val (.int .i64 y.border), .val (.int .i64 y.ar), .val (.int .i64 y.ac)], .sl 30 y.rows.length true 2 y.rows.length (rowsC y.rows), .hid]
/-- within a line, after so many of its cells -/
def anI (hc : List C) (K : Nat) (W : Wh) (l : Ln) (k : Nat) : St :=
 ⟨105, [(3, .ptr 3 0 0), (4, .ptr 4 0 0), (5, .ptr 7 0 0), (6, .ptr 8 0 0), (49, .val (.sl l.cells.length (celsC l.cells))), (50, .val (.int .i64 l.cells.length)), (51, .val (.int .i64 k))],
   [.box 43 (hc.map .val), .box 43 [.nil, .nil, .val (.int .i64 0), .val (.int .i64 0)], .box 43 (hc.map .val), .box 3 [.val (.int .i64 K)],
     .box 107 [.ref 5 (W.rows.length + (cutF K (l.cells.take k)).1.length), .val (.int .i64 (bordF K W l k)), .val (.int .i64 (atF K W l k).1), .val (.int .i64 (atF K W l k).2)],
     .sl 30 (W.rows.length + (cutF K (l.cells.take k)).1.length) true 2 (W.rows.length + (cutF K (l.cells.take k)).1.length) (rowsC (W.rows ++ (cutF K (l.cells.take k)).1)), .hid,
     .box 97 [.val (.sl l.cells.length (celsC l.cells)), .val (.bool l.opn), .val (.int .i64 l.at'), .val (.int .i64 l.fst)],
     .box 127 [.ref 9 0, .val (.bool false), .val (.int .i64 K), .clos 64 [.ptr 4 0 0]],
     .sl 77 0 true 12 (cutF K (l.cells.take k)).2.length (celsC (cutF K (l.cells.take k)).2)]⟩
def anewSpec : Spec := { pre := fun _ => False, res := fun _ => .many [], hp := some anewHS }
def G_anew : Specs := [(60, concatOSpec), (41, (nilsOf hcolsSpec)), (37, hlinesSpec), (65, putsSpec), (66, endsSpec), (64, an1Spec)]
@[simp] theorem G_anew_live : Specs.live G_anew = false := rfl
@[simp] theorem G_anew_nils : Specs.nils G_anew = true := rfl
@[simp] theorem G_anew_60 : G_anew.find 60 = some concatOSpec := rfl
@[simp] theorem G_anew_41 : G_anew.find 41 = some (nilsOf hcolsSpec) := rfl
@[simp] theorem G_anew_37 : G_anew.find 37 = some hlinesSpec := rfl
@[simp] theorem G_anew_65 : G_anew.find 65 = some putsSpec := rfl
@[simp] theorem G_anew_66 : G_anew.find 66 = some endsSpec := rfl
@[simp] theorem G_anew_64 : G_anew.find 64 = some an1Spec := rfl
theorem G_anew_ok (gl : Gl) : SpecsOK Tryd.prog gl G_anew := .cons (concatO_sound gl) (.cons (hcols_sound gl).nils (.cons (hlines_sound gl) (.cons (puts_sound gl) (.cons (ends_sound gl) (.cons (an1_sound gl) (.nil _ _))))))
set_option maxHeartbeats 8000000 in
set_option maxRecDepth 10000 in
theorem anew_sound (gl : Gl) : Sound Tryd.prog gl 45 anewSpec := by
 refine sound_heapA (hs := anewHS) (N := Tryd.f45.ntmps) (rs := Tryd.f45.results.toList) tok Tryd.func45 rfl rfl rfl rfl rfl ?_ ?_
 · intro xs h hp
   simp only [anewHS] at hp
   split at hp
   all_goals first | exact hp.elim | simp [Tryd.f45]
 · intro xs h hp bs hgl hh hro
   have hE : Env.OK ⟨Tryd.prog, T, G_anew, bs⟩ := ⟨tok, by rw [hgl]; exact G_anew_ok gl⟩
   simp only [anewHS] at hp
   split at hp
   · rename_i hd cols y0 y1
     obtain ⟨w, n, H, rfl, v, rfl, rfl, hc1, hc2⟩ := hp
     obtain ⟨K, rfl⟩ : ∃ K : Nat, cols = K := ⟨cols.toNat, by omega⟩
     have eo := hdOf_C H
     have hne := v.grid.ne
     have hcol := v.grid.cols
     by_cases q : K = w
     · have q' : ((K : Int) = w) = True := eq_true (by omega)
       have ea : anewF H K = ⟨allH H, H.past.length, H.past.length + H.ar.toNat, H.ac.toNat⟩ := by rw [q]; exact anew_self v
       have r0 := v.r0
       have r1 := v.r1
       have c0 := v.c0
       have c1 := v.c1
       have hrl := v.grid.len
       have hn1 := v.grid.n1
       have hn40 := v.grid.n40
       have hpl := v.pl
       have m1 : max H.ar 0 = H.ar := by omega
       have m2 : max H.ac 0 = H.ac := by omega
       have wr : IntKind.i64.wrap ((H.past.length : Int) + H.ar) = (H.past.length : Int) + H.ar := wrap64 _ (by omega) (by omega)
       refine wpcU_ok hE mixed 20 _ _ _ ?_
       simp [Tryd.f45, and_assoc, an1Spec, concatOSpec, endsSpec, hcolsSpec, hlinesSpec, putsSpec, hdC, hdV, eo, hcol, q', ea, hcEff, anewHS, m1, m2, wr]
       refine ⟨⟨H, rfl, rfl, rfl, rfl, rfl, rfl, hne⟩, rfl, ⟨H.past, H.rows, rfl, by omega, by omega⟩, rfl, ?_⟩
       refine RetTo.ren [some 0, some 1, some 5] _ _ ⟨rfl, rfl⟩ (fun id hid => ?_) (by simp) (by simp [allH]) (by simp)
       rw [hh] at hid
       have : id = 0 ∨ id = 1 := by simp at hid; omega
       rcases this with rfl | rfl <;> simp
     · have q' : ((K : Int) = w) = False := eq_false (by omega)
       have ea : anewF H K = (linesH H).foldl (lineW K) wh0 := by unfold anewF; rw [if_neg (by omega)]
       have hcnt := v.lines_count
       have hlen := v.lines_len
       refine wpcU_ok hE mixed 20 _ _ _ ?_
       simp [Tryd.f45, and_assoc, an1Spec, concatOSpec, endsSpec, hcolsSpec, hlinesSpec, putsSpec, hdC, hdV, eo, hcol, q', hcEff, anewHS, hlinesSpec]
       refine ⟨⟨H, rfl, rfl, rfl, rfl, rfl, rfl, hne⟩, rfl, ⟨H, rfl, rfl, rfl, rfl, rfl, rfl⟩, AWP.weaken (Weak.mkEmpty 4 0 30 2 (by decide) rfl rfl) ?_⟩
       simp
       refine AWP.rangeFunc hro rfl (seq := (linesH H).map fun l => [lnV l]) (by rw [hgl]; exact lines1_iter _ v) (by simp) (by simp) (fun m y => y = ((linesH H).take m).foldl (lineW K) wh0 ∧ m ≤ (linesH H).length) (anH (hdC H) K) (fun _ _ => False) wh0 ⟨rfl, by simp⟩ (by simp [anH, hdC, wh0]) ?_ (by simp) ?_ ?_ (by simp) (fun m y _ => ClosedH.of (by simp [anH, hdC]))
       · rintro m y _
         simp [anH]
       · rintro m y args ⟨rfl, hm⟩ hseq bs' hgl' hh'
         simp at hseq
         obtain ⟨l, hl, rfl⟩ := hseq
         have hE : Env.OK ⟨Tryd.prog, T, G_anew, bs'⟩ := ⟨tok, by rw [hgl', hgl]; exact G_anew_ok gl⟩
         refine wpc_ok hE mixed _ _ _ ?_
         generalize hW : List.foldl (lineW K) wh0 (List.take m (linesH H)) = W
         simp [anH, lnV]
         intro bs2 hgl2 hh2
         have hE2 : Env.OK ⟨Tryd.prog, T, G_anew, bs2⟩ := ⟨tok, by rw [hgl2, hgl]; exact G_anew_ok gl⟩
         have hvl : VL l.cells := v.lines_VL l (List.mem_of_getElem? hl)
         have hll := hlen l (List.mem_of_getElem? hl)
         have hK2 : 2 ≤ K := by omega
         have hWn : W.rows.length ≤ 1900000 := by
           have h1 := fold_count hK2 (List.take m (linesH H)) wh0 11200 (fun x hx => hlen x (List.mem_of_mem_take hx))
           rw [hW] at h1
           have h2 : (List.take m (linesH H)).length * 11201 ≤ 140 * 11201 := Nat.mul_le_mul (by simp; omega) (Nat.le_refl _)
           have h3 : wh0.rows.length = 0 := rfl
           omega
         have a0 : atF K W l 0 = (W.ar, W.ac) := by unfold atF; rw [if_neg (by omega)]
         refine AWP.block (AWP.seq (wpc_ok hE2 mixed _ _ _ ?_))
         simp
         refine AWP.seq (AWP.comes (anB (hdC H) K W l) (wpc_ok hE2 mixed _ _ _ ?_) ?_)
         · by_cases hf : 0 ≤ l.fst
           · have hf' : (0 ≤ l.fst) = True := eq_true hf
             have b0 : bordF K W l 0 = W.rows.length := by unfold bordF; rw [if_pos hf, if_neg (by omega)]
             simp [and_assoc, an1Spec, concatOSpec, endsSpec, hcolsSpec, hlinesSpec, putsSpec, hf']
             exact Comes.mk (Weak.trans (Weak.mkEmpty 8 0 77 12 (by decide) rfl rfl) (Weak.heap (by simp [anB, b0]) (by simp [anB])))
           · have hf' : (0 ≤ l.fst) = False := eq_false hf
             have b0 : bordF K W l 0 = W.border := by unfold bordF; rw [if_neg hf]
             simp [and_assoc, an1Spec, concatOSpec, endsSpec, hcolsSpec, hlinesSpec, putsSpec, hf']
             exact Comes.mk (Weak.trans (Weak.mkEmpty 8 0 77 12 (by decide) rfl rfl) (Weak.heap (by simp [anB, b0]) (by simp [anB])))
         simp
         refine wpc_ok hE2 mixed _ _ _ ?_
         simp [anB]
         refine AWP.rounds (fun k => k ≤ l.cells.length) (anI (hdC H) K W l) (fun k => l.cells.length - k) 0 (by simp) (Weak.heap (by simp [anI, cut_nil, a0]) (by simp [anI])) ?_
         intro k hk
         refine wpc_ok hE2 mixed _ _ _ ?_
         have hcl := (cut_le hK2 (l.cells.take k)).1
         have hcr := (cut_le hK2 (l.cells.take k)).2.1
         rw [List.length_take] at hcr
         rcases Nat.lt_or_ge k l.cells.length with h | h
         · have h' : ((k : Int) < l.cells.length) = True := eq_true (by omega)
           have wk : IntKind.i64.wrap ((k : Int) + 1) = (k : Int) + 1 := wrap64 _ (by omega) (by omega)
           have hd := celsC_at h
           have hx := VL_wide hvl h
           have bs1 := bordF_succ (K := K) (W := W) (l := l) (k := k)
           have as1 := atF_succ (K := K) (W := W) (l := l) (k := k)
           have hcs := cut_step K h
           have hI : ∀ R cs b a, cutF K (l.cells.take k) = (R, cs) → bordF K W l k = b → atF K W l k = a → anI (hdC H) K W l k = anJ (hdC H) K l k (W.rows ++ R) cs b a.1 a.2 := fun R cs b a e1 e2 e3 => by simp [anI, anJ, e1, e2, e3]
           have hJ : ∀ R cs b a, cutF K (l.cells.take (k + 1)) = (R, cs) → bordF K W l (k + 1) = b → atF K W l (k + 1) = a → anI (hdC H) K W l (k + 1) = anJ (hdC H) K l (k + 1) (W.rows ++ R) cs b a.1 a.2 := fun R cs b a e1 e2 e3 => by simp [anI, anJ, e1, e2, e3]
           generalize hbb : bordF K W l k = b at *
           generalize haa : atF K W l k = a at *
           generalize hcut : cutF K (l.cells.take k) = cut at *
           obtain ⟨R, cs⟩ := cut
           simp only [putC] at hcs hcl hcr
           rw [hI R cs b a rfl rfl rfl]
           generalize l.cells[k] = x at *
           have pc := rowsC_pad (W.rows ++ R) true hcl
           have base2 : ∀ (h1 h2 : List Blk) (ids : List (Option Nat)), ids.take 7 = [some 0, some 1, some 2, some 3, some 4, some 5, some 6] → (h1.take 7).map Blk.ver = (h2.take 7).map Blk.ver → baseOK bs2 h1 h2 ids := fun h1 h2 ids e1 e2 id hid => by
             rw [hh2] at hid
             have hid : id < 7 := by simpa using hid
             constructor
             · rw [← List.getElem?_take_of_lt hid, e1]
               have : id = 0 ∨ id = 1 ∨ id = 2 ∨ id = 3 ∨ id = 4 ∨ id = 5 ∨ id = 6 := by omega
               rcases this with rfl | rfl | rfl | rfl | rfl | rfl | rfl <;> rfl
             · rw [← List.getElem?_map, ← List.getElem?_map, ← List.getElem?_take_of_lt hid, ← List.getElem?_take_of_lt (l := h1.map Blk.ver) hid, ← List.map_take, ← List.map_take, e2]
           have hnr : W.rows.length + R.length ≤ 1999999 := by omega
           by_cases hw : K < cs.length + wideN x
           · rw [if_pos hw] at hcs
             have hw' : ((K : Int) < (cs.length : Int) + (wideN x : Nat)) = True := eq_true (by omega)
             rw [hcs] at bs1 as1
             simp only [List.length_append, List.length_cons, List.length_nil] at bs1 as1
             by_cases f : (k : Int) = l.fst
             · rw [if_pos f] at bs1
               have f' : ((k : Int) = l.fst) = True := eq_true f
               by_cases e : (k : Int) = l.at'
               · rw [if_pos e] at as1
                 have e' : ((k : Int) = l.at') = True := eq_true e
                 simp [anJ, and_assoc, an1Spec, concatOSpec, endsSpec, hcolsSpec, hlinesSpec, putsSpec, hcEff, putsHS, h', hd, hw', f', e', wk, pc]
                 exact ⟨hnr, hcl, by omega, hx, by decide +kernel, Next.mk (k + 1) h (by omega) (Weak.ren [some 0, some 1, some 2, some 3, some 4, some 5, some 6, some 7, some 8, some 13] (base2 _ _ _ rfl (by simp [hcs, Nat.add_assoc])) (by simp) (by simp [hcs, bs1, as1, celsC_app, celsC_one, Nat.add_assoc, Int.add_assoc]) (by simp))⟩
               · rw [if_neg e] at as1
                 have e' : ((k : Int) = l.at') = False := eq_false e
                 simp [anJ, and_assoc, an1Spec, concatOSpec, endsSpec, hcolsSpec, hlinesSpec, putsSpec, hcEff, putsHS, h', hd, hw', f', e', wk, pc]
                 exact ⟨hnr, hcl, by omega, hx, Next.mk (k + 1) h (by omega) (Weak.ren [some 0, some 1, some 2, some 3, some 4, some 5, some 6, some 7, some 8, some 13] (base2 _ _ _ rfl (by simp [hcs, Nat.add_assoc])) (by simp) (by simp [hcs, bs1, as1, celsC_app, celsC_one, Nat.add_assoc, Int.add_assoc]) (by simp))⟩
             · rw [if_neg f] at bs1
               have f' : ((k : Int) = l.fst) = False := eq_false f
               by_cases e : (k : Int) = l.at'
               · rw [if_pos e] at as1
                 have e' : ((k : Int) = l.at') = True := eq_true e
                 simp [anJ, and_assoc, an1Spec, concatOSpec, endsSpec, hcolsSpec, hlinesSpec, putsSpec, hcEff, putsHS, h', hd, hw', f', e', wk, pc]
                 exact ⟨hnr, hcl, by omega, hx, by decide +kernel, Next.mk (k + 1) h (by omega) (Weak.ren [some 0, some 1, some 2, some 3, some 4, some 5, some 6, some 7, some 8, some 13] (base2 _ _ _ rfl (by simp [hcs, Nat.add_assoc])) (by simp) (by simp [hcs, bs1, as1, celsC_app, celsC_one, Nat.add_assoc, Int.add_assoc]) (by simp))⟩
               · rw [if_neg e] at as1
                 have e' : ((k : Int) = l.at') = False := eq_false e
                 simp [anJ, and_assoc, an1Spec, concatOSpec, endsSpec, hcolsSpec, hlinesSpec, putsSpec, hcEff, putsHS, h', hd, hw', f', e', wk, pc]
                 exact ⟨hnr, hcl, by omega, hx, Next.mk (k + 1) h (by omega) (Weak.ren [some 0, some 1, some 2, some 3, some 4, some 5, some 6, some 7, some 8, some 13] (base2 _ _ _ rfl (by simp [hcs, Nat.add_assoc])) (by simp) (by simp [hcs, bs1, as1, celsC_app, celsC_one, Nat.add_assoc, Int.add_assoc]) (by simp))⟩
           · rw [if_neg hw] at hcs
             have hw' : ((K : Int) < (cs.length : Int) + (wideN x : Nat)) = False := eq_false (by omega)
             have wc : IntKind.i64.wrap (cs.length : Int) = (cs.length : Int) := wrap64 _ (by omega) (by omega)
             rw [hcs] at bs1 as1
             simp only [List.length_append, List.length_cons, List.length_nil] at bs1 as1
             by_cases f : (k : Int) = l.fst
             · rw [if_pos f] at bs1
               have f' : ((k : Int) = l.fst) = True := eq_true f
               by_cases e : (k : Int) = l.at'
               · rw [if_pos e] at as1
                 have e' : ((k : Int) = l.at') = True := eq_true e
                 simp [anJ, and_assoc, an1Spec, concatOSpec, endsSpec, hcolsSpec, hlinesSpec, putsSpec, hcEff, putsHS, h', hd, hw', f', e', wk, wc]
                 exact ⟨hnr, hcl, by omega, hx, by decide +kernel, Next.mk (k + 1) h (by omega) (Weak.ren [some 0, some 1, some 2, some 3, some 4, some 5, some 6, some 7, some 8, some 9] (base2 _ _ _ rfl (by simp [hcs, Nat.add_assoc])) (by simp) (by simp [hcs, bs1, as1, celsC_app, celsC_one, Nat.add_assoc, Int.add_assoc]) (by simp))⟩
               · rw [if_neg e] at as1
                 have e' : ((k : Int) = l.at') = False := eq_false e
                 simp [anJ, and_assoc, an1Spec, concatOSpec, endsSpec, hcolsSpec, hlinesSpec, putsSpec, hcEff, putsHS, h', hd, hw', f', e', wk, wc]
                 exact ⟨hnr, hcl, by omega, hx, Next.mk (k + 1) h (by omega) (Weak.ren [some 0, some 1, some 2, some 3, some 4, some 5, some 6, some 7, some 8, some 9] (base2 _ _ _ rfl (by simp [hcs, Nat.add_assoc])) (by simp) (by simp [hcs, bs1, as1, celsC_app, celsC_one, Nat.add_assoc, Int.add_assoc]) (by simp))⟩
             · rw [if_neg f] at bs1
               have f' : ((k : Int) = l.fst) = False := eq_false f
               by_cases e : (k : Int) = l.at'
               · rw [if_pos e] at as1
                 have e' : ((k : Int) = l.at') = True := eq_true e
                 simp [anJ, and_assoc, an1Spec, concatOSpec, endsSpec, hcolsSpec, hlinesSpec, putsSpec, hcEff, putsHS, h', hd, hw', f', e', wk, wc]
                 exact ⟨hnr, hcl, by omega, hx, by decide +kernel, Next.mk (k + 1) h (by omega) (Weak.ren [some 0, some 1, some 2, some 3, some 4, some 5, some 6, some 7, some 8, some 9] (base2 _ _ _ rfl (by simp [hcs, Nat.add_assoc])) (by simp) (by simp [hcs, bs1, as1, celsC_app, celsC_one, Nat.add_assoc, Int.add_assoc]) (by simp))⟩
               · rw [if_neg e] at as1
                 have e' : ((k : Int) = l.at') = False := eq_false e
                 simp [anJ, and_assoc, an1Spec, concatOSpec, endsSpec, hcolsSpec, hlinesSpec, putsSpec, hcEff, putsHS, h', hd, hw', f', e', wk, wc]
                 exact ⟨hnr, hcl, by omega, hx, Next.mk (k + 1) h (by omega) (Weak.ren [some 0, some 1, some 2, some 3, some 4, some 5, some 6, some 7, some 8, some 9] (base2 _ _ _ rfl (by simp [hcs, Nat.add_assoc])) (by simp) (by simp [hcs, bs1, as1, celsC_app, celsC_one, Nat.add_assoc, Int.add_assoc]) (by simp))⟩
         · obtain rfl : k = l.cells.length := by omega
           have hT : l.cells.take l.cells.length = l.cells := List.take_of_length_le (Nat.le_refl _)
           have h' : ((l.cells.length : Int) < l.cells.length) = False := eq_false (by omega)
           rw [hT] at hcl hcr
           have hlt := lt_of_get hl
           have hW' : List.foldl (lineW K) wh0 (List.take (m + 1) (linesH H)) = lineW K W l := by
             rw [List.take_succ_eq_append_getElem hlt, List.foldl_append, hW, List.getElem_of_getElem? hl |>.2]
             rfl
           have hlw : lineW K W l = ⟨W.rows ++ (cutF K l.cells).1 ++ [⟨padF K (cutF K l.cells).2, l.opn⟩], if 0 ≤ l.fst ∧ (l.cells.length : Int) ≤ l.fst ∧ 0 < l.cells.length then (W.rows ++ (cutF K l.cells).1).length + 1 else bordF K W l l.cells.length, (atF K W l l.cells.length).1, (atF K W l l.cells.length).2⟩ := by
             simp [lineW, wrapL, Nat.add_assoc]
           have hI : ∀ R cs b a, cutF K l.cells = (R, cs) → bordF K W l l.cells.length = b → atF K W l l.cells.length = a → anI (hdC H) K W l l.cells.length = anJ (hdC H) K l l.cells.length (W.rows ++ R) cs b a.1 a.2 := fun R cs b a e1 e2 e3 => by simp [anI, anJ, e1, e2, e3, hT]
           generalize hbb : bordF K W l l.cells.length = b at *
           generalize haa : atF K W l l.cells.length = a at *
           generalize hcut : cutF K l.cells = cut at *
           obtain ⟨R, cs⟩ := cut
           simp only at hcl hcr
           rw [hI R cs b a rfl rfl rfl]
           have pc := rowsC_pad (W.rows ++ R) l.opn hcl
           have hnr : W.rows.length + R.length ≤ 1999999 := by omega
           by_cases c1 : (l.cells.length : Int) ≤ l.fst
           · have c1' : ((l.cells.length : Int) ≤ l.fst) = True := eq_true c1
             simp [anJ, and_assoc, an1Spec, concatOSpec, endsSpec, hcolsSpec, hlinesSpec, putsSpec, hcEff, endsHS, h', c1', pc]
             refine ⟨hnr, hcl, by omega, fun c2 => ?_, fun c2 => ?_⟩
             · have hlw' := hlw
               rw [if_pos ⟨by omega, c1, c2⟩] at hlw'
               exact ⟨lineW K W l, ⟨hW'.symm, hlt⟩, Weak.cutTo 7 (by simp [anH, hlw', Nat.add_assoc, Int.add_assoc]) (ClosedH.of (by simp [anH, hdC])) (by rw [hh2]; simp [anH])⟩
             · have hlw' := hlw
               rw [if_neg (fun q => by rw [c2] at q; simp at q)] at hlw'
               exact ⟨lineW K W l, ⟨hW'.symm, hlt⟩, Weak.cutTo 7 (by simp [anH, hlw', Nat.add_assoc, Int.add_assoc]) (ClosedH.of (by simp [anH, hdC])) (by rw [hh2]; simp [anH])⟩
           · have c1' : ((l.cells.length : Int) ≤ l.fst) = False := eq_false c1
             simp [anJ, and_assoc, an1Spec, concatOSpec, endsSpec, hcolsSpec, hlinesSpec, putsSpec, hcEff, endsHS, h', c1', pc]
             have hlw' := hlw
             rw [if_neg (fun q => c1 q.2.1)] at hlw'
             exact ⟨hnr, hcl, by omega, ⟨lineW K W l, ⟨hW'.symm, hlt⟩, Weak.cutTo 7 (by simp [anH, hlw', Nat.add_assoc, Int.add_assoc]) (ClosedH.of (by simp [anH, hdC])) (by rw [hh2]; simp [anH])⟩⟩
       · rintro y ⟨rfl, hn⟩
         have hT : List.take (linesH H).length (linesH H) = linesH H := List.take_of_length_le (Nat.le_refl _)
         simp [anH, hT, ← ea]
         refine AWP.regionH hE 0 ?_
         simp
         generalize anewF H K = W
         refine OpW.loadL tok (p := True) (y := .recd [.ref 5 W.rows.length, .val (.int .i64 W.border), .val (.int .i64 W.ar), .val (.int .i64 W.ac)]) (by simp [recL, oneX]) trivial (by simp [dstOK]) ?_
         simp
         refine RetTo.ren [some 0, some 1, some 5] _ _ ⟨rfl, rfl⟩ (fun id hid => ?_) (by simp) (by simp [hdC]) (by simp)
         rw [hh] at hid
         have : id = 0 ∨ id = 1 := by simp at hid; omega
         rcases this with rfl | rfl <;> simp
   · exact hp.elim
end Fen

namespace Fen
open Go Go.Proofs
def mainSpec : Spec := { pre := fun args => ∃ (h : Hd) (a b : Int), args = [hdV h, .c (.int .i64 a), .c (.int .i64 b)] ∧ HdOK h, res := fun args => match args with
 | [.agg cs, .c (.int _ a), .c (.int _ b)] => .many [.val (hdV (mainF (hdOf cs) a b).1), .val (.c (.int .i64 (mainF (hdOf cs) a b).2))]
 | _ => .many [] }
/-- all rows are values: so many of them, and a border -/
def mnS (hc : List C) (K N : Nat) (R : List Rw) (p : Bool) (ar ac : Nat) (d : List Rw × Nat) : St :=
 ⟨109, [(1, .val (.int .i64 K)), (2, .val (.int .i64 N)), (6, .ptr 1 0 0), (9, .ptr 3 0 0)],
   [.box 43 (hc.map .val), .box 43 [.nil, .nil, .val (.int .i64 0), .val (.int .i64 0)], .sl 30 0 p 2 R.length (rowsC R),
     .box 107 [.val (.sl d.1.length (rowsC d.1)), .val (.int .i64 d.2), .val (.int .i64 ar), .val (.int .i64 ac)]]⟩
/-- all rows are one's own: so many blank ones behind them -/
def mnG (hc : List C) (K N : Nat) (b ar ac : Nat) (R : List Rw) (m : Nat) : St :=
 ⟨109, [(1, .val (.int .i64 K)), (2, .val (.int .i64 N)), (6, .ptr 1 0 0), (9, .ptr 3 0 0)],
   [.box 43 (hc.map .val), .box 43 [.nil, .nil, .val (.int .i64 0), .val (.int .i64 0)], .sl 30 0 true 2 (R.length + m) (rowsC (R ++ List.replicate m (blankRow K sty0))),
     .box 107 [.ref 2 0, .val (.int .i64 b), .val (.int .i64 ar), .val (.int .i64 ac)]]⟩
theorem new_blank {K : Nat} (h : 2 ≤ K ∧ K ≤ 80) : newF (K : Int) sty0 = (blankRow K sty0, 0) := by
 unfold newF
 rw [if_neg (by omega), if_neg (by simp [styF0])]
 rfl
theorem end_ok {W : Wh} {l : List Rw} {b : Nat} (hb : b ≤ l.length) : (b - (b - 100) = (endF W l b).past.length ∧ List.take ((b - (b - 100)) * 2) (List.drop ((b - 100) * 2) (rowsC l)) = rowsC (endF W l b).past) ∧ (l.length - b = (endF W l b).rows.length ∧ List.take ((l.length - b) * 2) (List.drop (b * 2) (rowsC l)) = rowsC (endF W l b).rows) ∧ (W.ar : Int) - b = (endF W l b).ar ∧ (W.ac : Int) = (endF W l b).ac := by
 refine ⟨⟨by simp [endF]; omega, ?_⟩, ⟨by simp [endF], ?_⟩, rfl, rfl⟩
 · rw [rowsC_drop, rowsC_take]; simp [endF, List.drop_take]
 · rw [rowsC_drop, rowsC_take, List.take_of_length_le (by simp)]; rfl
def G_main : Specs := [(15, heldckSpec), (44, sizeSpec2), (45, anewSpec), (46, goesSpec), (47, newSpec)]
@[simp] theorem G_main_live : Specs.live G_main = false := rfl
@[simp] theorem G_main_nils : Specs.nils G_main = false := rfl
@[simp] theorem G_main_15 : G_main.find 15 = some heldckSpec := rfl
@[simp] theorem G_main_44 : G_main.find 44 = some sizeSpec2 := rfl
@[simp] theorem G_main_45 : G_main.find 45 = some anewSpec := rfl
@[simp] theorem G_main_46 : G_main.find 46 = some goesSpec := rfl
@[simp] theorem G_main_47 : G_main.find 47 = some newSpec := rfl
theorem G_main_ok : SpecsOK Tryd.prog glW G_main := .cons heldck_sound (.cons (sizeok_sound glW) (.cons (anew_sound glW) (.cons (goes_sound glW) (.cons (new_sound glW) (.nil _ _)))))
set_option maxHeartbeats 4000000 in
set_option maxRecDepth 10000 in
theorem main_sound : Sound Tryd.prog glW 19 mainSpec := by
 refine sound_fn (N := Tryd.f19.ntmps) (rs := Tryd.f19.results.toList) mixed tok G_main_ok Tryd.func19 rfl rfl rfl rfl rfl ?_ ?_ ?_
 · rintro args ⟨h,ca,cb,rfl,h1,h2⟩; simp [hdV,hdC, Tryd.f19]
 · rintro args ⟨h,ca,cb,rfl,h1,h2⟩; simp [hdV,hdC, mainSpec, Tryd.f19]
 · rintro args ⟨h,ca,cb,rfl,h1,h2⟩ bs hgl hh hro
   have hE : Env.OK ⟨Tryd.prog, T, G_main, bs⟩ := ⟨tok, by rw [hgl]; exact G_main_ok⟩
   simp only [mainSpec, hdV,hdC]
   have eo := hdOf_C h
   by_cases q : heldF h = 0
   · cases z : sizeOK ca cb
     · simp [and_assoc, mainSpec, anewSpec, goesSpec, heldckSpec, newSpec, sizeSpec2, Tryd.f19, eo, mainF, q, z, hd0, rowsC]
       exact ⟨h, rfl, h1, h2⟩
     · simp only [sizeOK, Bool.and_eq_true, decide_eq_true_eq] at z
       obtain ⟨⟨⟨z1, z2⟩, z3⟩, z4⟩ := z
       obtain ⟨K, rfl⟩ : ∃ K : Nat, ca = K := ⟨ca.toNat, by omega⟩
       obtain ⟨N, rfl⟩ : ∃ N : Nat, cb = N := ⟨cb.toNat, by omega⟩
       have z : sizeOK K N = true := by simp [sizeOK]; omega
       have v := HV.of q
       have hK : 2 ≤ K ∧ K ≤ 80 := by omega
       have vs := v.anew hK
       have hl := v.anew_len hK.1
       have ef : mainF h K N = (sizedF h K N, 0) := by unfold mainF; rw [if_neg (by simp [q]), if_neg (by simp [z])]; simp
       simp [and_assoc, mainSpec, anewSpec, goesSpec, heldckSpec, newSpec, sizeSpec2, Tryd.f19, anewHS, hcEff, eo, ef, q, z]
       have ehV : ∃ x : Hd, V.agg [C.sl h.past.length (rowsC h.past), C.sl h.rows.length (rowsC h.rows), C.int IntKind.i64 h.ar, C.int IntKind.i64 h.ac] = hdV x ∧ HdOK x := ⟨h, rfl, h1, h2⟩
       refine ⟨ehV, ⟨_, _, h, rfl, v, rfl, by omega, by omega⟩, ?_⟩
       have es : sizedF h K N = tallF K N (anewF h K) (dropsF N (anewF h K).ar (anewF h K).rows (anewF h K).border) := rfl
       rw [es]
       generalize anewF h K = W at *
       obtain ⟨vr, b1, b2, b3⟩ := vs
       have hrl : ∀ r ∈ W.rows, r.cells.length ≤ 1000000 := fun r hr => by have := (vr r hr).2; omega
       have dok := drops_ok (n := N) (by omega) _ W.rows W.border (Nat.le_refl _) b1 b2
       rcases Nat.lt_or_ge N (W.rows.length - W.border) with c | c
       · generalize hD : dropsF N W.ar W.rows W.border = D at *
         obtain ⟨p1, p2, p3, p4, p5, p6, p7⟩ := dok
         have p7 := p7 c
         refine AWP.leaves 0 (mnS (hdC h) K N W.rows false W.ar W.ac D) (AWP.rounds (fun d => dropsF N W.ar d.1 d.2 = D ∧ d.1 = W.rows.take d.1.length ∧ d.1.length ≤ W.rows.length ∧ d.2 ≤ W.ar ∧ W.ar < d.1.length ∧ N ≤ d.1.length - d.2) (mnS (hdC h) K N W.rows false W.ar W.ac) (fun d => d.1.length - d.2) (W.rows, W.border) ⟨hD, by simp, Nat.le_refl _, b1, b2, by simp only; omega⟩ ?_ ?_) ?_
         · refine Weak.trans (Weak.solid 3 2 0 rfl rfl rfl) (Weak.heap ?_ ?_)
           · simp [mnS, hdC]
           · simp [mnS]
         · rintro ⟨l, b⟩ ⟨i1, i2, i3, i4, i5, i6⟩
           simp only at i1 i2 i3 i4 i5 i6
           refine wpc_ok hE mixed _ _ _ ?_
           have wd : IntKind.i64.wrap ((l.length : Int) - b) = ((l.length - b : Nat) : Int) := by rw [wrap64 _ (by omega) (by omega)]; omega
           rcases Nat.lt_or_ge N (l.length - b) with g | g
           · have g' : ((N : Int) < ((l.length - b : Nat) : Int)) = True := eq_true (by omega)
             have w1 : IntKind.i64.wrap ((l.length : Int) - 1) = ((l.length - 1 : Nat) : Int) := by rw [wrap64 _ (by omega) (by omega)]; omega
             have wb : IntKind.i64.wrap ((b : Int) + 1) = (b : Int) + 1 := wrap64 _ (by omega) (by omega)
             have hl1 : ∀ r ∈ l, r.cells.length ≤ 1000000 := fun r hr => hrl r (by rw [i2] at hr; exact List.mem_of_mem_take hr)
             have ex : ∃ (l' : List Rw) (b' a' : Nat) (c' : Int), V.agg [C.sl l.length (rowsC l), .int .i64 b, .int .i64 W.ar, .int .i64 W.ac] = whV l' b' a' c' ∧ 0 < l'.length ∧ l'.length ≤ 2000000 ∧ ∀ r ∈ l', r.cells.length ≤ 1000000 := ⟨l, b, W.ar, W.ac, rfl, by omega, by omega, hl1⟩
             cases hg : goesF l b W.ar
             · have hn : b < W.ar := by
                 simp only [goesF, Bool.or_eq_false_iff, decide_eq_false_iff_not] at hg
                 omega
               simp [mnS, and_assoc, anewSpec, goesSpec, heldckSpec, newSpec, sizeSpec2, wd, g', rowsOf_C, hg, wb]
               exact ⟨⟨l, ⟨b, W.ar, W.ac, rfl⟩, by omega, by omega, hl1⟩, Next.mk (l, b + 1) ⟨by rw [← drops_down g hg, i1], i2, i3, by simp only; omega, i5, by simp only; omega⟩ (by simp only; omega) (Weak.heap (by simp) (by simp))⟩
             · have hlt : W.ar < l.length - 1 := by
                 simp only [goesF, Bool.or_eq_true, Bool.and_eq_true, decide_eq_true_eq] at hg
                 omega
               simp [mnS, and_assoc, anewSpec, goesSpec, heldckSpec, newSpec, sizeSpec2, wd, g', rowsOf_C, hg, w1]
               have ll : (l.take (l.length - 1)).length = l.length - 1 := by simp
               exact ⟨⟨l, ⟨b, W.ar, W.ac, rfl⟩, by omega, by omega, hl1⟩, Next.mk (l.take (l.length - 1), b) ⟨by rw [← drops_goes g hg, i1], by rw [ll]; exact (congrArg (List.take (l.length - 1)) i2).trans (by rw [List.take_take, Nat.min_eq_left (by omega)]), by simp only; omega, i4, by simp only; omega, by simp only; omega⟩ (by simp only; omega) (Weak.heap (by simp [rowsC_take]) (by simp))⟩
           · have g' : ((N : Int) < ((l.length - b : Nat) : Int)) = False := eq_false (by omega)
             have e : D = (l, b) := by rw [← i1, drops_stop g]
             simp [mnS, and_assoc, anewSpec, goesSpec, heldckSpec, newSpec, sizeSpec2, wd, g']
             exact Leaves.mk (Weak.heap (by rw [e]) (by simp))
         · obtain ⟨l, b⟩ := D
           simp only at p1 p2 p3 p4 p5 p6 p7
           have el : liftF N l b = b := by unfold liftF; omega
           have eg : growF K N l b = l := by unfold growF; rw [p7]; simp
           have wd : IntKind.i64.wrap ((l.length : Int) - b) = (N : Int) := by rw [wrap64 _ (by omega) (by omega)]; omega
           have hm : (if 0 < b then (0 : Int) else (b : Int)) = 0 := by split <;> omega
           have wb : IntKind.i64.wrap (b : Int) = (b : Int) := wrap64 _ (by omega) (by omega)
           simp [mnS, wd, hm, wb, tallF, el, eg]
           refine AWP.unroll hE mixed 1 ?_
           obtain ⟨z, hz⟩ : ∃ z : Int, z = (b : Int) - 100 := ⟨_, rfl⟩
           have w100 : IntKind.i64.wrap ((b : Int) - 100) = z := by rw [wrap64 _ (by omega) (by omega), hz]
           have hx : (if 0 < z then z else 0) = ((b - 100 : Nat) : Int) := by split <;> omega
           have wr : IntKind.i64.wrap ((W.ar : Int) - b) = (W.ar : Int) - b := wrap64 _ (by omega) (by omega)
           simp [wd, w100, hx, wr]
           exact ⟨by omega, by decide +kernel, end_ok (by omega)⟩
       · rw [drops_stop c]
         have hbl : W.border ≤ W.rows.length := by omega
         have wd : IntKind.i64.wrap ((W.rows.length : Int) - W.border) = ((W.rows.length - W.border : Nat) : Int) := by rw [wrap64 _ (by omega) (by omega)]; omega
         have g' : ((N : Int) < ((W.rows.length - W.border : Nat) : Int)) = False := eq_false (by omega)
         obtain ⟨B, hB⟩ : ∃ B, liftF N W.rows W.border = B := ⟨_, rfl⟩
         have hB' := hB
         unfold liftF at hB'
         have wn : IntKind.i64.wrap ((N : Int) - ((W.rows.length - W.border : Nat) : Int)) = ((N - (W.rows.length - W.border) : Nat) : Int) := by rw [wrap64 _ (by omega) (by omega)]; omega
         refine AWP.unroll hE mixed 1 ?_
         have hbd : IntKind.i64.wrap ((W.border : Int) - if (if 0 < N - (W.rows.length - W.border) then ((N - (W.rows.length - W.border) : Nat) : Int) else 0) < (W.border : Int) then (if 0 < N - (W.rows.length - W.border) then ((N - (W.rows.length - W.border) : Nat) : Int) else 0) else (W.border : Int)) = (B : Int) := by
           have e : (if 0 < N - (W.rows.length - W.border) then ((N - (W.rows.length - W.border) : Nat) : Int) else 0) = ((N - (W.rows.length - W.border) : Nat) : Int) := by split <;> omega
           rw [e, wrap64 _ (by split <;> omega) (by split <;> omega)]
           split <;> omega
         simp [wd, g', wn, hbd]
         have hBl : B ≤ W.border := by omega
         obtain ⟨M, hM⟩ : ∃ M, N - (W.rows.length - B) = M := ⟨_, rfl⟩
         have hNM : W.rows.length + M - B = N := by omega
         have hg : growF K N W.rows B = W.rows ++ List.replicate M (blankRow K sty0) := by unfold growF; rw [hM]
         refine AWP.leaves 2 (mnS (hdC h) K N (growF K N W.rows B) false W.ar W.ac (growF K N W.rows B, B)) (AWP.rounds (fun m => m ≤ M) (mnG (hdC h) K N B W.ar W.ac W.rows) (fun m => M - m) 0 (by omega) (Weak.heap (by simp [mnG, hdC]) (by simp [mnG])) ?_) ?_
         · intro m hm
           refine wpc_ok hE mixed _ _ _ ?_
           have wl : IntKind.i64.wrap ((W.rows.length : Int) + m - B) = ((W.rows.length + m - B : Nat) : Int) := by rw [wrap64 _ (by omega) (by omega)]; omega
           rcases Nat.lt_or_ge m M with g | g
           · have g2 : (((W.rows.length + m - B : Nat) : Int) < N) = True := eq_true (by omega)
             have er : rowsC (W.rows ++ List.replicate (m + 1) (blankRow K sty0)) = rowsC (W.rows ++ List.replicate m (blankRow K sty0)) ++ rowC (blankRow K sty0) := by
               rw [List.replicate_succ', ← List.append_assoc, rowsC_app (W.rows ++ List.replicate m (blankRow K sty0))]; simp [rowsC]
             simp [mnG, and_assoc, anewSpec, goesSpec, heldckSpec, newSpec, sizeSpec2, wl, g2]
             exact ⟨sty0_ok, by omega, by omega, Next.mk (m + 1) g (by omega) (Weak.ren [some 0, some 1, some 2, some 3] (baseOK.nil hh) (by simp) (by simp [new_blank hK, er, Nat.add_assoc]) (by simp))⟩
           · obtain rfl : m = M := by omega
             have g2 : (((W.rows.length + m - B : Nat) : Int) < N) = False := eq_false (by omega)
             simp [mnG, and_assoc, anewSpec, goesSpec, heldckSpec, newSpec, sizeSpec2, wl, g2]
             exact Leaves.mk (Weak.trans (Weak.solid 3 2 0 rfl rfl rfl) (Weak.heap (by simp [hg]) (by simp [mnS])))
         · obtain ⟨L, hL⟩ : ∃ L, growF K N W.rows B = L := ⟨_, rfl⟩
           have hLl : L.length = W.rows.length + M := by rw [← hL, hg]; simp
           obtain ⟨z, hz⟩ : ∃ z : Int, z = (B : Int) - 100 := ⟨_, rfl⟩
           have w100 : IntKind.i64.wrap ((B : Int) - 100) = z := by rw [wrap64 _ (by omega) (by omega), hz]
           have hx : (if 0 < z then z else 0) = ((B - 100 : Nat) : Int) := by split <;> omega
           have wr : IntKind.i64.wrap ((W.ar : Int) - B) = (W.ar : Int) - B := wrap64 _ (by omega) (by omega)
           simp [mnS, tallF, hB, hL, w100, hx, wr]
           exact ⟨by omega, by decide +kernel, end_ok (by omega)⟩
   · have e := (heldF_or h).resolve_left q
     simp [and_assoc, mainSpec, anewSpec, goesSpec, heldckSpec, newSpec, sizeSpec2, Tryd.f19, eo, mainF, q, e, hd0, rowsC]
     exact ⟨h, rfl, h1, h2⟩
end Fen
