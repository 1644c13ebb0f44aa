/- A part of the proof; no statement is proved here: FReflLf, FReflX, FReflLs, FGridT, FReflTa, FReflLn. -/
import Derived.Test.YtjolofoocpeinaaDoorReflF
import Derived.Test.YtjolofoocpeinaaDoorCoreF
import Derived.Test.YtjolofoocpeinaaDoorGridA

set_option linter.unusedVariables false
set_option linter.unusedSimpArgs false

namespace Fen
open Go Go.Proofs
end Fen

namespace Fen
open Go Go.Proofs
end Fen

namespace Fen
open Go Go.Proofs
theorem HV.ok {w n : Nat} {h : Hd} (v : HV w n h) : HdOK h := ⟨fun r hr => row_okF (v.past r hr).1, v.grid.rok⟩
theorem HV.fin {w n : Nat} {h : Hd} (v : HV w n h) : HdFin h := ⟨rowsFin_of (by have := v.pl; omega) fun r hr => row_lt (v.past r hr).1, v.grid.fin⟩
end Fen

namespace Fen
open Go Go.Proofs
end Fen

namespace Fen
open Go Go.Proofs
end Fen

namespace Fen
open Go Go.Proofs
def kW : Hd := ⟨[], ofO 5 [[97, 98, 87, 99, 43], [100]], 0, 4⟩
def kA : Hd := ⟨[], ofO 3 [[97, 98, 46, 43], [87, 99, 43], [100], []], 1, 2⟩
def kFar : Hd := ⟨[], ofO 4 [[97], []], 1, 3⟩
def kC : Hd := ⟨ofO 2 [[97]], ofO 2 [[46, 46, 43], [46, 46]], 1, 1⟩
def kTop : Hd := ⟨[], ofO 2 [[97], [98], [99]], 0, 0⟩
def kD : Hd := ⟨[], ofO 2 [[97]], 0, 0⟩
def kL : List (List UInt8) := List.replicate 100 [120, 121]
def kFull : Hd := ⟨ofO 2 kL, ofO 2 [[97, 98], [99]], 1, 0⟩
def kP : Hd := (mainF kFull 2 1).1
def kStr : Hd := ⟨ofO 4 [[97, 98, 99, 100, 43]], ofO 4 [[101, 102], [103, 104]], 1, 0⟩
def kQ : Hd := ⟨[], ofO 8 [[97, 98, 99, 100, 101, 102], [103, 104]], 1, 0⟩
theorem kx1 : mainF kW 3 4 = (kA, 0) := by decide +kernel
theorem kx2 : mainF kA 5 2 = (kW, 0) := by decide +kernel
theorem kx3 : mainF kFar 2 2 = (kC, 0) := by decide +kernel
theorem kx4 : mainF kTop 2 1 = (kD, 0) := by decide +kernel
theorem kx5 : (mainF kFull 2 1).2 = 0 := by decide +kernel
theorem kx6 : kP.past.length = 100 := by decide +kernel
theorem kx7 : kP.past.drop 99 = ofO 2 [[97, 98]] := by decide +kernel
theorem kx8 : kP.rows = ofO 2 [[99]] := by decide +kernel
theorem kx9 : mainF kStr 8 2 = (kQ, 0) := by decide +kernel
theorem kx10 : mainF kTop 1 5 = (hd0, 2) := by decide +kernel
theorem kx11 : mainF kTop 5 41 = (hd0, 2) := by decide +kernel
theorem kx12 : altF [] 0 0 = ([], 230) := by decide +kernel
theorem kx13 : altF kTop.rows 2 0 = ([], 2) := by decide +kernel
theorem kh1 : heldO kA 0 3 [] [[97, 98, 46, 43], [87, 99, 43], [100], []] 1 2 = true := by decide +kernel
theorem kh2 : heldO kW 0 5 [] [[97, 98, 87, 99, 43], [100]] 0 4 = true := by decide +kernel
theorem kh3 : heldO kC 0 2 [[97]] [[46, 46, 43], [46, 46]] 1 1 = true := by decide +kernel
theorem kh4 : heldO kD 0 2 [] [[97]] 0 0 = true := by decide +kernel
theorem kh5 : heldO kQ 0 8 [] [[97, 98, 99, 100, 101, 102], [103, 104]] 1 0 = true := by decide +kernel
def kAB : List Rw := ofO 2 [[97, 98]]
def kBad : List Hd := [⟨[], [], 0, 0⟩, ⟨[], kAB, 1, 0⟩, ⟨[], kAB, 0, 2⟩, ⟨[], kAB, -1, 0⟩, ⟨ofO 3 [[97, 98, 99]], kAB, 0, 0⟩]
theorem kb1 : ∀ i : Fin 5, heldF (kBad.getD i hd0) = 290 := by decide +kernel
def hdsC (l : List Hd) : List C := l.flatMap hdC
theorem kBad_at : ∀ i : Fin 5, ∃ W : Hd, kBad[i.val]? = some W ∧ HdOK W ∧ heldF W = 290 := fun i => by
 have ab : RowsOK kAB := ofO_ok _ _
 have nO : RowsOK [] := fun r hr => by simp at hr
 refine ⟨kBad.getD i hd0, ?_, ?_, kb1 i⟩
 · match i with
   | 0 => rfl
   | 1 => rfl
   | 2 => rfl
   | 3 => rfl
   | 4 => rfl
 · match i with
   | 0 => exact ⟨nO, nO⟩
   | 1 => exact ⟨nO, ab⟩
   | 2 => exact ⟨nO, ab⟩
   | 3 => exact ⟨nO, ab⟩
   | 4 => exact ⟨ofO_ok _ _, ab⟩
theorem hdsC_at : ∀ (l : List Hd) (i : Nat) (W : Hd), l[i]? = some W → (hdsC l).drop (i * 4) = hdC W ++ hdsC (l.drop (i + 1))
 | [], i, W, h => by simp at h
 | x :: l, 0, W, h => by simp at h; subst h; simp [hdsC]
 | x :: l, i + 1, W, h => by
   have h' : l[i]? = some W := by simpa using h
   have e : hdsC (x :: l) = hdC x ++ hdsC l := by simp [hdsC]
   rw [e, List.drop_append, List.drop_of_length_le (by simp [hdC]; omega), List.nil_append, show (i + 1) * 4 - (hdC x).length = i * 4 by simp [hdC]; omega, hdsC_at l i W h']
   rfl
def kN (i : Nat) : List C := List.replicate i (C.str [120, 121]) ++ List.replicate (100 - i) (C.str [])
theorem kN_set {i : Nat} (h : i < 100) : List.take i (kN i) ++ C.str [120, 121] :: List.drop (i + 1) (kN i) = kN (i + 1) := by
 unfold kN
 rw [List.take_left' (by simp), ← List.drop_drop, List.drop_left' (by simp), show 100 - i = (100 - (i + 1)) + 1 by omega, List.replicate_succ, List.replicate_succ' (n := i)]
 simp
@[simp] theorem kN_len (i : Nat) (h : i ≤ 100) : (kN i).length = 100 := by simp [kN]; omega
theorem kN_strs : kN 100 = kL.map C.str := by unfold kN kL; rw [List.map_replicate]; simp only [Nat.sub_self, List.replicate_zero, List.append_nil]
theorem kL_ok : 100 = kL.length ∧ strsOK kL := ⟨rfl, sok rfl⟩
def knS1 (T : Hd) (i : Nat) : St :=
 ⟨256, [(6, .val (.bool true)), (10, .val (.bool true)), (14, .val (.bool true)), (11, .ptr 0 0 0), (15, .ref 1 0), (16, .val (.int .i64 i))],
   [.box 43 [.val (.sl 0 []), .val (.sl T.rows.length (rowsC T.rows)), .val (.int .i64 0), .val (.int .i64 0)], .sl 9 0 true 1 100 (kN i)]⟩
def knE1 (T : Hd) : St :=
 ⟨256, [(6, .val (.bool true)), (10, .val (.bool true)), (14, .val (.bool true)), (11, .ptr 0 0 0), (15, .ref 1 0)],
   [.box 43 [.val (.sl 0 []), .val (.sl T.rows.length (rowsC T.rows)), .val (.int .i64 0), .val (.int .i64 0)], .sl 9 0 true 1 100 (kN 100)]⟩
theorem main_bad {W : Hd} (h : heldF W = 290) (a b : Int) : mainF W a b = (hd0, 290) := by unfold mainF; rw [if_pos (by rw [h]; decide)]
theorem said_bad {W : Hd} (h : heldF W = 290) : saidF W = ([], 290) := by unfold saidF; rw [if_pos (by rw [h]; decide)]
def knS2 (T : Hd) (L : List Hd) (i : Nat) : St :=
 ⟨256, [(6, .val (.bool true)), (10, .val (.bool true)), (14, .val (.bool true)), (20, .val (.bool true)), (24, .val (.bool true)), (11, .ptr 0 0 0), (25, .ex 4 5 (hdsC L)), (26, .val (.int .i64 i))],
   [.box 43 [.val (.sl 0 []), .val (.sl T.rows.length (rowsC T.rows)), .val (.int .i64 0), .val (.int .i64 0)]]⟩
def lawKnownSpec : Spec := { pre := fun args => args = [], res := fun _ => .one (.val (.c (.bool true))) }
def G_lawKnown : Specs := [(34, lofOSpec), (19, mainSpec), (35, lheldSpec), (28, samesSpec), (12, linesSpec), (15, heldckSpec), (25, altSpec2), (18, lworks9Spec)]
@[simp] theorem G_lawKnown_live : Specs.live G_lawKnown = false := rfl
@[simp] theorem G_lawKnown_nils : Specs.nils G_lawKnown = false := rfl
@[simp] theorem G_lawKnown_34 : G_lawKnown.find 34 = some lofOSpec := rfl
@[simp] theorem G_lawKnown_19 : G_lawKnown.find 19 = some mainSpec := rfl
@[simp] theorem G_lawKnown_35 : G_lawKnown.find 35 = some lheldSpec := rfl
@[simp] theorem G_lawKnown_28 : G_lawKnown.find 28 = some samesSpec := rfl
@[simp] theorem G_lawKnown_12 : G_lawKnown.find 12 = some linesSpec := rfl
@[simp] theorem G_lawKnown_15 : G_lawKnown.find 15 = some heldckSpec := rfl
@[simp] theorem G_lawKnown_25 : G_lawKnown.find 25 = some altSpec2 := rfl
@[simp] theorem G_lawKnown_18 : G_lawKnown.find 18 = some lworks9Spec := rfl
theorem G_lawKnown_ok : SpecsOK Tryd.prog glW G_lawKnown := .cons (lofO_sound glW) (.cons main_sound (.cons (lheld_sound glW) (.cons (sames_sound glW) (.cons lines_sound (.cons heldck_sound (.cons alt_sound (.cons works9_sound (.nil _ _))))))))
set_option maxHeartbeats 16000000 in
set_option maxRecDepth 10000 in
theorem lawKnown_sound : Sound Tryd.prog glW 9 lawKnownSpec := by
 refine sound_fn (N := Tryd.f9.ntmps) (rs := Tryd.f9.results.toList) mixed tok G_lawKnown_ok Tryd.func9 rfl rfl rfl rfl rfl ?_ ?_ ?_
 · rintro args rfl; simp [hdV,hdC, Tryd.f9]
 · rintro args rfl; simp [hdV,hdC, lawKnownSpec, Tryd.f9]
 · rintro args rfl bs hgl hh hro
   have hE : Env.OK ⟨Tryd.prog, T, G_lawKnown, bs⟩ := ⟨tok, by rw [hgl]; exact G_lawKnown_ok⟩
   simp only [lawKnownSpec, hdV,hdC]
   have e1 := kx1
   have e2 := kx2
   have e3 := kx3
   have e4 := kx4
   have h1 := kh1
   have h2 := kh2
   have h3 := kh3
   have h4 := kh4
   have o1 := hdOf_C kW
   have o2 := hdOf_C kA
   have o3 := hdOf_C kFar
   have o4 := hdOf_C kC
   have o5 := hdOf_C kTop
   have o6 := hdOf_C kD
   have ok1 : HdOK kW := okH_of (p := [])
   have ok2 : HdOK kA := okH_of (p := [])
   have ok3 : HdOK kFar := okH_of (p := [])
   have ok5 : HdOK kTop := okH_of (p := [])
   have f1 : HdFin kW := fin_of (p := []) (by decide) (sok rfl) (sok rfl)
   have f2 : HdFin kA := fin_of (p := []) (by decide) (sok rfl) (sok rfl)
   have f4 : HdFin kC := fin_of (by decide) (sok rfl) (sok rfl)
   have f6 : HdFin kD := fin_of (p := []) (by decide) (sok rfl) (sok rfl)
   rw [show kW.past = [] from rfl, show kW.ar = 0 from rfl, show kW.ac = 4 from rfl] at o1
   rw [show kFar.past = [] from rfl, show kFar.ar = 1 from rfl, show kFar.ac = 3 from rfl] at o3
   rw [show kTop.past = [] from rfl, show kTop.ar = 0 from rfl, show kTop.ac = 0 from rfl] at o5
   have r1 : ofO 5 [[97, 98, 87, 99, 43], [100]] = kW.rows := rfl
   have r3 : ofO 4 [[97], []] = kFar.rows := rfl
   have r5 : ofO 2 [[97], [98], [99]] = kTop.rows := rfl
   have c1 : kW.past = [] := rfl
   have c2 : kW.ar = 0 := rfl
   have c3 : kW.ac = 4 := rfl
   generalize hgW : kW = W at *
   generalize kA = A at *
   generalize kFar = F at *
   generalize kC = Cc at *
   generalize hgT : kTop = T at *
   generalize kD = D at *
   simp only [List.length_nil, rowsC_nil] at o1 o3 o5
   simp -implicitDefEqProofs [and_assoc, lawKnownSpec, altSpec2, heldckSpec, lheldSpec, linesSpec, lofOSpec, lworks9Spec, mainSpec, samesSpec, Tryd.f9, hdV, hdC, strsOf, r1, r3, r5, o1, o2, o3, o4, o5, o6, e1, e2, e3, e4, h1, h2, h3, h4, c1, c2, c3]
   have nF : RowsFin [] := ⟨by simp, by simp⟩
   have nO : RowsOK [] := fun r hr => by simp at hr
   refine ⟨⟨5, rfl, [[97, 98, 87, 99, 43], [100]], rfl, rfl, by decide, sok rfl⟩, ⟨⟨[], W.rows, 0, 4⟩, rfl, rfl, rfl, rfl, rfl, rfl, nO, ok1.2⟩, ⟨A, rfl, rfl, rfl, rfl, rfl, rfl, ok2⟩,
     ⟨A, rfl, rfl, rfl, rfl, rfl, rfl, 3, rfl, [], rfl, rfl, [[97, 98, 46, 43], [87, 99, 43], [100], []], rfl, rfl, f2.1, f2.2, by decide, sok rfl, sok rfl⟩,
     ⟨⟨[], W.rows, 0, 4⟩, rfl, rfl, rfl, rfl, rfl, rfl, 5, rfl, [], rfl, rfl, [[97, 98, 87, 99, 43], [100]], rfl, rfl, nF, f1.2, by decide, sok rfl, sok rfl⟩,
     ⟨4, rfl, [[97], []], rfl, rfl, by decide, sok rfl⟩, ⟨⟨[], F.rows, 1, 3⟩, rfl, rfl, rfl, rfl, rfl, rfl, nO, ok3.2⟩,
     ⟨Cc, rfl, rfl, rfl, rfl, rfl, rfl, 2, rfl, [[97]], rfl, rfl, [[46, 46, 43], [46, 46]], rfl, rfl, f4.1, f4.2, by decide, sok rfl, sok rfl⟩,
     ⟨2, rfl, [[97], [98], [99]], rfl, rfl, by decide, sok rfl⟩, ⟨⟨[], T.rows, 0, 0⟩, rfl, rfl, rfl, rfl, rfl, rfl, nO, ok5.2⟩,
     ⟨D, rfl, rfl, rfl, rfl, rfl, rfl, 2, rfl, [], rfl, rfl, [[97]], rfl, rfl, f6.1, f6.2, by decide, sok rfl, sok rfl⟩, ?_⟩
   refine AWP.leaves 0 (knE1 T) (AWP.rounds (fun i => i ≤ 100) (knS1 T) (fun i => 100 - i) 0 (by omega) ?_ ?_) ?_
   · refine Weak.ren [some 5, some 7] (baseOK.nil hh) (by simp) ?_ ?_
     · simp; rfl
     · simp [knS1]
   · intro i hi
     refine wpc_ok hE mixed _ _ _ ?_
     rcases Nat.lt_or_ge i 100 with g | g
     · have g' : ((i : Int) < 100) = True := eq_true (by omega)
       have wi : IntKind.i64.wrap ((i : Int) + 1) = (i : Int) + 1 := wrap64 _ (by omega) (by omega)
       have hs := kN_set g
       have hl := kN_len i hi
       simp -implicitDefEqProofs [knS1, g', wi, hs, hl]
       exact ⟨by omega, Next.mk (i + 1) (by omega) (by omega) (Weak.heap rfl (by simp))⟩
     · obtain rfl : i = 100 := by omega
       simp -implicitDefEqProofs [knS1]
       exact Leaves.mk (Weak.heap rfl (by simp))
   · have e5 : mainF kFull 2 1 = (kP, 0) := Prod.ext rfl kx5
     have q6 := kx6
     have q7 : List.drop 198 (rowsC kP.past) = rowsC (ofO 2 [[97, 98]]) := by rw [← kx7, ← rowsC_drop]
     have q8 := kx8
     have e9 := kx9
     have h5 := kh5
     have o7 := hdOf_C kFull
     have o8 := hdOf_C kP
     have o9 := hdOf_C kStr
     have o10 := hdOf_C kQ
     have ok7 : HdOK kFull := okH_of
     have ok9 : HdOK kStr := okH_of
     have f10 : HdFin kQ := fin_of (p := []) (by decide) (sok rfl) (sok rfl)
     have fab : RowsFin (ofO 2 [[97, 98]]) := ofO_fin (by decide) (sok rfl)
     have fc : RowsFin (ofO 2 [[99]]) := ofO_fin (by decide) (sok rfl)
     rw [show kFull.ar = 1 from rfl, show kFull.ac = 0 from rfl] at o7
     rw [show kStr.ar = 1 from rfl, show kStr.ac = 0 from rfl] at o9
     have sN : strsOf (kN 100) = kL := by rw [kN_strs, strsOf_C]
     have r7 : ofO 2 kL = kFull.past := rfl
     have r8 : ofO 2 [[97, 98], [99]] = kFull.rows := rfl
     have r9 : ofO 4 [[97, 98, 99, 100, 43]] = kStr.past := rfl
     have r10 : ofO 4 [[101, 102], [103, 104]] = kStr.rows := rfl
     have hab1 : (ofO 2 [[97, 98]]).length = 1 := rfl
     have tk2 : List.take 2 (rowsC (ofO 2 [[97, 98]])) = rowsC (ofO 2 [[97, 98]]) := rfl
     have hb3 : (ofO 3 [[97, 98, 99]]).length = 1 := rfl
     have bb := kBad_at
     unfold kBad kAB at bb
     have q9 : (ofO 2 [[99]]).length = 1 := rfl
     generalize hgF : kFull = Fu at *
     generalize kP = P at *
     generalize kStr = Sr at *
     generalize kQ = Q at *
     generalize hgB : ofO 3 [[97, 98, 99]] = B3 at *
     generalize hgA : ofO 2 [[97, 98]] = AB at *
     generalize hgC : ofO 2 [[99]] = CC at *
     simp -implicitDefEqProofs [knE1, and_assoc, altSpec2, heldckSpec, lheldSpec, linesSpec, lofOSpec, lworks9Spec, mainSpec, samesSpec, hdV, hdC, strsOf, sN, r7, r8, r9, r10, q6, q7, q8, e5, e9, h5, o7, o8, o9, o10, rowsV, rowsOf_C, hgB, hgA, hgC, hab1, tk2, hb3]
     refine ⟨⟨2, rfl, kL, kL_ok.1, kN_strs, by decide, kL_ok.2⟩, ⟨2, rfl, [[97, 98], [99]], rfl, rfl, by decide, sok rfl⟩, ⟨⟨Fu.past, Fu.rows, 1, 0⟩, rfl, rfl, rfl, rfl, rfl, rfl, ok7.1, ok7.2⟩, ⟨2, rfl, [[97, 98]], rfl, rfl, by decide, sok rfl⟩, ⟨AB, hab1.symm, rfl, fab⟩,
       ⟨2, rfl, [[99]], rfl, rfl, by decide, sok rfl⟩, ⟨_, rfl, rfl, fc⟩, by rfl, ⟨4, rfl, [[97, 98, 99, 100, 43]], rfl, rfl, by decide, sok rfl⟩, ⟨4, rfl, [[101, 102], [103, 104]], rfl, rfl, by decide, sok rfl⟩, ⟨⟨Sr.past, Sr.rows, 1, 0⟩, rfl, rfl, rfl, rfl, rfl, rfl, ok9.1, ok9.2⟩,
       ⟨Q, rfl, rfl, rfl, rfl, rfl, rfl, 8, rfl, [], rfl, rfl, [[97, 98, 99, 100, 101, 102], [103, 104]], rfl, rfl, f10.1, f10.2, by decide, sok rfl, sok rfl⟩, ⟨2, rfl, [[97, 98]], rfl, rfl, by decide, sok rfl⟩, ⟨3, rfl, [[97, 98, 99]], rfl, rfl, by decide, sok rfl⟩, ?_⟩
     generalize hgL : ([⟨[], [], 0, 0⟩, ⟨[], AB, 1, 0⟩, ⟨[], AB, 0, 2⟩, ⟨[], AB, -1, 0⟩, ⟨B3, AB, 0, 0⟩] : List Hd) = L at *
     have hL : hdsC L = [.sl 0 [], .sl 0 [], .int .i64 0, .int .i64 0, .sl 0 [], .sl 1 (rowsC AB), .int .i64 1, .int .i64 0, .sl 0 [], .sl 1 (rowsC AB), .int .i64 0, .int .i64 2, .sl 0 [], .sl 1 (rowsC AB), .int .i64 (-1), .int .i64 0, .sl 1 (rowsC B3), .sl 1 (rowsC AB), .int .i64 0, .int .i64 0] := by
       rw [← hgL]; simp [hdsC, hdC, hab1, hb3, rowsC]
     refine AWP.rounds (fun i => i ≤ 5) (knS2 T L) (fun i => 5 - i) 0 (by omega) (Weak.ren [some 0] (baseOK.nil hh) (by simp) (by simp) (by simp [knS2, hL])) ?_
     intro i hi
     refine wpc_ok hE mixed _ _ _ ?_
     rcases Nat.lt_or_ge i 5 with g | g
     · have g' : ((i : Int) < 5) = True := eq_true (by omega)
       have wi : IntKind.i64.wrap ((i : Int) + 1) = (i : Int) + 1 := wrap64 _ (by omega) (by omega)
       obtain ⟨V, hV, okV, hv⟩ := bb ⟨i, g⟩
       have hd := hdsC_at L i V hV
       have m1 := main_bad hv 0 0
       have m2 := said_bad hv
       have oV := hdOf_C V
       have hll : (hdsC L).length = 20 := by rw [hL]; rfl
       simp -implicitDefEqProofs [knS2, and_assoc, altSpec2, heldckSpec, lheldSpec, linesSpec, lofOSpec, lworks9Spec, mainSpec, samesSpec, hdV, hdC, txV, txC, g', wi, hd, hll, oV, m1, m2, hv]
       exact ⟨⟨V, rfl, rfl, rfl, rfl, rfl, rfl, okV⟩, Next.mk (i + 1) (by omega) (by omega) (Weak.ren [some 0] (baseOK.nil hh) (by simp) (by simp) (by simp))⟩
     · have g' : ((i : Int) < 5) = False := eq_false (by omega)
       obtain rfl : i = 5 := by omega
       have e10 := kx10
       have e11 := kx11
       have e12 := kx12
       have e13 := kx13
       rw [hgT] at e10 e11 e13
       have r0 : rowsOf [] = [] := rfl
       simp -implicitDefEqProofs [knS2, and_assoc, altSpec2, heldckSpec, lheldSpec, linesSpec, lofOSpec, lworks9Spec, mainSpec, samesSpec, hdV, hdC, o5, e10, e11, e12, e13, rowsV, rowsOf_C, r0]
       exact ⟨⟨⟨[], T.rows, 0, 0⟩, rfl, rfl, rfl, rfl, rfl, rfl, nO, ok5.2⟩, ⟨[], rfl, rfl, nO⟩, T.rows, rfl, rfl, ok5.2⟩
end Fen
