/- A part of the proof; no statement is proved here: BRptB. -/
import Derived.Shelf.Strings.Repeat
import Derived.Test.YtmbogpmhlepkmaaDoorBldA
import Derived.Test.YtmbogpmhlepkmaaDoorCoreE

set_option linter.unusedVariables false
set_option linter.unusedSimpArgs false

namespace Fen
open Go Go.Proofs Go.Shelf

/-! ### strings.Repeat: the library's contract laid at this program (the numbers are read off by wip/laytext.py) -/
def lays105_ren : Go.Shelf.Ren := ⟨fun | 105 => 16 | 212 => 32 | 99 => 33 | 165 => 34 | 166 => 35 | 170 => 23 | 169 => 22 | 263 => 41 | 264 => 42 | 206 => 43 | 240 => 37 | 241 => 44 | 276 => 45 | 277 => 49 | n => n, fun | 9 => 9 | 3 => 3 | 4 => 4 | 20 => 20 | 0 => 0 | 46 => 56 | 109 => 64 | 5 => 5 | 72 => 40 | 76 => 66 | 51 => 74 | 146 => 75 | 53 => 77 | 148 => 78 | 70 => 38 | 37 => 28 | 75 => 44 | 127 => 68 | 164 => 80 | 80 => 48 | n => n, fun | n => n⟩
theorem lays105 : Lays.n105 Tryd.prog lays105_ren := {
  mixed := by kernel_rfl
  f99 := Tryd.func33.trans (congrArg some (by kernel_rfl))
  f105 := Tryd.func16.trans (congrArg some (by kernel_rfl))
  f165 := Tryd.func34.trans (congrArg some (by kernel_rfl))
  f166 := Tryd.func35.trans (congrArg some (by kernel_rfl))
  f169 := Tryd.func22.trans (congrArg some (by kernel_rfl))
  f170 := Tryd.func23.trans (congrArg some (by kernel_rfl))
  f206 := Tryd.func43.trans (congrArg some (by kernel_rfl))
  f212 := Tryd.func32.trans (congrArg some (by kernel_rfl))
  f240 := Tryd.func37.trans (congrArg some (by kernel_rfl))
  f241 := Tryd.func44.trans (congrArg some (by kernel_rfl))
  f263 := Tryd.func41.trans (congrArg some (by kernel_rfl))
  f264 := Tryd.func42.trans (congrArg some (by kernel_rfl))
  f276 := Tryd.func45.trans (congrArg some (by kernel_rfl))
  f277 := Tryd.func49.trans (congrArg some (by kernel_rfl))
  t0 := Tryd.underlying0
  a0 := Tryd.isAgg0
  z0 := Tryd.sizeOf0
  v0 := Tryd.zeroValue0
  t3 := Tryd.underlying3
  a3 := Tryd.isAgg3
  z3 := Tryd.sizeOf3
  v3 := Tryd.zeroValue3
  t4 := Tryd.underlying4
  a4 := Tryd.isAgg4
  z4 := Tryd.sizeOf4
  v4 := Tryd.zeroValue4
  t5 := Tryd.underlying5
  a5 := Tryd.isAgg5
  z5 := Tryd.sizeOf5
  v5 := Tryd.zeroValue5
  t9 := Tryd.underlying9
  a9 := Tryd.isAgg9
  z9 := Tryd.sizeOf9
  v9 := Tryd.zeroValue9
  t20 := Tryd.underlying20
  a20 := Tryd.isAgg20
  z20 := Tryd.sizeOf20
  v20 := Tryd.zeroValue20
  t37 := Tryd.underlying28
  a37 := Tryd.isAgg28
  z37 := Tryd.sizeOf28
  v37 := Tryd.zeroValue28
  t46 := Tryd.underlying56
  a46 := Tryd.isAgg56
  z46 := Tryd.sizeOf56
  v46 := Tryd.zeroValue56
  t51 := Tryd.underlying74
  a51 := Tryd.isAgg74
  z51 := Tryd.sizeOf74
  v51 := Tryd.zeroValue74
  t53 := Tryd.underlying77
  a53 := Tryd.isAgg77
  z53 := Tryd.sizeOf77
  v53 := Tryd.zeroValue77
  t70 := Tryd.underlying38
  a70 := Tryd.isAgg38
  z70 := Tryd.sizeOf38
  v70 := Tryd.zeroValue38
  t72 := Tryd.underlying40
  a72 := Tryd.isAgg40
  z72 := Tryd.sizeOf40
  v72 := Tryd.zeroValue40
  t75 := Tryd.underlying44
  a75 := Tryd.isAgg44
  z75 := Tryd.sizeOf44
  v75 := Tryd.zeroValue44
  t76 := Tryd.underlying66
  a76 := Tryd.isAgg66
  z76 := Tryd.sizeOf66
  v76 := Tryd.zeroValue66
  t109 := Tryd.underlying64
  a109 := Tryd.isAgg64
  z109 := Tryd.sizeOf64
  v109 := Tryd.zeroValue64
  t127 := Tryd.underlying68
  a127 := Tryd.isAgg68
  z127 := Tryd.sizeOf68
  v127 := Tryd.zeroValue68
  t146 := Tryd.underlying75
  a146 := Tryd.isAgg75
  z146 := Tryd.sizeOf75
  v146 := Tryd.zeroValue75
  t148 := Tryd.underlying78
  a148 := Tryd.isAgg78
  z148 := Tryd.sizeOf78
  v148 := Tryd.zeroValue78
  t164 := Tryd.underlying80
  a164 := Tryd.isAgg80
  z164 := Tryd.sizeOf80
  v164 := Tryd.zeroValue80 }
theorem rX72 : Builder.X72 Tryd.prog lays105_ren := { sizeBuilder := by kernel_rfl, liesBuilder := by kernel_rfl }
theorem rExtra : Builder.Extra Tryd.prog lays105_ren := { rX72 with
  t5 := lays105.t5
  a5 := lays105.a5
  z5 := lays105.z5
  v5 := lays105.v5
  infoByte := by kernel_rfl
  cellsByte := by kernel_rfl
  sizeByte := by kernel_rfl
  neB5 := by decide }
def repL (s : List UInt8) (n : Nat) : List UInt8 := Lib.repeatL s n
def repeatSpec : Spec := { pre := fun args => ∃ (s : List UInt8) (n : Nat), args = [.c (.str s), .c (.int .i64 n)] ∧ n ≤ 9223372036854775807 ∧ s.length * n ≤ 140737488355328, res := fun args => match args with
  | [.c (.str s), .c (.int _ n)] => .one (.val (.c (.str (repL s n.toNat))))
  | _ => .many [] }
theorem srepeat_sound (gl : Gl) : Sound Tryd.prog gl 16 repeatSpec := by
  refine ⟨enters_of Tryd.func16 rfl rfl, fun _ args h S w vs hst hgl hr => ?_, fun hs h => by simp [repeatSpec] at h⟩
  obtain ⟨s, n, rfl, hn, hl⟩ := h
  simp [RepAs, RepA, RepV] at hr
  subst hr
  have hc := Any.strings_Repeat lays105 rExtra ⟨s.toArray⟩ n w hn (by rw [show (⟨s.toArray⟩ : ByteArray).size = s.length from rfl]; exact hl)
  refine hc.mono ?_
  rintro e w' ⟨rfl, hb⟩
  refine ⟨_, fun b o => if b < w.heap.size then S b o else none, rfl, hb, fun b o h => if_pos h, ?_, ?_⟩
  · intro b o v hv
    simp only at hv
    split at hv
    · rename_i h; rw [hb.cell h]; exact hst b o v hv
    · cases hv
  · exact ⟨none, by simp [RelComp, RepA, RepV, repL, repeatSpec], rfl⟩
end Fen
