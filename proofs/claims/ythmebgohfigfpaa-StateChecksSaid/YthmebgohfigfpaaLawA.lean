/- A part of the proof; no statement is proved here: SLawAb. -/
import Derived.Test.YthmebgohfigfpaaRefA

set_option linter.unusedVariables false
set_option linter.unusedSimpArgs false

namespace Fen
open Go Go.Proofs
def CheckIn (a : List V) : Prop := checkSpec.pre a
def checkoSpec : Spec := { pre := CheckIn, res := checkSpec.res }
theorem checko_sound (gl : Gl) : Sound Try.prog gl 18 checkoSpec := scheck_sound gl
def SameIn (a : List V) : Prop := sameSpec.pre a
def sameoSpec : Spec := { pre := SameIn, res := sameSpec.res }
theorem sameo_sound (gl : Gl) : Sound Try.prog gl 15 sameoSpec := r6same_sound gl
theorem worksIn : lworksSpec.pre [] := rfl
@[simp] theorem renXs_val (h h' : List Blk) (ids : List (Option Nat)) : ∀ cs : List C, renXs h h' ids (cs.map X.val) (cs.map X.val) = True
 | [] => by simp [renXs]
 | c :: cs => by simp [renXs, renX, renXs_val h h' ids cs]
end Fen
