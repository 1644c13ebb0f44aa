/- A part of the proof; no statement is proved here: SLawAa. -/
import Derived.Test.YthmebgohfigfpaaRefA

set_option linter.unusedVariables false
set_option linter.unusedSimpArgs false

namespace Fen
open Go Go.Proofs

/-! ### the contracts with their conditions under one name -/
def FeedIn (a : List V) : Prop := sfeedSpec.pre a
def feedoSpec : Spec := { pre := FeedIn, res := sfeedSpec.res }
theorem feedo_sound (gl : Gl) : Sound Try.prog gl 13 feedoSpec := sfeed_sound gl
def CheckIn (a : List V) : Prop := checkSpec.pre a
def checkoSpec : Spec := { pre := CheckIn, res := checkSpec.res }
theorem checko_sound (gl : Gl) : Sound Try.prog gl 18 checkoSpec := scheck_sound gl
def SameIn (a : List V) : Prop := sameSpec.pre a
def sameoSpec : Spec := { pre := SameIn, res := sameSpec.res }
theorem sameo_sound (gl : Gl) : Sound Try.prog gl 15 sameoSpec := r6same_sound gl
def EventsIn (a : List V) : Prop := eventsSpec.pre a
def eventsoSpec : Spec := { pre := EventsIn, res := eventsSpec.res }
theorem eventso_sound (gl : Gl) : Sound Try.prog gl 16 eventsoSpec := events_sound gl
theorem worksIn : lworksSpec.pre [] := rfl

@[simp] theorem renXs_val (h h' : List Blk) (ids : List (Option Nat)) : ∀ cs : List C, renXs h h' ids (cs.map X.val) (cs.map X.val) = True
  | [] => by simp [renXs]
  | c :: cs => by simp [renXs, renX, renXs_val h h' ids cs]
def gotH (evs : List Ev) : List Blk := [.sl tE 0 true 7 evs.length (evsC evs)]
theorem feed_off (p : Ps) (l : List Int) (k n : Nat) : feed6 p (l.take (k + n)) = ((feed6 (feed6 p (l.take k)).1 ((l.drop k).take n)).1, (feed6 p (l.take k)).2 ++ (feed6 (feed6 p (l.take k)).1 ((l.drop k).take n)).2) := by
  rw [← feed6_app, List.take_add]
end Fen
