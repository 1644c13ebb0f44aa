/-
  No cell of these rows narrows 'for every input' (looked for: loops, veiled, ifaces, maps, wideKeys, modest, calm, conditions, laid).
  DERIVED. THE GIVEN ROWS OF THIS SEAT. 8 by the template 'for every input the law returns true; each argument reads behind the call as it read before'; 0 by the template 'total and deterministic' (their statements: YthmebgohfigfpaaTotals.lean).
  GIVEN WITH THE SEED: the statements are not yours to turn. If you find one false, say at which input.
  Laid BY PROGRAM, IN A SANDBOX (cutbox-rows.mjs): the forced cells as the released guide's own fill.sh prints them over the translation f1152420eef99808… (all of the seat's roots in one cut). By AI agents, Wed Nov 11 2026. No macro, syntax, notation, axiom, sorry.
-/
import Derived.Test.YthmebgohfigfpaaChecked
import GoSem.Claim
import GoSem.ClaimJoined
import GoSem.ClaimMapViews
import Derived.JoinedTies
import Derived.KernelRfl
namespace Go.Proofs.Ythmebgohfigfpaa
/- THE CELL 'sum', in the pinned program and in every row, IS THE sha256 OF THE DUMP (.gsa) THAT YthmebgohfigfpaaProg.lean LOADS. Nothing in Lean hashes anything: it is a label: what it is worth is what the hold of that sum in a sandbox is worth. -/
noncomputable def Try.pinned : Pinned := { name := "ythmebgohfigfpaa", sum := "f1152420eef99808f62fde8bf3b39c6d9efec755c6d7c7223924ba4cbaa2f2f4", checked := Try.checked }
namespace Rows
def none {H : Type} : Left H := { results := [], args := [] }

/-- 'fenestralaw06.StateFeeds': WHATEVER THE INPUT: true; the input reads as it did. -/
def stateFeedsSpec : ChangeSpec := { name := "stateFeeds", fn := fun _ => fun
  | [d1, d2, d3] => { results := [.lit (.bool true)], args := [d1, d2, d3] }
  | _ => none }
def stateFeedsRow : OpenClaim := { program := "ythmebgohfigfpaa", sum := "f1152420eef99808f62fde8bf3b39c6d9efec755c6d7c7223924ba4cbaa2f2f4", func := "fenestra/fenestralaw06.StateFeeds", spec := "stateFeeds", unfollowed := true, recurses := true, apart := false }
def StateFeedsSaid : Prop := stateFeedsRow.holds Try.pinned (OpenSpec.ofChange stateFeedsSpec)

/-- ITS FALSE NEIGHBOUR: 'it returns false'. Refute it at one input. -/
def stateFeedsWrong : ChangeSpec := { name := "stateFeeds", fn := fun _ => fun
  | [d1, d2, d3] => { results := [.lit (.bool false)], args := [d1, d2, d3] }
  | _ => none }
def StateFeedsWrongFalsely : Prop := stateFeedsRow.holds Try.pinned (OpenSpec.ofChange stateFeedsWrong)

/-- 'fenestralaw06.StateChunks': WHATEVER THE INPUT: true; the input reads as it did. -/
def stateChunksSpec : ChangeSpec := { name := "stateChunks", fn := fun _ => fun
  | [d1, d2] => { results := [.lit (.bool true)], args := [d1, d2] }
  | _ => none }
def stateChunksRow : OpenClaim := { program := "ythmebgohfigfpaa", sum := "f1152420eef99808f62fde8bf3b39c6d9efec755c6d7c7223924ba4cbaa2f2f4", func := "fenestra/fenestralaw06.StateChunks", spec := "stateChunks", unfollowed := true, recurses := true, apart := false }
def StateChunksSaid : Prop := stateChunksRow.holds Try.pinned (OpenSpec.ofChange stateChunksSpec)

/-- ITS FALSE NEIGHBOUR: 'it returns false'. Refute it at one input. -/
def stateChunksWrong : ChangeSpec := { name := "stateChunks", fn := fun _ => fun
  | [d1, d2] => { results := [.lit (.bool false)], args := [d1, d2] }
  | _ => none }
def StateChunksWrongFalsely : Prop := stateChunksRow.holds Try.pinned (OpenSpec.ofChange stateChunksWrong)

/-- 'fenestralaw06.StateEnds': WHATEVER THE INPUT: true; the input reads as it did. -/
def stateEndsSpec : ChangeSpec := { name := "stateEnds", fn := fun _ => fun
  | [d1, d2] => { results := [.lit (.bool true)], args := [d1, d2] }
  | _ => none }
def stateEndsRow : OpenClaim := { program := "ythmebgohfigfpaa", sum := "f1152420eef99808f62fde8bf3b39c6d9efec755c6d7c7223924ba4cbaa2f2f4", func := "fenestra/fenestralaw06.StateEnds", spec := "stateEnds", unfollowed := true, recurses := true, apart := false }
def StateEndsSaid : Prop := stateEndsRow.holds Try.pinned (OpenSpec.ofChange stateEndsSpec)

/-- ITS FALSE NEIGHBOUR: 'it returns false'. Refute it at one input. -/
def stateEndsWrong : ChangeSpec := { name := "stateEnds", fn := fun _ => fun
  | [d1, d2] => { results := [.lit (.bool false)], args := [d1, d2] }
  | _ => none }
def StateEndsWrongFalsely : Prop := stateEndsRow.holds Try.pinned (OpenSpec.ofChange stateEndsWrong)

/-- 'fenestralaw06.StateCsi': WHATEVER THE INPUT: true; the input reads as it did. -/
def stateCsiSpec : ChangeSpec := { name := "stateCsi", fn := fun _ => fun
  | [d] => { results := [.lit (.bool true)], args := [d] }
  | _ => none }
def stateCsiRow : OpenClaim := { program := "ythmebgohfigfpaa", sum := "f1152420eef99808f62fde8bf3b39c6d9efec755c6d7c7223924ba4cbaa2f2f4", func := "fenestra/fenestralaw06.StateCsi", spec := "stateCsi", unfollowed := true, recurses := true, apart := false }
def StateCsiSaid : Prop := stateCsiRow.holds Try.pinned (OpenSpec.ofChange stateCsiSpec)

/-- ITS FALSE NEIGHBOUR: 'it returns false'. Refute it at one input. -/
def stateCsiWrong : ChangeSpec := { name := "stateCsi", fn := fun _ => fun
  | [d] => { results := [.lit (.bool false)], args := [d] }
  | _ => none }
def StateCsiWrongFalsely : Prop := stateCsiRow.holds Try.pinned (OpenSpec.ofChange stateCsiWrong)

/-- 'fenestralaw06.StateTexts': WHATEVER THE INPUT: true; the input reads as it did. -/
def stateTextsSpec : ChangeSpec := { name := "stateTexts", fn := fun _ => fun
  | [d1, d2] => { results := [.lit (.bool true)], args := [d1, d2] }
  | _ => none }
def stateTextsRow : OpenClaim := { program := "ythmebgohfigfpaa", sum := "f1152420eef99808f62fde8bf3b39c6d9efec755c6d7c7223924ba4cbaa2f2f4", func := "fenestra/fenestralaw06.StateTexts", spec := "stateTexts", unfollowed := true, recurses := true, apart := false }
def StateTextsSaid : Prop := stateTextsRow.holds Try.pinned (OpenSpec.ofChange stateTextsSpec)

/-- ITS FALSE NEIGHBOUR: 'it returns false'. Refute it at one input. -/
def stateTextsWrong : ChangeSpec := { name := "stateTexts", fn := fun _ => fun
  | [d1, d2] => { results := [.lit (.bool false)], args := [d1, d2] }
  | _ => none }
def StateTextsWrongFalsely : Prop := stateTextsRow.holds Try.pinned (OpenSpec.ofChange stateTextsWrong)

/-- 'fenestralaw06.StateSteps': WHATEVER THE INPUT: true; the input reads as it did. -/
def stateStepsSpec : ChangeSpec := { name := "stateSteps", fn := fun _ => fun
  | [d1, d2, d3] => { results := [.lit (.bool true)], args := [d1, d2, d3] }
  | _ => none }
def stateStepsRow : OpenClaim := { program := "ythmebgohfigfpaa", sum := "f1152420eef99808f62fde8bf3b39c6d9efec755c6d7c7223924ba4cbaa2f2f4", func := "fenestra/fenestralaw06.StateSteps", spec := "stateSteps", unfollowed := true, recurses := true, apart := false }
def StateStepsSaid : Prop := stateStepsRow.holds Try.pinned (OpenSpec.ofChange stateStepsSpec)

/-- ITS FALSE NEIGHBOUR: 'it returns false'. Refute it at one input. -/
def stateStepsWrong : ChangeSpec := { name := "stateSteps", fn := fun _ => fun
  | [d1, d2, d3] => { results := [.lit (.bool false)], args := [d1, d2, d3] }
  | _ => none }
def StateStepsWrongFalsely : Prop := stateStepsRow.holds Try.pinned (OpenSpec.ofChange stateStepsWrong)

/-- 'fenestralaw06.StateChecks': WHATEVER THE INPUT: true; the input reads as it did. -/
def stateChecksSpec : ChangeSpec := { name := "stateChecks", fn := fun _ => fun
  | [d1, d2, d3, d4] => { results := [.lit (.bool true)], args := [d1, d2, d3, d4] }
  | _ => none }
def stateChecksRow : OpenClaim := { program := "ythmebgohfigfpaa", sum := "f1152420eef99808f62fde8bf3b39c6d9efec755c6d7c7223924ba4cbaa2f2f4", func := "fenestra/fenestralaw06.StateChecks", spec := "stateChecks", unfollowed := true, recurses := true, apart := false }
def StateChecksSaid : Prop := stateChecksRow.holds Try.pinned (OpenSpec.ofChange stateChecksSpec)

/-- ITS FALSE NEIGHBOUR: 'it returns false'. Refute it at one input. -/
def stateChecksWrong : ChangeSpec := { name := "stateChecks", fn := fun _ => fun
  | [d1, d2, d3, d4] => { results := [.lit (.bool false)], args := [d1, d2, d3, d4] }
  | _ => none }
def StateChecksWrongFalsely : Prop := stateChecksRow.holds Try.pinned (OpenSpec.ofChange stateChecksWrong)

/-- 'fenestralaw06.StateKnown': WHATEVER THE INPUT: true; the input reads as it did. -/
def stateKnownSpec : ChangeSpec := { name := "stateKnown", fn := fun _ => fun
  | [] => { results := [.lit (.bool true)], args := [] }
  | _ => none }
def stateKnownRow : OpenClaim := { program := "ythmebgohfigfpaa", sum := "f1152420eef99808f62fde8bf3b39c6d9efec755c6d7c7223924ba4cbaa2f2f4", func := "fenestra/fenestralaw06.StateKnown", spec := "stateKnown", inPlace := ["internal/abi.NoEscape", "internal/bytealg.MakeNoZero"], unfollowed := true, recurses := true, apart := false }
def StateKnownSaid : Prop := stateKnownRow.holds Try.pinned (OpenSpec.ofChange stateKnownSpec)

/-- ITS FALSE NEIGHBOUR: 'it returns false'. Refute it at one input. -/
def stateKnownWrong : ChangeSpec := { name := "stateKnown", fn := fun _ => fun
  | [] => { results := [.lit (.bool false)], args := [] }
  | _ => none }
def StateKnownWrongFalsely : Prop := stateKnownRow.holds Try.pinned (OpenSpec.ofChange stateKnownWrong)

/- THE SECOND FORM. 'bulk': how many values and letters a reading holds, each counted each time it is reached (what is shared counts as often as it is met; a slice's spare places count too). A statement '..UptoSaid' is the law's where the arguments, and the package variables that the reading takes, are together of bulk at most 1048576: NARROWER than '..Said'. Prove '..Said' where nothing that the law and all that it calls make is longer than what came in: it says more and counts as full. Else prove '..UptoSaid'. A law counts once. -/
mutual
def uptoBulk {H : Type} : DataW H → Nat
  | .lit (.string bytes) => bytes.length + 1
  | .lit _ => 1
  | .nil => 1
  | .ptr d => uptoBulk d + 1
  | .slice elems spare => uptoBulkAll elems + uptoBulkAll spare + 1
  | .agg parts => uptoBulkAll parts + 1
  | .iface _ d => uptoBulk d + 1
  | .map entries => uptoBulkEntries entries + 1
  | .held _ => 1
def uptoBulkAll {H : Type} : List (DataW H) → Nat
  | [] => 0
  | d :: r => uptoBulk d + uptoBulkAll r
def uptoBulkEntries {H : Type} : List (Lit × DataW H) → Nat
  | [] => 0
  | x :: r => uptoBulkEntry x + uptoBulkEntries r
def uptoBulkEntry {H : Type} : Lit × DataW H → Nat
  | (.string bytes, d) => bytes.length + uptoBulk d + 1
  | (_, d) => uptoBulk d + 1
 end
def uptoSmall : (H : Type) → List (DataW H) → Bool := fun _ ds => decide (uptoBulkAll ds ≤ 1048576)
def OpenSpec.upto (s : _root_.Go.ChangeSpec) : _root_.Go.OpenSpec := { _root_.Go.OpenSpec.ofChange s with cond := some uptoSmall }

/-- 'fenestralaw06.StateFeeds', WHERE WHAT IT READS IS OF BULK AT MOST 1048576: true; the input reads as it did. -/
def stateFeedsUptoRow : OpenClaim := { program := "ythmebgohfigfpaa", sum := "f1152420eef99808f62fde8bf3b39c6d9efec755c6d7c7223924ba4cbaa2f2f4", func := "fenestra/fenestralaw06.StateFeeds", spec := "stateFeeds", unfollowed := true, recurses := true, apart := false, narrowed := true }
def StateFeedsUptoSaid : Prop := stateFeedsUptoRow.holds Try.pinned (OpenSpec.upto stateFeedsSpec)

/-- 'fenestralaw06.StateChunks', WHERE WHAT IT READS IS OF BULK AT MOST 1048576: true; the input reads as it did. -/
def stateChunksUptoRow : OpenClaim := { program := "ythmebgohfigfpaa", sum := "f1152420eef99808f62fde8bf3b39c6d9efec755c6d7c7223924ba4cbaa2f2f4", func := "fenestra/fenestralaw06.StateChunks", spec := "stateChunks", unfollowed := true, recurses := true, apart := false, narrowed := true }
def StateChunksUptoSaid : Prop := stateChunksUptoRow.holds Try.pinned (OpenSpec.upto stateChunksSpec)

/-- 'fenestralaw06.StateEnds', WHERE WHAT IT READS IS OF BULK AT MOST 1048576: true; the input reads as it did. -/
def stateEndsUptoRow : OpenClaim := { program := "ythmebgohfigfpaa", sum := "f1152420eef99808f62fde8bf3b39c6d9efec755c6d7c7223924ba4cbaa2f2f4", func := "fenestra/fenestralaw06.StateEnds", spec := "stateEnds", unfollowed := true, recurses := true, apart := false, narrowed := true }
def StateEndsUptoSaid : Prop := stateEndsUptoRow.holds Try.pinned (OpenSpec.upto stateEndsSpec)

/-- 'fenestralaw06.StateCsi', WHERE WHAT IT READS IS OF BULK AT MOST 1048576: true; the input reads as it did. -/
def stateCsiUptoRow : OpenClaim := { program := "ythmebgohfigfpaa", sum := "f1152420eef99808f62fde8bf3b39c6d9efec755c6d7c7223924ba4cbaa2f2f4", func := "fenestra/fenestralaw06.StateCsi", spec := "stateCsi", unfollowed := true, recurses := true, apart := false, narrowed := true }
def StateCsiUptoSaid : Prop := stateCsiUptoRow.holds Try.pinned (OpenSpec.upto stateCsiSpec)

/-- 'fenestralaw06.StateTexts', WHERE WHAT IT READS IS OF BULK AT MOST 1048576: true; the input reads as it did. -/
def stateTextsUptoRow : OpenClaim := { program := "ythmebgohfigfpaa", sum := "f1152420eef99808f62fde8bf3b39c6d9efec755c6d7c7223924ba4cbaa2f2f4", func := "fenestra/fenestralaw06.StateTexts", spec := "stateTexts", unfollowed := true, recurses := true, apart := false, narrowed := true }
def StateTextsUptoSaid : Prop := stateTextsUptoRow.holds Try.pinned (OpenSpec.upto stateTextsSpec)

/-- 'fenestralaw06.StateSteps', WHERE WHAT IT READS IS OF BULK AT MOST 1048576: true; the input reads as it did. -/
def stateStepsUptoRow : OpenClaim := { program := "ythmebgohfigfpaa", sum := "f1152420eef99808f62fde8bf3b39c6d9efec755c6d7c7223924ba4cbaa2f2f4", func := "fenestra/fenestralaw06.StateSteps", spec := "stateSteps", unfollowed := true, recurses := true, apart := false, narrowed := true }
def StateStepsUptoSaid : Prop := stateStepsUptoRow.holds Try.pinned (OpenSpec.upto stateStepsSpec)

/-- 'fenestralaw06.StateChecks', WHERE WHAT IT READS IS OF BULK AT MOST 1048576: true; the input reads as it did. -/
def stateChecksUptoRow : OpenClaim := { program := "ythmebgohfigfpaa", sum := "f1152420eef99808f62fde8bf3b39c6d9efec755c6d7c7223924ba4cbaa2f2f4", func := "fenestra/fenestralaw06.StateChecks", spec := "stateChecks", unfollowed := true, recurses := true, apart := false, narrowed := true }
def StateChecksUptoSaid : Prop := stateChecksUptoRow.holds Try.pinned (OpenSpec.upto stateChecksSpec)

/-- 'fenestralaw06.StateKnown', WHERE WHAT IT READS IS OF BULK AT MOST 1048576: true; the input reads as it did. -/
def stateKnownUptoRow : OpenClaim := { program := "ythmebgohfigfpaa", sum := "f1152420eef99808f62fde8bf3b39c6d9efec755c6d7c7223924ba4cbaa2f2f4", func := "fenestra/fenestralaw06.StateKnown", spec := "stateKnown", inPlace := ["internal/abi.NoEscape", "internal/bytealg.MakeNoZero"], unfollowed := true, recurses := true, apart := false, narrowed := true }
def StateKnownUptoSaid : Prop := stateKnownUptoRow.holds Try.pinned (OpenSpec.upto stateKnownSpec)

end Rows
end Go.Proofs.Ythmebgohfigfpaa
