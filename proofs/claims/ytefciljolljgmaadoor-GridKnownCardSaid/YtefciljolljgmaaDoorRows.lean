/-
  NARROWER THAN 'FOR EVERY INPUT', by the rows' own cells (each row's printed sentence says how): GridTurns: laid · GridErases: laid · GridStays: laid · GridWhole: laid · GridMakes: laid · GridBack: laid · GridChecks: laid · GridKnown: laid.
  DERIVED. THE GIVEN ROWS OF THIS SEAT. 8 by the template 'for every input the law returns true; each argument reads behind the call as it read before'; 0 by the template 'total and deterministic' (their statements: YtefciljolljgmaaDoorTotals.lean).
  GIVEN WITH THE SEED: the statements are not yours to turn. If you find one false, say at which input.
  Laid BY PROGRAM, IN A SANDBOX (cutbox-rows.mjs): the forced cells as the released guide's own fill.sh prints them over the translation 68e4e1cec2dfe26e… (all of the seat's roots in one cut). By AI agents, Wed Nov 11 2026. No macro, syntax, notation, axiom, sorry.
-/
import Derived.Test.YtefciljolljgmaaDoorChecked
import GoSem.Claim
import GoSem.ClaimJoined
import GoSem.ClaimMapViews
import Derived.JoinedTies
import Derived.KernelRfl
namespace Go.Proofs.YtefciljolljgmaaDoor
/- THE CELL 'sum', in the pinned program and in every row, IS THE sha256 OF THE DUMP (.gsa) THAT YtefciljolljgmaaDoorProg.lean LOADS. Nothing in Lean hashes anything: it is a label: what it is worth is what the hold of that sum in a sandbox is worth. -/
noncomputable def Tryd.pinned : Pinned := { name := "ytefciljolljgmaadoor", sum := "68e4e1cec2dfe26eb7eb2101e3f9953065983537b830e7c3791fe63e90bf2ac0", checked := Tryd.checked }
namespace Rows
def none {H : Type} : Left H := { results := [], args := [] }

/- WHAT THE LISTED PACKAGE-LEVEL VARIABLES READ AS WHEN THE CALL BEGINS. Each datum BY PROGRAM (the guide's laid-datum.mjs) off the statement by which the dump's own 'gosem.cut.vars' lays the variable. In a bare row this is a premise. The card (YtefciljolljgmaaDoorCards.lean) ties it to the program's text. -/
def laid_fenestra_width_marks {H : Type} : DataW H := .agg [.agg [.lit (.int .i64 768), .lit (.int .i64 879)], .agg [.lit (.int .i64 1155), .lit (.int .i64 1161)], .agg [.lit (.int .i64 1425), .lit (.int .i64 1469)], .agg [.lit (.int .i64 1552), .lit (.int .i64 1562)], .agg [.lit (.int .i64 1611), .lit (.int .i64 1631)], .agg [.lit (.int .i64 6832), .lit (.int .i64 6911)], .agg [.lit (.int .i64 7616), .lit (.int .i64 7679)], .agg [.lit (.int .i64 8203), .lit (.int .i64 8207)], .agg [.lit (.int .i64 8400), .lit (.int .i64 8447)], .agg [.lit (.int .i64 65024), .lit (.int .i64 65039)], .agg [.lit (.int .i64 65056), .lit (.int .i64 65071)]]
def laid_fenestra_width_wides {H : Type} : DataW H := .agg [.agg [.lit (.int .i64 4352), .lit (.int .i64 4447)], .agg [.lit (.int .i64 11904), .lit (.int .i64 12350)], .agg [.lit (.int .i64 12353), .lit (.int .i64 19903)], .agg [.lit (.int .i64 19968), .lit (.int .i64 42191)], .agg [.lit (.int .i64 44032), .lit (.int .i64 55203)], .agg [.lit (.int .i64 63744), .lit (.int .i64 64255)], .agg [.lit (.int .i64 65072), .lit (.int .i64 65135)], .agg [.lit (.int .i64 65280), .lit (.int .i64 65376)], .agg [.lit (.int .i64 65504), .lit (.int .i64 65510)], .agg [.lit (.int .i64 127744), .lit (.int .i64 128591)], .agg [.lit (.int .i64 128640), .lit (.int .i64 128767)], .agg [.lit (.int .i64 129280), .lit (.int .i64 129535)], .agg [.lit (.int .i64 131072), .lit (.int .i64 262141)]]

/-- 'fenestralaw13.GridTurns': WHATEVER THE INPUT: true; the input reads as it did. -/
def gridTurnsSpec : ChangeSpec := { name := "gridTurns", fn := fun _ => fun
  | [d1, d2, d3, d4, d5] => { results := [.lit (.bool true)], args := [d1, d2, d3, d4, d5] }
  | _ => none }
def gridTurnsRow : OpenClaim := { program := "ytefciljolljgmaadoor", sum := "68e4e1cec2dfe26eb7eb2101e3f9953065983537b830e7c3791fe63e90bf2ac0", func := "fenestra/fenestralaw13.GridTurns", spec := "gridTurns", unfollowed := true, recurses := true, named := ["fenestra/width.marks", "fenestra/width.wides"], apart := false, laid := [("fenestra/width.marks", laid_fenestra_width_marks), ("fenestra/width.wides", laid_fenestra_width_wides)] }
def GridTurnsSaid : Prop := gridTurnsRow.holds Tryd.pinned (OpenSpec.ofChange gridTurnsSpec)

/-- ITS FALSE NEIGHBOUR: 'it returns false'. Refute it at one input. -/
def gridTurnsWrong : ChangeSpec := { name := "gridTurns", fn := fun _ => fun
  | [d1, d2, d3, d4, d5] => { results := [.lit (.bool false)], args := [d1, d2, d3, d4, d5] }
  | _ => none }
def GridTurnsWrongFalsely : Prop := gridTurnsRow.holds Tryd.pinned (OpenSpec.ofChange gridTurnsWrong)

/-- 'fenestralaw13.GridErases': WHATEVER THE INPUT: true; the input reads as it did. -/
def gridErasesSpec : ChangeSpec := { name := "gridErases", fn := fun _ => fun
  | [d1, d2, d3, d4, d5] => { results := [.lit (.bool true)], args := [d1, d2, d3, d4, d5] }
  | _ => none }
def gridErasesRow : OpenClaim := { program := "ytefciljolljgmaadoor", sum := "68e4e1cec2dfe26eb7eb2101e3f9953065983537b830e7c3791fe63e90bf2ac0", func := "fenestra/fenestralaw13.GridErases", spec := "gridErases", unfollowed := true, recurses := true, named := ["fenestra/width.marks", "fenestra/width.wides"], apart := false, laid := [("fenestra/width.marks", laid_fenestra_width_marks), ("fenestra/width.wides", laid_fenestra_width_wides)] }
def GridErasesSaid : Prop := gridErasesRow.holds Tryd.pinned (OpenSpec.ofChange gridErasesSpec)

/-- ITS FALSE NEIGHBOUR: 'it returns false'. Refute it at one input. -/
def gridErasesWrong : ChangeSpec := { name := "gridErases", fn := fun _ => fun
  | [d1, d2, d3, d4, d5] => { results := [.lit (.bool false)], args := [d1, d2, d3, d4, d5] }
  | _ => none }
def GridErasesWrongFalsely : Prop := gridErasesRow.holds Tryd.pinned (OpenSpec.ofChange gridErasesWrong)

/-- 'fenestralaw13.GridStays': WHATEVER THE INPUT: true; the input reads as it did. -/
def gridStaysSpec : ChangeSpec := { name := "gridStays", fn := fun _ => fun
  | [d1, d2] => { results := [.lit (.bool true)], args := [d1, d2] }
  | _ => none }
def gridStaysRow : OpenClaim := { program := "ytefciljolljgmaadoor", sum := "68e4e1cec2dfe26eb7eb2101e3f9953065983537b830e7c3791fe63e90bf2ac0", func := "fenestra/fenestralaw13.GridStays", spec := "gridStays", unfollowed := true, recurses := true, named := ["fenestra/width.marks", "fenestra/width.wides"], apart := false, laid := [("fenestra/width.marks", laid_fenestra_width_marks), ("fenestra/width.wides", laid_fenestra_width_wides)] }
def GridStaysSaid : Prop := gridStaysRow.holds Tryd.pinned (OpenSpec.ofChange gridStaysSpec)

/-- ITS FALSE NEIGHBOUR: 'it returns false'. Refute it at one input. -/
def gridStaysWrong : ChangeSpec := { name := "gridStays", fn := fun _ => fun
  | [d1, d2] => { results := [.lit (.bool false)], args := [d1, d2] }
  | _ => none }
def GridStaysWrongFalsely : Prop := gridStaysRow.holds Tryd.pinned (OpenSpec.ofChange gridStaysWrong)

/-- 'fenestralaw13.GridWhole': WHATEVER THE INPUT: true; the input reads as it did. -/
def gridWholeSpec : ChangeSpec := { name := "gridWhole", fn := fun _ => fun
  | [d1, d2] => { results := [.lit (.bool true)], args := [d1, d2] }
  | _ => none }
def gridWholeRow : OpenClaim := { program := "ytefciljolljgmaadoor", sum := "68e4e1cec2dfe26eb7eb2101e3f9953065983537b830e7c3791fe63e90bf2ac0", func := "fenestra/fenestralaw13.GridWhole", spec := "gridWhole", unfollowed := true, recurses := true, named := ["fenestra/width.marks", "fenestra/width.wides"], apart := false, laid := [("fenestra/width.marks", laid_fenestra_width_marks), ("fenestra/width.wides", laid_fenestra_width_wides)] }
def GridWholeSaid : Prop := gridWholeRow.holds Tryd.pinned (OpenSpec.ofChange gridWholeSpec)

/-- ITS FALSE NEIGHBOUR: 'it returns false'. Refute it at one input. -/
def gridWholeWrong : ChangeSpec := { name := "gridWhole", fn := fun _ => fun
  | [d1, d2] => { results := [.lit (.bool false)], args := [d1, d2] }
  | _ => none }
def GridWholeWrongFalsely : Prop := gridWholeRow.holds Tryd.pinned (OpenSpec.ofChange gridWholeWrong)

/-- 'fenestralaw13.GridMakes': WHATEVER THE INPUT: true; the input reads as it did. -/
def gridMakesSpec : ChangeSpec := { name := "gridMakes", fn := fun _ => fun
  | [d1, d2, d3, d4, d5] => { results := [.lit (.bool true)], args := [d1, d2, d3, d4, d5] }
  | _ => none }
def gridMakesRow : OpenClaim := { program := "ytefciljolljgmaadoor", sum := "68e4e1cec2dfe26eb7eb2101e3f9953065983537b830e7c3791fe63e90bf2ac0", func := "fenestra/fenestralaw13.GridMakes", spec := "gridMakes", unfollowed := true, recurses := true, named := ["fenestra/width.marks", "fenestra/width.wides"], apart := false, laid := [("fenestra/width.marks", laid_fenestra_width_marks), ("fenestra/width.wides", laid_fenestra_width_wides)] }
def GridMakesSaid : Prop := gridMakesRow.holds Tryd.pinned (OpenSpec.ofChange gridMakesSpec)

/-- ITS FALSE NEIGHBOUR: 'it returns false'. Refute it at one input. -/
def gridMakesWrong : ChangeSpec := { name := "gridMakes", fn := fun _ => fun
  | [d1, d2, d3, d4, d5] => { results := [.lit (.bool false)], args := [d1, d2, d3, d4, d5] }
  | _ => none }
def GridMakesWrongFalsely : Prop := gridMakesRow.holds Tryd.pinned (OpenSpec.ofChange gridMakesWrong)

/-- 'fenestralaw13.GridBack': WHATEVER THE INPUT: true; the input reads as it did. -/
def gridBackSpec : ChangeSpec := { name := "gridBack", fn := fun _ => fun
  | [d1, d2] => { results := [.lit (.bool true)], args := [d1, d2] }
  | _ => none }
def gridBackRow : OpenClaim := { program := "ytefciljolljgmaadoor", sum := "68e4e1cec2dfe26eb7eb2101e3f9953065983537b830e7c3791fe63e90bf2ac0", func := "fenestra/fenestralaw13.GridBack", spec := "gridBack", unfollowed := true, recurses := true, named := ["fenestra/width.marks", "fenestra/width.wides"], apart := false, laid := [("fenestra/width.marks", laid_fenestra_width_marks), ("fenestra/width.wides", laid_fenestra_width_wides)] }
def GridBackSaid : Prop := gridBackRow.holds Tryd.pinned (OpenSpec.ofChange gridBackSpec)

/-- ITS FALSE NEIGHBOUR: 'it returns false'. Refute it at one input. -/
def gridBackWrong : ChangeSpec := { name := "gridBack", fn := fun _ => fun
  | [d1, d2] => { results := [.lit (.bool false)], args := [d1, d2] }
  | _ => none }
def GridBackWrongFalsely : Prop := gridBackRow.holds Tryd.pinned (OpenSpec.ofChange gridBackWrong)

/-- 'fenestralaw13.GridChecks': WHATEVER THE INPUT: true; the input reads as it did. -/
def gridChecksSpec : ChangeSpec := { name := "gridChecks", fn := fun _ => fun
  | [d1, d2, d3, d4] => { results := [.lit (.bool true)], args := [d1, d2, d3, d4] }
  | _ => none }
def gridChecksRow : OpenClaim := { program := "ytefciljolljgmaadoor", sum := "68e4e1cec2dfe26eb7eb2101e3f9953065983537b830e7c3791fe63e90bf2ac0", func := "fenestra/fenestralaw13.GridChecks", spec := "gridChecks", unfollowed := true, recurses := true, named := ["fenestra/width.marks", "fenestra/width.wides"], apart := false, laid := [("fenestra/width.marks", laid_fenestra_width_marks), ("fenestra/width.wides", laid_fenestra_width_wides)] }
def GridChecksSaid : Prop := gridChecksRow.holds Tryd.pinned (OpenSpec.ofChange gridChecksSpec)

/-- ITS FALSE NEIGHBOUR: 'it returns false'. Refute it at one input. -/
def gridChecksWrong : ChangeSpec := { name := "gridChecks", fn := fun _ => fun
  | [d1, d2, d3, d4] => { results := [.lit (.bool false)], args := [d1, d2, d3, d4] }
  | _ => none }
def GridChecksWrongFalsely : Prop := gridChecksRow.holds Tryd.pinned (OpenSpec.ofChange gridChecksWrong)

/-- 'fenestralaw13.GridKnown': WHATEVER THE INPUT: true; the input reads as it did. -/
def gridKnownSpec : ChangeSpec := { name := "gridKnown", fn := fun _ => fun
  | [] => { results := [.lit (.bool true)], args := [] }
  | _ => none }
def gridKnownRow : OpenClaim := { program := "ytefciljolljgmaadoor", sum := "68e4e1cec2dfe26eb7eb2101e3f9953065983537b830e7c3791fe63e90bf2ac0", func := "fenestra/fenestralaw13.GridKnown", spec := "gridKnown", unfollowed := true, recurses := true, named := ["fenestra/width.marks", "fenestra/width.wides"], apart := false, laid := [("fenestra/width.marks", laid_fenestra_width_marks), ("fenestra/width.wides", laid_fenestra_width_wides)] }
def GridKnownSaid : Prop := gridKnownRow.holds Tryd.pinned (OpenSpec.ofChange gridKnownSpec)

/-- ITS FALSE NEIGHBOUR: 'it returns false'. Refute it at one input. -/
def gridKnownWrong : ChangeSpec := { name := "gridKnown", fn := fun _ => fun
  | [] => { results := [.lit (.bool false)], args := [] }
  | _ => none }
def GridKnownWrongFalsely : Prop := gridKnownRow.holds Tryd.pinned (OpenSpec.ofChange gridKnownWrong)

/- THE SECOND FORM. 'bulk': how many values and letters a reading holds, each counted each time it is reached (what is shared counts as often as it is met; a slice's spare places count too). A statement '..UptoSaid' is the law's where the arguments, and the package variables that the reading takes, are together of bulk at most 1048576: NARROWER than '..Said'. Prove '..Said' where nothing that the law and all that it calls make is longer than what came in: it says more and counts as full. Else prove '..UptoSaid'. A law counts once. -/
mutual
def uptoBulk {H : Type} : DataW H → Nat
  | .lit (.string bytes) => bytes.length + 1
  | .lit _ => 1
  | .nil => 1
  | .ptr d => uptoBulk d + 1
  | .slice elems spare => uptoBulkAll elems + uptoBulkAll spare + 1
  | .agg parts => uptoBulkAll parts + 1
  | .iface _ d => uptoBulk d + 1
  | .map entries => uptoBulkEntries entries + 1
  | .held _ => 1
def uptoBulkAll {H : Type} : List (DataW H) → Nat
  | [] => 0
  | d :: r => uptoBulk d + uptoBulkAll r
def uptoBulkEntries {H : Type} : List (Lit × DataW H) → Nat
  | [] => 0
  | x :: r => uptoBulkEntry x + uptoBulkEntries r
def uptoBulkEntry {H : Type} : Lit × DataW H → Nat
  | (.string bytes, d) => bytes.length + uptoBulk d + 1
  | (_, d) => uptoBulk d + 1
 end
def uptoSmall : (H : Type) → List (DataW H) → Bool := fun _ ds => decide (uptoBulkAll ds ≤ 1048576)
def OpenSpec.upto (s : _root_.Go.ChangeSpec) : _root_.Go.OpenSpec := { _root_.Go.OpenSpec.ofChange s with cond := some uptoSmall }

/-- 'fenestralaw13.GridTurns', WHERE WHAT IT READS IS OF BULK AT MOST 1048576: true; the input reads as it did. -/
def gridTurnsUptoRow : OpenClaim := { program := "ytefciljolljgmaadoor", sum := "68e4e1cec2dfe26eb7eb2101e3f9953065983537b830e7c3791fe63e90bf2ac0", func := "fenestra/fenestralaw13.GridTurns", spec := "gridTurns", unfollowed := true, recurses := true, named := ["fenestra/width.marks", "fenestra/width.wides"], apart := false, laid := [("fenestra/width.marks", laid_fenestra_width_marks), ("fenestra/width.wides", laid_fenestra_width_wides)], narrowed := true }
def GridTurnsUptoSaid : Prop := gridTurnsUptoRow.holds Tryd.pinned (OpenSpec.upto gridTurnsSpec)

/-- 'fenestralaw13.GridErases', WHERE WHAT IT READS IS OF BULK AT MOST 1048576: true; the input reads as it did. -/
def gridErasesUptoRow : OpenClaim := { program := "ytefciljolljgmaadoor", sum := "68e4e1cec2dfe26eb7eb2101e3f9953065983537b830e7c3791fe63e90bf2ac0", func := "fenestra/fenestralaw13.GridErases", spec := "gridErases", unfollowed := true, recurses := true, named := ["fenestra/width.marks", "fenestra/width.wides"], apart := false, laid := [("fenestra/width.marks", laid_fenestra_width_marks), ("fenestra/width.wides", laid_fenestra_width_wides)], narrowed := true }
def GridErasesUptoSaid : Prop := gridErasesUptoRow.holds Tryd.pinned (OpenSpec.upto gridErasesSpec)

/-- 'fenestralaw13.GridStays', WHERE WHAT IT READS IS OF BULK AT MOST 1048576: true; the input reads as it did. -/
def gridStaysUptoRow : OpenClaim := { program := "ytefciljolljgmaadoor", sum := "68e4e1cec2dfe26eb7eb2101e3f9953065983537b830e7c3791fe63e90bf2ac0", func := "fenestra/fenestralaw13.GridStays", spec := "gridStays", unfollowed := true, recurses := true, named := ["fenestra/width.marks", "fenestra/width.wides"], apart := false, laid := [("fenestra/width.marks", laid_fenestra_width_marks), ("fenestra/width.wides", laid_fenestra_width_wides)], narrowed := true }
def GridStaysUptoSaid : Prop := gridStaysUptoRow.holds Tryd.pinned (OpenSpec.upto gridStaysSpec)

/-- 'fenestralaw13.GridWhole', WHERE WHAT IT READS IS OF BULK AT MOST 1048576: true; the input reads as it did. -/
def gridWholeUptoRow : OpenClaim := { program := "ytefciljolljgmaadoor", sum := "68e4e1cec2dfe26eb7eb2101e3f9953065983537b830e7c3791fe63e90bf2ac0", func := "fenestra/fenestralaw13.GridWhole", spec := "gridWhole", unfollowed := true, recurses := true, named := ["fenestra/width.marks", "fenestra/width.wides"], apart := false, laid := [("fenestra/width.marks", laid_fenestra_width_marks), ("fenestra/width.wides", laid_fenestra_width_wides)], narrowed := true }
def GridWholeUptoSaid : Prop := gridWholeUptoRow.holds Tryd.pinned (OpenSpec.upto gridWholeSpec)

/-- 'fenestralaw13.GridMakes', WHERE WHAT IT READS IS OF BULK AT MOST 1048576: true; the input reads as it did. -/
def gridMakesUptoRow : OpenClaim := { program := "ytefciljolljgmaadoor", sum := "68e4e1cec2dfe26eb7eb2101e3f9953065983537b830e7c3791fe63e90bf2ac0", func := "fenestra/fenestralaw13.GridMakes", spec := "gridMakes", unfollowed := true, recurses := true, named := ["fenestra/width.marks", "fenestra/width.wides"], apart := false, laid := [("fenestra/width.marks", laid_fenestra_width_marks), ("fenestra/width.wides", laid_fenestra_width_wides)], narrowed := true }
def GridMakesUptoSaid : Prop := gridMakesUptoRow.holds Tryd.pinned (OpenSpec.upto gridMakesSpec)

/-- 'fenestralaw13.GridBack', WHERE WHAT IT READS IS OF BULK AT MOST 1048576: true; the input reads as it did. -/
def gridBackUptoRow : OpenClaim := { program := "ytefciljolljgmaadoor", sum := "68e4e1cec2dfe26eb7eb2101e3f9953065983537b830e7c3791fe63e90bf2ac0", func := "fenestra/fenestralaw13.GridBack", spec := "gridBack", unfollowed := true, recurses := true, named := ["fenestra/width.marks", "fenestra/width.wides"], apart := false, laid := [("fenestra/width.marks", laid_fenestra_width_marks), ("fenestra/width.wides", laid_fenestra_width_wides)], narrowed := true }
def GridBackUptoSaid : Prop := gridBackUptoRow.holds Tryd.pinned (OpenSpec.upto gridBackSpec)

/-- 'fenestralaw13.GridChecks', WHERE WHAT IT READS IS OF BULK AT MOST 1048576: true; the input reads as it did. -/
def gridChecksUptoRow : OpenClaim := { program := "ytefciljolljgmaadoor", sum := "68e4e1cec2dfe26eb7eb2101e3f9953065983537b830e7c3791fe63e90bf2ac0", func := "fenestra/fenestralaw13.GridChecks", spec := "gridChecks", unfollowed := true, recurses := true, named := ["fenestra/width.marks", "fenestra/width.wides"], apart := false, laid := [("fenestra/width.marks", laid_fenestra_width_marks), ("fenestra/width.wides", laid_fenestra_width_wides)], narrowed := true }
def GridChecksUptoSaid : Prop := gridChecksUptoRow.holds Tryd.pinned (OpenSpec.upto gridChecksSpec)

/-- 'fenestralaw13.GridKnown', WHERE WHAT IT READS IS OF BULK AT MOST 1048576: true; the input reads as it did. -/
def gridKnownUptoRow : OpenClaim := { program := "ytefciljolljgmaadoor", sum := "68e4e1cec2dfe26eb7eb2101e3f9953065983537b830e7c3791fe63e90bf2ac0", func := "fenestra/fenestralaw13.GridKnown", spec := "gridKnown", unfollowed := true, recurses := true, named := ["fenestra/width.marks", "fenestra/width.wides"], apart := false, laid := [("fenestra/width.marks", laid_fenestra_width_marks), ("fenestra/width.wides", laid_fenestra_width_wides)], narrowed := true }
def GridKnownUptoSaid : Prop := gridKnownUptoRow.holds Tryd.pinned (OpenSpec.upto gridKnownSpec)

end Rows
end Go.Proofs.YtefciljolljgmaaDoor
