/-
  NARROWER THAN 'FOR EVERY INPUT', by the rows' own cells (each row's printed sentence says how): RowPuts: laid · RowMarks: laid · RowErases: laid · RowShifts: laid · RowStays: laid · RowShown: laid · RowBack: laid · RowKnown: laid · RowChecks: laid · RowMakes: laid.
  DERIVED. THE GIVEN ROWS OF THIS SEAT. 10 by the template 'for every input the law returns true; each argument reads behind the call as it read before'; 0 by the template 'total and deterministic' (their statements: YtcjkcoekjfbcgaaDoorTotals.lean).
  GIVEN WITH THE SEED: the statements are not yours to turn. If you find one false, say at which input.
  Laid BY PROGRAM, IN A SANDBOX (cutbox-rows.mjs): the forced cells as the released guide's own fill.sh prints them over the translation 6b9ea5cd915fbc6f… (all of the seat's roots in one cut). By AI agents, Wed Nov 11 2026. No macro, syntax, notation, axiom, sorry.
-/
import Derived.Test.YtcjkcoekjfbcgaaDoorChecked
import GoSem.Claim
import GoSem.ClaimJoined
import GoSem.ClaimMapViews
import Derived.JoinedTies
import Derived.KernelRfl
namespace Go.Proofs.YtcjkcoekjfbcgaaDoor
/- THE CELL 'sum', in the pinned program and in every row, IS THE sha256 OF THE DUMP (.gsa) THAT YtcjkcoekjfbcgaaDoorProg.lean LOADS. Nothing in Lean hashes anything: it is a label: what it is worth is what the hold of that sum in a sandbox is worth. -/
noncomputable def Tryd.pinned : Pinned := { name := "ytcjkcoekjfbcgaadoor", sum := "6b9ea5cd915fbc6f1d98e0f14ab3b6d339627107e5787c78e6e8d8910b745ba3", checked := Tryd.checked }
namespace Rows
def none {H : Type} : Left H := { results := [], args := [] }

/- WHAT THE LISTED PACKAGE-LEVEL VARIABLES READ AS WHEN THE CALL BEGINS. Each datum BY PROGRAM (the guide's laid-datum.mjs) off the statement by which the dump's own 'gosem.cut.vars' lays the variable. In a bare row this is a premise. The card (YtcjkcoekjfbcgaaDoorCards.lean) ties it to the program's text. -/
def laid_fenestra_width_marks {H : Type} : DataW H := .agg [.agg [.lit (.int .i64 768), .lit (.int .i64 879)], .agg [.lit (.int .i64 1155), .lit (.int .i64 1161)], .agg [.lit (.int .i64 1425), .lit (.int .i64 1469)], .agg [.lit (.int .i64 1552), .lit (.int .i64 1562)], .agg [.lit (.int .i64 1611), .lit (.int .i64 1631)], .agg [.lit (.int .i64 6832), .lit (.int .i64 6911)], .agg [.lit (.int .i64 7616), .lit (.int .i64 7679)], .agg [.lit (.int .i64 8203), .lit (.int .i64 8207)], .agg [.lit (.int .i64 8400), .lit (.int .i64 8447)], .agg [.lit (.int .i64 65024), .lit (.int .i64 65039)], .agg [.lit (.int .i64 65056), .lit (.int .i64 65071)]]
def laid_fenestra_width_wides {H : Type} : DataW H := .agg [.agg [.lit (.int .i64 4352), .lit (.int .i64 4447)], .agg [.lit (.int .i64 11904), .lit (.int .i64 12350)], .agg [.lit (.int .i64 12353), .lit (.int .i64 19903)], .agg [.lit (.int .i64 19968), .lit (.int .i64 42191)], .agg [.lit (.int .i64 44032), .lit (.int .i64 55203)], .agg [.lit (.int .i64 63744), .lit (.int .i64 64255)], .agg [.lit (.int .i64 65072), .lit (.int .i64 65135)], .agg [.lit (.int .i64 65280), .lit (.int .i64 65376)], .agg [.lit (.int .i64 65504), .lit (.int .i64 65510)], .agg [.lit (.int .i64 127744), .lit (.int .i64 128591)], .agg [.lit (.int .i64 128640), .lit (.int .i64 128767)], .agg [.lit (.int .i64 129280), .lit (.int .i64 129535)], .agg [.lit (.int .i64 131072), .lit (.int .i64 262141)]]

/-- 'fenestralaw12.RowPuts': WHATEVER THE INPUT: true; the input reads as it did. -/
def rowPutsSpec : ChangeSpec := { name := "rowPuts", fn := fun _ => fun
  | [d1, d2, d3, d4, d5] => { results := [.lit (.bool true)], args := [d1, d2, d3, d4, d5] }
  | _ => none }
def rowPutsRow : OpenClaim := { program := "ytcjkcoekjfbcgaadoor", sum := "6b9ea5cd915fbc6f1d98e0f14ab3b6d339627107e5787c78e6e8d8910b745ba3", func := "fenestra/fenestralaw12.RowPuts", spec := "rowPuts", unfollowed := true, recurses := true, named := ["fenestra/width.marks", "fenestra/width.wides"], apart := false, laid := [("fenestra/width.marks", laid_fenestra_width_marks), ("fenestra/width.wides", laid_fenestra_width_wides)] }
def RowPutsSaid : Prop := rowPutsRow.holds Tryd.pinned (OpenSpec.ofChange rowPutsSpec)

/-- ITS FALSE NEIGHBOUR: 'it returns false'. Refute it at one input. -/
def rowPutsWrong : ChangeSpec := { name := "rowPuts", fn := fun _ => fun
  | [d1, d2, d3, d4, d5] => { results := [.lit (.bool false)], args := [d1, d2, d3, d4, d5] }
  | _ => none }
def RowPutsWrongFalsely : Prop := rowPutsRow.holds Tryd.pinned (OpenSpec.ofChange rowPutsWrong)

/-- 'fenestralaw12.RowMarks': WHATEVER THE INPUT: true; the input reads as it did. -/
def rowMarksSpec : ChangeSpec := { name := "rowMarks", fn := fun _ => fun
  | [d1, d2, d3, d4] => { results := [.lit (.bool true)], args := [d1, d2, d3, d4] }
  | _ => none }
def rowMarksRow : OpenClaim := { program := "ytcjkcoekjfbcgaadoor", sum := "6b9ea5cd915fbc6f1d98e0f14ab3b6d339627107e5787c78e6e8d8910b745ba3", func := "fenestra/fenestralaw12.RowMarks", spec := "rowMarks", unfollowed := true, recurses := true, named := ["fenestra/width.marks", "fenestra/width.wides"], apart := false, laid := [("fenestra/width.marks", laid_fenestra_width_marks), ("fenestra/width.wides", laid_fenestra_width_wides)] }
def RowMarksSaid : Prop := rowMarksRow.holds Tryd.pinned (OpenSpec.ofChange rowMarksSpec)

/-- ITS FALSE NEIGHBOUR: 'it returns false'. Refute it at one input. -/
def rowMarksWrong : ChangeSpec := { name := "rowMarks", fn := fun _ => fun
  | [d1, d2, d3, d4] => { results := [.lit (.bool false)], args := [d1, d2, d3, d4] }
  | _ => none }
def RowMarksWrongFalsely : Prop := rowMarksRow.holds Tryd.pinned (OpenSpec.ofChange rowMarksWrong)

/-- 'fenestralaw12.RowErases': WHATEVER THE INPUT: true; the input reads as it did. -/
def rowErasesSpec : ChangeSpec := { name := "rowErases", fn := fun _ => fun
  | [d1, d2, d3, d4, d5] => { results := [.lit (.bool true)], args := [d1, d2, d3, d4, d5] }
  | _ => none }
def rowErasesRow : OpenClaim := { program := "ytcjkcoekjfbcgaadoor", sum := "6b9ea5cd915fbc6f1d98e0f14ab3b6d339627107e5787c78e6e8d8910b745ba3", func := "fenestra/fenestralaw12.RowErases", spec := "rowErases", unfollowed := true, recurses := true, named := ["fenestra/width.marks", "fenestra/width.wides"], apart := false, laid := [("fenestra/width.marks", laid_fenestra_width_marks), ("fenestra/width.wides", laid_fenestra_width_wides)] }
def RowErasesSaid : Prop := rowErasesRow.holds Tryd.pinned (OpenSpec.ofChange rowErasesSpec)

/-- ITS FALSE NEIGHBOUR: 'it returns false'. Refute it at one input. -/
def rowErasesWrong : ChangeSpec := { name := "rowErases", fn := fun _ => fun
  | [d1, d2, d3, d4, d5] => { results := [.lit (.bool false)], args := [d1, d2, d3, d4, d5] }
  | _ => none }
def RowErasesWrongFalsely : Prop := rowErasesRow.holds Tryd.pinned (OpenSpec.ofChange rowErasesWrong)

/-- 'fenestralaw12.RowShifts': WHATEVER THE INPUT: true; the input reads as it did. -/
def rowShiftsSpec : ChangeSpec := { name := "rowShifts", fn := fun _ => fun
  | [d1, d2, d3, d4, d5] => { results := [.lit (.bool true)], args := [d1, d2, d3, d4, d5] }
  | _ => none }
def rowShiftsRow : OpenClaim := { program := "ytcjkcoekjfbcgaadoor", sum := "6b9ea5cd915fbc6f1d98e0f14ab3b6d339627107e5787c78e6e8d8910b745ba3", func := "fenestra/fenestralaw12.RowShifts", spec := "rowShifts", unfollowed := true, recurses := true, named := ["fenestra/width.marks", "fenestra/width.wides"], apart := false, laid := [("fenestra/width.marks", laid_fenestra_width_marks), ("fenestra/width.wides", laid_fenestra_width_wides)] }
def RowShiftsSaid : Prop := rowShiftsRow.holds Tryd.pinned (OpenSpec.ofChange rowShiftsSpec)

/-- ITS FALSE NEIGHBOUR: 'it returns false'. Refute it at one input. -/
def rowShiftsWrong : ChangeSpec := { name := "rowShifts", fn := fun _ => fun
  | [d1, d2, d3, d4, d5] => { results := [.lit (.bool false)], args := [d1, d2, d3, d4, d5] }
  | _ => none }
def RowShiftsWrongFalsely : Prop := rowShiftsRow.holds Tryd.pinned (OpenSpec.ofChange rowShiftsWrong)

/-- 'fenestralaw12.RowStays': WHATEVER THE INPUT: true; the input reads as it did. -/
def rowStaysSpec : ChangeSpec := { name := "rowStays", fn := fun _ => fun
  | [d1, d2] => { results := [.lit (.bool true)], args := [d1, d2] }
  | _ => none }
def rowStaysRow : OpenClaim := { program := "ytcjkcoekjfbcgaadoor", sum := "6b9ea5cd915fbc6f1d98e0f14ab3b6d339627107e5787c78e6e8d8910b745ba3", func := "fenestra/fenestralaw12.RowStays", spec := "rowStays", unfollowed := true, recurses := true, named := ["fenestra/width.marks", "fenestra/width.wides"], apart := false, laid := [("fenestra/width.marks", laid_fenestra_width_marks), ("fenestra/width.wides", laid_fenestra_width_wides)] }
def RowStaysSaid : Prop := rowStaysRow.holds Tryd.pinned (OpenSpec.ofChange rowStaysSpec)

/-- ITS FALSE NEIGHBOUR: 'it returns false'. Refute it at one input. -/
def rowStaysWrong : ChangeSpec := { name := "rowStays", fn := fun _ => fun
  | [d1, d2] => { results := [.lit (.bool false)], args := [d1, d2] }
  | _ => none }
def RowStaysWrongFalsely : Prop := rowStaysRow.holds Tryd.pinned (OpenSpec.ofChange rowStaysWrong)

/-- 'fenestralaw12.RowShown': WHATEVER THE INPUT: true; the input reads as it did. -/
def rowShownSpec : ChangeSpec := { name := "rowShown", fn := fun _ => fun
  | [d1, d2, d3] => { results := [.lit (.bool true)], args := [d1, d2, d3] }
  | _ => none }
def rowShownRow : OpenClaim := { program := "ytcjkcoekjfbcgaadoor", sum := "6b9ea5cd915fbc6f1d98e0f14ab3b6d339627107e5787c78e6e8d8910b745ba3", func := "fenestra/fenestralaw12.RowShown", spec := "rowShown", unfollowed := true, recurses := true, named := ["fenestra/width.marks", "fenestra/width.wides"], apart := false, laid := [("fenestra/width.marks", laid_fenestra_width_marks), ("fenestra/width.wides", laid_fenestra_width_wides)] }
def RowShownSaid : Prop := rowShownRow.holds Tryd.pinned (OpenSpec.ofChange rowShownSpec)

/-- ITS FALSE NEIGHBOUR: 'it returns false'. Refute it at one input. -/
def rowShownWrong : ChangeSpec := { name := "rowShown", fn := fun _ => fun
  | [d1, d2, d3] => { results := [.lit (.bool false)], args := [d1, d2, d3] }
  | _ => none }
def RowShownWrongFalsely : Prop := rowShownRow.holds Tryd.pinned (OpenSpec.ofChange rowShownWrong)

/-- 'fenestralaw12.RowBack': WHATEVER THE INPUT: true; the input reads as it did. -/
def rowBackSpec : ChangeSpec := { name := "rowBack", fn := fun _ => fun
  | [d1, d2, d3] => { results := [.lit (.bool true)], args := [d1, d2, d3] }
  | _ => none }
def rowBackRow : OpenClaim := { program := "ytcjkcoekjfbcgaadoor", sum := "6b9ea5cd915fbc6f1d98e0f14ab3b6d339627107e5787c78e6e8d8910b745ba3", func := "fenestra/fenestralaw12.RowBack", spec := "rowBack", unfollowed := true, recurses := true, named := ["fenestra/width.marks", "fenestra/width.wides"], apart := false, laid := [("fenestra/width.marks", laid_fenestra_width_marks), ("fenestra/width.wides", laid_fenestra_width_wides)] }
def RowBackSaid : Prop := rowBackRow.holds Tryd.pinned (OpenSpec.ofChange rowBackSpec)

/-- ITS FALSE NEIGHBOUR: 'it returns false'. Refute it at one input. -/
def rowBackWrong : ChangeSpec := { name := "rowBack", fn := fun _ => fun
  | [d1, d2, d3] => { results := [.lit (.bool false)], args := [d1, d2, d3] }
  | _ => none }
def RowBackWrongFalsely : Prop := rowBackRow.holds Tryd.pinned (OpenSpec.ofChange rowBackWrong)

/-- 'fenestralaw12.RowKnown': WHATEVER THE INPUT: true; the input reads as it did. -/
def rowKnownSpec : ChangeSpec := { name := "rowKnown", fn := fun _ => fun
  | [] => { results := [.lit (.bool true)], args := [] }
  | _ => none }
def rowKnownRow : OpenClaim := { program := "ytcjkcoekjfbcgaadoor", sum := "6b9ea5cd915fbc6f1d98e0f14ab3b6d339627107e5787c78e6e8d8910b745ba3", func := "fenestra/fenestralaw12.RowKnown", spec := "rowKnown", unfollowed := true, recurses := true, named := ["fenestra/width.marks", "fenestra/width.wides"], apart := false, laid := [("fenestra/width.marks", laid_fenestra_width_marks), ("fenestra/width.wides", laid_fenestra_width_wides)] }
def RowKnownSaid : Prop := rowKnownRow.holds Tryd.pinned (OpenSpec.ofChange rowKnownSpec)

/-- ITS FALSE NEIGHBOUR: 'it returns false'. Refute it at one input. -/
def rowKnownWrong : ChangeSpec := { name := "rowKnown", fn := fun _ => fun
  | [] => { results := [.lit (.bool false)], args := [] }
  | _ => none }
def RowKnownWrongFalsely : Prop := rowKnownRow.holds Tryd.pinned (OpenSpec.ofChange rowKnownWrong)

/-- 'fenestralaw12.RowChecks': WHATEVER THE INPUT: true; the input reads as it did. -/
def rowChecksSpec : ChangeSpec := { name := "rowChecks", fn := fun _ => fun
  | [d1, d2, d3, d4] => { results := [.lit (.bool true)], args := [d1, d2, d3, d4] }
  | _ => none }
def rowChecksRow : OpenClaim := { program := "ytcjkcoekjfbcgaadoor", sum := "6b9ea5cd915fbc6f1d98e0f14ab3b6d339627107e5787c78e6e8d8910b745ba3", func := "fenestra/fenestralaw12.RowChecks", spec := "rowChecks", unfollowed := true, recurses := true, named := ["fenestra/width.marks", "fenestra/width.wides"], apart := false, laid := [("fenestra/width.marks", laid_fenestra_width_marks), ("fenestra/width.wides", laid_fenestra_width_wides)] }
def RowChecksSaid : Prop := rowChecksRow.holds Tryd.pinned (OpenSpec.ofChange rowChecksSpec)

/-- ITS FALSE NEIGHBOUR: 'it returns false'. Refute it at one input. -/
def rowChecksWrong : ChangeSpec := { name := "rowChecks", fn := fun _ => fun
  | [d1, d2, d3, d4] => { results := [.lit (.bool false)], args := [d1, d2, d3, d4] }
  | _ => none }
def RowChecksWrongFalsely : Prop := rowChecksRow.holds Tryd.pinned (OpenSpec.ofChange rowChecksWrong)

/-- 'fenestralaw12.RowMakes': WHATEVER THE INPUT: true; the input reads as it did. -/
def rowMakesSpec : ChangeSpec := { name := "rowMakes", fn := fun _ => fun
  | [d1, d2, d3] => { results := [.lit (.bool true)], args := [d1, d2, d3] }
  | _ => none }
def rowMakesRow : OpenClaim := { program := "ytcjkcoekjfbcgaadoor", sum := "6b9ea5cd915fbc6f1d98e0f14ab3b6d339627107e5787c78e6e8d8910b745ba3", func := "fenestra/fenestralaw12.RowMakes", spec := "rowMakes", unfollowed := true, recurses := true, named := ["fenestra/width.marks", "fenestra/width.wides"], apart := false, laid := [("fenestra/width.marks", laid_fenestra_width_marks), ("fenestra/width.wides", laid_fenestra_width_wides)] }
def RowMakesSaid : Prop := rowMakesRow.holds Tryd.pinned (OpenSpec.ofChange rowMakesSpec)

/-- ITS FALSE NEIGHBOUR: 'it returns false'. Refute it at one input. -/
def rowMakesWrong : ChangeSpec := { name := "rowMakes", fn := fun _ => fun
  | [d1, d2, d3] => { results := [.lit (.bool false)], args := [d1, d2, d3] }
  | _ => none }
def RowMakesWrongFalsely : Prop := rowMakesRow.holds Tryd.pinned (OpenSpec.ofChange rowMakesWrong)

/- THE SECOND FORM. 'bulk': how many values and letters a reading holds, each counted each time it is reached (what is shared counts as often as it is met; a slice's spare places count too). A statement '..UptoSaid' is the law's where the arguments, and the package variables that the reading takes, are together of bulk at most 1048576: NARROWER than '..Said'. Prove '..Said' where nothing that the law and all that it calls make is longer than what came in: it says more and counts as full. Else prove '..UptoSaid'. A law counts once. -/
mutual
def uptoBulk {H : Type} : DataW H → Nat
  | .lit (.string bytes) => bytes.length + 1
  | .lit _ => 1
  | .nil => 1
  | .ptr d => uptoBulk d + 1
  | .slice elems spare => uptoBulkAll elems + uptoBulkAll spare + 1
  | .agg parts => uptoBulkAll parts + 1
  | .iface _ d => uptoBulk d + 1
  | .map entries => uptoBulkEntries entries + 1
  | .held _ => 1
def uptoBulkAll {H : Type} : List (DataW H) → Nat
  | [] => 0
  | d :: r => uptoBulk d + uptoBulkAll r
def uptoBulkEntries {H : Type} : List (Lit × DataW H) → Nat
  | [] => 0
  | x :: r => uptoBulkEntry x + uptoBulkEntries r
def uptoBulkEntry {H : Type} : Lit × DataW H → Nat
  | (.string bytes, d) => bytes.length + uptoBulk d + 1
  | (_, d) => uptoBulk d + 1
 end
def uptoSmall : (H : Type) → List (DataW H) → Bool := fun _ ds => decide (uptoBulkAll ds ≤ 1048576)
def OpenSpec.upto (s : _root_.Go.ChangeSpec) : _root_.Go.OpenSpec := { _root_.Go.OpenSpec.ofChange s with cond := some uptoSmall }

/-- 'fenestralaw12.RowPuts', WHERE WHAT IT READS IS OF BULK AT MOST 1048576: true; the input reads as it did. -/
def rowPutsUptoRow : OpenClaim := { program := "ytcjkcoekjfbcgaadoor", sum := "6b9ea5cd915fbc6f1d98e0f14ab3b6d339627107e5787c78e6e8d8910b745ba3", func := "fenestra/fenestralaw12.RowPuts", spec := "rowPuts", unfollowed := true, recurses := true, named := ["fenestra/width.marks", "fenestra/width.wides"], apart := false, laid := [("fenestra/width.marks", laid_fenestra_width_marks), ("fenestra/width.wides", laid_fenestra_width_wides)], narrowed := true }
def RowPutsUptoSaid : Prop := rowPutsUptoRow.holds Tryd.pinned (OpenSpec.upto rowPutsSpec)

/-- 'fenestralaw12.RowMarks', WHERE WHAT IT READS IS OF BULK AT MOST 1048576: true; the input reads as it did. -/
def rowMarksUptoRow : OpenClaim := { program := "ytcjkcoekjfbcgaadoor", sum := "6b9ea5cd915fbc6f1d98e0f14ab3b6d339627107e5787c78e6e8d8910b745ba3", func := "fenestra/fenestralaw12.RowMarks", spec := "rowMarks", unfollowed := true, recurses := true, named := ["fenestra/width.marks", "fenestra/width.wides"], apart := false, laid := [("fenestra/width.marks", laid_fenestra_width_marks), ("fenestra/width.wides", laid_fenestra_width_wides)], narrowed := true }
def RowMarksUptoSaid : Prop := rowMarksUptoRow.holds Tryd.pinned (OpenSpec.upto rowMarksSpec)

/-- 'fenestralaw12.RowErases', WHERE WHAT IT READS IS OF BULK AT MOST 1048576: true; the input reads as it did. -/
def rowErasesUptoRow : OpenClaim := { program := "ytcjkcoekjfbcgaadoor", sum := "6b9ea5cd915fbc6f1d98e0f14ab3b6d339627107e5787c78e6e8d8910b745ba3", func := "fenestra/fenestralaw12.RowErases", spec := "rowErases", unfollowed := true, recurses := true, named := ["fenestra/width.marks", "fenestra/width.wides"], apart := false, laid := [("fenestra/width.marks", laid_fenestra_width_marks), ("fenestra/width.wides", laid_fenestra_width_wides)], narrowed := true }
def RowErasesUptoSaid : Prop := rowErasesUptoRow.holds Tryd.pinned (OpenSpec.upto rowErasesSpec)

/-- 'fenestralaw12.RowShifts', WHERE WHAT IT READS IS OF BULK AT MOST 1048576: true; the input reads as it did. -/
def rowShiftsUptoRow : OpenClaim := { program := "ytcjkcoekjfbcgaadoor", sum := "6b9ea5cd915fbc6f1d98e0f14ab3b6d339627107e5787c78e6e8d8910b745ba3", func := "fenestra/fenestralaw12.RowShifts", spec := "rowShifts", unfollowed := true, recurses := true, named := ["fenestra/width.marks", "fenestra/width.wides"], apart := false, laid := [("fenestra/width.marks", laid_fenestra_width_marks), ("fenestra/width.wides", laid_fenestra_width_wides)], narrowed := true }
def RowShiftsUptoSaid : Prop := rowShiftsUptoRow.holds Tryd.pinned (OpenSpec.upto rowShiftsSpec)

/-- 'fenestralaw12.RowStays', WHERE WHAT IT READS IS OF BULK AT MOST 1048576: true; the input reads as it did. -/
def rowStaysUptoRow : OpenClaim := { program := "ytcjkcoekjfbcgaadoor", sum := "6b9ea5cd915fbc6f1d98e0f14ab3b6d339627107e5787c78e6e8d8910b745ba3", func := "fenestra/fenestralaw12.RowStays", spec := "rowStays", unfollowed := true, recurses := true, named := ["fenestra/width.marks", "fenestra/width.wides"], apart := false, laid := [("fenestra/width.marks", laid_fenestra_width_marks), ("fenestra/width.wides", laid_fenestra_width_wides)], narrowed := true }
def RowStaysUptoSaid : Prop := rowStaysUptoRow.holds Tryd.pinned (OpenSpec.upto rowStaysSpec)

/-- 'fenestralaw12.RowShown', WHERE WHAT IT READS IS OF BULK AT MOST 1048576: true; the input reads as it did. -/
def rowShownUptoRow : OpenClaim := { program := "ytcjkcoekjfbcgaadoor", sum := "6b9ea5cd915fbc6f1d98e0f14ab3b6d339627107e5787c78e6e8d8910b745ba3", func := "fenestra/fenestralaw12.RowShown", spec := "rowShown", unfollowed := true, recurses := true, named := ["fenestra/width.marks", "fenestra/width.wides"], apart := false, laid := [("fenestra/width.marks", laid_fenestra_width_marks), ("fenestra/width.wides", laid_fenestra_width_wides)], narrowed := true }
def RowShownUptoSaid : Prop := rowShownUptoRow.holds Tryd.pinned (OpenSpec.upto rowShownSpec)

/-- 'fenestralaw12.RowBack', WHERE WHAT IT READS IS OF BULK AT MOST 1048576: true; the input reads as it did. -/
def rowBackUptoRow : OpenClaim := { program := "ytcjkcoekjfbcgaadoor", sum := "6b9ea5cd915fbc6f1d98e0f14ab3b6d339627107e5787c78e6e8d8910b745ba3", func := "fenestra/fenestralaw12.RowBack", spec := "rowBack", unfollowed := true, recurses := true, named := ["fenestra/width.marks", "fenestra/width.wides"], apart := false, laid := [("fenestra/width.marks", laid_fenestra_width_marks), ("fenestra/width.wides", laid_fenestra_width_wides)], narrowed := true }
def RowBackUptoSaid : Prop := rowBackUptoRow.holds Tryd.pinned (OpenSpec.upto rowBackSpec)

/-- 'fenestralaw12.RowKnown', WHERE WHAT IT READS IS OF BULK AT MOST 1048576: true; the input reads as it did. -/
def rowKnownUptoRow : OpenClaim := { program := "ytcjkcoekjfbcgaadoor", sum := "6b9ea5cd915fbc6f1d98e0f14ab3b6d339627107e5787c78e6e8d8910b745ba3", func := "fenestra/fenestralaw12.RowKnown", spec := "rowKnown", unfollowed := true, recurses := true, named := ["fenestra/width.marks", "fenestra/width.wides"], apart := false, laid := [("fenestra/width.marks", laid_fenestra_width_marks), ("fenestra/width.wides", laid_fenestra_width_wides)], narrowed := true }
def RowKnownUptoSaid : Prop := rowKnownUptoRow.holds Tryd.pinned (OpenSpec.upto rowKnownSpec)

/-- 'fenestralaw12.RowChecks', WHERE WHAT IT READS IS OF BULK AT MOST 1048576: true; the input reads as it did. -/
def rowChecksUptoRow : OpenClaim := { program := "ytcjkcoekjfbcgaadoor", sum := "6b9ea5cd915fbc6f1d98e0f14ab3b6d339627107e5787c78e6e8d8910b745ba3", func := "fenestra/fenestralaw12.RowChecks", spec := "rowChecks", unfollowed := true, recurses := true, named := ["fenestra/width.marks", "fenestra/width.wides"], apart := false, laid := [("fenestra/width.marks", laid_fenestra_width_marks), ("fenestra/width.wides", laid_fenestra_width_wides)], narrowed := true }
def RowChecksUptoSaid : Prop := rowChecksUptoRow.holds Tryd.pinned (OpenSpec.upto rowChecksSpec)

/-- 'fenestralaw12.RowMakes', WHERE WHAT IT READS IS OF BULK AT MOST 1048576: true; the input reads as it did. -/
def rowMakesUptoRow : OpenClaim := { program := "ytcjkcoekjfbcgaadoor", sum := "6b9ea5cd915fbc6f1d98e0f14ab3b6d339627107e5787c78e6e8d8910b745ba3", func := "fenestra/fenestralaw12.RowMakes", spec := "rowMakes", unfollowed := true, recurses := true, named := ["fenestra/width.marks", "fenestra/width.wides"], apart := false, laid := [("fenestra/width.marks", laid_fenestra_width_marks), ("fenestra/width.wides", laid_fenestra_width_wides)], narrowed := true }
def RowMakesUptoSaid : Prop := rowMakesUptoRow.holds Tryd.pinned (OpenSpec.upto rowMakesSpec)

end Rows
end Go.Proofs.YtcjkcoekjfbcgaaDoor
