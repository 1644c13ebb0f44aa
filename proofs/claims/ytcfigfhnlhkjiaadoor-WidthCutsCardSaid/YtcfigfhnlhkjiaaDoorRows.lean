/-
  NARROWER THAN 'FOR EVERY INPUT', by the rows' own cells (each row's printed sentence says how): WidthTells: laid · WidthCuts: laid · WidthCut: laid · WidthSums: laid · WidthKnown: laid.
  DERIVED. THE GIVEN ROWS OF THIS SEAT. 5 by the template 'for every input the law returns true; each argument reads behind the call as it read before'; 0 by the template 'total and deterministic' (their statements: YtcfigfhnlhkjiaaDoorTotals.lean).
  GIVEN WITH THE SEED: the statements are not yours to turn. If you find one false, say at which input.
  Laid BY PROGRAM, IN A SANDBOX (cutbox-rows.mjs): the forced cells as the released guide's own fill.sh prints them over the translation 04bc4fd24fd2ae08… (all of the seat's roots in one cut). By AI agents, Wed Nov 11 2026. No macro, syntax, notation, axiom, sorry.
-/
import Derived.Test.YtcfigfhnlhkjiaaDoorChecked
import GoSem.Claim
import GoSem.ClaimJoined
import GoSem.ClaimMapViews
import Derived.JoinedTies
import Derived.KernelRfl
namespace Go.Proofs.YtcfigfhnlhkjiaaDoor
/- THE CELL 'sum', in the pinned program and in every row, IS THE sha256 OF THE DUMP (.gsa) THAT YtcfigfhnlhkjiaaDoorProg.lean LOADS. Nothing in Lean hashes anything: it is a label: what it is worth is what the hold of that sum in a sandbox is worth. -/
noncomputable def Tryd.pinned : Pinned := { name := "ytcfigfhnlhkjiaadoor", sum := "04bc4fd24fd2ae08ded7ab849474fe259afa6b81119dee5dbffcf35e6b543699", checked := Tryd.checked }
namespace Rows
def none {H : Type} : Left H := { results := [], args := [] }

/- WHAT THE LISTED PACKAGE-LEVEL VARIABLES READ AS WHEN THE CALL BEGINS. Each datum BY PROGRAM (the guide's laid-datum.mjs) off the statement by which the dump's own 'gosem.cut.vars' lays the variable. In a bare row this is a premise. The card (YtcfigfhnlhkjiaaDoorCards.lean) ties it to the program's text. -/
def laid_fenestra_width_marks {H : Type} : DataW H := .agg [.agg [.lit (.int .i64 768), .lit (.int .i64 879)], .agg [.lit (.int .i64 1155), .lit (.int .i64 1161)], .agg [.lit (.int .i64 1425), .lit (.int .i64 1469)], .agg [.lit (.int .i64 1552), .lit (.int .i64 1562)], .agg [.lit (.int .i64 1611), .lit (.int .i64 1631)], .agg [.lit (.int .i64 6832), .lit (.int .i64 6911)], .agg [.lit (.int .i64 7616), .lit (.int .i64 7679)], .agg [.lit (.int .i64 8203), .lit (.int .i64 8207)], .agg [.lit (.int .i64 8400), .lit (.int .i64 8447)], .agg [.lit (.int .i64 65024), .lit (.int .i64 65039)], .agg [.lit (.int .i64 65056), .lit (.int .i64 65071)]]
def laid_fenestra_width_wides {H : Type} : DataW H := .agg [.agg [.lit (.int .i64 4352), .lit (.int .i64 4447)], .agg [.lit (.int .i64 11904), .lit (.int .i64 12350)], .agg [.lit (.int .i64 12353), .lit (.int .i64 19903)], .agg [.lit (.int .i64 19968), .lit (.int .i64 42191)], .agg [.lit (.int .i64 44032), .lit (.int .i64 55203)], .agg [.lit (.int .i64 63744), .lit (.int .i64 64255)], .agg [.lit (.int .i64 65072), .lit (.int .i64 65135)], .agg [.lit (.int .i64 65280), .lit (.int .i64 65376)], .agg [.lit (.int .i64 65504), .lit (.int .i64 65510)], .agg [.lit (.int .i64 127744), .lit (.int .i64 128591)], .agg [.lit (.int .i64 128640), .lit (.int .i64 128767)], .agg [.lit (.int .i64 129280), .lit (.int .i64 129535)], .agg [.lit (.int .i64 131072), .lit (.int .i64 262141)]]

/-- 'fenestralaw02.WidthTells': WHATEVER THE INPUT: true; the input reads as it did. -/
def widthTellsSpec : ChangeSpec := { name := "widthTells", fn := fun _ => fun
  | [d] => { results := [.lit (.bool true)], args := [d] }
  | _ => none }
def widthTellsRow : OpenClaim := { program := "ytcfigfhnlhkjiaadoor", sum := "04bc4fd24fd2ae08ded7ab849474fe259afa6b81119dee5dbffcf35e6b543699", func := "fenestra/fenestralaw02.WidthTells", spec := "widthTells", inPlace := ["internal/abi.NoEscape"], unfollowed := true, recurses := true, named := ["fenestra/width.marks", "fenestra/width.wides"], apart := false, laid := [("fenestra/width.marks", laid_fenestra_width_marks), ("fenestra/width.wides", laid_fenestra_width_wides)] }
def WidthTellsSaid : Prop := widthTellsRow.holds Tryd.pinned (OpenSpec.ofChange widthTellsSpec)

/-- ITS FALSE NEIGHBOUR: 'it returns false'. Refute it at one input. -/
def widthTellsWrong : ChangeSpec := { name := "widthTells", fn := fun _ => fun
  | [d] => { results := [.lit (.bool false)], args := [d] }
  | _ => none }
def WidthTellsWrongFalsely : Prop := widthTellsRow.holds Tryd.pinned (OpenSpec.ofChange widthTellsWrong)

/-- 'fenestralaw02.WidthCuts': WHATEVER THE INPUT: true; the input reads as it did. -/
def widthCutsSpec : ChangeSpec := { name := "widthCuts", fn := fun _ => fun
  | [d1, d2] => { results := [.lit (.bool true)], args := [d1, d2] }
  | _ => none }
def widthCutsRow : OpenClaim := { program := "ytcfigfhnlhkjiaadoor", sum := "04bc4fd24fd2ae08ded7ab849474fe259afa6b81119dee5dbffcf35e6b543699", func := "fenestra/fenestralaw02.WidthCuts", spec := "widthCuts", inPlace := ["internal/abi.NoEscape"], unfollowed := true, recurses := true, named := ["fenestra/width.marks", "fenestra/width.wides"], apart := false, laid := [("fenestra/width.marks", laid_fenestra_width_marks), ("fenestra/width.wides", laid_fenestra_width_wides)] }
def WidthCutsSaid : Prop := widthCutsRow.holds Tryd.pinned (OpenSpec.ofChange widthCutsSpec)

/-- ITS FALSE NEIGHBOUR: 'it returns false'. Refute it at one input. -/
def widthCutsWrong : ChangeSpec := { name := "widthCuts", fn := fun _ => fun
  | [d1, d2] => { results := [.lit (.bool false)], args := [d1, d2] }
  | _ => none }
def WidthCutsWrongFalsely : Prop := widthCutsRow.holds Tryd.pinned (OpenSpec.ofChange widthCutsWrong)

/-- 'fenestralaw02.WidthCut': WHATEVER THE INPUT: true; the input reads as it did. -/
def widthCutSpec : ChangeSpec := { name := "widthCut", fn := fun _ => fun
  | [d1, d2] => { results := [.lit (.bool true)], args := [d1, d2] }
  | _ => none }
def widthCutRow : OpenClaim := { program := "ytcfigfhnlhkjiaadoor", sum := "04bc4fd24fd2ae08ded7ab849474fe259afa6b81119dee5dbffcf35e6b543699", func := "fenestra/fenestralaw02.WidthCut", spec := "widthCut", inPlace := ["internal/abi.NoEscape"], unfollowed := true, recurses := true, named := ["fenestra/width.marks", "fenestra/width.wides"], apart := false, laid := [("fenestra/width.marks", laid_fenestra_width_marks), ("fenestra/width.wides", laid_fenestra_width_wides)] }
def WidthCutSaid : Prop := widthCutRow.holds Tryd.pinned (OpenSpec.ofChange widthCutSpec)

/-- ITS FALSE NEIGHBOUR: 'it returns false'. Refute it at one input. -/
def widthCutWrong : ChangeSpec := { name := "widthCut", fn := fun _ => fun
  | [d1, d2] => { results := [.lit (.bool false)], args := [d1, d2] }
  | _ => none }
def WidthCutWrongFalsely : Prop := widthCutRow.holds Tryd.pinned (OpenSpec.ofChange widthCutWrong)

/-- 'fenestralaw02.WidthSums': WHATEVER THE INPUT: true; the input reads as it did. -/
def widthSumsSpec : ChangeSpec := { name := "widthSums", fn := fun _ => fun
  | [d1, d2] => { results := [.lit (.bool true)], args := [d1, d2] }
  | _ => none }
def widthSumsRow : OpenClaim := { program := "ytcfigfhnlhkjiaadoor", sum := "04bc4fd24fd2ae08ded7ab849474fe259afa6b81119dee5dbffcf35e6b543699", func := "fenestra/fenestralaw02.WidthSums", spec := "widthSums", inPlace := ["internal/abi.NoEscape"], unfollowed := true, recurses := true, named := ["fenestra/width.marks", "fenestra/width.wides"], apart := false, laid := [("fenestra/width.marks", laid_fenestra_width_marks), ("fenestra/width.wides", laid_fenestra_width_wides)] }
def WidthSumsSaid : Prop := widthSumsRow.holds Tryd.pinned (OpenSpec.ofChange widthSumsSpec)

/-- ITS FALSE NEIGHBOUR: 'it returns false'. Refute it at one input. -/
def widthSumsWrong : ChangeSpec := { name := "widthSums", fn := fun _ => fun
  | [d1, d2] => { results := [.lit (.bool false)], args := [d1, d2] }
  | _ => none }
def WidthSumsWrongFalsely : Prop := widthSumsRow.holds Tryd.pinned (OpenSpec.ofChange widthSumsWrong)

/-- 'fenestralaw02.WidthKnown': WHATEVER THE INPUT: true; the input reads as it did. -/
def widthKnownSpec : ChangeSpec := { name := "widthKnown", fn := fun _ => fun
  | [] => { results := [.lit (.bool true)], args := [] }
  | _ => none }
def widthKnownRow : OpenClaim := { program := "ytcfigfhnlhkjiaadoor", sum := "04bc4fd24fd2ae08ded7ab849474fe259afa6b81119dee5dbffcf35e6b543699", func := "fenestra/fenestralaw02.WidthKnown", spec := "widthKnown", inPlace := ["internal/abi.NoEscape"], unfollowed := true, recurses := true, named := ["fenestra/width.marks", "fenestra/width.wides"], apart := false, laid := [("fenestra/width.marks", laid_fenestra_width_marks), ("fenestra/width.wides", laid_fenestra_width_wides)] }
def WidthKnownSaid : Prop := widthKnownRow.holds Tryd.pinned (OpenSpec.ofChange widthKnownSpec)

/-- ITS FALSE NEIGHBOUR: 'it returns false'. Refute it at one input. -/
def widthKnownWrong : ChangeSpec := { name := "widthKnown", fn := fun _ => fun
  | [] => { results := [.lit (.bool false)], args := [] }
  | _ => none }
def WidthKnownWrongFalsely : Prop := widthKnownRow.holds Tryd.pinned (OpenSpec.ofChange widthKnownWrong)

/- THE SECOND FORM. 'bulk': how many values and letters a reading holds, each counted each time it is reached (what is shared counts as often as it is met; a slice's spare places count too). A statement '..UptoSaid' is the law's where the arguments, and the package variables that the reading takes, are together of bulk at most 1048576: NARROWER than '..Said'. Prove '..Said' where nothing that the law and all that it calls make is longer than what came in: it says more and counts as full. Else prove '..UptoSaid'. A law counts once. -/
mutual
def uptoBulk {H : Type} : DataW H → Nat
  | .lit (.string bytes) => bytes.length + 1
  | .lit _ => 1
  | .nil => 1
  | .ptr d => uptoBulk d + 1
  | .slice elems spare => uptoBulkAll elems + uptoBulkAll spare + 1
  | .agg parts => uptoBulkAll parts + 1
  | .iface _ d => uptoBulk d + 1
  | .map entries => uptoBulkEntries entries + 1
  | .held _ => 1
def uptoBulkAll {H : Type} : List (DataW H) → Nat
  | [] => 0
  | d :: r => uptoBulk d + uptoBulkAll r
def uptoBulkEntries {H : Type} : List (Lit × DataW H) → Nat
  | [] => 0
  | x :: r => uptoBulkEntry x + uptoBulkEntries r
def uptoBulkEntry {H : Type} : Lit × DataW H → Nat
  | (.string bytes, d) => bytes.length + uptoBulk d + 1
  | (_, d) => uptoBulk d + 1
 end
def uptoSmall : (H : Type) → List (DataW H) → Bool := fun _ ds => decide (uptoBulkAll ds ≤ 1048576)
def OpenSpec.upto (s : _root_.Go.ChangeSpec) : _root_.Go.OpenSpec := { _root_.Go.OpenSpec.ofChange s with cond := some uptoSmall }

/-- 'fenestralaw02.WidthTells', WHERE WHAT IT READS IS OF BULK AT MOST 1048576: true; the input reads as it did. -/
def widthTellsUptoRow : OpenClaim := { program := "ytcfigfhnlhkjiaadoor", sum := "04bc4fd24fd2ae08ded7ab849474fe259afa6b81119dee5dbffcf35e6b543699", func := "fenestra/fenestralaw02.WidthTells", spec := "widthTells", inPlace := ["internal/abi.NoEscape"], unfollowed := true, recurses := true, named := ["fenestra/width.marks", "fenestra/width.wides"], apart := false, laid := [("fenestra/width.marks", laid_fenestra_width_marks), ("fenestra/width.wides", laid_fenestra_width_wides)], narrowed := true }
def WidthTellsUptoSaid : Prop := widthTellsUptoRow.holds Tryd.pinned (OpenSpec.upto widthTellsSpec)

/-- 'fenestralaw02.WidthCuts', WHERE WHAT IT READS IS OF BULK AT MOST 1048576: true; the input reads as it did. -/
def widthCutsUptoRow : OpenClaim := { program := "ytcfigfhnlhkjiaadoor", sum := "04bc4fd24fd2ae08ded7ab849474fe259afa6b81119dee5dbffcf35e6b543699", func := "fenestra/fenestralaw02.WidthCuts", spec := "widthCuts", inPlace := ["internal/abi.NoEscape"], unfollowed := true, recurses := true, named := ["fenestra/width.marks", "fenestra/width.wides"], apart := false, laid := [("fenestra/width.marks", laid_fenestra_width_marks), ("fenestra/width.wides", laid_fenestra_width_wides)], narrowed := true }
def WidthCutsUptoSaid : Prop := widthCutsUptoRow.holds Tryd.pinned (OpenSpec.upto widthCutsSpec)

/-- 'fenestralaw02.WidthCut', WHERE WHAT IT READS IS OF BULK AT MOST 1048576: true; the input reads as it did. -/
def widthCutUptoRow : OpenClaim := { program := "ytcfigfhnlhkjiaadoor", sum := "04bc4fd24fd2ae08ded7ab849474fe259afa6b81119dee5dbffcf35e6b543699", func := "fenestra/fenestralaw02.WidthCut", spec := "widthCut", inPlace := ["internal/abi.NoEscape"], unfollowed := true, recurses := true, named := ["fenestra/width.marks", "fenestra/width.wides"], apart := false, laid := [("fenestra/width.marks", laid_fenestra_width_marks), ("fenestra/width.wides", laid_fenestra_width_wides)], narrowed := true }
def WidthCutUptoSaid : Prop := widthCutUptoRow.holds Tryd.pinned (OpenSpec.upto widthCutSpec)

/-- 'fenestralaw02.WidthSums', WHERE WHAT IT READS IS OF BULK AT MOST 1048576: true; the input reads as it did. -/
def widthSumsUptoRow : OpenClaim := { program := "ytcfigfhnlhkjiaadoor", sum := "04bc4fd24fd2ae08ded7ab849474fe259afa6b81119dee5dbffcf35e6b543699", func := "fenestra/fenestralaw02.WidthSums", spec := "widthSums", inPlace := ["internal/abi.NoEscape"], unfollowed := true, recurses := true, named := ["fenestra/width.marks", "fenestra/width.wides"], apart := false, laid := [("fenestra/width.marks", laid_fenestra_width_marks), ("fenestra/width.wides", laid_fenestra_width_wides)], narrowed := true }
def WidthSumsUptoSaid : Prop := widthSumsUptoRow.holds Tryd.pinned (OpenSpec.upto widthSumsSpec)

/-- 'fenestralaw02.WidthKnown', WHERE WHAT IT READS IS OF BULK AT MOST 1048576: true; the input reads as it did. -/
def widthKnownUptoRow : OpenClaim := { program := "ytcfigfhnlhkjiaadoor", sum := "04bc4fd24fd2ae08ded7ab849474fe259afa6b81119dee5dbffcf35e6b543699", func := "fenestra/fenestralaw02.WidthKnown", spec := "widthKnown", inPlace := ["internal/abi.NoEscape"], unfollowed := true, recurses := true, named := ["fenestra/width.marks", "fenestra/width.wides"], apart := false, laid := [("fenestra/width.marks", laid_fenestra_width_marks), ("fenestra/width.wides", laid_fenestra_width_wides)], narrowed := true }
def WidthKnownUptoSaid : Prop := widthKnownUptoRow.holds Tryd.pinned (OpenSpec.upto widthKnownSpec)

end Rows
end Go.Proofs.YtcfigfhnlhkjiaaDoor
