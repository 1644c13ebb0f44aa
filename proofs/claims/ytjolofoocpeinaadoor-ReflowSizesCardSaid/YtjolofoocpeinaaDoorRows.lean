/-
  NARROWER THAN 'FOR EVERY INPUT', by the rows' own cells (each row's printed sentence says how): ReflowLines: laid · ReflowSizes: laid · ReflowAlts: laid · ReflowKeeps: laid · ReflowSame: laid · ReflowFills: laid · ReflowKnown: laid.
  DERIVED. THE GIVEN ROWS OF THIS SEAT. 7 by the template 'for every input the law returns true; each argument reads behind the call as it read before'; 0 by the template 'total and deterministic' (their statements: YtjolofoocpeinaaDoorTotals.lean).
  GIVEN WITH THE SEED: the statements are not yours to turn. If you find one false, say at which input.
  Laid BY PROGRAM, IN A SANDBOX (cutbox-rows.mjs): the forced cells as the released guide's own fill.sh prints them over the translation a757da400461e52f… (all of the seat's roots in one cut). By AI agents, Wed Nov 11 2026. No macro, syntax, notation, axiom, sorry.
-/
import Derived.Test.YtjolofoocpeinaaDoorChecked
import GoSem.Claim
import GoSem.ClaimJoined
import GoSem.ClaimMapViews
import Derived.JoinedTies
import Derived.KernelRfl
namespace Go.Proofs.YtjolofoocpeinaaDoor
/- THE CELL 'sum', in the pinned program and in every row, IS THE sha256 OF THE DUMP (.gsa) THAT YtjolofoocpeinaaDoorProg.lean LOADS. Nothing in Lean hashes anything: it is a label: what it is worth is what the hold of that sum in a sandbox is worth. -/
noncomputable def Tryd.pinned : Pinned := { name := "ytjolofoocpeinaadoor", sum := "a757da400461e52f4591a0483fde66a0733e634a1eb42db38568685d0ac29688", checked := Tryd.checked }
namespace Rows
def none {H : Type} : Left H := { results := [], args := [] }

/- WHAT THE LISTED PACKAGE-LEVEL VARIABLES READ AS WHEN THE CALL BEGINS. Each datum BY PROGRAM (the guide's laid-datum.mjs) off the statement by which the dump's own 'gosem.cut.vars' lays the variable. In a bare row this is a premise. The card (YtjolofoocpeinaaDoorCards.lean) ties it to the program's text. -/
def laid_fenestra_width_marks {H : Type} : DataW H := .agg [.agg [.lit (.int .i64 768), .lit (.int .i64 879)], .agg [.lit (.int .i64 1155), .lit (.int .i64 1161)], .agg [.lit (.int .i64 1425), .lit (.int .i64 1469)], .agg [.lit (.int .i64 1552), .lit (.int .i64 1562)], .agg [.lit (.int .i64 1611), .lit (.int .i64 1631)], .agg [.lit (.int .i64 6832), .lit (.int .i64 6911)], .agg [.lit (.int .i64 7616), .lit (.int .i64 7679)], .agg [.lit (.int .i64 8203), .lit (.int .i64 8207)], .agg [.lit (.int .i64 8400), .lit (.int .i64 8447)], .agg [.lit (.int .i64 65024), .lit (.int .i64 65039)], .agg [.lit (.int .i64 65056), .lit (.int .i64 65071)]]
def laid_fenestra_width_wides {H : Type} : DataW H := .agg [.agg [.lit (.int .i64 4352), .lit (.int .i64 4447)], .agg [.lit (.int .i64 11904), .lit (.int .i64 12350)], .agg [.lit (.int .i64 12353), .lit (.int .i64 19903)], .agg [.lit (.int .i64 19968), .lit (.int .i64 42191)], .agg [.lit (.int .i64 44032), .lit (.int .i64 55203)], .agg [.lit (.int .i64 63744), .lit (.int .i64 64255)], .agg [.lit (.int .i64 65072), .lit (.int .i64 65135)], .agg [.lit (.int .i64 65280), .lit (.int .i64 65376)], .agg [.lit (.int .i64 65504), .lit (.int .i64 65510)], .agg [.lit (.int .i64 127744), .lit (.int .i64 128591)], .agg [.lit (.int .i64 128640), .lit (.int .i64 128767)], .agg [.lit (.int .i64 129280), .lit (.int .i64 129535)], .agg [.lit (.int .i64 131072), .lit (.int .i64 262141)]]

/-- 'fenestralaw19.ReflowLines': WHATEVER THE INPUT: true; the input reads as it did. -/
def reflowLinesSpec : ChangeSpec := { name := "reflowLines", fn := fun _ => fun
  | [d1, d2] => { results := [.lit (.bool true)], args := [d1, d2] }
  | _ => none }
def reflowLinesRow : OpenClaim := { program := "ytjolofoocpeinaadoor", sum := "a757da400461e52f4591a0483fde66a0733e634a1eb42db38568685d0ac29688", func := "fenestra/fenestralaw19.ReflowLines", spec := "reflowLines", unfollowed := true, recurses := true, named := ["fenestra/width.marks", "fenestra/width.wides"], apart := false, laid := [("fenestra/width.marks", laid_fenestra_width_marks), ("fenestra/width.wides", laid_fenestra_width_wides)] }
def ReflowLinesSaid : Prop := reflowLinesRow.holds Tryd.pinned (OpenSpec.ofChange reflowLinesSpec)

/-- ITS FALSE NEIGHBOUR: 'it returns false'. Refute it at one input. -/
def reflowLinesWrong : ChangeSpec := { name := "reflowLines", fn := fun _ => fun
  | [d1, d2] => { results := [.lit (.bool false)], args := [d1, d2] }
  | _ => none }
def ReflowLinesWrongFalsely : Prop := reflowLinesRow.holds Tryd.pinned (OpenSpec.ofChange reflowLinesWrong)

/-- 'fenestralaw19.ReflowSizes': WHATEVER THE INPUT: true; the input reads as it did. -/
def reflowSizesSpec : ChangeSpec := { name := "reflowSizes", fn := fun _ => fun
  | [d1, d2, d3, d4] => { results := [.lit (.bool true)], args := [d1, d2, d3, d4] }
  | _ => none }
def reflowSizesRow : OpenClaim := { program := "ytjolofoocpeinaadoor", sum := "a757da400461e52f4591a0483fde66a0733e634a1eb42db38568685d0ac29688", func := "fenestra/fenestralaw19.ReflowSizes", spec := "reflowSizes", unfollowed := true, recurses := true, named := ["fenestra/width.marks", "fenestra/width.wides"], apart := false, laid := [("fenestra/width.marks", laid_fenestra_width_marks), ("fenestra/width.wides", laid_fenestra_width_wides)] }
def ReflowSizesSaid : Prop := reflowSizesRow.holds Tryd.pinned (OpenSpec.ofChange reflowSizesSpec)

/-- ITS FALSE NEIGHBOUR: 'it returns false'. Refute it at one input. -/
def reflowSizesWrong : ChangeSpec := { name := "reflowSizes", fn := fun _ => fun
  | [d1, d2, d3, d4] => { results := [.lit (.bool false)], args := [d1, d2, d3, d4] }
  | _ => none }
def ReflowSizesWrongFalsely : Prop := reflowSizesRow.holds Tryd.pinned (OpenSpec.ofChange reflowSizesWrong)

/-- 'fenestralaw19.ReflowAlts': WHATEVER THE INPUT: true; the input reads as it did. -/
def reflowAltsSpec : ChangeSpec := { name := "reflowAlts", fn := fun _ => fun
  | [d1, d2, d3, d4] => { results := [.lit (.bool true)], args := [d1, d2, d3, d4] }
  | _ => none }
def reflowAltsRow : OpenClaim := { program := "ytjolofoocpeinaadoor", sum := "a757da400461e52f4591a0483fde66a0733e634a1eb42db38568685d0ac29688", func := "fenestra/fenestralaw19.ReflowAlts", spec := "reflowAlts", unfollowed := true, recurses := true, named := ["fenestra/width.marks", "fenestra/width.wides"], apart := false, laid := [("fenestra/width.marks", laid_fenestra_width_marks), ("fenestra/width.wides", laid_fenestra_width_wides)] }
def ReflowAltsSaid : Prop := reflowAltsRow.holds Tryd.pinned (OpenSpec.ofChange reflowAltsSpec)

/-- ITS FALSE NEIGHBOUR: 'it returns false'. Refute it at one input. -/
def reflowAltsWrong : ChangeSpec := { name := "reflowAlts", fn := fun _ => fun
  | [d1, d2, d3, d4] => { results := [.lit (.bool false)], args := [d1, d2, d3, d4] }
  | _ => none }
def ReflowAltsWrongFalsely : Prop := reflowAltsRow.holds Tryd.pinned (OpenSpec.ofChange reflowAltsWrong)

/-- 'fenestralaw19.ReflowKeeps': WHATEVER THE INPUT: true; the input reads as it did. -/
def reflowKeepsSpec : ChangeSpec := { name := "reflowKeeps", fn := fun _ => fun
  | [d1, d2] => { results := [.lit (.bool true)], args := [d1, d2] }
  | _ => none }
def reflowKeepsRow : OpenClaim := { program := "ytjolofoocpeinaadoor", sum := "a757da400461e52f4591a0483fde66a0733e634a1eb42db38568685d0ac29688", func := "fenestra/fenestralaw19.ReflowKeeps", spec := "reflowKeeps", unfollowed := true, recurses := true, named := ["fenestra/width.marks", "fenestra/width.wides"], apart := false, laid := [("fenestra/width.marks", laid_fenestra_width_marks), ("fenestra/width.wides", laid_fenestra_width_wides)] }
def ReflowKeepsSaid : Prop := reflowKeepsRow.holds Tryd.pinned (OpenSpec.ofChange reflowKeepsSpec)

/-- ITS FALSE NEIGHBOUR: 'it returns false'. Refute it at one input. -/
def reflowKeepsWrong : ChangeSpec := { name := "reflowKeeps", fn := fun _ => fun
  | [d1, d2] => { results := [.lit (.bool false)], args := [d1, d2] }
  | _ => none }
def ReflowKeepsWrongFalsely : Prop := reflowKeepsRow.holds Tryd.pinned (OpenSpec.ofChange reflowKeepsWrong)

/-- 'fenestralaw19.ReflowSame': WHATEVER THE INPUT: true; the input reads as it did. -/
def reflowSameSpec : ChangeSpec := { name := "reflowSame", fn := fun _ => fun
  | [d1, d2] => { results := [.lit (.bool true)], args := [d1, d2] }
  | _ => none }
def reflowSameRow : OpenClaim := { program := "ytjolofoocpeinaadoor", sum := "a757da400461e52f4591a0483fde66a0733e634a1eb42db38568685d0ac29688", func := "fenestra/fenestralaw19.ReflowSame", spec := "reflowSame", unfollowed := true, recurses := true, named := ["fenestra/width.marks", "fenestra/width.wides"], apart := false, laid := [("fenestra/width.marks", laid_fenestra_width_marks), ("fenestra/width.wides", laid_fenestra_width_wides)] }
def ReflowSameSaid : Prop := reflowSameRow.holds Tryd.pinned (OpenSpec.ofChange reflowSameSpec)

/-- ITS FALSE NEIGHBOUR: 'it returns false'. Refute it at one input. -/
def reflowSameWrong : ChangeSpec := { name := "reflowSame", fn := fun _ => fun
  | [d1, d2] => { results := [.lit (.bool false)], args := [d1, d2] }
  | _ => none }
def ReflowSameWrongFalsely : Prop := reflowSameRow.holds Tryd.pinned (OpenSpec.ofChange reflowSameWrong)

/-- 'fenestralaw19.ReflowFills': WHATEVER THE INPUT: true; the input reads as it did. -/
def reflowFillsSpec : ChangeSpec := { name := "reflowFills", fn := fun _ => fun
  | [d1, d2] => { results := [.lit (.bool true)], args := [d1, d2] }
  | _ => none }
def reflowFillsRow : OpenClaim := { program := "ytjolofoocpeinaadoor", sum := "a757da400461e52f4591a0483fde66a0733e634a1eb42db38568685d0ac29688", func := "fenestra/fenestralaw19.ReflowFills", spec := "reflowFills", unfollowed := true, recurses := true, named := ["fenestra/width.marks", "fenestra/width.wides"], apart := false, laid := [("fenestra/width.marks", laid_fenestra_width_marks), ("fenestra/width.wides", laid_fenestra_width_wides)] }
def ReflowFillsSaid : Prop := reflowFillsRow.holds Tryd.pinned (OpenSpec.ofChange reflowFillsSpec)

/-- ITS FALSE NEIGHBOUR: 'it returns false'. Refute it at one input. -/
def reflowFillsWrong : ChangeSpec := { name := "reflowFills", fn := fun _ => fun
  | [d1, d2] => { results := [.lit (.bool false)], args := [d1, d2] }
  | _ => none }
def ReflowFillsWrongFalsely : Prop := reflowFillsRow.holds Tryd.pinned (OpenSpec.ofChange reflowFillsWrong)

/-- 'fenestralaw19.ReflowKnown': WHATEVER THE INPUT: true; the input reads as it did. -/
def reflowKnownSpec : ChangeSpec := { name := "reflowKnown", fn := fun _ => fun
  | [] => { results := [.lit (.bool true)], args := [] }
  | _ => none }
def reflowKnownRow : OpenClaim := { program := "ytjolofoocpeinaadoor", sum := "a757da400461e52f4591a0483fde66a0733e634a1eb42db38568685d0ac29688", func := "fenestra/fenestralaw19.ReflowKnown", spec := "reflowKnown", unfollowed := true, recurses := true, named := ["fenestra/width.marks", "fenestra/width.wides"], apart := false, laid := [("fenestra/width.marks", laid_fenestra_width_marks), ("fenestra/width.wides", laid_fenestra_width_wides)] }
def ReflowKnownSaid : Prop := reflowKnownRow.holds Tryd.pinned (OpenSpec.ofChange reflowKnownSpec)

/-- ITS FALSE NEIGHBOUR: 'it returns false'. Refute it at one input. -/
def reflowKnownWrong : ChangeSpec := { name := "reflowKnown", fn := fun _ => fun
  | [] => { results := [.lit (.bool false)], args := [] }
  | _ => none }
def ReflowKnownWrongFalsely : Prop := reflowKnownRow.holds Tryd.pinned (OpenSpec.ofChange reflowKnownWrong)

/- THE SECOND FORM. 'bulk': how many values and letters a reading holds, each counted each time it is reached (what is shared counts as often as it is met; a slice's spare places count too). A statement '..UptoSaid' is the law's where the arguments, and the package variables that the reading takes, are together of bulk at most 1048576: NARROWER than '..Said'. Prove '..Said' where nothing that the law and all that it calls make is longer than what came in: it says more and counts as full. Else prove '..UptoSaid'. A law counts once. -/
mutual
def uptoBulk {H : Type} : DataW H → Nat
  | .lit (.string bytes) => bytes.length + 1
  | .lit _ => 1
  | .nil => 1
  | .ptr d => uptoBulk d + 1
  | .slice elems spare => uptoBulkAll elems + uptoBulkAll spare + 1
  | .agg parts => uptoBulkAll parts + 1
  | .iface _ d => uptoBulk d + 1
  | .map entries => uptoBulkEntries entries + 1
  | .held _ => 1
def uptoBulkAll {H : Type} : List (DataW H) → Nat
  | [] => 0
  | d :: r => uptoBulk d + uptoBulkAll r
def uptoBulkEntries {H : Type} : List (Lit × DataW H) → Nat
  | [] => 0
  | x :: r => uptoBulkEntry x + uptoBulkEntries r
def uptoBulkEntry {H : Type} : Lit × DataW H → Nat
  | (.string bytes, d) => bytes.length + uptoBulk d + 1
  | (_, d) => uptoBulk d + 1
 end
def uptoSmall : (H : Type) → List (DataW H) → Bool := fun _ ds => decide (uptoBulkAll ds ≤ 1048576)
def OpenSpec.upto (s : _root_.Go.ChangeSpec) : _root_.Go.OpenSpec := { _root_.Go.OpenSpec.ofChange s with cond := some uptoSmall }

/-- 'fenestralaw19.ReflowLines', WHERE WHAT IT READS IS OF BULK AT MOST 1048576: true; the input reads as it did. -/
def reflowLinesUptoRow : OpenClaim := { program := "ytjolofoocpeinaadoor", sum := "a757da400461e52f4591a0483fde66a0733e634a1eb42db38568685d0ac29688", func := "fenestra/fenestralaw19.ReflowLines", spec := "reflowLines", unfollowed := true, recurses := true, named := ["fenestra/width.marks", "fenestra/width.wides"], apart := false, laid := [("fenestra/width.marks", laid_fenestra_width_marks), ("fenestra/width.wides", laid_fenestra_width_wides)], narrowed := true }
def ReflowLinesUptoSaid : Prop := reflowLinesUptoRow.holds Tryd.pinned (OpenSpec.upto reflowLinesSpec)

/-- 'fenestralaw19.ReflowSizes', WHERE WHAT IT READS IS OF BULK AT MOST 1048576: true; the input reads as it did. -/
def reflowSizesUptoRow : OpenClaim := { program := "ytjolofoocpeinaadoor", sum := "a757da400461e52f4591a0483fde66a0733e634a1eb42db38568685d0ac29688", func := "fenestra/fenestralaw19.ReflowSizes", spec := "reflowSizes", unfollowed := true, recurses := true, named := ["fenestra/width.marks", "fenestra/width.wides"], apart := false, laid := [("fenestra/width.marks", laid_fenestra_width_marks), ("fenestra/width.wides", laid_fenestra_width_wides)], narrowed := true }
def ReflowSizesUptoSaid : Prop := reflowSizesUptoRow.holds Tryd.pinned (OpenSpec.upto reflowSizesSpec)

/-- 'fenestralaw19.ReflowAlts', WHERE WHAT IT READS IS OF BULK AT MOST 1048576: true; the input reads as it did. -/
def reflowAltsUptoRow : OpenClaim := { program := "ytjolofoocpeinaadoor", sum := "a757da400461e52f4591a0483fde66a0733e634a1eb42db38568685d0ac29688", func := "fenestra/fenestralaw19.ReflowAlts", spec := "reflowAlts", unfollowed := true, recurses := true, named := ["fenestra/width.marks", "fenestra/width.wides"], apart := false, laid := [("fenestra/width.marks", laid_fenestra_width_marks), ("fenestra/width.wides", laid_fenestra_width_wides)], narrowed := true }
def ReflowAltsUptoSaid : Prop := reflowAltsUptoRow.holds Tryd.pinned (OpenSpec.upto reflowAltsSpec)

/-- 'fenestralaw19.ReflowKeeps', WHERE WHAT IT READS IS OF BULK AT MOST 1048576: true; the input reads as it did. -/
def reflowKeepsUptoRow : OpenClaim := { program := "ytjolofoocpeinaadoor", sum := "a757da400461e52f4591a0483fde66a0733e634a1eb42db38568685d0ac29688", func := "fenestra/fenestralaw19.ReflowKeeps", spec := "reflowKeeps", unfollowed := true, recurses := true, named := ["fenestra/width.marks", "fenestra/width.wides"], apart := false, laid := [("fenestra/width.marks", laid_fenestra_width_marks), ("fenestra/width.wides", laid_fenestra_width_wides)], narrowed := true }
def ReflowKeepsUptoSaid : Prop := reflowKeepsUptoRow.holds Tryd.pinned (OpenSpec.upto reflowKeepsSpec)

/-- 'fenestralaw19.ReflowSame', WHERE WHAT IT READS IS OF BULK AT MOST 1048576: true; the input reads as it did. -/
def reflowSameUptoRow : OpenClaim := { program := "ytjolofoocpeinaadoor", sum := "a757da400461e52f4591a0483fde66a0733e634a1eb42db38568685d0ac29688", func := "fenestra/fenestralaw19.ReflowSame", spec := "reflowSame", unfollowed := true, recurses := true, named := ["fenestra/width.marks", "fenestra/width.wides"], apart := false, laid := [("fenestra/width.marks", laid_fenestra_width_marks), ("fenestra/width.wides", laid_fenestra_width_wides)], narrowed := true }
def ReflowSameUptoSaid : Prop := reflowSameUptoRow.holds Tryd.pinned (OpenSpec.upto reflowSameSpec)

/-- 'fenestralaw19.ReflowFills', WHERE WHAT IT READS IS OF BULK AT MOST 1048576: true; the input reads as it did. -/
def reflowFillsUptoRow : OpenClaim := { program := "ytjolofoocpeinaadoor", sum := "a757da400461e52f4591a0483fde66a0733e634a1eb42db38568685d0ac29688", func := "fenestra/fenestralaw19.ReflowFills", spec := "reflowFills", unfollowed := true, recurses := true, named := ["fenestra/width.marks", "fenestra/width.wides"], apart := false, laid := [("fenestra/width.marks", laid_fenestra_width_marks), ("fenestra/width.wides", laid_fenestra_width_wides)], narrowed := true }
def ReflowFillsUptoSaid : Prop := reflowFillsUptoRow.holds Tryd.pinned (OpenSpec.upto reflowFillsSpec)

/-- 'fenestralaw19.ReflowKnown', WHERE WHAT IT READS IS OF BULK AT MOST 1048576: true; the input reads as it did. -/
def reflowKnownUptoRow : OpenClaim := { program := "ytjolofoocpeinaadoor", sum := "a757da400461e52f4591a0483fde66a0733e634a1eb42db38568685d0ac29688", func := "fenestra/fenestralaw19.ReflowKnown", spec := "reflowKnown", unfollowed := true, recurses := true, named := ["fenestra/width.marks", "fenestra/width.wides"], apart := false, laid := [("fenestra/width.marks", laid_fenestra_width_marks), ("fenestra/width.wides", laid_fenestra_width_wides)], narrowed := true }
def ReflowKnownUptoSaid : Prop := reflowKnownUptoRow.holds Tryd.pinned (OpenSpec.upto reflowKnownSpec)

end Rows
end Go.Proofs.YtjolofoocpeinaaDoor
