/-
  NARROWER THAN 'FOR EVERY INPUT', by the rows' own cells (each row's printed sentence says how): PastPushes: laid · PastPops: laid · PastViews: laid · PastBack: laid · PastLooks: laid · PastKnown: laid.
  DERIVED. THE GIVEN ROWS OF THIS SEAT. 6 by the template 'for every input the law returns true; each argument reads behind the call as it read before'; 0 by the template 'total and deterministic' (their statements: YtecnbidgdohmgaaDoorTotals.lean).
  GIVEN WITH THE SEED: the statements are not yours to turn. If you find one false, say at which input.
  Laid BY PROGRAM, IN A SANDBOX (cutbox-rows.mjs): the forced cells as the released guide's own fill.sh prints them over the translation e2edb13d3e55c10d… (all of the seat's roots in one cut). By AI agents, Wed Nov 11 2026. No macro, syntax, notation, axiom, sorry.
-/
import Derived.Test.YtecnbidgdohmgaaDoorChecked
import GoSem.Claim
import GoSem.ClaimJoined
import GoSem.ClaimMapViews
import Derived.JoinedTies
import Derived.KernelRfl
namespace Go.Proofs.YtecnbidgdohmgaaDoor
/- THE CELL 'sum', in the pinned program and in every row, IS THE sha256 OF THE DUMP (.gsa) THAT YtecnbidgdohmgaaDoorProg.lean LOADS. Nothing in Lean hashes anything: it is a label: what it is worth is what the hold of that sum in a sandbox is worth. -/
noncomputable def Tryd.pinned : Pinned := { name := "ytecnbidgdohmgaadoor", sum := "e2edb13d3e55c10d450e6c75e67be0edb1c86cb2b2bef973dfac040a54bf65c7", checked := Tryd.checked }
namespace Rows
def none {H : Type} : Left H := { results := [], args := [] }

/- WHAT THE LISTED PACKAGE-LEVEL VARIABLES READ AS WHEN THE CALL BEGINS. Each datum BY PROGRAM (the guide's laid-datum.mjs) off the statement by which the dump's own 'gosem.cut.vars' lays the variable. In a bare row this is a premise. The card (YtecnbidgdohmgaaDoorCards.lean) ties it to the program's text. -/
def laid_fenestra_width_marks {H : Type} : DataW H := .agg [.agg [.lit (.int .i64 768), .lit (.int .i64 879)], .agg [.lit (.int .i64 1155), .lit (.int .i64 1161)], .agg [.lit (.int .i64 1425), .lit (.int .i64 1469)], .agg [.lit (.int .i64 1552), .lit (.int .i64 1562)], .agg [.lit (.int .i64 1611), .lit (.int .i64 1631)], .agg [.lit (.int .i64 6832), .lit (.int .i64 6911)], .agg [.lit (.int .i64 7616), .lit (.int .i64 7679)], .agg [.lit (.int .i64 8203), .lit (.int .i64 8207)], .agg [.lit (.int .i64 8400), .lit (.int .i64 8447)], .agg [.lit (.int .i64 65024), .lit (.int .i64 65039)], .agg [.lit (.int .i64 65056), .lit (.int .i64 65071)]]
def laid_fenestra_width_wides {H : Type} : DataW H := .agg [.agg [.lit (.int .i64 4352), .lit (.int .i64 4447)], .agg [.lit (.int .i64 11904), .lit (.int .i64 12350)], .agg [.lit (.int .i64 12353), .lit (.int .i64 19903)], .agg [.lit (.int .i64 19968), .lit (.int .i64 42191)], .agg [.lit (.int .i64 44032), .lit (.int .i64 55203)], .agg [.lit (.int .i64 63744), .lit (.int .i64 64255)], .agg [.lit (.int .i64 65072), .lit (.int .i64 65135)], .agg [.lit (.int .i64 65280), .lit (.int .i64 65376)], .agg [.lit (.int .i64 65504), .lit (.int .i64 65510)], .agg [.lit (.int .i64 127744), .lit (.int .i64 128591)], .agg [.lit (.int .i64 128640), .lit (.int .i64 128767)], .agg [.lit (.int .i64 129280), .lit (.int .i64 129535)], .agg [.lit (.int .i64 131072), .lit (.int .i64 262141)]]

/-- 'fenestralaw18.PastPushes': WHATEVER THE INPUT: true; the input reads as it did. -/
def pastPushesSpec : ChangeSpec := { name := "pastPushes", fn := fun _ => fun
  | [d] => { results := [.lit (.bool true)], args := [d] }
  | _ => none }
def pastPushesRow : OpenClaim := { program := "ytecnbidgdohmgaadoor", sum := "e2edb13d3e55c10d450e6c75e67be0edb1c86cb2b2bef973dfac040a54bf65c7", func := "fenestra/fenestralaw18.PastPushes", spec := "pastPushes", unfollowed := true, recurses := true, named := ["fenestra/width.marks", "fenestra/width.wides"], apart := false, laid := [("fenestra/width.marks", laid_fenestra_width_marks), ("fenestra/width.wides", laid_fenestra_width_wides)] }
def PastPushesSaid : Prop := pastPushesRow.holds Tryd.pinned (OpenSpec.ofChange pastPushesSpec)

/-- ITS FALSE NEIGHBOUR: 'it returns false'. Refute it at one input. -/
def pastPushesWrong : ChangeSpec := { name := "pastPushes", fn := fun _ => fun
  | [d] => { results := [.lit (.bool false)], args := [d] }
  | _ => none }
def PastPushesWrongFalsely : Prop := pastPushesRow.holds Tryd.pinned (OpenSpec.ofChange pastPushesWrong)

/-- 'fenestralaw18.PastPops': WHATEVER THE INPUT: true; the input reads as it did. -/
def pastPopsSpec : ChangeSpec := { name := "pastPops", fn := fun _ => fun
  | [d1, d2] => { results := [.lit (.bool true)], args := [d1, d2] }
  | _ => none }
def pastPopsRow : OpenClaim := { program := "ytecnbidgdohmgaadoor", sum := "e2edb13d3e55c10d450e6c75e67be0edb1c86cb2b2bef973dfac040a54bf65c7", func := "fenestra/fenestralaw18.PastPops", spec := "pastPops", unfollowed := true, recurses := true, named := ["fenestra/width.marks", "fenestra/width.wides"], apart := false, laid := [("fenestra/width.marks", laid_fenestra_width_marks), ("fenestra/width.wides", laid_fenestra_width_wides)] }
def PastPopsSaid : Prop := pastPopsRow.holds Tryd.pinned (OpenSpec.ofChange pastPopsSpec)

/-- ITS FALSE NEIGHBOUR: 'it returns false'. Refute it at one input. -/
def pastPopsWrong : ChangeSpec := { name := "pastPops", fn := fun _ => fun
  | [d1, d2] => { results := [.lit (.bool false)], args := [d1, d2] }
  | _ => none }
def PastPopsWrongFalsely : Prop := pastPopsRow.holds Tryd.pinned (OpenSpec.ofChange pastPopsWrong)

/-- 'fenestralaw18.PastViews': WHATEVER THE INPUT: true; the input reads as it did. -/
def pastViewsSpec : ChangeSpec := { name := "pastViews", fn := fun _ => fun
  | [d1, d2] => { results := [.lit (.bool true)], args := [d1, d2] }
  | _ => none }
def pastViewsRow : OpenClaim := { program := "ytecnbidgdohmgaadoor", sum := "e2edb13d3e55c10d450e6c75e67be0edb1c86cb2b2bef973dfac040a54bf65c7", func := "fenestra/fenestralaw18.PastViews", spec := "pastViews", unfollowed := true, recurses := true, named := ["fenestra/width.marks", "fenestra/width.wides"], apart := false, laid := [("fenestra/width.marks", laid_fenestra_width_marks), ("fenestra/width.wides", laid_fenestra_width_wides)] }
def PastViewsSaid : Prop := pastViewsRow.holds Tryd.pinned (OpenSpec.ofChange pastViewsSpec)

/-- ITS FALSE NEIGHBOUR: 'it returns false'. Refute it at one input. -/
def pastViewsWrong : ChangeSpec := { name := "pastViews", fn := fun _ => fun
  | [d1, d2] => { results := [.lit (.bool false)], args := [d1, d2] }
  | _ => none }
def PastViewsWrongFalsely : Prop := pastViewsRow.holds Tryd.pinned (OpenSpec.ofChange pastViewsWrong)

/-- 'fenestralaw18.PastBack': WHATEVER THE INPUT: true; the input reads as it did. -/
def pastBackSpec : ChangeSpec := { name := "pastBack", fn := fun _ => fun
  | [d1, d2] => { results := [.lit (.bool true)], args := [d1, d2] }
  | _ => none }
def pastBackRow : OpenClaim := { program := "ytecnbidgdohmgaadoor", sum := "e2edb13d3e55c10d450e6c75e67be0edb1c86cb2b2bef973dfac040a54bf65c7", func := "fenestra/fenestralaw18.PastBack", spec := "pastBack", unfollowed := true, recurses := true, named := ["fenestra/width.marks", "fenestra/width.wides"], apart := false, laid := [("fenestra/width.marks", laid_fenestra_width_marks), ("fenestra/width.wides", laid_fenestra_width_wides)] }
def PastBackSaid : Prop := pastBackRow.holds Tryd.pinned (OpenSpec.ofChange pastBackSpec)

/-- ITS FALSE NEIGHBOUR: 'it returns false'. Refute it at one input. -/
def pastBackWrong : ChangeSpec := { name := "pastBack", fn := fun _ => fun
  | [d1, d2] => { results := [.lit (.bool false)], args := [d1, d2] }
  | _ => none }
def PastBackWrongFalsely : Prop := pastBackRow.holds Tryd.pinned (OpenSpec.ofChange pastBackWrong)

/-- 'fenestralaw18.PastLooks': WHATEVER THE INPUT: true; the input reads as it did. -/
def pastLooksSpec : ChangeSpec := { name := "pastLooks", fn := fun _ => fun
  | [d1, d2, d3, d4] => { results := [.lit (.bool true)], args := [d1, d2, d3, d4] }
  | _ => none }
def pastLooksRow : OpenClaim := { program := "ytecnbidgdohmgaadoor", sum := "e2edb13d3e55c10d450e6c75e67be0edb1c86cb2b2bef973dfac040a54bf65c7", func := "fenestra/fenestralaw18.PastLooks", spec := "pastLooks", unfollowed := true, recurses := true, named := ["fenestra/width.marks", "fenestra/width.wides"], apart := false, laid := [("fenestra/width.marks", laid_fenestra_width_marks), ("fenestra/width.wides", laid_fenestra_width_wides)] }
def PastLooksSaid : Prop := pastLooksRow.holds Tryd.pinned (OpenSpec.ofChange pastLooksSpec)

/-- ITS FALSE NEIGHBOUR: 'it returns false'. Refute it at one input. -/
def pastLooksWrong : ChangeSpec := { name := "pastLooks", fn := fun _ => fun
  | [d1, d2, d3, d4] => { results := [.lit (.bool false)], args := [d1, d2, d3, d4] }
  | _ => none }
def PastLooksWrongFalsely : Prop := pastLooksRow.holds Tryd.pinned (OpenSpec.ofChange pastLooksWrong)

/-- 'fenestralaw18.PastKnown': WHATEVER THE INPUT: true; the input reads as it did. -/
def pastKnownSpec : ChangeSpec := { name := "pastKnown", fn := fun _ => fun
  | [] => { results := [.lit (.bool true)], args := [] }
  | _ => none }
def pastKnownRow : OpenClaim := { program := "ytecnbidgdohmgaadoor", sum := "e2edb13d3e55c10d450e6c75e67be0edb1c86cb2b2bef973dfac040a54bf65c7", func := "fenestra/fenestralaw18.PastKnown", spec := "pastKnown", unfollowed := true, recurses := true, named := ["fenestra/width.marks", "fenestra/width.wides"], apart := false, laid := [("fenestra/width.marks", laid_fenestra_width_marks), ("fenestra/width.wides", laid_fenestra_width_wides)] }
def PastKnownSaid : Prop := pastKnownRow.holds Tryd.pinned (OpenSpec.ofChange pastKnownSpec)

/-- ITS FALSE NEIGHBOUR: 'it returns false'. Refute it at one input. -/
def pastKnownWrong : ChangeSpec := { name := "pastKnown", fn := fun _ => fun
  | [] => { results := [.lit (.bool false)], args := [] }
  | _ => none }
def PastKnownWrongFalsely : Prop := pastKnownRow.holds Tryd.pinned (OpenSpec.ofChange pastKnownWrong)

/- THE SECOND FORM. 'bulk': how many values and letters a reading holds, each counted each time it is reached (what is shared counts as often as it is met; a slice's spare places count too). A statement '..UptoSaid' is the law's where the arguments, and the package variables that the reading takes, are together of bulk at most 1048576: NARROWER than '..Said'. Prove '..Said' where nothing that the law and all that it calls make is longer than what came in: it says more and counts as full. Else prove '..UptoSaid'. A law counts once. -/
mutual
def uptoBulk {H : Type} : DataW H → Nat
  | .lit (.string bytes) => bytes.length + 1
  | .lit _ => 1
  | .nil => 1
  | .ptr d => uptoBulk d + 1
  | .slice elems spare => uptoBulkAll elems + uptoBulkAll spare + 1
  | .agg parts => uptoBulkAll parts + 1
  | .iface _ d => uptoBulk d + 1
  | .map entries => uptoBulkEntries entries + 1
  | .held _ => 1
def uptoBulkAll {H : Type} : List (DataW H) → Nat
  | [] => 0
  | d :: r => uptoBulk d + uptoBulkAll r
def uptoBulkEntries {H : Type} : List (Lit × DataW H) → Nat
  | [] => 0
  | x :: r => uptoBulkEntry x + uptoBulkEntries r
def uptoBulkEntry {H : Type} : Lit × DataW H → Nat
  | (.string bytes, d) => bytes.length + uptoBulk d + 1
  | (_, d) => uptoBulk d + 1
 end
def uptoSmall : (H : Type) → List (DataW H) → Bool := fun _ ds => decide (uptoBulkAll ds ≤ 1048576)
def OpenSpec.upto (s : _root_.Go.ChangeSpec) : _root_.Go.OpenSpec := { _root_.Go.OpenSpec.ofChange s with cond := some uptoSmall }

/-- 'fenestralaw18.PastPushes', WHERE WHAT IT READS IS OF BULK AT MOST 1048576: true; the input reads as it did. -/
def pastPushesUptoRow : OpenClaim := { program := "ytecnbidgdohmgaadoor", sum := "e2edb13d3e55c10d450e6c75e67be0edb1c86cb2b2bef973dfac040a54bf65c7", func := "fenestra/fenestralaw18.PastPushes", spec := "pastPushes", unfollowed := true, recurses := true, named := ["fenestra/width.marks", "fenestra/width.wides"], apart := false, laid := [("fenestra/width.marks", laid_fenestra_width_marks), ("fenestra/width.wides", laid_fenestra_width_wides)], narrowed := true }
def PastPushesUptoSaid : Prop := pastPushesUptoRow.holds Tryd.pinned (OpenSpec.upto pastPushesSpec)

/-- 'fenestralaw18.PastPops', WHERE WHAT IT READS IS OF BULK AT MOST 1048576: true; the input reads as it did. -/
def pastPopsUptoRow : OpenClaim := { program := "ytecnbidgdohmgaadoor", sum := "e2edb13d3e55c10d450e6c75e67be0edb1c86cb2b2bef973dfac040a54bf65c7", func := "fenestra/fenestralaw18.PastPops", spec := "pastPops", unfollowed := true, recurses := true, named := ["fenestra/width.marks", "fenestra/width.wides"], apart := false, laid := [("fenestra/width.marks", laid_fenestra_width_marks), ("fenestra/width.wides", laid_fenestra_width_wides)], narrowed := true }
def PastPopsUptoSaid : Prop := pastPopsUptoRow.holds Tryd.pinned (OpenSpec.upto pastPopsSpec)

/-- 'fenestralaw18.PastViews', WHERE WHAT IT READS IS OF BULK AT MOST 1048576: true; the input reads as it did. -/
def pastViewsUptoRow : OpenClaim := { program := "ytecnbidgdohmgaadoor", sum := "e2edb13d3e55c10d450e6c75e67be0edb1c86cb2b2bef973dfac040a54bf65c7", func := "fenestra/fenestralaw18.PastViews", spec := "pastViews", unfollowed := true, recurses := true, named := ["fenestra/width.marks", "fenestra/width.wides"], apart := false, laid := [("fenestra/width.marks", laid_fenestra_width_marks), ("fenestra/width.wides", laid_fenestra_width_wides)], narrowed := true }
def PastViewsUptoSaid : Prop := pastViewsUptoRow.holds Tryd.pinned (OpenSpec.upto pastViewsSpec)

/-- 'fenestralaw18.PastBack', WHERE WHAT IT READS IS OF BULK AT MOST 1048576: true; the input reads as it did. -/
def pastBackUptoRow : OpenClaim := { program := "ytecnbidgdohmgaadoor", sum := "e2edb13d3e55c10d450e6c75e67be0edb1c86cb2b2bef973dfac040a54bf65c7", func := "fenestra/fenestralaw18.PastBack", spec := "pastBack", unfollowed := true, recurses := true, named := ["fenestra/width.marks", "fenestra/width.wides"], apart := false, laid := [("fenestra/width.marks", laid_fenestra_width_marks), ("fenestra/width.wides", laid_fenestra_width_wides)], narrowed := true }
def PastBackUptoSaid : Prop := pastBackUptoRow.holds Tryd.pinned (OpenSpec.upto pastBackSpec)

/-- 'fenestralaw18.PastLooks', WHERE WHAT IT READS IS OF BULK AT MOST 1048576: true; the input reads as it did. -/
def pastLooksUptoRow : OpenClaim := { program := "ytecnbidgdohmgaadoor", sum := "e2edb13d3e55c10d450e6c75e67be0edb1c86cb2b2bef973dfac040a54bf65c7", func := "fenestra/fenestralaw18.PastLooks", spec := "pastLooks", unfollowed := true, recurses := true, named := ["fenestra/width.marks", "fenestra/width.wides"], apart := false, laid := [("fenestra/width.marks", laid_fenestra_width_marks), ("fenestra/width.wides", laid_fenestra_width_wides)], narrowed := true }
def PastLooksUptoSaid : Prop := pastLooksUptoRow.holds Tryd.pinned (OpenSpec.upto pastLooksSpec)

/-- 'fenestralaw18.PastKnown', WHERE WHAT IT READS IS OF BULK AT MOST 1048576: true; the input reads as it did. -/
def pastKnownUptoRow : OpenClaim := { program := "ytecnbidgdohmgaadoor", sum := "e2edb13d3e55c10d450e6c75e67be0edb1c86cb2b2bef973dfac040a54bf65c7", func := "fenestra/fenestralaw18.PastKnown", spec := "pastKnown", unfollowed := true, recurses := true, named := ["fenestra/width.marks", "fenestra/width.wides"], apart := false, laid := [("fenestra/width.marks", laid_fenestra_width_marks), ("fenestra/width.wides", laid_fenestra_width_wides)], narrowed := true }
def PastKnownUptoSaid : Prop := pastKnownUptoRow.holds Tryd.pinned (OpenSpec.upto pastKnownSpec)

end Rows
end Go.Proofs.YtecnbidgdohmgaaDoor
