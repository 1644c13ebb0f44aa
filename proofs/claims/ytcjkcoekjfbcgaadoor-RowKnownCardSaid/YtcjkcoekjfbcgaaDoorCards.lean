/-
  DERIVED. GIVEN WITH THE SEED: THE CARDS: each row of YtcjkcoekjfbcgaaDoorRows.lean that lists a variable, with what it lists TIED to the program's text (the seventh form; the later family's looks); each row that meets fmt, with fmt's text TOLD by the authors' own Lean function (tested against real Go, not proved from fmt's source: count such statements apart). THE CARD IS WHAT COUNTS. Prove the row's statement (the work); the ties are given (YtcjkcoekjfbcgaaDoorTie.lean); close each card by the builder's one call (the guide's Derived/Test/ToyasCard.lean, 'card_holds'). Laid BY PROGRAM, IN A SANDBOX (cutbox-door.mjs). By AI agents, Wed Nov 11 2026. No macro, syntax, notation, axiom, sorry.
-/
import Derived.Test.YtcjkcoekjfbcgaaDoorRows
import GoSem.ClaimSeven
namespace Go.Proofs.YtcjkcoekjfbcgaaDoor
namespace Rows

/-- THE TIED CARD OF 'fenestralaw12.RowPuts'. -/
def rowPutsCard : Claim7 := { stood := { row := rowPutsRow, standIns := [], harness := (true, "65bdc03face96a6f18dbf1dfef5af587f53e2b94a56da40e82cb2880f6b846bc"), looks := false }, kinds := [], alts := [], laidByText := true, laidKinds := [.widerDeep, .widerDeep], laidTests := true, laidLooks := .later }
def RowPutsCardSaid : Prop := Claim7.holds Tryd.pinned (.plain (OpenSpec.ofChange rowPutsSpec)) rowPutsCard

/-- THE TIED CARD OF 'fenestralaw12.RowMarks'. -/
def rowMarksCard : Claim7 := { stood := { row := rowMarksRow, standIns := [], harness := (true, "65bdc03face96a6f18dbf1dfef5af587f53e2b94a56da40e82cb2880f6b846bc"), looks := false }, kinds := [], alts := [], laidByText := true, laidKinds := [.widerDeep, .widerDeep], laidTests := true, laidLooks := .later }
def RowMarksCardSaid : Prop := Claim7.holds Tryd.pinned (.plain (OpenSpec.ofChange rowMarksSpec)) rowMarksCard

/-- THE TIED CARD OF 'fenestralaw12.RowErases'. -/
def rowErasesCard : Claim7 := { stood := { row := rowErasesRow, standIns := [], harness := (true, "65bdc03face96a6f18dbf1dfef5af587f53e2b94a56da40e82cb2880f6b846bc"), looks := false }, kinds := [], alts := [], laidByText := true, laidKinds := [.widerDeep, .widerDeep], laidTests := true, laidLooks := .later }
def RowErasesCardSaid : Prop := Claim7.holds Tryd.pinned (.plain (OpenSpec.ofChange rowErasesSpec)) rowErasesCard

/-- THE TIED CARD OF 'fenestralaw12.RowShifts'. -/
def rowShiftsCard : Claim7 := { stood := { row := rowShiftsRow, standIns := [], harness := (true, "65bdc03face96a6f18dbf1dfef5af587f53e2b94a56da40e82cb2880f6b846bc"), looks := false }, kinds := [], alts := [], laidByText := true, laidKinds := [.widerDeep, .widerDeep], laidTests := true, laidLooks := .later }
def RowShiftsCardSaid : Prop := Claim7.holds Tryd.pinned (.plain (OpenSpec.ofChange rowShiftsSpec)) rowShiftsCard

/-- THE TIED CARD OF 'fenestralaw12.RowStays'. -/
def rowStaysCard : Claim7 := { stood := { row := rowStaysRow, standIns := [], harness := (true, "65bdc03face96a6f18dbf1dfef5af587f53e2b94a56da40e82cb2880f6b846bc"), looks := false }, kinds := [], alts := [], laidByText := true, laidKinds := [.widerDeep, .widerDeep], laidTests := true, laidLooks := .later }
def RowStaysCardSaid : Prop := Claim7.holds Tryd.pinned (.plain (OpenSpec.ofChange rowStaysSpec)) rowStaysCard

/-- THE TIED CARD OF 'fenestralaw12.RowShown'. -/
def rowShownCard : Claim7 := { stood := { row := rowShownRow, standIns := [], harness := (true, "65bdc03face96a6f18dbf1dfef5af587f53e2b94a56da40e82cb2880f6b846bc"), looks := false }, kinds := [], alts := [], laidByText := true, laidKinds := [.widerDeep, .widerDeep], laidTests := true, laidLooks := .later }
def RowShownCardSaid : Prop := Claim7.holds Tryd.pinned (.plain (OpenSpec.ofChange rowShownSpec)) rowShownCard

/-- THE TIED CARD OF 'fenestralaw12.RowBack'. -/
def rowBackCard : Claim7 := { stood := { row := rowBackRow, standIns := [], harness := (true, "65bdc03face96a6f18dbf1dfef5af587f53e2b94a56da40e82cb2880f6b846bc"), looks := false }, kinds := [], alts := [], laidByText := true, laidKinds := [.widerDeep, .widerDeep], laidTests := true, laidLooks := .later }
def RowBackCardSaid : Prop := Claim7.holds Tryd.pinned (.plain (OpenSpec.ofChange rowBackSpec)) rowBackCard

/-- THE TIED CARD OF 'fenestralaw12.RowKnown'. -/
def rowKnownCard : Claim7 := { stood := { row := rowKnownRow, standIns := [], harness := (true, "65bdc03face96a6f18dbf1dfef5af587f53e2b94a56da40e82cb2880f6b846bc"), looks := false }, kinds := [], alts := [], laidByText := true, laidKinds := [.widerDeep, .widerDeep], laidTests := true, laidLooks := .later }
def RowKnownCardSaid : Prop := Claim7.holds Tryd.pinned (.plain (OpenSpec.ofChange rowKnownSpec)) rowKnownCard

/-- THE TIED CARD OF 'fenestralaw12.RowChecks'. -/
def rowChecksCard : Claim7 := { stood := { row := rowChecksRow, standIns := [], harness := (true, "65bdc03face96a6f18dbf1dfef5af587f53e2b94a56da40e82cb2880f6b846bc"), looks := false }, kinds := [], alts := [], laidByText := true, laidKinds := [.widerDeep, .widerDeep], laidTests := true, laidLooks := .later }
def RowChecksCardSaid : Prop := Claim7.holds Tryd.pinned (.plain (OpenSpec.ofChange rowChecksSpec)) rowChecksCard

/-- THE TIED CARD OF 'fenestralaw12.RowMakes'. -/
def rowMakesCard : Claim7 := { stood := { row := rowMakesRow, standIns := [], harness := (true, "65bdc03face96a6f18dbf1dfef5af587f53e2b94a56da40e82cb2880f6b846bc"), looks := false }, kinds := [], alts := [], laidByText := true, laidKinds := [.widerDeep, .widerDeep], laidTests := true, laidLooks := .later }
def RowMakesCardSaid : Prop := Claim7.holds Tryd.pinned (.plain (OpenSpec.ofChange rowMakesSpec)) rowMakesCard

/-- THE SECOND FORM's CARD OF 'fenestralaw12.RowPuts'. -/
def rowPutsUptoCard : Claim7 := { stood := { row := rowPutsUptoRow, standIns := [], harness := (true, "65bdc03face96a6f18dbf1dfef5af587f53e2b94a56da40e82cb2880f6b846bc"), looks := false }, kinds := [], alts := [], laidByText := true, laidKinds := [.widerDeep, .widerDeep], laidTests := true, laidLooks := .later }
def RowPutsUptoCardSaid : Prop := Claim7.holds Tryd.pinned (.plain (OpenSpec.upto rowPutsSpec)) rowPutsUptoCard

/-- THE SECOND FORM's CARD OF 'fenestralaw12.RowMarks'. -/
def rowMarksUptoCard : Claim7 := { stood := { row := rowMarksUptoRow, standIns := [], harness := (true, "65bdc03face96a6f18dbf1dfef5af587f53e2b94a56da40e82cb2880f6b846bc"), looks := false }, kinds := [], alts := [], laidByText := true, laidKinds := [.widerDeep, .widerDeep], laidTests := true, laidLooks := .later }
def RowMarksUptoCardSaid : Prop := Claim7.holds Tryd.pinned (.plain (OpenSpec.upto rowMarksSpec)) rowMarksUptoCard

/-- THE SECOND FORM's CARD OF 'fenestralaw12.RowErases'. -/
def rowErasesUptoCard : Claim7 := { stood := { row := rowErasesUptoRow, standIns := [], harness := (true, "65bdc03face96a6f18dbf1dfef5af587f53e2b94a56da40e82cb2880f6b846bc"), looks := false }, kinds := [], alts := [], laidByText := true, laidKinds := [.widerDeep, .widerDeep], laidTests := true, laidLooks := .later }
def RowErasesUptoCardSaid : Prop := Claim7.holds Tryd.pinned (.plain (OpenSpec.upto rowErasesSpec)) rowErasesUptoCard

/-- THE SECOND FORM's CARD OF 'fenestralaw12.RowShifts'. -/
def rowShiftsUptoCard : Claim7 := { stood := { row := rowShiftsUptoRow, standIns := [], harness := (true, "65bdc03face96a6f18dbf1dfef5af587f53e2b94a56da40e82cb2880f6b846bc"), looks := false }, kinds := [], alts := [], laidByText := true, laidKinds := [.widerDeep, .widerDeep], laidTests := true, laidLooks := .later }
def RowShiftsUptoCardSaid : Prop := Claim7.holds Tryd.pinned (.plain (OpenSpec.upto rowShiftsSpec)) rowShiftsUptoCard

/-- THE SECOND FORM's CARD OF 'fenestralaw12.RowStays'. -/
def rowStaysUptoCard : Claim7 := { stood := { row := rowStaysUptoRow, standIns := [], harness := (true, "65bdc03face96a6f18dbf1dfef5af587f53e2b94a56da40e82cb2880f6b846bc"), looks := false }, kinds := [], alts := [], laidByText := true, laidKinds := [.widerDeep, .widerDeep], laidTests := true, laidLooks := .later }
def RowStaysUptoCardSaid : Prop := Claim7.holds Tryd.pinned (.plain (OpenSpec.upto rowStaysSpec)) rowStaysUptoCard

/-- THE SECOND FORM's CARD OF 'fenestralaw12.RowShown'. -/
def rowShownUptoCard : Claim7 := { stood := { row := rowShownUptoRow, standIns := [], harness := (true, "65bdc03face96a6f18dbf1dfef5af587f53e2b94a56da40e82cb2880f6b846bc"), looks := false }, kinds := [], alts := [], laidByText := true, laidKinds := [.widerDeep, .widerDeep], laidTests := true, laidLooks := .later }
def RowShownUptoCardSaid : Prop := Claim7.holds Tryd.pinned (.plain (OpenSpec.upto rowShownSpec)) rowShownUptoCard

/-- THE SECOND FORM's CARD OF 'fenestralaw12.RowBack'. -/
def rowBackUptoCard : Claim7 := { stood := { row := rowBackUptoRow, standIns := [], harness := (true, "65bdc03face96a6f18dbf1dfef5af587f53e2b94a56da40e82cb2880f6b846bc"), looks := false }, kinds := [], alts := [], laidByText := true, laidKinds := [.widerDeep, .widerDeep], laidTests := true, laidLooks := .later }
def RowBackUptoCardSaid : Prop := Claim7.holds Tryd.pinned (.plain (OpenSpec.upto rowBackSpec)) rowBackUptoCard

/-- THE SECOND FORM's CARD OF 'fenestralaw12.RowKnown'. -/
def rowKnownUptoCard : Claim7 := { stood := { row := rowKnownUptoRow, standIns := [], harness := (true, "65bdc03face96a6f18dbf1dfef5af587f53e2b94a56da40e82cb2880f6b846bc"), looks := false }, kinds := [], alts := [], laidByText := true, laidKinds := [.widerDeep, .widerDeep], laidTests := true, laidLooks := .later }
def RowKnownUptoCardSaid : Prop := Claim7.holds Tryd.pinned (.plain (OpenSpec.upto rowKnownSpec)) rowKnownUptoCard

/-- THE SECOND FORM's CARD OF 'fenestralaw12.RowChecks'. -/
def rowChecksUptoCard : Claim7 := { stood := { row := rowChecksUptoRow, standIns := [], harness := (true, "65bdc03face96a6f18dbf1dfef5af587f53e2b94a56da40e82cb2880f6b846bc"), looks := false }, kinds := [], alts := [], laidByText := true, laidKinds := [.widerDeep, .widerDeep], laidTests := true, laidLooks := .later }
def RowChecksUptoCardSaid : Prop := Claim7.holds Tryd.pinned (.plain (OpenSpec.upto rowChecksSpec)) rowChecksUptoCard

/-- THE SECOND FORM's CARD OF 'fenestralaw12.RowMakes'. -/
def rowMakesUptoCard : Claim7 := { stood := { row := rowMakesUptoRow, standIns := [], harness := (true, "65bdc03face96a6f18dbf1dfef5af587f53e2b94a56da40e82cb2880f6b846bc"), looks := false }, kinds := [], alts := [], laidByText := true, laidKinds := [.widerDeep, .widerDeep], laidTests := true, laidLooks := .later }
def RowMakesUptoCardSaid : Prop := Claim7.holds Tryd.pinned (.plain (OpenSpec.upto rowMakesSpec)) rowMakesUptoCard
end Rows
end Go.Proofs.YtcjkcoekjfbcgaaDoor
