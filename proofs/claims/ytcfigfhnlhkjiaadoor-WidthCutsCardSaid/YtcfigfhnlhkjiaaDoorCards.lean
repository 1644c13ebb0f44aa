/-
  DERIVED. GIVEN WITH THE SEED: THE CARDS: each row of YtcfigfhnlhkjiaaDoorRows.lean that lists a variable, with what it lists TIED to the program's text (the seventh form; the later family's looks); each row that meets fmt, with fmt's text TOLD by the authors' own Lean function (tested against real Go, not proved from fmt's source: count such statements apart). THE CARD IS WHAT COUNTS. Prove the row's statement (the work); the ties are given (YtcfigfhnlhkjiaaDoorTie.lean); close each card by the builder's one call (the guide's Derived/Test/ToyasCard.lean, 'card_holds'). Laid BY PROGRAM, IN A SANDBOX (cutbox-door.mjs). By AI agents, Wed Nov 11 2026. No macro, syntax, notation, axiom, sorry.
-/
import Derived.Test.YtcfigfhnlhkjiaaDoorRows
import GoSem.ClaimSeven
namespace Go.Proofs.YtcfigfhnlhkjiaaDoor
namespace Rows

/-- THE TIED CARD OF 'fenestralaw02.WidthTells'. -/
def widthTellsCard : Claim7 := { stood := { row := widthTellsRow, standIns := [], harness := (true, "92b9929c907a494d279e1d3d3d474de911eb7bf6399fad8fd3de29f3967a68dd"), looks := false }, kinds := [], alts := [], laidByText := true, laidKinds := [.widerDeep, .widerDeep], laidTests := true, laidLooks := .later }
def WidthTellsCardSaid : Prop := Claim7.holds Tryd.pinned (.plain (OpenSpec.ofChange widthTellsSpec)) widthTellsCard

/-- THE TIED CARD OF 'fenestralaw02.WidthCuts'. -/
def widthCutsCard : Claim7 := { stood := { row := widthCutsRow, standIns := [], harness := (true, "92b9929c907a494d279e1d3d3d474de911eb7bf6399fad8fd3de29f3967a68dd"), looks := false }, kinds := [], alts := [], laidByText := true, laidKinds := [.widerDeep, .widerDeep], laidTests := true, laidLooks := .later }
def WidthCutsCardSaid : Prop := Claim7.holds Tryd.pinned (.plain (OpenSpec.ofChange widthCutsSpec)) widthCutsCard

/-- THE TIED CARD OF 'fenestralaw02.WidthCut'. -/
def widthCutCard : Claim7 := { stood := { row := widthCutRow, standIns := [], harness := (true, "92b9929c907a494d279e1d3d3d474de911eb7bf6399fad8fd3de29f3967a68dd"), looks := false }, kinds := [], alts := [], laidByText := true, laidKinds := [.widerDeep, .widerDeep], laidTests := true, laidLooks := .later }
def WidthCutCardSaid : Prop := Claim7.holds Tryd.pinned (.plain (OpenSpec.ofChange widthCutSpec)) widthCutCard

/-- THE TIED CARD OF 'fenestralaw02.WidthSums'. -/
def widthSumsCard : Claim7 := { stood := { row := widthSumsRow, standIns := [], harness := (true, "92b9929c907a494d279e1d3d3d474de911eb7bf6399fad8fd3de29f3967a68dd"), looks := false }, kinds := [], alts := [], laidByText := true, laidKinds := [.widerDeep, .widerDeep], laidTests := true, laidLooks := .later }
def WidthSumsCardSaid : Prop := Claim7.holds Tryd.pinned (.plain (OpenSpec.ofChange widthSumsSpec)) widthSumsCard

/-- THE TIED CARD OF 'fenestralaw02.WidthKnown'. -/
def widthKnownCard : Claim7 := { stood := { row := widthKnownRow, standIns := [], harness := (true, "92b9929c907a494d279e1d3d3d474de911eb7bf6399fad8fd3de29f3967a68dd"), looks := false }, kinds := [], alts := [], laidByText := true, laidKinds := [.widerDeep, .widerDeep], laidTests := true, laidLooks := .later }
def WidthKnownCardSaid : Prop := Claim7.holds Tryd.pinned (.plain (OpenSpec.ofChange widthKnownSpec)) widthKnownCard

/-- THE SECOND FORM's CARD OF 'fenestralaw02.WidthTells'. -/
def widthTellsUptoCard : Claim7 := { stood := { row := widthTellsUptoRow, standIns := [], harness := (true, "92b9929c907a494d279e1d3d3d474de911eb7bf6399fad8fd3de29f3967a68dd"), looks := false }, kinds := [], alts := [], laidByText := true, laidKinds := [.widerDeep, .widerDeep], laidTests := true, laidLooks := .later }
def WidthTellsUptoCardSaid : Prop := Claim7.holds Tryd.pinned (.plain (OpenSpec.upto widthTellsSpec)) widthTellsUptoCard

/-- THE SECOND FORM's CARD OF 'fenestralaw02.WidthCuts'. -/
def widthCutsUptoCard : Claim7 := { stood := { row := widthCutsUptoRow, standIns := [], harness := (true, "92b9929c907a494d279e1d3d3d474de911eb7bf6399fad8fd3de29f3967a68dd"), looks := false }, kinds := [], alts := [], laidByText := true, laidKinds := [.widerDeep, .widerDeep], laidTests := true, laidLooks := .later }
def WidthCutsUptoCardSaid : Prop := Claim7.holds Tryd.pinned (.plain (OpenSpec.upto widthCutsSpec)) widthCutsUptoCard

/-- THE SECOND FORM's CARD OF 'fenestralaw02.WidthCut'. -/
def widthCutUptoCard : Claim7 := { stood := { row := widthCutUptoRow, standIns := [], harness := (true, "92b9929c907a494d279e1d3d3d474de911eb7bf6399fad8fd3de29f3967a68dd"), looks := false }, kinds := [], alts := [], laidByText := true, laidKinds := [.widerDeep, .widerDeep], laidTests := true, laidLooks := .later }
def WidthCutUptoCardSaid : Prop := Claim7.holds Tryd.pinned (.plain (OpenSpec.upto widthCutSpec)) widthCutUptoCard

/-- THE SECOND FORM's CARD OF 'fenestralaw02.WidthSums'. -/
def widthSumsUptoCard : Claim7 := { stood := { row := widthSumsUptoRow, standIns := [], harness := (true, "92b9929c907a494d279e1d3d3d474de911eb7bf6399fad8fd3de29f3967a68dd"), looks := false }, kinds := [], alts := [], laidByText := true, laidKinds := [.widerDeep, .widerDeep], laidTests := true, laidLooks := .later }
def WidthSumsUptoCardSaid : Prop := Claim7.holds Tryd.pinned (.plain (OpenSpec.upto widthSumsSpec)) widthSumsUptoCard

/-- THE SECOND FORM's CARD OF 'fenestralaw02.WidthKnown'. -/
def widthKnownUptoCard : Claim7 := { stood := { row := widthKnownUptoRow, standIns := [], harness := (true, "92b9929c907a494d279e1d3d3d474de911eb7bf6399fad8fd3de29f3967a68dd"), looks := false }, kinds := [], alts := [], laidByText := true, laidKinds := [.widerDeep, .widerDeep], laidTests := true, laidLooks := .later }
def WidthKnownUptoCardSaid : Prop := Claim7.holds Tryd.pinned (.plain (OpenSpec.upto widthKnownSpec)) widthKnownUptoCard
end Rows
end Go.Proofs.YtcfigfhnlhkjiaaDoor
