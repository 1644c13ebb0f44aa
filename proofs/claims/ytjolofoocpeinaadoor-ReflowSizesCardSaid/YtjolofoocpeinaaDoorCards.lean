/-
  DERIVED. GIVEN WITH THE SEED: THE CARDS: each row of YtjolofoocpeinaaDoorRows.lean that lists a variable, with what it lists TIED to the program's text (the seventh form; the later family's looks); each row that meets fmt, with fmt's text TOLD by the authors' own Lean function (tested against real Go, not proved from fmt's source: count such statements apart). THE CARD IS WHAT COUNTS. Prove the row's statement (the work); the ties are given (YtjolofoocpeinaaDoorTie.lean); close each card by the builder's one call (the guide's Derived/Test/ToyasCard.lean, 'card_holds'). Laid BY PROGRAM, IN A SANDBOX (cutbox-door.mjs). By AI agents, Wed Nov 11 2026. No macro, syntax, notation, axiom, sorry.
-/
import Derived.Test.YtjolofoocpeinaaDoorRows
import GoSem.ClaimSeven
namespace Go.Proofs.YtjolofoocpeinaaDoor
namespace Rows

/-- THE TIED CARD OF 'fenestralaw19.ReflowLines'. -/
def reflowLinesCard : Claim7 := { stood := { row := reflowLinesRow, standIns := [], harness := (true, "6ae92d21f6879002e0b84fea4be366b818faa83fefe75fb15e5493823658c2bd"), looks := false }, kinds := [], alts := [], laidByText := true, laidKinds := [.widerDeep, .widerDeep], laidTests := true, laidLooks := .later }
def ReflowLinesCardSaid : Prop := Claim7.holds Tryd.pinned (.plain (OpenSpec.ofChange reflowLinesSpec)) reflowLinesCard

/-- THE TIED CARD OF 'fenestralaw19.ReflowSizes'. -/
def reflowSizesCard : Claim7 := { stood := { row := reflowSizesRow, standIns := [], harness := (true, "6ae92d21f6879002e0b84fea4be366b818faa83fefe75fb15e5493823658c2bd"), looks := false }, kinds := [], alts := [], laidByText := true, laidKinds := [.widerDeep, .widerDeep], laidTests := true, laidLooks := .later }
def ReflowSizesCardSaid : Prop := Claim7.holds Tryd.pinned (.plain (OpenSpec.ofChange reflowSizesSpec)) reflowSizesCard

/-- THE TIED CARD OF 'fenestralaw19.ReflowAlts'. -/
def reflowAltsCard : Claim7 := { stood := { row := reflowAltsRow, standIns := [], harness := (true, "6ae92d21f6879002e0b84fea4be366b818faa83fefe75fb15e5493823658c2bd"), looks := false }, kinds := [], alts := [], laidByText := true, laidKinds := [.widerDeep, .widerDeep], laidTests := true, laidLooks := .later }
def ReflowAltsCardSaid : Prop := Claim7.holds Tryd.pinned (.plain (OpenSpec.ofChange reflowAltsSpec)) reflowAltsCard

/-- THE TIED CARD OF 'fenestralaw19.ReflowKeeps'. -/
def reflowKeepsCard : Claim7 := { stood := { row := reflowKeepsRow, standIns := [], harness := (true, "6ae92d21f6879002e0b84fea4be366b818faa83fefe75fb15e5493823658c2bd"), looks := false }, kinds := [], alts := [], laidByText := true, laidKinds := [.widerDeep, .widerDeep], laidTests := true, laidLooks := .later }
def ReflowKeepsCardSaid : Prop := Claim7.holds Tryd.pinned (.plain (OpenSpec.ofChange reflowKeepsSpec)) reflowKeepsCard

/-- THE TIED CARD OF 'fenestralaw19.ReflowSame'. -/
def reflowSameCard : Claim7 := { stood := { row := reflowSameRow, standIns := [], harness := (true, "6ae92d21f6879002e0b84fea4be366b818faa83fefe75fb15e5493823658c2bd"), looks := false }, kinds := [], alts := [], laidByText := true, laidKinds := [.widerDeep, .widerDeep], laidTests := true, laidLooks := .later }
def ReflowSameCardSaid : Prop := Claim7.holds Tryd.pinned (.plain (OpenSpec.ofChange reflowSameSpec)) reflowSameCard

/-- THE TIED CARD OF 'fenestralaw19.ReflowFills'. -/
def reflowFillsCard : Claim7 := { stood := { row := reflowFillsRow, standIns := [], harness := (true, "6ae92d21f6879002e0b84fea4be366b818faa83fefe75fb15e5493823658c2bd"), looks := false }, kinds := [], alts := [], laidByText := true, laidKinds := [.widerDeep, .widerDeep], laidTests := true, laidLooks := .later }
def ReflowFillsCardSaid : Prop := Claim7.holds Tryd.pinned (.plain (OpenSpec.ofChange reflowFillsSpec)) reflowFillsCard

/-- THE TIED CARD OF 'fenestralaw19.ReflowKnown'. -/
def reflowKnownCard : Claim7 := { stood := { row := reflowKnownRow, standIns := [], harness := (true, "6ae92d21f6879002e0b84fea4be366b818faa83fefe75fb15e5493823658c2bd"), looks := false }, kinds := [], alts := [], laidByText := true, laidKinds := [.widerDeep, .widerDeep], laidTests := true, laidLooks := .later }
def ReflowKnownCardSaid : Prop := Claim7.holds Tryd.pinned (.plain (OpenSpec.ofChange reflowKnownSpec)) reflowKnownCard

/-- THE SECOND FORM's CARD OF 'fenestralaw19.ReflowLines'. -/
def reflowLinesUptoCard : Claim7 := { stood := { row := reflowLinesUptoRow, standIns := [], harness := (true, "6ae92d21f6879002e0b84fea4be366b818faa83fefe75fb15e5493823658c2bd"), looks := false }, kinds := [], alts := [], laidByText := true, laidKinds := [.widerDeep, .widerDeep], laidTests := true, laidLooks := .later }
def ReflowLinesUptoCardSaid : Prop := Claim7.holds Tryd.pinned (.plain (OpenSpec.upto reflowLinesSpec)) reflowLinesUptoCard

/-- THE SECOND FORM's CARD OF 'fenestralaw19.ReflowSizes'. -/
def reflowSizesUptoCard : Claim7 := { stood := { row := reflowSizesUptoRow, standIns := [], harness := (true, "6ae92d21f6879002e0b84fea4be366b818faa83fefe75fb15e5493823658c2bd"), looks := false }, kinds := [], alts := [], laidByText := true, laidKinds := [.widerDeep, .widerDeep], laidTests := true, laidLooks := .later }
def ReflowSizesUptoCardSaid : Prop := Claim7.holds Tryd.pinned (.plain (OpenSpec.upto reflowSizesSpec)) reflowSizesUptoCard

/-- THE SECOND FORM's CARD OF 'fenestralaw19.ReflowAlts'. -/
def reflowAltsUptoCard : Claim7 := { stood := { row := reflowAltsUptoRow, standIns := [], harness := (true, "6ae92d21f6879002e0b84fea4be366b818faa83fefe75fb15e5493823658c2bd"), looks := false }, kinds := [], alts := [], laidByText := true, laidKinds := [.widerDeep, .widerDeep], laidTests := true, laidLooks := .later }
def ReflowAltsUptoCardSaid : Prop := Claim7.holds Tryd.pinned (.plain (OpenSpec.upto reflowAltsSpec)) reflowAltsUptoCard

/-- THE SECOND FORM's CARD OF 'fenestralaw19.ReflowKeeps'. -/
def reflowKeepsUptoCard : Claim7 := { stood := { row := reflowKeepsUptoRow, standIns := [], harness := (true, "6ae92d21f6879002e0b84fea4be366b818faa83fefe75fb15e5493823658c2bd"), looks := false }, kinds := [], alts := [], laidByText := true, laidKinds := [.widerDeep, .widerDeep], laidTests := true, laidLooks := .later }
def ReflowKeepsUptoCardSaid : Prop := Claim7.holds Tryd.pinned (.plain (OpenSpec.upto reflowKeepsSpec)) reflowKeepsUptoCard

/-- THE SECOND FORM's CARD OF 'fenestralaw19.ReflowSame'. -/
def reflowSameUptoCard : Claim7 := { stood := { row := reflowSameUptoRow, standIns := [], harness := (true, "6ae92d21f6879002e0b84fea4be366b818faa83fefe75fb15e5493823658c2bd"), looks := false }, kinds := [], alts := [], laidByText := true, laidKinds := [.widerDeep, .widerDeep], laidTests := true, laidLooks := .later }
def ReflowSameUptoCardSaid : Prop := Claim7.holds Tryd.pinned (.plain (OpenSpec.upto reflowSameSpec)) reflowSameUptoCard

/-- THE SECOND FORM's CARD OF 'fenestralaw19.ReflowFills'. -/
def reflowFillsUptoCard : Claim7 := { stood := { row := reflowFillsUptoRow, standIns := [], harness := (true, "6ae92d21f6879002e0b84fea4be366b818faa83fefe75fb15e5493823658c2bd"), looks := false }, kinds := [], alts := [], laidByText := true, laidKinds := [.widerDeep, .widerDeep], laidTests := true, laidLooks := .later }
def ReflowFillsUptoCardSaid : Prop := Claim7.holds Tryd.pinned (.plain (OpenSpec.upto reflowFillsSpec)) reflowFillsUptoCard

/-- THE SECOND FORM's CARD OF 'fenestralaw19.ReflowKnown'. -/
def reflowKnownUptoCard : Claim7 := { stood := { row := reflowKnownUptoRow, standIns := [], harness := (true, "6ae92d21f6879002e0b84fea4be366b818faa83fefe75fb15e5493823658c2bd"), looks := false }, kinds := [], alts := [], laidByText := true, laidKinds := [.widerDeep, .widerDeep], laidTests := true, laidLooks := .later }
def ReflowKnownUptoCardSaid : Prop := Claim7.holds Tryd.pinned (.plain (OpenSpec.upto reflowKnownSpec)) reflowKnownUptoCard
end Rows
end Go.Proofs.YtjolofoocpeinaaDoor
