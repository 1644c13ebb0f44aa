/-
  DERIVED. GIVEN WITH THE SEED: THE CARDS: each row of YtefciljolljgmaaDoorRows.lean that lists a variable, with what it lists TIED to the program's text (the seventh form; the later family's looks); each row that meets fmt, with fmt's text TOLD by the authors' own Lean function (tested against real Go, not proved from fmt's source: count such statements apart). THE CARD IS WHAT COUNTS. Prove the row's statement (the work); the ties are given (YtefciljolljgmaaDoorTie.lean); close each card by the builder's one call (the guide's Derived/Test/ToyasCard.lean, 'card_holds'). Laid BY PROGRAM, IN A SANDBOX (cutbox-door.mjs). By AI agents, Wed Nov 11 2026. No macro, syntax, notation, axiom, sorry.
-/
import Derived.Test.YtefciljolljgmaaDoorRows
import GoSem.ClaimSeven
namespace Go.Proofs.YtefciljolljgmaaDoor
namespace Rows

/-- THE TIED CARD OF 'fenestralaw13.GridTurns'. -/
def gridTurnsCard : Claim7 := { stood := { row := gridTurnsRow, standIns := [], harness := (true, "603dc2a1cdf78b7ecb4fa4633b0f5c320d46653e562fbd760919d52227deab5b"), looks := false }, kinds := [], alts := [], laidByText := true, laidKinds := [.widerDeep, .widerDeep], laidTests := true, laidLooks := .later }
def GridTurnsCardSaid : Prop := Claim7.holds Tryd.pinned (.plain (OpenSpec.ofChange gridTurnsSpec)) gridTurnsCard

/-- THE TIED CARD OF 'fenestralaw13.GridErases'. -/
def gridErasesCard : Claim7 := { stood := { row := gridErasesRow, standIns := [], harness := (true, "603dc2a1cdf78b7ecb4fa4633b0f5c320d46653e562fbd760919d52227deab5b"), looks := false }, kinds := [], alts := [], laidByText := true, laidKinds := [.widerDeep, .widerDeep], laidTests := true, laidLooks := .later }
def GridErasesCardSaid : Prop := Claim7.holds Tryd.pinned (.plain (OpenSpec.ofChange gridErasesSpec)) gridErasesCard

/-- THE TIED CARD OF 'fenestralaw13.GridStays'. -/
def gridStaysCard : Claim7 := { stood := { row := gridStaysRow, standIns := [], harness := (true, "603dc2a1cdf78b7ecb4fa4633b0f5c320d46653e562fbd760919d52227deab5b"), looks := false }, kinds := [], alts := [], laidByText := true, laidKinds := [.widerDeep, .widerDeep], laidTests := true, laidLooks := .later }
def GridStaysCardSaid : Prop := Claim7.holds Tryd.pinned (.plain (OpenSpec.ofChange gridStaysSpec)) gridStaysCard

/-- THE TIED CARD OF 'fenestralaw13.GridWhole'. -/
def gridWholeCard : Claim7 := { stood := { row := gridWholeRow, standIns := [], harness := (true, "603dc2a1cdf78b7ecb4fa4633b0f5c320d46653e562fbd760919d52227deab5b"), looks := false }, kinds := [], alts := [], laidByText := true, laidKinds := [.widerDeep, .widerDeep], laidTests := true, laidLooks := .later }
def GridWholeCardSaid : Prop := Claim7.holds Tryd.pinned (.plain (OpenSpec.ofChange gridWholeSpec)) gridWholeCard

/-- THE TIED CARD OF 'fenestralaw13.GridMakes'. -/
def gridMakesCard : Claim7 := { stood := { row := gridMakesRow, standIns := [], harness := (true, "603dc2a1cdf78b7ecb4fa4633b0f5c320d46653e562fbd760919d52227deab5b"), looks := false }, kinds := [], alts := [], laidByText := true, laidKinds := [.widerDeep, .widerDeep], laidTests := true, laidLooks := .later }
def GridMakesCardSaid : Prop := Claim7.holds Tryd.pinned (.plain (OpenSpec.ofChange gridMakesSpec)) gridMakesCard

/-- THE TIED CARD OF 'fenestralaw13.GridBack'. -/
def gridBackCard : Claim7 := { stood := { row := gridBackRow, standIns := [], harness := (true, "603dc2a1cdf78b7ecb4fa4633b0f5c320d46653e562fbd760919d52227deab5b"), looks := false }, kinds := [], alts := [], laidByText := true, laidKinds := [.widerDeep, .widerDeep], laidTests := true, laidLooks := .later }
def GridBackCardSaid : Prop := Claim7.holds Tryd.pinned (.plain (OpenSpec.ofChange gridBackSpec)) gridBackCard

/-- THE TIED CARD OF 'fenestralaw13.GridChecks'. -/
def gridChecksCard : Claim7 := { stood := { row := gridChecksRow, standIns := [], harness := (true, "603dc2a1cdf78b7ecb4fa4633b0f5c320d46653e562fbd760919d52227deab5b"), looks := false }, kinds := [], alts := [], laidByText := true, laidKinds := [.widerDeep, .widerDeep], laidTests := true, laidLooks := .later }
def GridChecksCardSaid : Prop := Claim7.holds Tryd.pinned (.plain (OpenSpec.ofChange gridChecksSpec)) gridChecksCard

/-- THE TIED CARD OF 'fenestralaw13.GridKnown'. -/
def gridKnownCard : Claim7 := { stood := { row := gridKnownRow, standIns := [], harness := (true, "603dc2a1cdf78b7ecb4fa4633b0f5c320d46653e562fbd760919d52227deab5b"), looks := false }, kinds := [], alts := [], laidByText := true, laidKinds := [.widerDeep, .widerDeep], laidTests := true, laidLooks := .later }
def GridKnownCardSaid : Prop := Claim7.holds Tryd.pinned (.plain (OpenSpec.ofChange gridKnownSpec)) gridKnownCard

/-- THE SECOND FORM's CARD OF 'fenestralaw13.GridTurns'. -/
def gridTurnsUptoCard : Claim7 := { stood := { row := gridTurnsUptoRow, standIns := [], harness := (true, "603dc2a1cdf78b7ecb4fa4633b0f5c320d46653e562fbd760919d52227deab5b"), looks := false }, kinds := [], alts := [], laidByText := true, laidKinds := [.widerDeep, .widerDeep], laidTests := true, laidLooks := .later }
def GridTurnsUptoCardSaid : Prop := Claim7.holds Tryd.pinned (.plain (OpenSpec.upto gridTurnsSpec)) gridTurnsUptoCard

/-- THE SECOND FORM's CARD OF 'fenestralaw13.GridErases'. -/
def gridErasesUptoCard : Claim7 := { stood := { row := gridErasesUptoRow, standIns := [], harness := (true, "603dc2a1cdf78b7ecb4fa4633b0f5c320d46653e562fbd760919d52227deab5b"), looks := false }, kinds := [], alts := [], laidByText := true, laidKinds := [.widerDeep, .widerDeep], laidTests := true, laidLooks := .later }
def GridErasesUptoCardSaid : Prop := Claim7.holds Tryd.pinned (.plain (OpenSpec.upto gridErasesSpec)) gridErasesUptoCard

/-- THE SECOND FORM's CARD OF 'fenestralaw13.GridStays'. -/
def gridStaysUptoCard : Claim7 := { stood := { row := gridStaysUptoRow, standIns := [], harness := (true, "603dc2a1cdf78b7ecb4fa4633b0f5c320d46653e562fbd760919d52227deab5b"), looks := false }, kinds := [], alts := [], laidByText := true, laidKinds := [.widerDeep, .widerDeep], laidTests := true, laidLooks := .later }
def GridStaysUptoCardSaid : Prop := Claim7.holds Tryd.pinned (.plain (OpenSpec.upto gridStaysSpec)) gridStaysUptoCard

/-- THE SECOND FORM's CARD OF 'fenestralaw13.GridWhole'. -/
def gridWholeUptoCard : Claim7 := { stood := { row := gridWholeUptoRow, standIns := [], harness := (true, "603dc2a1cdf78b7ecb4fa4633b0f5c320d46653e562fbd760919d52227deab5b"), looks := false }, kinds := [], alts := [], laidByText := true, laidKinds := [.widerDeep, .widerDeep], laidTests := true, laidLooks := .later }
def GridWholeUptoCardSaid : Prop := Claim7.holds Tryd.pinned (.plain (OpenSpec.upto gridWholeSpec)) gridWholeUptoCard

/-- THE SECOND FORM's CARD OF 'fenestralaw13.GridMakes'. -/
def gridMakesUptoCard : Claim7 := { stood := { row := gridMakesUptoRow, standIns := [], harness := (true, "603dc2a1cdf78b7ecb4fa4633b0f5c320d46653e562fbd760919d52227deab5b"), looks := false }, kinds := [], alts := [], laidByText := true, laidKinds := [.widerDeep, .widerDeep], laidTests := true, laidLooks := .later }
def GridMakesUptoCardSaid : Prop := Claim7.holds Tryd.pinned (.plain (OpenSpec.upto gridMakesSpec)) gridMakesUptoCard

/-- THE SECOND FORM's CARD OF 'fenestralaw13.GridBack'. -/
def gridBackUptoCard : Claim7 := { stood := { row := gridBackUptoRow, standIns := [], harness := (true, "603dc2a1cdf78b7ecb4fa4633b0f5c320d46653e562fbd760919d52227deab5b"), looks := false }, kinds := [], alts := [], laidByText := true, laidKinds := [.widerDeep, .widerDeep], laidTests := true, laidLooks := .later }
def GridBackUptoCardSaid : Prop := Claim7.holds Tryd.pinned (.plain (OpenSpec.upto gridBackSpec)) gridBackUptoCard

/-- THE SECOND FORM's CARD OF 'fenestralaw13.GridChecks'. -/
def gridChecksUptoCard : Claim7 := { stood := { row := gridChecksUptoRow, standIns := [], harness := (true, "603dc2a1cdf78b7ecb4fa4633b0f5c320d46653e562fbd760919d52227deab5b"), looks := false }, kinds := [], alts := [], laidByText := true, laidKinds := [.widerDeep, .widerDeep], laidTests := true, laidLooks := .later }
def GridChecksUptoCardSaid : Prop := Claim7.holds Tryd.pinned (.plain (OpenSpec.upto gridChecksSpec)) gridChecksUptoCard

/-- THE SECOND FORM's CARD OF 'fenestralaw13.GridKnown'. -/
def gridKnownUptoCard : Claim7 := { stood := { row := gridKnownUptoRow, standIns := [], harness := (true, "603dc2a1cdf78b7ecb4fa4633b0f5c320d46653e562fbd760919d52227deab5b"), looks := false }, kinds := [], alts := [], laidByText := true, laidKinds := [.widerDeep, .widerDeep], laidTests := true, laidLooks := .later }
def GridKnownUptoCardSaid : Prop := Claim7.holds Tryd.pinned (.plain (OpenSpec.upto gridKnownSpec)) gridKnownUptoCard
end Rows
end Go.Proofs.YtefciljolljgmaaDoor
