/-
  DERIVED. GIVEN WITH THE SEED: THE CARDS: each row of YtecnbidgdohmgaaDoorRows.lean that lists a variable, with what it lists TIED to the program's text (the seventh form; the later family's looks); each row that meets fmt, with fmt's text TOLD by the authors' own Lean function (tested against real Go, not proved from fmt's source: count such statements apart). THE CARD IS WHAT COUNTS. Prove the row's statement (the work); the ties are given (YtecnbidgdohmgaaDoorTie.lean); close each card by the builder's one call (the guide's Derived/Test/ToyasCard.lean, 'card_holds'). Laid BY PROGRAM, IN A SANDBOX (cutbox-door.mjs). By AI agents, Wed Nov 11 2026. No macro, syntax, notation, axiom, sorry.
-/
import Derived.Test.YtecnbidgdohmgaaDoorRows
import GoSem.ClaimSeven
namespace Go.Proofs.YtecnbidgdohmgaaDoor
namespace Rows

/-- THE TIED CARD OF 'fenestralaw18.PastPushes'. -/
def pastPushesCard : Claim7 := { stood := { row := pastPushesRow, standIns := [], harness := (true, "74dbd902d957543651d1c65c17b817f20b5157f1d77d4d03a26786e4dfddd6b6"), looks := false }, kinds := [], alts := [], laidByText := true, laidKinds := [.widerDeep, .widerDeep], laidTests := true, laidLooks := .later }
def PastPushesCardSaid : Prop := Claim7.holds Tryd.pinned (.plain (OpenSpec.ofChange pastPushesSpec)) pastPushesCard

/-- THE TIED CARD OF 'fenestralaw18.PastPops'. -/
def pastPopsCard : Claim7 := { stood := { row := pastPopsRow, standIns := [], harness := (true, "74dbd902d957543651d1c65c17b817f20b5157f1d77d4d03a26786e4dfddd6b6"), looks := false }, kinds := [], alts := [], laidByText := true, laidKinds := [.widerDeep, .widerDeep], laidTests := true, laidLooks := .later }
def PastPopsCardSaid : Prop := Claim7.holds Tryd.pinned (.plain (OpenSpec.ofChange pastPopsSpec)) pastPopsCard

/-- THE TIED CARD OF 'fenestralaw18.PastViews'. -/
def pastViewsCard : Claim7 := { stood := { row := pastViewsRow, standIns := [], harness := (true, "74dbd902d957543651d1c65c17b817f20b5157f1d77d4d03a26786e4dfddd6b6"), looks := false }, kinds := [], alts := [], laidByText := true, laidKinds := [.widerDeep, .widerDeep], laidTests := true, laidLooks := .later }
def PastViewsCardSaid : Prop := Claim7.holds Tryd.pinned (.plain (OpenSpec.ofChange pastViewsSpec)) pastViewsCard

/-- THE TIED CARD OF 'fenestralaw18.PastBack'. -/
def pastBackCard : Claim7 := { stood := { row := pastBackRow, standIns := [], harness := (true, "74dbd902d957543651d1c65c17b817f20b5157f1d77d4d03a26786e4dfddd6b6"), looks := false }, kinds := [], alts := [], laidByText := true, laidKinds := [.widerDeep, .widerDeep], laidTests := true, laidLooks := .later }
def PastBackCardSaid : Prop := Claim7.holds Tryd.pinned (.plain (OpenSpec.ofChange pastBackSpec)) pastBackCard

/-- THE TIED CARD OF 'fenestralaw18.PastLooks'. -/
def pastLooksCard : Claim7 := { stood := { row := pastLooksRow, standIns := [], harness := (true, "74dbd902d957543651d1c65c17b817f20b5157f1d77d4d03a26786e4dfddd6b6"), looks := false }, kinds := [], alts := [], laidByText := true, laidKinds := [.widerDeep, .widerDeep], laidTests := true, laidLooks := .later }
def PastLooksCardSaid : Prop := Claim7.holds Tryd.pinned (.plain (OpenSpec.ofChange pastLooksSpec)) pastLooksCard

/-- THE TIED CARD OF 'fenestralaw18.PastKnown'. -/
def pastKnownCard : Claim7 := { stood := { row := pastKnownRow, standIns := [], harness := (true, "74dbd902d957543651d1c65c17b817f20b5157f1d77d4d03a26786e4dfddd6b6"), looks := false }, kinds := [], alts := [], laidByText := true, laidKinds := [.widerDeep, .widerDeep], laidTests := true, laidLooks := .later }
def PastKnownCardSaid : Prop := Claim7.holds Tryd.pinned (.plain (OpenSpec.ofChange pastKnownSpec)) pastKnownCard

/-- THE SECOND FORM's CARD OF 'fenestralaw18.PastPushes'. -/
def pastPushesUptoCard : Claim7 := { stood := { row := pastPushesUptoRow, standIns := [], harness := (true, "74dbd902d957543651d1c65c17b817f20b5157f1d77d4d03a26786e4dfddd6b6"), looks := false }, kinds := [], alts := [], laidByText := true, laidKinds := [.widerDeep, .widerDeep], laidTests := true, laidLooks := .later }
def PastPushesUptoCardSaid : Prop := Claim7.holds Tryd.pinned (.plain (OpenSpec.upto pastPushesSpec)) pastPushesUptoCard

/-- THE SECOND FORM's CARD OF 'fenestralaw18.PastPops'. -/
def pastPopsUptoCard : Claim7 := { stood := { row := pastPopsUptoRow, standIns := [], harness := (true, "74dbd902d957543651d1c65c17b817f20b5157f1d77d4d03a26786e4dfddd6b6"), looks := false }, kinds := [], alts := [], laidByText := true, laidKinds := [.widerDeep, .widerDeep], laidTests := true, laidLooks := .later }
def PastPopsUptoCardSaid : Prop := Claim7.holds Tryd.pinned (.plain (OpenSpec.upto pastPopsSpec)) pastPopsUptoCard

/-- THE SECOND FORM's CARD OF 'fenestralaw18.PastViews'. -/
def pastViewsUptoCard : Claim7 := { stood := { row := pastViewsUptoRow, standIns := [], harness := (true, "74dbd902d957543651d1c65c17b817f20b5157f1d77d4d03a26786e4dfddd6b6"), looks := false }, kinds := [], alts := [], laidByText := true, laidKinds := [.widerDeep, .widerDeep], laidTests := true, laidLooks := .later }
def PastViewsUptoCardSaid : Prop := Claim7.holds Tryd.pinned (.plain (OpenSpec.upto pastViewsSpec)) pastViewsUptoCard

/-- THE SECOND FORM's CARD OF 'fenestralaw18.PastBack'. -/
def pastBackUptoCard : Claim7 := { stood := { row := pastBackUptoRow, standIns := [], harness := (true, "74dbd902d957543651d1c65c17b817f20b5157f1d77d4d03a26786e4dfddd6b6"), looks := false }, kinds := [], alts := [], laidByText := true, laidKinds := [.widerDeep, .widerDeep], laidTests := true, laidLooks := .later }
def PastBackUptoCardSaid : Prop := Claim7.holds Tryd.pinned (.plain (OpenSpec.upto pastBackSpec)) pastBackUptoCard

/-- THE SECOND FORM's CARD OF 'fenestralaw18.PastLooks'. -/
def pastLooksUptoCard : Claim7 := { stood := { row := pastLooksUptoRow, standIns := [], harness := (true, "74dbd902d957543651d1c65c17b817f20b5157f1d77d4d03a26786e4dfddd6b6"), looks := false }, kinds := [], alts := [], laidByText := true, laidKinds := [.widerDeep, .widerDeep], laidTests := true, laidLooks := .later }
def PastLooksUptoCardSaid : Prop := Claim7.holds Tryd.pinned (.plain (OpenSpec.upto pastLooksSpec)) pastLooksUptoCard

/-- THE SECOND FORM's CARD OF 'fenestralaw18.PastKnown'. -/
def pastKnownUptoCard : Claim7 := { stood := { row := pastKnownUptoRow, standIns := [], harness := (true, "74dbd902d957543651d1c65c17b817f20b5157f1d77d4d03a26786e4dfddd6b6"), looks := false }, kinds := [], alts := [], laidByText := true, laidKinds := [.widerDeep, .widerDeep], laidTests := true, laidLooks := .later }
def PastKnownUptoCardSaid : Prop := Claim7.holds Tryd.pinned (.plain (OpenSpec.upto pastKnownSpec)) pastKnownUptoCard
end Rows
end Go.Proofs.YtecnbidgdohmgaaDoor
