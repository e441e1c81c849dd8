/-
  DERIVED. GIVEN WITH THE SEED: THE CARDS: each row of YtdfjfagljngciaaGreatDoorRows.lean that lists a variable, with what it lists TIED to the program's text (the seventh form; the later family's looks); each row that meets fmt, with fmt's text TOLD by the authors' own Lean function (tested against real Go, not proved from fmt's source: count such statements apart). THE CARD IS WHAT COUNTS. Prove the row's statement (the work); the ties are given (YtdfjfagljngciaaGreatDoorTie.lean); close each card by the builder's one call (the guide's Derived/Test/ToyasCard.lean, 'card_holds'). Laid BY PROGRAM, IN A SANDBOX (cutbox-door.mjs). By AI agents, Wed Nov 11 2026. No macro, syntax, notation, axiom, sorry.
-/
import Derived.Test.YtdfjfagljngciaaGreatDoorRows
import GoSem.ClaimSeven
namespace Go.Proofs.YtdfjfagljngciaaGreatDoor
namespace Rows

/-- THE TIED CARD OF 'sumplaw16.StateBack'. -/
def stateBackCard : Claim7 := { stood := { row := stateBackRow, standIns := [], harness := (true, "3844078db3326f4d12b367a7f85d25bf27bc1d64f35277bbaa5a1eec5533cbc5"), looks := true }, kinds := [], alts := [], laidByText := true, laidKinds := [.data, .pinned], laidTests := true, laidLooks := .later }
def StateBackCardSaid : Prop := Claim7.holds Tryz.pinned (.plain (OpenSpec.ofChange stateBackSpec)) stateBackCard

/-- THE TIED CARD OF 'sumplaw16.StateFinds'. -/
def stateFindsCard : Claim7 := { stood := { row := stateFindsRow, standIns := [], harness := (true, "3844078db3326f4d12b367a7f85d25bf27bc1d64f35277bbaa5a1eec5533cbc5"), looks := true }, kinds := [], alts := [], laidByText := true, laidKinds := [.data, .pinned], laidTests := true, laidLooks := .later }
def StateFindsCardSaid : Prop := Claim7.holds Tryz.pinned (.plain (OpenSpec.ofChange stateFindsSpec)) stateFindsCard

/-- THE TIED CARD OF 'sumplaw16.StateRight'. -/
def stateRightCard : Claim7 := { stood := { row := stateRightRow, standIns := [], harness := (true, "3844078db3326f4d12b367a7f85d25bf27bc1d64f35277bbaa5a1eec5533cbc5"), looks := true }, kinds := [], alts := [], laidByText := true, laidKinds := [.data, .pinned], laidTests := true, laidLooks := .later }
def StateRightCardSaid : Prop := Claim7.holds Tryz.pinned (.plain (OpenSpec.ofChange stateRightSpec)) stateRightCard

/-- THE SECOND FORM's CARD OF 'sumplaw16.StateBack'. -/
def stateBackUptoCard : Claim7 := { stood := { row := stateBackUptoRow, standIns := [], harness := (true, "3844078db3326f4d12b367a7f85d25bf27bc1d64f35277bbaa5a1eec5533cbc5"), looks := true }, kinds := [], alts := [], laidByText := true, laidKinds := [.data, .pinned], laidTests := true, laidLooks := .later }
def StateBackUptoCardSaid : Prop := Claim7.holds Tryz.pinned (.plain (OpenSpec.upto stateBackSpec)) stateBackUptoCard

/-- THE SECOND FORM's CARD OF 'sumplaw16.StateFinds'. -/
def stateFindsUptoCard : Claim7 := { stood := { row := stateFindsUptoRow, standIns := [], harness := (true, "3844078db3326f4d12b367a7f85d25bf27bc1d64f35277bbaa5a1eec5533cbc5"), looks := true }, kinds := [], alts := [], laidByText := true, laidKinds := [.data, .pinned], laidTests := true, laidLooks := .later }
def StateFindsUptoCardSaid : Prop := Claim7.holds Tryz.pinned (.plain (OpenSpec.upto stateFindsSpec)) stateFindsUptoCard

/-- THE SECOND FORM's CARD OF 'sumplaw16.StateRight'. -/
def stateRightUptoCard : Claim7 := { stood := { row := stateRightUptoRow, standIns := [], harness := (true, "3844078db3326f4d12b367a7f85d25bf27bc1d64f35277bbaa5a1eec5533cbc5"), looks := true }, kinds := [], alts := [], laidByText := true, laidKinds := [.data, .pinned], laidTests := true, laidLooks := .later }
def StateRightUptoCardSaid : Prop := Claim7.holds Tryz.pinned (.plain (OpenSpec.upto stateRightSpec)) stateRightUptoCard
end Rows
end Go.Proofs.YtdfjfagljngciaaGreatDoor
