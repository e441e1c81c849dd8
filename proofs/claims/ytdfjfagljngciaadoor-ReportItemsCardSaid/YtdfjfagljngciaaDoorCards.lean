/-
  DERIVED. GIVEN WITH THE SEED: THE CARDS: each row of YtdfjfagljngciaaDoorRows.lean that lists a variable, with what it lists TIED to the program's text (the seventh form; the later family's looks); each row that meets fmt, with fmt's text TOLD by the authors' own Lean function (tested against real Go, not proved from fmt's source: count such statements apart). THE CARD IS WHAT COUNTS. Prove the row's statement (the work); the ties are given (YtdfjfagljngciaaDoorTie.lean); close each card by the builder's one call (the guide's Derived/Test/ToyasCard.lean, 'card_holds'). Laid BY PROGRAM, IN A SANDBOX (cutbox-door.mjs). By AI agents, Wed Nov 11 2026. No macro, syntax, notation, axiom, sorry.
-/
import Derived.Test.YtdfjfagljngciaaDoorRows
import GoSem.ClaimSeven
namespace Go.Proofs.YtdfjfagljngciaaDoor
namespace Rows

/-- THE TIED CARD OF 'sumplaw43.ReportItems'. -/
def reportItemsCard : Claim7 := { stood := { row := reportItemsRow, standIns := [], harness := (true, "cc17a28fa470d0cb998c9375616536cf0cbc496950e64e37e9f6a815f269a56b"), looks := false }, kinds := [], alts := [], laidByText := true, laidKinds := [.data, .data, .data], laidTests := true, laidLooks := .later }
def ReportItemsCardSaid : Prop := Claim7.holds Tryd.pinned (.plain (OpenSpec.ofChange reportItemsSpec)) reportItemsCard

/-- THE TIED CARD OF 'sumplaw43.ReportCalls'. -/
def reportCallsCard : Claim7 := { stood := { row := reportCallsRow, standIns := [], harness := (true, "cc17a28fa470d0cb998c9375616536cf0cbc496950e64e37e9f6a815f269a56b"), looks := false }, kinds := [], alts := [], laidByText := true, laidKinds := [.data, .data, .data], laidTests := true, laidLooks := .later }
def ReportCallsCardSaid : Prop := Claim7.holds Tryd.pinned (.plain (OpenSpec.ofChange reportCallsSpec)) reportCallsCard

/-- THE SECOND FORM's CARD OF 'sumplaw43.ReportItems'. -/
def reportItemsUptoCard : Claim7 := { stood := { row := reportItemsUptoRow, standIns := [], harness := (true, "cc17a28fa470d0cb998c9375616536cf0cbc496950e64e37e9f6a815f269a56b"), looks := false }, kinds := [], alts := [], laidByText := true, laidKinds := [.data, .data, .data], laidTests := true, laidLooks := .later }
def ReportItemsUptoCardSaid : Prop := Claim7.holds Tryd.pinned (.plain (OpenSpec.upto reportItemsSpec)) reportItemsUptoCard

/-- THE SECOND FORM's CARD OF 'sumplaw43.ReportCalls'. -/
def reportCallsUptoCard : Claim7 := { stood := { row := reportCallsUptoRow, standIns := [], harness := (true, "cc17a28fa470d0cb998c9375616536cf0cbc496950e64e37e9f6a815f269a56b"), looks := false }, kinds := [], alts := [], laidByText := true, laidKinds := [.data, .data, .data], laidTests := true, laidLooks := .later }
def ReportCallsUptoCardSaid : Prop := Claim7.holds Tryd.pinned (.plain (OpenSpec.upto reportCallsSpec)) reportCallsUptoCard
end Rows
end Go.Proofs.YtdfjfagljngciaaDoor
