/-
  DERIVED. GIVEN WITH THE SEED: THE CARDS: each row of YtllbopmdpmjcpaaGreatDoorRows.lean that lists a variable, with what it lists TIED to the program's text (the seventh form; the later family's looks); each row that meets fmt, with fmt's text TOLD by the authors' own Lean function (tested against real Go, not proved from fmt's source: count such statements apart). THE CARD IS WHAT COUNTS. Prove the row's statement (the work); the ties are given (YtllbopmdpmjcpaaGreatDoorTie.lean); close each card by the builder's one call (the guide's Derived/Test/ToyasCard.lean, 'card_holds'). Laid BY PROGRAM, IN A SANDBOX (cutbox-door.mjs). By AI agents, Wed Nov 11 2026. No macro, syntax, notation, axiom, sorry.
-/
import Derived.Test.YtllbopmdpmjcpaaGreatDoorRows
import GoSem.ClaimSeven
namespace Go.Proofs.YtllbopmdpmjcpaaGreatDoor
namespace Rows

/-- THE TIED CARD OF 'plinthlaw16.MeasureFalls'. -/
def measureFallsCard : Claim7 := { stood := { row := measureFallsRow, standIns := [], harness := (true, "f832e4ab37477e8a8a6327f0f6e5b680f6064c778635f9775650e5d357065368"), looks := true }, kinds := [], alts := [], laidByText := true, laidKinds := [.data, .listed, .data, .pinned], laidTests := true, laidLooks := .later }
def MeasureFallsCardSaid : Prop := Claim7.holds Tryz.pinned (.plain (OpenSpec.ofChange measureFallsSpec)) measureFallsCard

/-- THE TIED CARD OF 'plinthlaw16.MeasureOrder'. -/
def measureOrderCard : Claim7 := { stood := { row := measureOrderRow, standIns := [], harness := (true, "f832e4ab37477e8a8a6327f0f6e5b680f6064c778635f9775650e5d357065368"), looks := true }, kinds := [], alts := [], laidByText := true, laidKinds := [.data, .listed, .data, .pinned], laidTests := true, laidLooks := .later }
def MeasureOrderCardSaid : Prop := Claim7.holds Tryz.pinned (.plain (OpenSpec.ofChange measureOrderSpec)) measureOrderCard

/-- THE TIED CARD OF 'plinthlaw16.MeasureCond'. -/
def measureCondCard : Claim7 := { stood := { row := measureCondRow, standIns := [], harness := (true, "f832e4ab37477e8a8a6327f0f6e5b680f6064c778635f9775650e5d357065368"), looks := true }, kinds := [], alts := [], laidByText := true, laidKinds := [.data, .listed, .data, .pinned], laidTests := true, laidLooks := .later }
def MeasureCondCardSaid : Prop := Claim7.holds Tryz.pinned (.plain (OpenSpec.ofChange measureCondSpec)) measureCondCard

/-- THE SECOND FORM's CARD OF 'plinthlaw16.MeasureFalls'. -/
def measureFallsUptoCard : Claim7 := { stood := { row := measureFallsUptoRow, standIns := [], harness := (true, "f832e4ab37477e8a8a6327f0f6e5b680f6064c778635f9775650e5d357065368"), looks := true }, kinds := [], alts := [], laidByText := true, laidKinds := [.data, .listed, .data, .pinned], laidTests := true, laidLooks := .later }
def MeasureFallsUptoCardSaid : Prop := Claim7.holds Tryz.pinned (.plain (OpenSpec.upto measureFallsSpec)) measureFallsUptoCard

/-- THE SECOND FORM's CARD OF 'plinthlaw16.MeasureOrder'. -/
def measureOrderUptoCard : Claim7 := { stood := { row := measureOrderUptoRow, standIns := [], harness := (true, "f832e4ab37477e8a8a6327f0f6e5b680f6064c778635f9775650e5d357065368"), looks := true }, kinds := [], alts := [], laidByText := true, laidKinds := [.data, .listed, .data, .pinned], laidTests := true, laidLooks := .later }
def MeasureOrderUptoCardSaid : Prop := Claim7.holds Tryz.pinned (.plain (OpenSpec.upto measureOrderSpec)) measureOrderUptoCard

/-- THE SECOND FORM's CARD OF 'plinthlaw16.MeasureCond'. -/
def measureCondUptoCard : Claim7 := { stood := { row := measureCondUptoRow, standIns := [], harness := (true, "f832e4ab37477e8a8a6327f0f6e5b680f6064c778635f9775650e5d357065368"), looks := true }, kinds := [], alts := [], laidByText := true, laidKinds := [.data, .listed, .data, .pinned], laidTests := true, laidLooks := .later }
def MeasureCondUptoCardSaid : Prop := Claim7.holds Tryz.pinned (.plain (OpenSpec.upto measureCondSpec)) measureCondUptoCard
end Rows
end Go.Proofs.YtllbopmdpmjcpaaGreatDoor
