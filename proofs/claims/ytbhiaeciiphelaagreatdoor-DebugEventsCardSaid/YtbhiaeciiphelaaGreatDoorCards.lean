/-
  DERIVED. GIVEN WITH THE SEED: THE CARDS: each row of YtbhiaeciiphelaaGreatDoorRows.lean that lists a variable, with what it lists TIED to the program's text (the seventh form; the later family's looks); each row that meets fmt, with fmt's text TOLD by the authors' own Lean function (tested against real Go, not proved from fmt's source: count such statements apart). THE CARD IS WHAT COUNTS. Prove the row's statement (the work); the ties are given (YtbhiaeciiphelaaGreatDoorTie.lean); close each card by the builder's one call (the guide's Derived/Test/ToyasCard.lean, 'card_holds'). Laid BY PROGRAM, IN A SANDBOX (cutbox-door.mjs). By AI agents, Wed Nov 11 2026. No macro, syntax, notation, axiom, sorry.
-/
import Derived.Test.YtbhiaeciiphelaaGreatDoorRows
import GoSem.ClaimSeven
namespace Go.Proofs.YtbhiaeciiphelaaGreatDoor
namespace Rows

/-- THE TIED CARD OF 'restitchlaw25.DebugPlaces'. -/
def debugPlacesCard : Claim7 := { stood := { row := debugPlacesRow, standIns := [], harness := (true, "7db067e13dc8dd0c0cd939b77dc3d63cb72e0214fb7e0bfdf555525967925ee0"), looks := true }, kinds := [], alts := [], laidByText := true, laidKinds := [.data, .data, .data, .data, .sentinel, .sentinel, .pinned], laidTests := true, laidLooks := .later }
def DebugPlacesCardSaid : Prop := Claim7.holds Tryz.pinned (.plain (OpenSpec.ofChange debugPlacesSpec)) debugPlacesCard

/-- THE TIED CARD OF 'restitchlaw25.DebugTraces'. -/
def debugTracesCard : Claim7 := { stood := { row := debugTracesRow, standIns := [], harness := (true, "7db067e13dc8dd0c0cd939b77dc3d63cb72e0214fb7e0bfdf555525967925ee0"), looks := true }, kinds := [], alts := [], laidByText := true, laidKinds := [.data, .data, .data, .data, .sentinel, .sentinel, .pinned], laidTests := true, laidLooks := .later }
def DebugTracesCardSaid : Prop := Claim7.holds Tryz.pinned (.plain (OpenSpec.ofChange debugTracesSpec)) debugTracesCard

/-- THE TIED CARD OF 'restitchlaw25.DebugEvents'. -/
def debugEventsCard : Claim7 := { stood := { row := debugEventsRow, standIns := [], harness := (true, "7db067e13dc8dd0c0cd939b77dc3d63cb72e0214fb7e0bfdf555525967925ee0"), looks := true }, kinds := [], alts := [], laidByText := true, laidKinds := [.data, .data, .data, .data, .sentinel, .sentinel, .pinned], laidTests := true, laidLooks := .later }
def DebugEventsCardSaid : Prop := Claim7.holds Tryz.pinned (.plain (OpenSpec.ofChange debugEventsSpec)) debugEventsCard

/-- THE TIED CARD OF 'restitchlaw25.DebugMoments'. -/
def debugMomentsCard : Claim7 := { stood := { row := debugMomentsRow, standIns := [], harness := (true, "7db067e13dc8dd0c0cd939b77dc3d63cb72e0214fb7e0bfdf555525967925ee0"), looks := true }, kinds := [], alts := [], laidByText := true, laidKinds := [.data, .data, .data, .data, .sentinel, .sentinel, .pinned], laidTests := true, laidLooks := .later }
def DebugMomentsCardSaid : Prop := Claim7.holds Tryz.pinned (.plain (OpenSpec.ofChange debugMomentsSpec)) debugMomentsCard

/-- THE TIED CARD OF 'restitchlaw25.DebugDepends'. -/
def debugDependsCard : Claim7 := { stood := { row := debugDependsRow, standIns := [], harness := (true, "7db067e13dc8dd0c0cd939b77dc3d63cb72e0214fb7e0bfdf555525967925ee0"), looks := true }, kinds := [], alts := [], laidByText := true, laidKinds := [.data, .data, .data, .data, .sentinel, .sentinel, .pinned], laidTests := true, laidLooks := .later }
def DebugDependsCardSaid : Prop := Claim7.holds Tryz.pinned (.plain (OpenSpec.ofChange debugDependsSpec)) debugDependsCard

/-- THE TIED CARD OF 'restitchlaw25.DebugWhy'. -/
def debugWhyCard : Claim7 := { stood := { row := debugWhyRow, standIns := [], harness := (true, "7db067e13dc8dd0c0cd939b77dc3d63cb72e0214fb7e0bfdf555525967925ee0"), looks := true }, kinds := [], alts := [], laidByText := true, laidKinds := [.data, .data, .data, .data, .sentinel, .sentinel, .pinned], laidTests := true, laidLooks := .later }
def DebugWhyCardSaid : Prop := Claim7.holds Tryz.pinned (.plain (OpenSpec.ofChange debugWhySpec)) debugWhyCard

/-- THE SECOND FORM's CARD OF 'restitchlaw25.DebugPlaces'. -/
def debugPlacesUptoCard : Claim7 := { stood := { row := debugPlacesUptoRow, standIns := [], harness := (true, "7db067e13dc8dd0c0cd939b77dc3d63cb72e0214fb7e0bfdf555525967925ee0"), looks := true }, kinds := [], alts := [], laidByText := true, laidKinds := [.data, .data, .data, .data, .sentinel, .sentinel, .pinned], laidTests := true, laidLooks := .later }
def DebugPlacesUptoCardSaid : Prop := Claim7.holds Tryz.pinned (.plain (OpenSpec.upto debugPlacesSpec)) debugPlacesUptoCard

/-- THE SECOND FORM's CARD OF 'restitchlaw25.DebugTraces'. -/
def debugTracesUptoCard : Claim7 := { stood := { row := debugTracesUptoRow, standIns := [], harness := (true, "7db067e13dc8dd0c0cd939b77dc3d63cb72e0214fb7e0bfdf555525967925ee0"), looks := true }, kinds := [], alts := [], laidByText := true, laidKinds := [.data, .data, .data, .data, .sentinel, .sentinel, .pinned], laidTests := true, laidLooks := .later }
def DebugTracesUptoCardSaid : Prop := Claim7.holds Tryz.pinned (.plain (OpenSpec.upto debugTracesSpec)) debugTracesUptoCard

/-- THE SECOND FORM's CARD OF 'restitchlaw25.DebugEvents'. -/
def debugEventsUptoCard : Claim7 := { stood := { row := debugEventsUptoRow, standIns := [], harness := (true, "7db067e13dc8dd0c0cd939b77dc3d63cb72e0214fb7e0bfdf555525967925ee0"), looks := true }, kinds := [], alts := [], laidByText := true, laidKinds := [.data, .data, .data, .data, .sentinel, .sentinel, .pinned], laidTests := true, laidLooks := .later }
def DebugEventsUptoCardSaid : Prop := Claim7.holds Tryz.pinned (.plain (OpenSpec.upto debugEventsSpec)) debugEventsUptoCard

/-- THE SECOND FORM's CARD OF 'restitchlaw25.DebugMoments'. -/
def debugMomentsUptoCard : Claim7 := { stood := { row := debugMomentsUptoRow, standIns := [], harness := (true, "7db067e13dc8dd0c0cd939b77dc3d63cb72e0214fb7e0bfdf555525967925ee0"), looks := true }, kinds := [], alts := [], laidByText := true, laidKinds := [.data, .data, .data, .data, .sentinel, .sentinel, .pinned], laidTests := true, laidLooks := .later }
def DebugMomentsUptoCardSaid : Prop := Claim7.holds Tryz.pinned (.plain (OpenSpec.upto debugMomentsSpec)) debugMomentsUptoCard

/-- THE SECOND FORM's CARD OF 'restitchlaw25.DebugDepends'. -/
def debugDependsUptoCard : Claim7 := { stood := { row := debugDependsUptoRow, standIns := [], harness := (true, "7db067e13dc8dd0c0cd939b77dc3d63cb72e0214fb7e0bfdf555525967925ee0"), looks := true }, kinds := [], alts := [], laidByText := true, laidKinds := [.data, .data, .data, .data, .sentinel, .sentinel, .pinned], laidTests := true, laidLooks := .later }
def DebugDependsUptoCardSaid : Prop := Claim7.holds Tryz.pinned (.plain (OpenSpec.upto debugDependsSpec)) debugDependsUptoCard

/-- THE SECOND FORM's CARD OF 'restitchlaw25.DebugWhy'. -/
def debugWhyUptoCard : Claim7 := { stood := { row := debugWhyUptoRow, standIns := [], harness := (true, "7db067e13dc8dd0c0cd939b77dc3d63cb72e0214fb7e0bfdf555525967925ee0"), looks := true }, kinds := [], alts := [], laidByText := true, laidKinds := [.data, .data, .data, .data, .sentinel, .sentinel, .pinned], laidTests := true, laidLooks := .later }
def DebugWhyUptoCardSaid : Prop := Claim7.holds Tryz.pinned (.plain (OpenSpec.upto debugWhySpec)) debugWhyUptoCard
end Rows
end Go.Proofs.YtbhiaeciiphelaaGreatDoor
