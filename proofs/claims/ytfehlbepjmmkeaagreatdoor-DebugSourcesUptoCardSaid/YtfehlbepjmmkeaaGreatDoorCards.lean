/-
  DERIVED. GIVEN WITH THE SEED: THE CARDS: each row of YtfehlbepjmmkeaaGreatDoorRows.lean that lists a variable, with what it lists TIED to the program's text (the seventh form; the later family's looks); each row that meets fmt, with fmt's text TOLD by the authors' own Lean function (tested against real Go, not proved from fmt's source: count such statements apart). THE CARD IS WHAT COUNTS. Prove the row's statement (the work); the ties are given (YtfehlbepjmmkeaaGreatDoorTie.lean); close each card by the builder's one call (the guide's Derived/Test/ToyasCard.lean, 'card_holds'). Laid BY PROGRAM, IN A SANDBOX (cutbox-door.mjs). By AI agents, Wed Nov 11 2026. No macro, syntax, notation, axiom, sorry.
-/
import Derived.Test.YtfehlbepjmmkeaaGreatDoorRows
import GoSem.ClaimSeven
namespace Go.Proofs.YtfehlbepjmmkeaaGreatDoor
namespace Rows

/-- THE TIED CARD OF 'restitchlaw12.TracedValues'. -/
def tracedValuesCard : Claim7 := { stood := { row := tracedValuesRow, standIns := [], harness := (true, "b979c1de350adf923300bed0958aca5361a679ee644e1753135f1b480f5a2638"), looks := true }, kinds := [], alts := [], laidByText := true, laidKinds := [.data, .data, .data, .data, .sentinel, .sentinel, .pinned], laidTests := true, laidLooks := .later }
def TracedValuesCardSaid : Prop := Claim7.holds Tryz.pinned (.plain (OpenSpec.ofChange tracedValuesSpec)) tracedValuesCard

/-- THE TIED CARD OF 'restitchlaw25.DebugSources'. -/
def debugSourcesCard : Claim7 := { stood := { row := debugSourcesRow, standIns := [], harness := (true, "b979c1de350adf923300bed0958aca5361a679ee644e1753135f1b480f5a2638"), looks := true }, kinds := [], alts := [], laidByText := true, laidKinds := [.data, .data, .data, .data, .sentinel, .sentinel, .pinned], laidTests := true, laidLooks := .later }
def DebugSourcesCardSaid : Prop := Claim7.holds Tryz.pinned (.plain (OpenSpec.ofChange debugSourcesSpec)) debugSourcesCard

/-- THE SECOND FORM's CARD OF 'restitchlaw12.TracedValues'. -/
def tracedValuesUptoCard : Claim7 := { stood := { row := tracedValuesUptoRow, standIns := [], harness := (true, "b979c1de350adf923300bed0958aca5361a679ee644e1753135f1b480f5a2638"), looks := true }, kinds := [], alts := [], laidByText := true, laidKinds := [.data, .data, .data, .data, .sentinel, .sentinel, .pinned], laidTests := true, laidLooks := .later }
def TracedValuesUptoCardSaid : Prop := Claim7.holds Tryz.pinned (.plain (OpenSpec.upto tracedValuesSpec)) tracedValuesUptoCard

/-- THE SECOND FORM's CARD OF 'restitchlaw25.DebugSources'. -/
def debugSourcesUptoCard : Claim7 := { stood := { row := debugSourcesUptoRow, standIns := [], harness := (true, "b979c1de350adf923300bed0958aca5361a679ee644e1753135f1b480f5a2638"), looks := true }, kinds := [], alts := [], laidByText := true, laidKinds := [.data, .data, .data, .data, .sentinel, .sentinel, .pinned], laidTests := true, laidLooks := .later }
def DebugSourcesUptoCardSaid : Prop := Claim7.holds Tryz.pinned (.plain (OpenSpec.upto debugSourcesSpec)) debugSourcesUptoCard
end Rows
end Go.Proofs.YtfehlbepjmmkeaaGreatDoor
