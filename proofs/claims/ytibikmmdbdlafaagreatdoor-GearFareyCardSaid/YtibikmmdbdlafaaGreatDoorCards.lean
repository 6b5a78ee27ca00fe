/-
  DERIVED. GIVEN WITH THE SEED: THE CARDS: each row of YtibikmmdbdlafaaGreatDoorRows.lean that lists a variable, with what it lists TIED to the program's text (the seventh form; the later family's looks); each row that meets fmt, with fmt's text TOLD by the authors' own Lean function (tested against real Go, not proved from fmt's source: count such statements apart). THE CARD IS WHAT COUNTS. Prove the row's statement (the work); the ties are given (YtibikmmdbdlafaaGreatDoorTie.lean); close each card by the builder's one call (the guide's Derived/Test/ToyasCard.lean, 'card_holds'). Laid BY PROGRAM, IN A SANDBOX (cutbox-door.mjs). By AI agents, Wed Nov 11 2026. No macro, syntax, notation, axiom, sorry.
-/
import Derived.Test.YtibikmmdbdlafaaGreatDoorRows
import GoSem.ClaimSeven
namespace Go.Proofs.YtibikmmdbdlafaaGreatDoor
namespace Rows

/-- THE TIED CARD OF 'integraphlaw05.GearMotions'. -/
def gearMotionsCard : Claim7 := { stood := { row := gearMotionsRow, standIns := [], harness := (true, "604add947659f29206bd8bfe8092ca5daf5aaae9995fa2f84b079e74eac71499"), looks := true }, kinds := [], alts := [], laidByText := true, laidKinds := [.data, .data, .data, .sentinel, .sentinel], laidTests := true, laidLooks := .later }
def GearMotionsCardSaid : Prop := Claim7.holds Tryz.pinned (.plain (OpenSpec.ofChange gearMotionsSpec)) gearMotionsCard

/-- THE TIED CARD OF 'integraphlaw05.GearFractions'. -/
def gearFractionsCard : Claim7 := { stood := { row := gearFractionsRow, standIns := [], harness := (true, "604add947659f29206bd8bfe8092ca5daf5aaae9995fa2f84b079e74eac71499"), looks := true }, kinds := [], alts := [], laidByText := true, laidKinds := [.data, .data, .data, .sentinel, .sentinel], laidTests := true, laidLooks := .later }
def GearFractionsCardSaid : Prop := Claim7.holds Tryz.pinned (.plain (OpenSpec.ofChange gearFractionsSpec)) gearFractionsCard

/-- THE TIED CARD OF 'integraphlaw05.GearConvergents'. -/
def gearConvergentsCard : Claim7 := { stood := { row := gearConvergentsRow, standIns := [], harness := (true, "604add947659f29206bd8bfe8092ca5daf5aaae9995fa2f84b079e74eac71499"), looks := true }, kinds := [], alts := [], laidByText := true, laidKinds := [.data, .data, .data, .sentinel, .sentinel], laidTests := true, laidLooks := .later }
def GearConvergentsCardSaid : Prop := Claim7.holds Tryz.pinned (.plain (OpenSpec.ofChange gearConvergentsSpec)) gearConvergentsCard

/-- THE TIED CARD OF 'integraphlaw05.GearNeighbours'. -/
def gearNeighboursCard : Claim7 := { stood := { row := gearNeighboursRow, standIns := [], harness := (true, "604add947659f29206bd8bfe8092ca5daf5aaae9995fa2f84b079e74eac71499"), looks := true }, kinds := [], alts := [], laidByText := true, laidKinds := [.data, .data, .data, .sentinel, .sentinel], laidTests := true, laidLooks := .later }
def GearNeighboursCardSaid : Prop := Claim7.holds Tryz.pinned (.plain (OpenSpec.ofChange gearNeighboursSpec)) gearNeighboursCard

/-- THE TIED CARD OF 'integraphlaw05.GearFarey'. -/
def gearFareyCard : Claim7 := { stood := { row := gearFareyRow, standIns := [], harness := (true, "604add947659f29206bd8bfe8092ca5daf5aaae9995fa2f84b079e74eac71499"), looks := true }, kinds := [], alts := [], laidByText := true, laidKinds := [.data, .data, .data, .sentinel, .sentinel], laidTests := true, laidLooks := .later }
def GearFareyCardSaid : Prop := Claim7.holds Tryz.pinned (.plain (OpenSpec.ofChange gearFareySpec)) gearFareyCard

/-- THE SECOND FORM's CARD OF 'integraphlaw05.GearMotions'. -/
def gearMotionsUptoCard : Claim7 := { stood := { row := gearMotionsUptoRow, standIns := [], harness := (true, "604add947659f29206bd8bfe8092ca5daf5aaae9995fa2f84b079e74eac71499"), looks := true }, kinds := [], alts := [], laidByText := true, laidKinds := [.data, .data, .data, .sentinel, .sentinel], laidTests := true, laidLooks := .later }
def GearMotionsUptoCardSaid : Prop := Claim7.holds Tryz.pinned (.plain (OpenSpec.upto gearMotionsSpec)) gearMotionsUptoCard

/-- THE SECOND FORM's CARD OF 'integraphlaw05.GearFractions'. -/
def gearFractionsUptoCard : Claim7 := { stood := { row := gearFractionsUptoRow, standIns := [], harness := (true, "604add947659f29206bd8bfe8092ca5daf5aaae9995fa2f84b079e74eac71499"), looks := true }, kinds := [], alts := [], laidByText := true, laidKinds := [.data, .data, .data, .sentinel, .sentinel], laidTests := true, laidLooks := .later }
def GearFractionsUptoCardSaid : Prop := Claim7.holds Tryz.pinned (.plain (OpenSpec.upto gearFractionsSpec)) gearFractionsUptoCard

/-- THE SECOND FORM's CARD OF 'integraphlaw05.GearConvergents'. -/
def gearConvergentsUptoCard : Claim7 := { stood := { row := gearConvergentsUptoRow, standIns := [], harness := (true, "604add947659f29206bd8bfe8092ca5daf5aaae9995fa2f84b079e74eac71499"), looks := true }, kinds := [], alts := [], laidByText := true, laidKinds := [.data, .data, .data, .sentinel, .sentinel], laidTests := true, laidLooks := .later }
def GearConvergentsUptoCardSaid : Prop := Claim7.holds Tryz.pinned (.plain (OpenSpec.upto gearConvergentsSpec)) gearConvergentsUptoCard

/-- THE SECOND FORM's CARD OF 'integraphlaw05.GearNeighbours'. -/
def gearNeighboursUptoCard : Claim7 := { stood := { row := gearNeighboursUptoRow, standIns := [], harness := (true, "604add947659f29206bd8bfe8092ca5daf5aaae9995fa2f84b079e74eac71499"), looks := true }, kinds := [], alts := [], laidByText := true, laidKinds := [.data, .data, .data, .sentinel, .sentinel], laidTests := true, laidLooks := .later }
def GearNeighboursUptoCardSaid : Prop := Claim7.holds Tryz.pinned (.plain (OpenSpec.upto gearNeighboursSpec)) gearNeighboursUptoCard

/-- THE SECOND FORM's CARD OF 'integraphlaw05.GearFarey'. -/
def gearFareyUptoCard : Claim7 := { stood := { row := gearFareyUptoRow, standIns := [], harness := (true, "604add947659f29206bd8bfe8092ca5daf5aaae9995fa2f84b079e74eac71499"), looks := true }, kinds := [], alts := [], laidByText := true, laidKinds := [.data, .data, .data, .sentinel, .sentinel], laidTests := true, laidLooks := .later }
def GearFareyUptoCardSaid : Prop := Claim7.holds Tryz.pinned (.plain (OpenSpec.upto gearFareySpec)) gearFareyUptoCard
end Rows
end Go.Proofs.YtibikmmdbdlafaaGreatDoor
