/-
  DERIVED. GIVEN WITH THE SEED: THE CARDS: each row of YtpibknhnhegebaaGreatDoorRows.lean that lists a variable, with what it lists TIED to the program's text (the seventh form; the later family's looks); each row that meets fmt, with fmt's text TOLD by the authors' own Lean function (tested against real Go, not proved from fmt's source: count such statements apart). THE CARD IS WHAT COUNTS. Prove the row's statement (the work); the ties are given (YtpibknhnhegebaaGreatDoorTie.lean); close each card by the builder's one call (the guide's Derived/Test/ToyasCard.lean, 'card_holds'). Laid BY PROGRAM, IN A SANDBOX (cutbox-door.mjs). By AI agents, Wed Nov 11 2026. No macro, syntax, notation, axiom, sorry.
-/
import Derived.Test.YtpibknhnhegebaaGreatDoorRows
import GoSem.ClaimSeven
namespace Go.Proofs.YtpibknhnhegebaaGreatDoor
namespace Rows

/-- THE TIED CARD OF 'integraphlaw05.GearRatios'. -/
def gearRatiosCard : Claim7 := { stood := { row := gearRatiosRow, standIns := [], harness := (true, "68394d2e7b76e4e6b78df1a193dd286dbf11242e88fbca5c90d9731d033ec386"), looks := true }, kinds := [], alts := [], laidByText := true, laidKinds := [.data, .data, .data, .sentinel, .sentinel], laidTests := true, laidLooks := .later }
def GearRatiosCardSaid : Prop := Claim7.holds Tryz.pinned (.plain (OpenSpec.ofChange gearRatiosSpec)) gearRatiosCard

/-- THE TIED CARD OF 'integraphlaw05.GearMotions'. -/
def gearMotionsCard : Claim7 := { stood := { row := gearMotionsRow, standIns := [], harness := (true, "68394d2e7b76e4e6b78df1a193dd286dbf11242e88fbca5c90d9731d033ec386"), looks := true }, kinds := [], alts := [], laidByText := true, laidKinds := [.data, .data, .data, .sentinel, .sentinel], laidTests := true, laidLooks := .later }
def GearMotionsCardSaid : Prop := Claim7.holds Tryz.pinned (.plain (OpenSpec.ofChange gearMotionsSpec)) gearMotionsCard

/-- THE TIED CARD OF 'integraphlaw05.GearStocks'. -/
def gearStocksCard : Claim7 := { stood := { row := gearStocksRow, standIns := [], harness := (true, "68394d2e7b76e4e6b78df1a193dd286dbf11242e88fbca5c90d9731d033ec386"), looks := true }, kinds := [], alts := [], laidByText := true, laidKinds := [.data, .data, .data, .sentinel, .sentinel], laidTests := true, laidLooks := .later }
def GearStocksCardSaid : Prop := Claim7.holds Tryz.pinned (.plain (OpenSpec.ofChange gearStocksSpec)) gearStocksCard

/-- THE TIED CARD OF 'integraphtop.TopBacklash'. -/
def topBacklashCard : Claim7 := { stood := { row := topBacklashRow, standIns := [], harness := (true, "68394d2e7b76e4e6b78df1a193dd286dbf11242e88fbca5c90d9731d033ec386"), looks := true }, kinds := [], alts := [], laidByText := true, laidKinds := [.data, .data, .data, .sentinel, .sentinel], laidTests := true, laidLooks := .later }
def TopBacklashCardSaid : Prop := Claim7.holds Tryz.pinned (.plain (OpenSpec.ofChange topBacklashSpec)) topBacklashCard

/-- THE TIED CARD OF 'integraphtop.TopPlays'. -/
def topPlaysCard : Claim7 := { stood := { row := topPlaysRow, standIns := [], harness := (true, "68394d2e7b76e4e6b78df1a193dd286dbf11242e88fbca5c90d9731d033ec386"), looks := true }, kinds := [], alts := [], laidByText := true, laidKinds := [.data, .data, .data, .sentinel, .sentinel], laidTests := true, laidLooks := .later }
def TopPlaysCardSaid : Prop := Claim7.holds Tryz.pinned (.plain (OpenSpec.ofChange topPlaysSpec)) topPlaysCard

/-- THE SECOND FORM's CARD OF 'integraphlaw05.GearRatios'. -/
def gearRatiosUptoCard : Claim7 := { stood := { row := gearRatiosUptoRow, standIns := [], harness := (true, "68394d2e7b76e4e6b78df1a193dd286dbf11242e88fbca5c90d9731d033ec386"), looks := true }, kinds := [], alts := [], laidByText := true, laidKinds := [.data, .data, .data, .sentinel, .sentinel], laidTests := true, laidLooks := .later }
def GearRatiosUptoCardSaid : Prop := Claim7.holds Tryz.pinned (.plain (OpenSpec.upto gearRatiosSpec)) gearRatiosUptoCard

/-- THE SECOND FORM's CARD OF 'integraphlaw05.GearMotions'. -/
def gearMotionsUptoCard : Claim7 := { stood := { row := gearMotionsUptoRow, standIns := [], harness := (true, "68394d2e7b76e4e6b78df1a193dd286dbf11242e88fbca5c90d9731d033ec386"), looks := true }, kinds := [], alts := [], laidByText := true, laidKinds := [.data, .data, .data, .sentinel, .sentinel], laidTests := true, laidLooks := .later }
def GearMotionsUptoCardSaid : Prop := Claim7.holds Tryz.pinned (.plain (OpenSpec.upto gearMotionsSpec)) gearMotionsUptoCard

/-- THE SECOND FORM's CARD OF 'integraphlaw05.GearStocks'. -/
def gearStocksUptoCard : Claim7 := { stood := { row := gearStocksUptoRow, standIns := [], harness := (true, "68394d2e7b76e4e6b78df1a193dd286dbf11242e88fbca5c90d9731d033ec386"), looks := true }, kinds := [], alts := [], laidByText := true, laidKinds := [.data, .data, .data, .sentinel, .sentinel], laidTests := true, laidLooks := .later }
def GearStocksUptoCardSaid : Prop := Claim7.holds Tryz.pinned (.plain (OpenSpec.upto gearStocksSpec)) gearStocksUptoCard

/-- THE SECOND FORM's CARD OF 'integraphtop.TopBacklash'. -/
def topBacklashUptoCard : Claim7 := { stood := { row := topBacklashUptoRow, standIns := [], harness := (true, "68394d2e7b76e4e6b78df1a193dd286dbf11242e88fbca5c90d9731d033ec386"), looks := true }, kinds := [], alts := [], laidByText := true, laidKinds := [.data, .data, .data, .sentinel, .sentinel], laidTests := true, laidLooks := .later }
def TopBacklashUptoCardSaid : Prop := Claim7.holds Tryz.pinned (.plain (OpenSpec.upto topBacklashSpec)) topBacklashUptoCard

/-- THE SECOND FORM's CARD OF 'integraphtop.TopPlays'. -/
def topPlaysUptoCard : Claim7 := { stood := { row := topPlaysUptoRow, standIns := [], harness := (true, "68394d2e7b76e4e6b78df1a193dd286dbf11242e88fbca5c90d9731d033ec386"), looks := true }, kinds := [], alts := [], laidByText := true, laidKinds := [.data, .data, .data, .sentinel, .sentinel], laidTests := true, laidLooks := .later }
def TopPlaysUptoCardSaid : Prop := Claim7.holds Tryz.pinned (.plain (OpenSpec.upto topPlaysSpec)) topPlaysUptoCard
end Rows
end Go.Proofs.YtpibknhnhegebaaGreatDoor
