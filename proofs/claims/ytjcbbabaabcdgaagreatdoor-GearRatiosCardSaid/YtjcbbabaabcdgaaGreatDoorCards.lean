/-
  DERIVED. GIVEN WITH THE SEED: THE CARDS: each row of YtjcbbabaabcdgaaGreatDoorRows.lean that lists a variable, with what it lists TIED to the program's text (the seventh form; the later family's looks); each row that meets fmt, with fmt's text TOLD by the authors' own Lean function (tested against real Go, not proved from fmt's source: count such statements apart). THE CARD IS WHAT COUNTS. Prove the row's statement (the work); the ties are given (YtjcbbabaabcdgaaGreatDoorTie.lean); close each card by the builder's one call (the guide's Derived/Test/ToyasCard.lean, 'card_holds'). Laid BY PROGRAM, IN A SANDBOX (cutbox-door.mjs). By AI agents, Wed Nov 11 2026. No macro, syntax, notation, axiom, sorry.
-/
import Derived.Test.YtjcbbabaabcdgaaGreatDoorRows
import GoSem.ClaimSeven
namespace Go.Proofs.YtjcbbabaabcdgaaGreatDoor
namespace Rows

/-- THE TIED CARD OF 'integraphlaw05.GearRatios'. -/
def gearRatiosCard : Claim7 := { stood := { row := gearRatiosRow, standIns := [], harness := (true, "eaa05c97eef22aee88f9c78d2e6c14059ea606fc4483965c149a115c1578b0e0"), looks := true }, kinds := [], alts := [], laidByText := true, laidKinds := [.data, .data, .data, .sentinel, .sentinel], laidTests := true, laidLooks := .later }
def GearRatiosCardSaid : Prop := Claim7.holds Tryz.pinned (.plain (OpenSpec.ofChange gearRatiosSpec)) gearRatiosCard

/-- THE TIED CARD OF 'integraphlaw05.GearMotions'. -/
def gearMotionsCard : Claim7 := { stood := { row := gearMotionsRow, standIns := [], harness := (true, "eaa05c97eef22aee88f9c78d2e6c14059ea606fc4483965c149a115c1578b0e0"), looks := true }, kinds := [], alts := [], laidByText := true, laidKinds := [.data, .data, .data, .sentinel, .sentinel], laidTests := true, laidLooks := .later }
def GearMotionsCardSaid : Prop := Claim7.holds Tryz.pinned (.plain (OpenSpec.ofChange gearMotionsSpec)) gearMotionsCard

/-- THE TIED CARD OF 'integraphlaw05.GearFractions'. -/
def gearFractionsCard : Claim7 := { stood := { row := gearFractionsRow, standIns := [], harness := (true, "eaa05c97eef22aee88f9c78d2e6c14059ea606fc4483965c149a115c1578b0e0"), looks := true }, kinds := [], alts := [], laidByText := true, laidKinds := [.data, .data, .data, .sentinel, .sentinel], laidTests := true, laidLooks := .later }
def GearFractionsCardSaid : Prop := Claim7.holds Tryz.pinned (.plain (OpenSpec.ofChange gearFractionsSpec)) gearFractionsCard

/-- THE TIED CARD OF 'integraphlaw05.GearStocks'. -/
def gearStocksCard : Claim7 := { stood := { row := gearStocksRow, standIns := [], harness := (true, "eaa05c97eef22aee88f9c78d2e6c14059ea606fc4483965c149a115c1578b0e0"), looks := true }, kinds := [], alts := [], laidByText := true, laidKinds := [.data, .data, .data, .sentinel, .sentinel], laidTests := true, laidLooks := .later }
def GearStocksCardSaid : Prop := Claim7.holds Tryz.pinned (.plain (OpenSpec.ofChange gearStocksSpec)) gearStocksCard

/-- THE SECOND FORM's CARD OF 'integraphlaw05.GearRatios'. -/
def gearRatiosUptoCard : Claim7 := { stood := { row := gearRatiosUptoRow, standIns := [], harness := (true, "eaa05c97eef22aee88f9c78d2e6c14059ea606fc4483965c149a115c1578b0e0"), looks := true }, kinds := [], alts := [], laidByText := true, laidKinds := [.data, .data, .data, .sentinel, .sentinel], laidTests := true, laidLooks := .later }
def GearRatiosUptoCardSaid : Prop := Claim7.holds Tryz.pinned (.plain (OpenSpec.upto gearRatiosSpec)) gearRatiosUptoCard

/-- THE SECOND FORM's CARD OF 'integraphlaw05.GearMotions'. -/
def gearMotionsUptoCard : Claim7 := { stood := { row := gearMotionsUptoRow, standIns := [], harness := (true, "eaa05c97eef22aee88f9c78d2e6c14059ea606fc4483965c149a115c1578b0e0"), looks := true }, kinds := [], alts := [], laidByText := true, laidKinds := [.data, .data, .data, .sentinel, .sentinel], laidTests := true, laidLooks := .later }
def GearMotionsUptoCardSaid : Prop := Claim7.holds Tryz.pinned (.plain (OpenSpec.upto gearMotionsSpec)) gearMotionsUptoCard

/-- THE SECOND FORM's CARD OF 'integraphlaw05.GearFractions'. -/
def gearFractionsUptoCard : Claim7 := { stood := { row := gearFractionsUptoRow, standIns := [], harness := (true, "eaa05c97eef22aee88f9c78d2e6c14059ea606fc4483965c149a115c1578b0e0"), looks := true }, kinds := [], alts := [], laidByText := true, laidKinds := [.data, .data, .data, .sentinel, .sentinel], laidTests := true, laidLooks := .later }
def GearFractionsUptoCardSaid : Prop := Claim7.holds Tryz.pinned (.plain (OpenSpec.upto gearFractionsSpec)) gearFractionsUptoCard

/-- THE SECOND FORM's CARD OF 'integraphlaw05.GearStocks'. -/
def gearStocksUptoCard : Claim7 := { stood := { row := gearStocksUptoRow, standIns := [], harness := (true, "eaa05c97eef22aee88f9c78d2e6c14059ea606fc4483965c149a115c1578b0e0"), looks := true }, kinds := [], alts := [], laidByText := true, laidKinds := [.data, .data, .data, .sentinel, .sentinel], laidTests := true, laidLooks := .later }
def GearStocksUptoCardSaid : Prop := Claim7.holds Tryz.pinned (.plain (OpenSpec.upto gearStocksSpec)) gearStocksUptoCard
end Rows
end Go.Proofs.YtjcbbabaabcdgaaGreatDoor
