/-
  DERIVED. GIVEN WITH THE SEED: THE CARDS: each row of YtdajfemhnlpegaaGreatDoorRows.lean that lists a variable, with what it lists TIED to the program's text (the seventh form; the later family's looks); each row that meets fmt, with fmt's text TOLD by the authors' own Lean function (tested against real Go, not proved from fmt's source: count such statements apart). THE CARD IS WHAT COUNTS. Prove the row's statement (the work); the ties are given (YtdajfemhnlpegaaGreatDoorTie.lean); close each card by the builder's one call (the guide's Derived/Test/ToyasCard.lean, 'card_holds'). Laid BY PROGRAM, IN A SANDBOX (cutbox-door.mjs). By AI agents, Wed Nov 11 2026. No macro, syntax, notation, axiom, sorry.
-/
import Derived.Test.YtdajfemhnlpegaaGreatDoorRows
import GoSem.ClaimSeven
namespace Go.Proofs.YtdajfemhnlpegaaGreatDoor
namespace Rows

/-- THE TIED CARD OF 'integraphlaw05.GearBest'. -/
def gearBestCard : Claim7 := { stood := { row := gearBestRow, standIns := [], harness := (true, "cfb58d1e7bef7588e50189cb6f96c5d7dec09819c87e1d39298f6d59733543dc"), looks := true }, kinds := [], alts := [], laidByText := true, laidKinds := [.data, .data, .data, .sentinel, .sentinel], laidTests := true, laidLooks := .later }
def GearBestCardSaid : Prop := Claim7.holds Tryz.pinned (.plain (OpenSpec.ofChange gearBestSpec)) gearBestCard

/-- THE TIED CARD OF 'integraphlaw05.GearLeasts'. -/
def gearLeastsCard : Claim7 := { stood := { row := gearLeastsRow, standIns := [], harness := (true, "cfb58d1e7bef7588e50189cb6f96c5d7dec09819c87e1d39298f6d59733543dc"), looks := true }, kinds := [], alts := [], laidByText := true, laidKinds := [.data, .data, .data, .sentinel, .sentinel], laidTests := true, laidLooks := .later }
def GearLeastsCardSaid : Prop := Claim7.holds Tryz.pinned (.plain (OpenSpec.ofChange gearLeastsSpec)) gearLeastsCard

/-- THE TIED CARD OF 'integraphlaw05.GearAll'. -/
def gearAllCard : Claim7 := { stood := { row := gearAllRow, standIns := [], harness := (true, "cfb58d1e7bef7588e50189cb6f96c5d7dec09819c87e1d39298f6d59733543dc"), looks := true }, kinds := [], alts := [], laidByText := true, laidKinds := [.data, .data, .data, .sentinel, .sentinel], laidTests := true, laidLooks := .later }
def GearAllCardSaid : Prop := Claim7.holds Tryz.pinned (.plain (OpenSpec.ofChange gearAllSpec)) gearAllCard

/-- THE TIED CARD OF 'integraphlaw05.GearNearest'. -/
def gearNearestCard : Claim7 := { stood := { row := gearNearestRow, standIns := [], harness := (true, "cfb58d1e7bef7588e50189cb6f96c5d7dec09819c87e1d39298f6d59733543dc"), looks := true }, kinds := [], alts := [], laidByText := true, laidKinds := [.data, .data, .data, .sentinel, .sentinel], laidTests := true, laidLooks := .later }
def GearNearestCardSaid : Prop := Claim7.holds Tryz.pinned (.plain (OpenSpec.ofChange gearNearestSpec)) gearNearestCard

/-- THE SECOND FORM's CARD OF 'integraphlaw05.GearBest'. -/
def gearBestUptoCard : Claim7 := { stood := { row := gearBestUptoRow, standIns := [], harness := (true, "cfb58d1e7bef7588e50189cb6f96c5d7dec09819c87e1d39298f6d59733543dc"), looks := true }, kinds := [], alts := [], laidByText := true, laidKinds := [.data, .data, .data, .sentinel, .sentinel], laidTests := true, laidLooks := .later }
def GearBestUptoCardSaid : Prop := Claim7.holds Tryz.pinned (.plain (OpenSpec.upto gearBestSpec)) gearBestUptoCard

/-- THE SECOND FORM's CARD OF 'integraphlaw05.GearLeasts'. -/
def gearLeastsUptoCard : Claim7 := { stood := { row := gearLeastsUptoRow, standIns := [], harness := (true, "cfb58d1e7bef7588e50189cb6f96c5d7dec09819c87e1d39298f6d59733543dc"), looks := true }, kinds := [], alts := [], laidByText := true, laidKinds := [.data, .data, .data, .sentinel, .sentinel], laidTests := true, laidLooks := .later }
def GearLeastsUptoCardSaid : Prop := Claim7.holds Tryz.pinned (.plain (OpenSpec.upto gearLeastsSpec)) gearLeastsUptoCard

/-- THE SECOND FORM's CARD OF 'integraphlaw05.GearAll'. -/
def gearAllUptoCard : Claim7 := { stood := { row := gearAllUptoRow, standIns := [], harness := (true, "cfb58d1e7bef7588e50189cb6f96c5d7dec09819c87e1d39298f6d59733543dc"), looks := true }, kinds := [], alts := [], laidByText := true, laidKinds := [.data, .data, .data, .sentinel, .sentinel], laidTests := true, laidLooks := .later }
def GearAllUptoCardSaid : Prop := Claim7.holds Tryz.pinned (.plain (OpenSpec.upto gearAllSpec)) gearAllUptoCard

/-- THE SECOND FORM's CARD OF 'integraphlaw05.GearNearest'. -/
def gearNearestUptoCard : Claim7 := { stood := { row := gearNearestUptoRow, standIns := [], harness := (true, "cfb58d1e7bef7588e50189cb6f96c5d7dec09819c87e1d39298f6d59733543dc"), looks := true }, kinds := [], alts := [], laidByText := true, laidKinds := [.data, .data, .data, .sentinel, .sentinel], laidTests := true, laidLooks := .later }
def GearNearestUptoCardSaid : Prop := Claim7.holds Tryz.pinned (.plain (OpenSpec.upto gearNearestSpec)) gearNearestUptoCard
end Rows
end Go.Proofs.YtdajfemhnlpegaaGreatDoor
