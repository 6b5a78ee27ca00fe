/-
  DERIVED. GIVEN WITH THE SEED: THE CARDS: each row of YtcdknjkkaonbiaaGreatDoorRows.lean that lists a variable, with what it lists TIED to the program's text (the seventh form; the later family's looks); each row that meets fmt, with fmt's text TOLD by the authors' own Lean function (tested against real Go, not proved from fmt's source: count such statements apart). THE CARD IS WHAT COUNTS. Prove the row's statement (the work); the ties are given (YtcdknjkkaonbiaaGreatDoorTie.lean); close each card by the builder's one call (the guide's Derived/Test/ToyasCard.lean, 'card_holds'). Laid BY PROGRAM, IN A SANDBOX (cutbox-door.mjs). By AI agents, Wed Nov 11 2026. No macro, syntax, notation, axiom, sorry.
-/
import Derived.Test.YtcdknjkkaonbiaaGreatDoorRows
import GoSem.ClaimSeven
namespace Go.Proofs.YtcdknjkkaonbiaaGreatDoor
namespace Rows

/-- THE TIED CARD OF 'integraphlaw07.BusTracks'. -/
def busTracksCard : Claim7 := { stood := { row := busTracksRow, standIns := [], harness := (true, "e9c8c9465406783f1c0cd015f02a8f4a5e9b4a34f32aa94f428274d2c0957da4"), looks := true }, kinds := [], alts := [], laidByText := true, laidKinds := [.data, .data, .data, .data, .sentinel, .sentinel, .pinned], laidTests := true, laidLooks := .later }
def BusTracksCardSaid : Prop := Claim7.holds Tryz.pinned (.plain (OpenSpec.ofChange busTracksSpec)) busTracksCard

/-- THE TIED CARD OF 'integraphlaw07.BusExtents'. -/
def busExtentsCard : Claim7 := { stood := { row := busExtentsRow, standIns := [], harness := (true, "e9c8c9465406783f1c0cd015f02a8f4a5e9b4a34f32aa94f428274d2c0957da4"), looks := true }, kinds := [], alts := [], laidByText := true, laidKinds := [.data, .data, .data, .data, .sentinel, .sentinel, .pinned], laidTests := true, laidLooks := .later }
def BusExtentsCardSaid : Prop := Claim7.holds Tryz.pinned (.plain (OpenSpec.ofChange busExtentsSpec)) busExtentsCard

/-- THE TIED CARD OF 'integraphlaw07.BusRenamed'. -/
def busRenamedCard : Claim7 := { stood := { row := busRenamedRow, standIns := [], harness := (true, "e9c8c9465406783f1c0cd015f02a8f4a5e9b4a34f32aa94f428274d2c0957da4"), looks := true }, kinds := [], alts := [], laidByText := true, laidKinds := [.data, .data, .data, .data, .sentinel, .sentinel, .pinned], laidTests := true, laidLooks := .later }
def BusRenamedCardSaid : Prop := Claim7.holds Tryz.pinned (.plain (OpenSpec.ofChange busRenamedSpec)) busRenamedCard

/-- THE TIED CARD OF 'integraphlaw07.BusClaims'. -/
def busClaimsCard : Claim7 := { stood := { row := busClaimsRow, standIns := [], harness := (true, "e9c8c9465406783f1c0cd015f02a8f4a5e9b4a34f32aa94f428274d2c0957da4"), looks := true }, kinds := [], alts := [], laidByText := true, laidKinds := [.data, .data, .data, .data, .sentinel, .sentinel, .pinned], laidTests := true, laidLooks := .later }
def BusClaimsCardSaid : Prop := Claim7.holds Tryz.pinned (.plain (OpenSpec.ofChange busClaimsSpec)) busClaimsCard

/-- THE TIED CARD OF 'integraphlaw07.BusLeast'. -/
def busLeastCard : Claim7 := { stood := { row := busLeastRow, standIns := [], harness := (true, "e9c8c9465406783f1c0cd015f02a8f4a5e9b4a34f32aa94f428274d2c0957da4"), looks := true }, kinds := [], alts := [], laidByText := true, laidKinds := [.data, .data, .data, .data, .sentinel, .sentinel, .pinned], laidTests := true, laidLooks := .later }
def BusLeastCardSaid : Prop := Claim7.holds Tryz.pinned (.plain (OpenSpec.ofChange busLeastSpec)) busLeastCard

/-- THE TIED CARD OF 'integraphlaw07.BusCrossings'. -/
def busCrossingsCard : Claim7 := { stood := { row := busCrossingsRow, standIns := [], harness := (true, "e9c8c9465406783f1c0cd015f02a8f4a5e9b4a34f32aa94f428274d2c0957da4"), looks := true }, kinds := [], alts := [], laidByText := true, laidKinds := [.data, .data, .data, .data, .sentinel, .sentinel, .pinned], laidTests := true, laidLooks := .later }
def BusCrossingsCardSaid : Prop := Claim7.holds Tryz.pinned (.plain (OpenSpec.ofChange busCrossingsSpec)) busCrossingsCard

/-- THE SECOND FORM's CARD OF 'integraphlaw07.BusTracks'. -/
def busTracksUptoCard : Claim7 := { stood := { row := busTracksUptoRow, standIns := [], harness := (true, "e9c8c9465406783f1c0cd015f02a8f4a5e9b4a34f32aa94f428274d2c0957da4"), looks := true }, kinds := [], alts := [], laidByText := true, laidKinds := [.data, .data, .data, .data, .sentinel, .sentinel, .pinned], laidTests := true, laidLooks := .later }
def BusTracksUptoCardSaid : Prop := Claim7.holds Tryz.pinned (.plain (OpenSpec.upto busTracksSpec)) busTracksUptoCard

/-- THE SECOND FORM's CARD OF 'integraphlaw07.BusExtents'. -/
def busExtentsUptoCard : Claim7 := { stood := { row := busExtentsUptoRow, standIns := [], harness := (true, "e9c8c9465406783f1c0cd015f02a8f4a5e9b4a34f32aa94f428274d2c0957da4"), looks := true }, kinds := [], alts := [], laidByText := true, laidKinds := [.data, .data, .data, .data, .sentinel, .sentinel, .pinned], laidTests := true, laidLooks := .later }
def BusExtentsUptoCardSaid : Prop := Claim7.holds Tryz.pinned (.plain (OpenSpec.upto busExtentsSpec)) busExtentsUptoCard

/-- THE SECOND FORM's CARD OF 'integraphlaw07.BusRenamed'. -/
def busRenamedUptoCard : Claim7 := { stood := { row := busRenamedUptoRow, standIns := [], harness := (true, "e9c8c9465406783f1c0cd015f02a8f4a5e9b4a34f32aa94f428274d2c0957da4"), looks := true }, kinds := [], alts := [], laidByText := true, laidKinds := [.data, .data, .data, .data, .sentinel, .sentinel, .pinned], laidTests := true, laidLooks := .later }
def BusRenamedUptoCardSaid : Prop := Claim7.holds Tryz.pinned (.plain (OpenSpec.upto busRenamedSpec)) busRenamedUptoCard

/-- THE SECOND FORM's CARD OF 'integraphlaw07.BusClaims'. -/
def busClaimsUptoCard : Claim7 := { stood := { row := busClaimsUptoRow, standIns := [], harness := (true, "e9c8c9465406783f1c0cd015f02a8f4a5e9b4a34f32aa94f428274d2c0957da4"), looks := true }, kinds := [], alts := [], laidByText := true, laidKinds := [.data, .data, .data, .data, .sentinel, .sentinel, .pinned], laidTests := true, laidLooks := .later }
def BusClaimsUptoCardSaid : Prop := Claim7.holds Tryz.pinned (.plain (OpenSpec.upto busClaimsSpec)) busClaimsUptoCard

/-- THE SECOND FORM's CARD OF 'integraphlaw07.BusLeast'. -/
def busLeastUptoCard : Claim7 := { stood := { row := busLeastUptoRow, standIns := [], harness := (true, "e9c8c9465406783f1c0cd015f02a8f4a5e9b4a34f32aa94f428274d2c0957da4"), looks := true }, kinds := [], alts := [], laidByText := true, laidKinds := [.data, .data, .data, .data, .sentinel, .sentinel, .pinned], laidTests := true, laidLooks := .later }
def BusLeastUptoCardSaid : Prop := Claim7.holds Tryz.pinned (.plain (OpenSpec.upto busLeastSpec)) busLeastUptoCard

/-- THE SECOND FORM's CARD OF 'integraphlaw07.BusCrossings'. -/
def busCrossingsUptoCard : Claim7 := { stood := { row := busCrossingsUptoRow, standIns := [], harness := (true, "e9c8c9465406783f1c0cd015f02a8f4a5e9b4a34f32aa94f428274d2c0957da4"), looks := true }, kinds := [], alts := [], laidByText := true, laidKinds := [.data, .data, .data, .data, .sentinel, .sentinel, .pinned], laidTests := true, laidLooks := .later }
def BusCrossingsUptoCardSaid : Prop := Claim7.holds Tryz.pinned (.plain (OpenSpec.upto busCrossingsSpec)) busCrossingsUptoCard
end Rows
end Go.Proofs.YtcdknjkkaonbiaaGreatDoor
