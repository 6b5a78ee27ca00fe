/-
  DERIVED. GIVEN WITH THE SEED: THE CARDS: each row of YtbldpojkpmafpaaGreatDoorRows.lean that lists a variable, with what it lists TIED to the program's text (the seventh form; the later family's looks); each row that meets fmt, with fmt's text TOLD by the authors' own Lean function (tested against real Go, not proved from fmt's source: count such statements apart). THE CARD IS WHAT COUNTS. Prove the row's statement (the work); the ties are given (YtbldpojkpmafpaaGreatDoorTie.lean); close each card by the builder's one call (the guide's Derived/Test/ToyasCard.lean, 'card_holds'). Laid BY PROGRAM, IN A SANDBOX (cutbox-door.mjs). By AI agents, Wed Nov 11 2026. No macro, syntax, notation, axiom, sorry.
-/
import Derived.Test.YtbldpojkpmafpaaGreatDoorRows
import GoSem.ClaimSeven
namespace Go.Proofs.YtbldpojkpmafpaaGreatDoor
namespace Rows

/-- THE TIED CARD OF 'integraphlaw07.BusBests'. -/
def busBestsCard : Claim7 := { stood := { row := busBestsRow, standIns := [], harness := (true, "a03735271d8ce7e78d81b5ba36a5285905c1805a7fc715175761ea74fc2e263e"), looks := true }, kinds := [], alts := [], laidByText := true, laidKinds := [.data, .data, .data, .data, .sentinel, .sentinel, .pinned], laidTests := true, laidLooks := .later }
def BusBestsCardSaid : Prop := Claim7.holds Tryz.pinned (.plain (OpenSpec.ofChange busBestsSpec)) busBestsCard

/-- THE TIED CARD OF 'integraphlaw07.BusCrossings'. -/
def busCrossingsCard : Claim7 := { stood := { row := busCrossingsRow, standIns := [], harness := (true, "a03735271d8ce7e78d81b5ba36a5285905c1805a7fc715175761ea74fc2e263e"), looks := true }, kinds := [], alts := [], laidByText := true, laidKinds := [.data, .data, .data, .data, .sentinel, .sentinel, .pinned], laidTests := true, laidLooks := .later }
def BusCrossingsCardSaid : Prop := Claim7.holds Tryz.pinned (.plain (OpenSpec.ofChange busCrossingsSpec)) busCrossingsCard

/-- THE TIED CARD OF 'integraphlaw07.BusBetter'. -/
def busBetterCard : Claim7 := { stood := { row := busBetterRow, standIns := [], harness := (true, "a03735271d8ce7e78d81b5ba36a5285905c1805a7fc715175761ea74fc2e263e"), looks := true }, kinds := [], alts := [], laidByText := true, laidKinds := [.data, .data, .data, .data, .sentinel, .sentinel, .pinned], laidTests := true, laidLooks := .later }
def BusBetterCardSaid : Prop := Claim7.holds Tryz.pinned (.plain (OpenSpec.ofChange busBetterSpec)) busBetterCard

/-- THE TIED CARD OF 'integraphlaw07.BusArranges'. -/
def busArrangesCard : Claim7 := { stood := { row := busArrangesRow, standIns := [], harness := (true, "a03735271d8ce7e78d81b5ba36a5285905c1805a7fc715175761ea74fc2e263e"), looks := true }, kinds := [], alts := [], laidByText := true, laidKinds := [.data, .data, .data, .data, .sentinel, .sentinel, .pinned], laidTests := true, laidLooks := .later }
def BusArrangesCardSaid : Prop := Claim7.holds Tryz.pinned (.plain (OpenSpec.ofChange busArrangesSpec)) busArrangesCard

/-- THE TIED CARD OF 'integraphlaw07.BusBounded'. -/
def busBoundedCard : Claim7 := { stood := { row := busBoundedRow, standIns := [], harness := (true, "a03735271d8ce7e78d81b5ba36a5285905c1805a7fc715175761ea74fc2e263e"), looks := true }, kinds := [], alts := [], laidByText := true, laidKinds := [.data, .data, .data, .data, .sentinel, .sentinel, .pinned], laidTests := true, laidLooks := .later }
def BusBoundedCardSaid : Prop := Claim7.holds Tryz.pinned (.plain (OpenSpec.ofChange busBoundedSpec)) busBoundedCard

/-- THE SECOND FORM's CARD OF 'integraphlaw07.BusBests'. -/
def busBestsUptoCard : Claim7 := { stood := { row := busBestsUptoRow, standIns := [], harness := (true, "a03735271d8ce7e78d81b5ba36a5285905c1805a7fc715175761ea74fc2e263e"), looks := true }, kinds := [], alts := [], laidByText := true, laidKinds := [.data, .data, .data, .data, .sentinel, .sentinel, .pinned], laidTests := true, laidLooks := .later }
def BusBestsUptoCardSaid : Prop := Claim7.holds Tryz.pinned (.plain (OpenSpec.upto busBestsSpec)) busBestsUptoCard

/-- THE SECOND FORM's CARD OF 'integraphlaw07.BusCrossings'. -/
def busCrossingsUptoCard : Claim7 := { stood := { row := busCrossingsUptoRow, standIns := [], harness := (true, "a03735271d8ce7e78d81b5ba36a5285905c1805a7fc715175761ea74fc2e263e"), looks := true }, kinds := [], alts := [], laidByText := true, laidKinds := [.data, .data, .data, .data, .sentinel, .sentinel, .pinned], laidTests := true, laidLooks := .later }
def BusCrossingsUptoCardSaid : Prop := Claim7.holds Tryz.pinned (.plain (OpenSpec.upto busCrossingsSpec)) busCrossingsUptoCard

/-- THE SECOND FORM's CARD OF 'integraphlaw07.BusBetter'. -/
def busBetterUptoCard : Claim7 := { stood := { row := busBetterUptoRow, standIns := [], harness := (true, "a03735271d8ce7e78d81b5ba36a5285905c1805a7fc715175761ea74fc2e263e"), looks := true }, kinds := [], alts := [], laidByText := true, laidKinds := [.data, .data, .data, .data, .sentinel, .sentinel, .pinned], laidTests := true, laidLooks := .later }
def BusBetterUptoCardSaid : Prop := Claim7.holds Tryz.pinned (.plain (OpenSpec.upto busBetterSpec)) busBetterUptoCard

/-- THE SECOND FORM's CARD OF 'integraphlaw07.BusArranges'. -/
def busArrangesUptoCard : Claim7 := { stood := { row := busArrangesUptoRow, standIns := [], harness := (true, "a03735271d8ce7e78d81b5ba36a5285905c1805a7fc715175761ea74fc2e263e"), looks := true }, kinds := [], alts := [], laidByText := true, laidKinds := [.data, .data, .data, .data, .sentinel, .sentinel, .pinned], laidTests := true, laidLooks := .later }
def BusArrangesUptoCardSaid : Prop := Claim7.holds Tryz.pinned (.plain (OpenSpec.upto busArrangesSpec)) busArrangesUptoCard

/-- THE SECOND FORM's CARD OF 'integraphlaw07.BusBounded'. -/
def busBoundedUptoCard : Claim7 := { stood := { row := busBoundedUptoRow, standIns := [], harness := (true, "a03735271d8ce7e78d81b5ba36a5285905c1805a7fc715175761ea74fc2e263e"), looks := true }, kinds := [], alts := [], laidByText := true, laidKinds := [.data, .data, .data, .data, .sentinel, .sentinel, .pinned], laidTests := true, laidLooks := .later }
def BusBoundedUptoCardSaid : Prop := Claim7.holds Tryz.pinned (.plain (OpenSpec.upto busBoundedSpec)) busBoundedUptoCard
end Rows
end Go.Proofs.YtbldpojkpmafpaaGreatDoor
