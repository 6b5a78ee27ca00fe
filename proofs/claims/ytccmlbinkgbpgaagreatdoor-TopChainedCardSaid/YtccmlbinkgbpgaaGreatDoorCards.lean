/-
  DERIVED. GIVEN WITH THE SEED: THE CARDS: each row of YtccmlbinkgbpgaaGreatDoorRows.lean that lists a variable, with what it lists TIED to the program's text (the seventh form; the later family's looks); each row that meets fmt, with fmt's text TOLD by the authors' own Lean function (tested against real Go, not proved from fmt's source: count such statements apart). THE CARD IS WHAT COUNTS. Prove the row's statement (the work); the ties are given (YtccmlbinkgbpgaaGreatDoorTie.lean); close each card by the builder's one call (the guide's Derived/Test/ToyasCard.lean, 'card_holds'). Laid BY PROGRAM, IN A SANDBOX (cutbox-door.mjs). By AI agents, Wed Nov 11 2026. No macro, syntax, notation, axiom, sorry.
-/
import Derived.Test.YtccmlbinkgbpgaaGreatDoorRows
import GoSem.ClaimSeven
namespace Go.Proofs.YtccmlbinkgbpgaaGreatDoor
namespace Rows

/-- THE TIED CARD OF 'integraphtop.TopChained'. -/
def topChainedCard : Claim7 := { stood := { row := topChainedRow, standIns := [], harness := (true, "3e243f51eca82158f4cc980fc8469f4be6b11c71a5e4214403c251beb02ef7c5"), looks := true }, kinds := [], alts := [], laidByText := true, laidKinds := [.data, .data, .data, .sentinel, .sentinel], laidTests := true, laidLooks := .later }
def TopChainedCardSaid : Prop := Claim7.holds Tryz.pinned (.plain (OpenSpec.ofChange topChainedSpec)) topChainedCard

/-- THE SECOND FORM's CARD OF 'integraphtop.TopChained'. -/
def topChainedUptoCard : Claim7 := { stood := { row := topChainedUptoRow, standIns := [], harness := (true, "3e243f51eca82158f4cc980fc8469f4be6b11c71a5e4214403c251beb02ef7c5"), looks := true }, kinds := [], alts := [], laidByText := true, laidKinds := [.data, .data, .data, .sentinel, .sentinel], laidTests := true, laidLooks := .later }
def TopChainedUptoCardSaid : Prop := Claim7.holds Tryz.pinned (.plain (OpenSpec.upto topChainedSpec)) topChainedUptoCard
end Rows
end Go.Proofs.YtccmlbinkgbpgaaGreatDoor
