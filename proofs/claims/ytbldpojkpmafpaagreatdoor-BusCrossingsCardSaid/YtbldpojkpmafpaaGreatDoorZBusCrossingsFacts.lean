/- integraphlaw07.BusCrossings: what the row's statement asks of the program's text. -/
import Derived.Test.YtbldpojkpmafpaaGreatDoorRows
import Derived.WalkKit
import Derived.ProofKit
import Derived.LaidMore
import Derived.Lay
import Derived.OpenShut
import Derived.ChangeOld
import Derived.Below
import Derived.Stop.Joined
import Derived.SevenTiedAt
import Derived.SizedLaws
namespace Go.Proofs.YtbldpojkpmafpaaGreatDoor
open Go.ChangeShapes Go.WideShapes Go.ChangeAt Go.RowKit
theorem busCrossings_inPlace : (Rows.busCrossingsRow.inPlace == Tryz.prog.inPlace 4) = true := by kernel_rfl
theorem busCrossings_unfollowed : (Rows.busCrossingsRow.unfollowed == Tryz.prog.unfollowed 4) = true := by kernel_rfl
theorem busCrossings_recurses : (Rows.busCrossingsRow.recurses == Tryz.prog.recurses 4) = true := by kernel_rfl
theorem busCrossings_varsN : (Rows.busCrossingsRow.named == Tryz.prog.varsNamed 4) = true := by kernel_rfl
theorem busCrossings_stops : (Tryz.prog.stops == []) = true := by kernel_rfl
theorem busCrossings_tieN : (namedTie Tryz.prog Rows.busCrossingsRow.named Rows.busCrossingsSpec.vars) = true := by kernel_rfl
theorem busCrossings_closed : joinedFacts Tryz.prog 4 Tryz.f4 Rows.busCrossingsSpec Rows.busCrossingsRow = true := by
  unfold joinedFacts
  rw [busCrossings_inPlace, busCrossings_unfollowed, busCrossings_recurses, busCrossings_varsN, busCrossings_stops, busCrossings_tieN]
  kernel_rfl
theorem busCrossings_named : Tryz.prog.funcNamed Rows.busCrossingsRow.func = some 4 := by kernel_rfl
theorem busCrossings_inst : Tryz.f4.isInstance Tryz.prog Rows.busCrossingsRow.origin Rows.busCrossingsRow.targs := of_decide_eq_true (by kernel_rfl)
theorem busCrossings_wrap : Tryz.f4.isWrapper Tryz.prog Rows.busCrossingsRow.wrapper Rows.busCrossingsRow.mainSum := by
  unfold Func.isWrapper; first | (rw [if_pos (by decide +kernel)]; kernel_rfl) | (rw [if_neg (by decide +kernel)]; exact ⟨rfl, rfl⟩)
theorem busCrossings_wf : Rows.busCrossingsRow.wfByText (OpenSpec.ofChange Rows.busCrossingsSpec) = true := by kernel_rfl
theorem busCrossings_main : Tryz.pinned.checked.prog.mainIs = some (true, "a03735271d8ce7e78d81b5ba36a5285905c1805a7fc715175761ea74fc2e263e".toList) := by kernel_rfl
theorem busCrossings_looks : true = Tryz.prog.looks [] := by kernel_rfl
theorem busCrossings_goes : false = Rows.busCrossingsRow.goesBy Tryz.pinned.checked.prog := by kernel_rfl
end Go.Proofs.YtbldpojkpmafpaaGreatDoor
