/- integraphlaw07.BusBounded: what the row's statement asks of the program's text. -/
import Derived.Test.YtbldpojkpmafpaaGreatDoorRows
import Derived.WalkKit
import Derived.ProofKit
import Derived.LaidMore
import Derived.Lay
import Derived.OpenShut
import Derived.ChangeOld
import Derived.Below
import Derived.Stop.Joined
import Derived.SevenTiedAt
import Derived.SizedLaws
namespace Go.Proofs.YtbldpojkpmafpaaGreatDoor
open Go.ChangeShapes Go.WideShapes Go.ChangeAt Go.RowKit
theorem busBounded_inPlace : (Rows.busBoundedRow.inPlace == Tryz.prog.inPlace 7) = true := by kernel_rfl
theorem busBounded_unfollowed : (Rows.busBoundedRow.unfollowed == Tryz.prog.unfollowed 7) = true := by kernel_rfl
theorem busBounded_recurses : (Rows.busBoundedRow.recurses == Tryz.prog.recurses 7) = true := by kernel_rfl
theorem busBounded_varsN : (Rows.busBoundedRow.named == Tryz.prog.varsNamed 7) = true := by kernel_rfl
theorem busBounded_stops : (Tryz.prog.stops == []) = true := by kernel_rfl
theorem busBounded_tieN : (namedTie Tryz.prog Rows.busBoundedRow.named Rows.busBoundedSpec.vars) = true := by kernel_rfl
theorem busBounded_closed : joinedFacts Tryz.prog 7 Tryz.f7 Rows.busBoundedSpec Rows.busBoundedRow = true := by
  unfold joinedFacts
  rw [busBounded_inPlace, busBounded_unfollowed, busBounded_recurses, busBounded_varsN, busBounded_stops, busBounded_tieN]
  kernel_rfl
theorem busBounded_named : Tryz.prog.funcNamed Rows.busBoundedRow.func = some 7 := by kernel_rfl
theorem busBounded_inst : Tryz.f7.isInstance Tryz.prog Rows.busBoundedRow.origin Rows.busBoundedRow.targs := of_decide_eq_true (by kernel_rfl)
theorem busBounded_wrap : Tryz.f7.isWrapper Tryz.prog Rows.busBoundedRow.wrapper Rows.busBoundedRow.mainSum := by
  unfold Func.isWrapper; first | (rw [if_pos (by decide +kernel)]; kernel_rfl) | (rw [if_neg (by decide +kernel)]; exact ⟨rfl, rfl⟩)
theorem busBounded_wf : Rows.busBoundedRow.wfByText (OpenSpec.ofChange Rows.busBoundedSpec) = true := by kernel_rfl
theorem busBounded_main : Tryz.pinned.checked.prog.mainIs = some (true, "a03735271d8ce7e78d81b5ba36a5285905c1805a7fc715175761ea74fc2e263e".toList) := by kernel_rfl
theorem busBounded_looks : true = Tryz.prog.looks [] := by kernel_rfl
theorem busBounded_goes : false = Rows.busBoundedRow.goesBy Tryz.pinned.checked.prog := by kernel_rfl
end Go.Proofs.YtbldpojkpmafpaaGreatDoor
