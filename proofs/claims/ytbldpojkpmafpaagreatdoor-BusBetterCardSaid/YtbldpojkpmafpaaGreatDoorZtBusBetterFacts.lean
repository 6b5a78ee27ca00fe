/- integraphlaw07.BusBetter: what the row's statement asks of the program's text. -/
import Derived.Test.YtbldpojkpmafpaaGreatDoorRows
import Derived.WalkKit
import Derived.ProofKit
import Derived.LaidMore
import Derived.Lay
import Derived.OpenShut
import Derived.ChangeOld
import Derived.Below
import Derived.Stop.Joined
import Derived.SevenTiedAt
import Derived.SizedLaws
namespace Go.Proofs.YtbldpojkpmafpaaGreatDoor
open Go.ChangeShapes Go.WideShapes Go.ChangeAt Go.RowKit
theorem busBetter_inPlace : (Rows.busBetterRow.inPlace == Tryz.prog.inPlace 5) = true := by kernel_rfl
theorem busBetter_unfollowed : (Rows.busBetterRow.unfollowed == Tryz.prog.unfollowed 5) = true := by kernel_rfl
theorem busBetter_recurses : (Rows.busBetterRow.recurses == Tryz.prog.recurses 5) = true := by kernel_rfl
theorem busBetter_varsN : (Rows.busBetterRow.named == Tryz.prog.varsNamed 5) = true := by kernel_rfl
theorem busBetter_stops : (Tryz.prog.stops == []) = true := by kernel_rfl
theorem busBetter_tieN : (namedTie Tryz.prog Rows.busBetterRow.named Rows.busBetterSpec.vars) = true := by kernel_rfl
theorem busBetter_closed : joinedFacts Tryz.prog 5 Tryz.f5 Rows.busBetterSpec Rows.busBetterRow = true := by
  unfold joinedFacts
  rw [busBetter_inPlace, busBetter_unfollowed, busBetter_recurses, busBetter_varsN, busBetter_stops, busBetter_tieN]
  kernel_rfl
theorem busBetter_named : Tryz.prog.funcNamed Rows.busBetterRow.func = some 5 := by kernel_rfl
theorem busBetter_inst : Tryz.f5.isInstance Tryz.prog Rows.busBetterRow.origin Rows.busBetterRow.targs := of_decide_eq_true (by kernel_rfl)
theorem busBetter_wrap : Tryz.f5.isWrapper Tryz.prog Rows.busBetterRow.wrapper Rows.busBetterRow.mainSum := by
  unfold Func.isWrapper; first | (rw [if_pos (by decide +kernel)]; kernel_rfl) | (rw [if_neg (by decide +kernel)]; exact ⟨rfl, rfl⟩)
theorem busBetter_wf : Rows.busBetterRow.wfByText (OpenSpec.ofChange Rows.busBetterSpec) = true := by kernel_rfl
theorem busBetter_main : Tryz.pinned.checked.prog.mainIs = some (true, "a03735271d8ce7e78d81b5ba36a5285905c1805a7fc715175761ea74fc2e263e".toList) := by kernel_rfl
theorem busBetter_looks : true = Tryz.prog.looks [] := by kernel_rfl
theorem busBetter_goes : false = Rows.busBetterRow.goesBy Tryz.pinned.checked.prog := by kernel_rfl
end Go.Proofs.YtbldpojkpmafpaaGreatDoor
