/- integraphlaw07.BusBests: what the row's statement asks of the program's text. -/
import Derived.Test.YtbldpojkpmafpaaGreatDoorRows
import Derived.WalkKit
import Derived.ProofKit
import Derived.LaidMore
import Derived.Lay
import Derived.OpenShut
import Derived.ChangeOld
import Derived.Below
import Derived.Stop.Joined
import Derived.SevenTiedAt
import Derived.SizedLaws
namespace Go.Proofs.YtbldpojkpmafpaaGreatDoor
open Go.ChangeShapes Go.WideShapes Go.ChangeAt Go.RowKit
theorem busBests_inPlace : (Rows.busBestsRow.inPlace == Tryz.prog.inPlace 3) = true := by kernel_rfl
theorem busBests_unfollowed : (Rows.busBestsRow.unfollowed == Tryz.prog.unfollowed 3) = true := by kernel_rfl
theorem busBests_recurses : (Rows.busBestsRow.recurses == Tryz.prog.recurses 3) = true := by kernel_rfl
theorem busBests_varsN : (Rows.busBestsRow.named == Tryz.prog.varsNamed 3) = true := by kernel_rfl
theorem busBests_stops : (Tryz.prog.stops == []) = true := by kernel_rfl
theorem busBests_tieN : (namedTie Tryz.prog Rows.busBestsRow.named Rows.busBestsSpec.vars) = true := by kernel_rfl
theorem busBests_closed : joinedFacts Tryz.prog 3 Tryz.f3 Rows.busBestsSpec Rows.busBestsRow = true := by
  unfold joinedFacts
  rw [busBests_inPlace, busBests_unfollowed, busBests_recurses, busBests_varsN, busBests_stops, busBests_tieN]
  kernel_rfl
theorem busBests_named : Tryz.prog.funcNamed Rows.busBestsRow.func = some 3 := by kernel_rfl
theorem busBests_inst : Tryz.f3.isInstance Tryz.prog Rows.busBestsRow.origin Rows.busBestsRow.targs := of_decide_eq_true (by kernel_rfl)
theorem busBests_wrap : Tryz.f3.isWrapper Tryz.prog Rows.busBestsRow.wrapper Rows.busBestsRow.mainSum := by
  unfold Func.isWrapper; first | (rw [if_pos (by decide +kernel)]; kernel_rfl) | (rw [if_neg (by decide +kernel)]; exact ⟨rfl, rfl⟩)
theorem busBests_wf : Rows.busBestsRow.wfByText (OpenSpec.ofChange Rows.busBestsSpec) = true := by kernel_rfl
theorem busBests_main : Tryz.pinned.checked.prog.mainIs = some (true, "a03735271d8ce7e78d81b5ba36a5285905c1805a7fc715175761ea74fc2e263e".toList) := by kernel_rfl
theorem busBests_looks : true = Tryz.prog.looks [] := by kernel_rfl
theorem busBests_goes : false = Rows.busBestsRow.goesBy Tryz.pinned.checked.prog := by kernel_rfl
end Go.Proofs.YtbldpojkpmafpaaGreatDoor
