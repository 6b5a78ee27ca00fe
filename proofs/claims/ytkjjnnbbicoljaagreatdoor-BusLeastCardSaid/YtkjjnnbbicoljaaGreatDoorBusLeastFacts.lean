/- integraphlaw07.BusLeast: what the row's statement asks of the program's text. -/
import Derived.Test.YtkjjnnbbicoljaaGreatDoorRows
import Derived.WalkKit
import Derived.ProofKit
import Derived.LaidMore
import Derived.Lay
import Derived.OpenShut
import Derived.ChangeOld
import Derived.Below
import Derived.Stop.Joined
import Derived.SevenTiedAt
import Derived.SizedLaws
namespace Go.Proofs.YtkjjnnbbicoljaaGreatDoor
open Go.ChangeShapes Go.WideShapes Go.ChangeAt Go.RowKit
theorem busLeast_inPlace : (Rows.busLeastRow.inPlace == Tryz.prog.inPlace 5) = true := by kernel_rfl
theorem busLeast_unfollowed : (Rows.busLeastRow.unfollowed == Tryz.prog.unfollowed 5) = true := by kernel_rfl
theorem busLeast_recurses : (Rows.busLeastRow.recurses == Tryz.prog.recurses 5) = true := by kernel_rfl
theorem busLeast_varsN : (Rows.busLeastRow.named == Tryz.prog.varsNamed 5) = true := by kernel_rfl
theorem busLeast_stops : (Tryz.prog.stops == []) = true := by kernel_rfl
theorem busLeast_tieN : (namedTie Tryz.prog Rows.busLeastRow.named Rows.busLeastSpec.vars) = true := by kernel_rfl
theorem busLeast_closed : joinedFacts Tryz.prog 5 Tryz.f5 Rows.busLeastSpec Rows.busLeastRow = true := by
  unfold joinedFacts
  rw [busLeast_inPlace, busLeast_unfollowed, busLeast_recurses, busLeast_varsN, busLeast_stops, busLeast_tieN]
  kernel_rfl
theorem busLeast_named : Tryz.prog.funcNamed Rows.busLeastRow.func = some 5 := by kernel_rfl
theorem busLeast_inst : Tryz.f5.isInstance Tryz.prog Rows.busLeastRow.origin Rows.busLeastRow.targs := of_decide_eq_true (by kernel_rfl)
theorem busLeast_wrap : Tryz.f5.isWrapper Tryz.prog Rows.busLeastRow.wrapper Rows.busLeastRow.mainSum := by
  unfold Func.isWrapper; first | (rw [if_pos (by decide +kernel)]; kernel_rfl) | (rw [if_neg (by decide +kernel)]; exact ⟨rfl, rfl⟩)
theorem busLeast_wf : Rows.busLeastRow.wfByText (OpenSpec.ofChange Rows.busLeastSpec) = true := by kernel_rfl
theorem busLeast_main : Tryz.pinned.checked.prog.mainIs = some (true, "6aee19469204459d23d49c72131c5aca85ad95fe2658760c9131b064752d02ec".toList) := by kernel_rfl
theorem busLeast_looks : true = Tryz.prog.looks [] := by kernel_rfl
theorem busLeast_goes : false = Rows.busLeastRow.goesBy Tryz.pinned.checked.prog := by kernel_rfl
end Go.Proofs.YtkjjnnbbicoljaaGreatDoor
