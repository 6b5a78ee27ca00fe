/- integraphlaw07.BusRenamed: what the row's statement asks of the program's text. -/
import Derived.Test.YtkjjnnbbicoljaaGreatDoorRows
import Derived.WalkKit
import Derived.ProofKit
import Derived.LaidMore
import Derived.Lay
import Derived.OpenShut
import Derived.ChangeOld
import Derived.Below
import Derived.Stop.Joined
import Derived.SevenTiedAt
import Derived.SizedLaws
namespace Go.Proofs.YtkjjnnbbicoljaaGreatDoor
open Go.ChangeShapes Go.WideShapes Go.ChangeAt Go.RowKit
theorem busRenamed_inPlace : (Rows.busRenamedRow.inPlace == Tryz.prog.inPlace 4) = true := by kernel_rfl
theorem busRenamed_unfollowed : (Rows.busRenamedRow.unfollowed == Tryz.prog.unfollowed 4) = true := by kernel_rfl
theorem busRenamed_recurses : (Rows.busRenamedRow.recurses == Tryz.prog.recurses 4) = true := by kernel_rfl
theorem busRenamed_varsN : (Rows.busRenamedRow.named == Tryz.prog.varsNamed 4) = true := by kernel_rfl
theorem busRenamed_stops : (Tryz.prog.stops == []) = true := by kernel_rfl
theorem busRenamed_tieN : (namedTie Tryz.prog Rows.busRenamedRow.named Rows.busRenamedSpec.vars) = true := by kernel_rfl
theorem busRenamed_closed : joinedFacts Tryz.prog 4 Tryz.f4 Rows.busRenamedSpec Rows.busRenamedRow = true := by
  unfold joinedFacts
  rw [busRenamed_inPlace, busRenamed_unfollowed, busRenamed_recurses, busRenamed_varsN, busRenamed_stops, busRenamed_tieN]
  kernel_rfl
theorem busRenamed_named : Tryz.prog.funcNamed Rows.busRenamedRow.func = some 4 := by kernel_rfl
theorem busRenamed_inst : Tryz.f4.isInstance Tryz.prog Rows.busRenamedRow.origin Rows.busRenamedRow.targs := of_decide_eq_true (by kernel_rfl)
theorem busRenamed_wrap : Tryz.f4.isWrapper Tryz.prog Rows.busRenamedRow.wrapper Rows.busRenamedRow.mainSum := by
  unfold Func.isWrapper; first | (rw [if_pos (by decide +kernel)]; kernel_rfl) | (rw [if_neg (by decide +kernel)]; exact ⟨rfl, rfl⟩)
theorem busRenamed_wf : Rows.busRenamedRow.wfByText (OpenSpec.ofChange Rows.busRenamedSpec) = true := by kernel_rfl
theorem busRenamed_main : Tryz.pinned.checked.prog.mainIs = some (true, "6aee19469204459d23d49c72131c5aca85ad95fe2658760c9131b064752d02ec".toList) := by kernel_rfl
theorem busRenamed_looks : true = Tryz.prog.looks [] := by kernel_rfl
theorem busRenamed_goes : false = Rows.busRenamedRow.goesBy Tryz.pinned.checked.prog := by kernel_rfl
end Go.Proofs.YtkjjnnbbicoljaaGreatDoor
