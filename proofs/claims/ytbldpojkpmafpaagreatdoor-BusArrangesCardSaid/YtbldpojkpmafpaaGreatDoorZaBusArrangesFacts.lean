/- integraphlaw07.BusArranges: what the row's statement asks of the program's text. -/
import Derived.Test.YtbldpojkpmafpaaGreatDoorRows
import Derived.WalkKit
import Derived.ProofKit
import Derived.LaidMore
import Derived.Lay
import Derived.OpenShut
import Derived.ChangeOld
import Derived.Below
import Derived.Stop.Joined
import Derived.SevenTiedAt
import Derived.SizedLaws
namespace Go.Proofs.YtbldpojkpmafpaaGreatDoor
open Go.ChangeShapes Go.WideShapes Go.ChangeAt Go.RowKit
theorem busArranges_inPlace : (Rows.busArrangesRow.inPlace == Tryz.prog.inPlace 6) = true := by kernel_rfl
theorem busArranges_unfollowed : (Rows.busArrangesRow.unfollowed == Tryz.prog.unfollowed 6) = true := by kernel_rfl
theorem busArranges_recurses : (Rows.busArrangesRow.recurses == Tryz.prog.recurses 6) = true := by kernel_rfl
theorem busArranges_varsN : (Rows.busArrangesRow.named == Tryz.prog.varsNamed 6) = true := by kernel_rfl
theorem busArranges_stops : (Tryz.prog.stops == []) = true := by kernel_rfl
theorem busArranges_tieN : (namedTie Tryz.prog Rows.busArrangesRow.named Rows.busArrangesSpec.vars) = true := by kernel_rfl
theorem busArranges_closed : joinedFacts Tryz.prog 6 Tryz.f6 Rows.busArrangesSpec Rows.busArrangesRow = true := by
  unfold joinedFacts
  rw [busArranges_inPlace, busArranges_unfollowed, busArranges_recurses, busArranges_varsN, busArranges_stops, busArranges_tieN]
  kernel_rfl
theorem busArranges_named : Tryz.prog.funcNamed Rows.busArrangesRow.func = some 6 := by kernel_rfl
theorem busArranges_inst : Tryz.f6.isInstance Tryz.prog Rows.busArrangesRow.origin Rows.busArrangesRow.targs := of_decide_eq_true (by kernel_rfl)
theorem busArranges_wrap : Tryz.f6.isWrapper Tryz.prog Rows.busArrangesRow.wrapper Rows.busArrangesRow.mainSum := by
  unfold Func.isWrapper; first | (rw [if_pos (by decide +kernel)]; kernel_rfl) | (rw [if_neg (by decide +kernel)]; exact ⟨rfl, rfl⟩)
theorem busArranges_wf : Rows.busArrangesRow.wfByText (OpenSpec.ofChange Rows.busArrangesSpec) = true := by kernel_rfl
theorem busArranges_main : Tryz.pinned.checked.prog.mainIs = some (true, "a03735271d8ce7e78d81b5ba36a5285905c1805a7fc715175761ea74fc2e263e".toList) := by kernel_rfl
theorem busArranges_looks : true = Tryz.prog.looks [] := by kernel_rfl
theorem busArranges_goes : false = Rows.busArrangesRow.goesBy Tryz.pinned.checked.prog := by kernel_rfl
end Go.Proofs.YtbldpojkpmafpaaGreatDoor
