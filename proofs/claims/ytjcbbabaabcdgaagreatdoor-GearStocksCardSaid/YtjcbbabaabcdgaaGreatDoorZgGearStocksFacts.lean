/- integraphlaw05.GearStocks: what the row's statement asks of the program's text. -/
import Derived.Test.YtjcbbabaabcdgaaGreatDoorRows
import Derived.WalkKit
import Derived.ProofKit
import Derived.LaidMore
import Derived.Lay
import Derived.OpenShut
import Derived.ChangeOld
import Derived.Below
import Derived.Stop.Joined
import Derived.SevenTiedAt
import Derived.SizedLaws
namespace Go.Proofs.YtjcbbabaabcdgaaGreatDoor
open Go.ChangeShapes Go.WideShapes Go.ChangeAt Go.RowKit
theorem gearStocks_inPlace : (Rows.gearStocksRow.inPlace == Tryz.prog.inPlace 6) = true := by kernel_rfl
theorem gearStocks_unfollowed : (Rows.gearStocksRow.unfollowed == Tryz.prog.unfollowed 6) = true := by kernel_rfl
theorem gearStocks_recurses : (Rows.gearStocksRow.recurses == Tryz.prog.recurses 6) = true := by kernel_rfl
theorem gearStocks_varsN : (Rows.gearStocksRow.named == Tryz.prog.varsNamed 6) = true := by kernel_rfl
theorem gearStocks_stops : (Tryz.prog.stops == []) = true := by kernel_rfl
theorem gearStocks_tieN : (namedTie Tryz.prog Rows.gearStocksRow.named Rows.gearStocksSpec.vars) = true := by kernel_rfl
theorem gearStocks_closed : joinedFacts Tryz.prog 6 Tryz.f6 Rows.gearStocksSpec Rows.gearStocksRow = true := by
  unfold joinedFacts
  rw [gearStocks_inPlace, gearStocks_unfollowed, gearStocks_recurses, gearStocks_varsN, gearStocks_stops, gearStocks_tieN]
  kernel_rfl
theorem gearStocks_named : Tryz.prog.funcNamed Rows.gearStocksRow.func = some 6 := by kernel_rfl
theorem gearStocks_inst : Tryz.f6.isInstance Tryz.prog Rows.gearStocksRow.origin Rows.gearStocksRow.targs := of_decide_eq_true (by kernel_rfl)
theorem gearStocks_wrap : Tryz.f6.isWrapper Tryz.prog Rows.gearStocksRow.wrapper Rows.gearStocksRow.mainSum := by
  unfold Func.isWrapper; first | (rw [if_pos (by decide +kernel)]; kernel_rfl) | (rw [if_neg (by decide +kernel)]; exact ⟨rfl, rfl⟩)
theorem gearStocks_wf : Rows.gearStocksRow.wfByText (OpenSpec.ofChange Rows.gearStocksSpec) = true := by kernel_rfl
theorem gearStocks_main : Tryz.pinned.checked.prog.mainIs = some (true, "eaa05c97eef22aee88f9c78d2e6c14059ea606fc4483965c149a115c1578b0e0".toList) := by kernel_rfl
theorem gearStocks_looks : true = Tryz.prog.looks [] := by kernel_rfl
theorem gearStocks_goes : false = Rows.gearStocksRow.goesBy Tryz.pinned.checked.prog := by kernel_rfl
end Go.Proofs.YtjcbbabaabcdgaaGreatDoor
