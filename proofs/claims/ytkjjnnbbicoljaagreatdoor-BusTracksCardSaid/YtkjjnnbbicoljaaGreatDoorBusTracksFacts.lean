/- integraphlaw07.BusTracks: what the row's statement asks of the program's text. -/
import Derived.Test.YtkjjnnbbicoljaaGreatDoorRows
import Derived.WalkKit
import Derived.ProofKit
import Derived.LaidMore
import Derived.Lay
import Derived.OpenShut
import Derived.ChangeOld
import Derived.Below
import Derived.Stop.Joined
import Derived.SevenTiedAt
import Derived.SizedLaws
namespace Go.Proofs.YtkjjnnbbicoljaaGreatDoor
open Go.ChangeShapes Go.WideShapes Go.ChangeAt Go.RowKit
theorem busTracks_inPlace : (Rows.busTracksRow.inPlace == Tryz.prog.inPlace 3) = true := by kernel_rfl
theorem busTracks_unfollowed : (Rows.busTracksRow.unfollowed == Tryz.prog.unfollowed 3) = true := by kernel_rfl
theorem busTracks_recurses : (Rows.busTracksRow.recurses == Tryz.prog.recurses 3) = true := by kernel_rfl
theorem busTracks_varsN : (Rows.busTracksRow.named == Tryz.prog.varsNamed 3) = true := by kernel_rfl
theorem busTracks_stops : (Tryz.prog.stops == []) = true := by kernel_rfl
theorem busTracks_tieN : (namedTie Tryz.prog Rows.busTracksRow.named Rows.busTracksSpec.vars) = true := by kernel_rfl
theorem busTracks_closed : joinedFacts Tryz.prog 3 Tryz.f3 Rows.busTracksSpec Rows.busTracksRow = true := by
  unfold joinedFacts
  rw [busTracks_inPlace, busTracks_unfollowed, busTracks_recurses, busTracks_varsN, busTracks_stops, busTracks_tieN]
  kernel_rfl
theorem busTracks_named : Tryz.prog.funcNamed Rows.busTracksRow.func = some 3 := by kernel_rfl
theorem busTracks_inst : Tryz.f3.isInstance Tryz.prog Rows.busTracksRow.origin Rows.busTracksRow.targs := of_decide_eq_true (by kernel_rfl)
theorem busTracks_wrap : Tryz.f3.isWrapper Tryz.prog Rows.busTracksRow.wrapper Rows.busTracksRow.mainSum := by
  unfold Func.isWrapper; first | (rw [if_pos (by decide +kernel)]; kernel_rfl) | (rw [if_neg (by decide +kernel)]; exact ⟨rfl, rfl⟩)
theorem busTracks_wf : Rows.busTracksRow.wfByText (OpenSpec.ofChange Rows.busTracksSpec) = true := by kernel_rfl
theorem busTracks_main : Tryz.pinned.checked.prog.mainIs = some (true, "6aee19469204459d23d49c72131c5aca85ad95fe2658760c9131b064752d02ec".toList) := by kernel_rfl
theorem busTracks_looks : true = Tryz.prog.looks [] := by kernel_rfl
theorem busTracks_goes : false = Rows.busTracksRow.goesBy Tryz.pinned.checked.prog := by kernel_rfl
end Go.Proofs.YtkjjnnbbicoljaaGreatDoor
