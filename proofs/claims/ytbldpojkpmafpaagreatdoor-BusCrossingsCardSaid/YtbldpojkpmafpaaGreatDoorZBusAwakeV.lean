/- integraphlaw07.awake: it returns true in every world, and leaves what lay there: the kernel runs it. -/
import Derived.Test.YtbldpojkpmafpaaGreatDoorZBusRefNets
namespace Go.Proofs.YtbldpojkpmafpaaGreatDoor
open Go.RowKit Sv

set_option maxRecDepth 1000000
theorem awake_runs : okv (acall Tryz.prog (acode Tryz.prog (sdraw Tryz.prog noS) 400) 8 [] H64) = true := by kernel_rfl
theorem awake_calls (w : World) : Calls Tryz.prog 8 #[] w fun e w' => e = .returned (.bool true) ∧ Below w.heap.size w w' := opened known mixed 400 awake_runs w
end Go.Proofs.YtbldpojkpmafpaaGreatDoor
