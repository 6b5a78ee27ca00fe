/- integraphlaw05.GearRatios: what the row's statement asks of the program's text. -/
import Derived.Test.YtjcbbabaabcdgaaGreatDoorRows
import Derived.WalkKit
import Derived.ProofKit
import Derived.LaidMore
import Derived.Lay
import Derived.OpenShut
import Derived.ChangeOld
import Derived.Below
import Derived.Stop.Joined
import Derived.SevenTiedAt
import Derived.SizedLaws
namespace Go.Proofs.YtjcbbabaabcdgaaGreatDoor
open Go.ChangeShapes Go.WideShapes Go.ChangeAt Go.RowKit
theorem gearRatios_inPlace:(Rows.gearRatiosRow.inPlace==Tryz.prog.inPlace 3)=true:=by kernel_rfl
theorem gearRatios_unfollowed:(Rows.gearRatiosRow.unfollowed==Tryz.prog.unfollowed 3)=true:=by kernel_rfl
theorem gearRatios_recurses:(Rows.gearRatiosRow.recurses==Tryz.prog.recurses 3)=true:=by kernel_rfl
theorem gearRatios_varsN:(Rows.gearRatiosRow.named==Tryz.prog.varsNamed 3)=true:=by kernel_rfl
theorem gearRatios_stops:(Tryz.prog.stops==[])=true:=by kernel_rfl
theorem gearRatios_tieN:(namedTie Tryz.prog Rows.gearRatiosRow.named Rows.gearRatiosSpec.vars)=true:=by kernel_rfl
theorem gearRatios_closed:joinedFacts Tryz.prog 3 Tryz.f3 Rows.gearRatiosSpec Rows.gearRatiosRow=true:=by
 unfold joinedFacts
 rw [gearRatios_inPlace,gearRatios_unfollowed,gearRatios_recurses,gearRatios_varsN,gearRatios_stops,gearRatios_tieN]
 kernel_rfl
theorem gearRatios_named:Tryz.prog.funcNamed Rows.gearRatiosRow.func=some 3:=by kernel_rfl
theorem gearRatios_inst:Tryz.f3.isInstance Tryz.prog Rows.gearRatiosRow.origin Rows.gearRatiosRow.targs:=of_decide_eq_true (by kernel_rfl)
theorem gearRatios_wrap:Tryz.f3.isWrapper Tryz.prog Rows.gearRatiosRow.wrapper Rows.gearRatiosRow.mainSum:=by
 unfold Func.isWrapper;first |(rw [if_pos (by decide+kernel)];kernel_rfl)|(rw [if_neg (by decide+kernel)];exact⟨rfl,rfl⟩)
theorem gearRatios_wf:Rows.gearRatiosRow.wfByText (OpenSpec.ofChange Rows.gearRatiosSpec)=true:=by kernel_rfl
theorem gearRatios_main:Tryz.pinned.checked.prog.mainIs=some (true,"eaa05c97eef22aee88f9c78d2e6c14059ea606fc4483965c149a115c1578b0e0".toList):=by kernel_rfl
theorem gearRatios_looks:true=Tryz.prog.looks []:=by kernel_rfl
theorem gearRatios_goes:false=Rows.gearRatiosRow.goesBy Tryz.pinned.checked.prog:=by kernel_rfl
end Go.Proofs.YtjcbbabaabcdgaaGreatDoor
