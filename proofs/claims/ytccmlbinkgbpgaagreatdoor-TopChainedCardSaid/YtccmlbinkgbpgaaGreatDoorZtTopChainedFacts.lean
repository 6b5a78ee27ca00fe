/- integraphtop.TopChained: what the row's statement asks of the program's text. -/
import Derived.Test.YtccmlbinkgbpgaaGreatDoorRows
import Derived.WalkKit
import Derived.ProofKit
import Derived.LaidMore
import Derived.Lay
import Derived.OpenShut
import Derived.ChangeOld
import Derived.Below
import Derived.Stop.Joined
import Derived.SevenTiedAt
import Derived.SizedLaws
namespace Go.Proofs.YtccmlbinkgbpgaaGreatDoor
open Go.ChangeShapes Go.WideShapes Go.ChangeAt Go.RowKit
theorem topChained_inPlace:(Rows.topChainedRow.inPlace==Tryz.prog.inPlace 3)=true:=by kernel_rfl
theorem topChained_unfollowed:(Rows.topChainedRow.unfollowed==Tryz.prog.unfollowed 3)=true:=by kernel_rfl
theorem topChained_recurses:(Rows.topChainedRow.recurses==Tryz.prog.recurses 3)=true:=by kernel_rfl
theorem topChained_varsN:(Rows.topChainedRow.named==Tryz.prog.varsNamed 3)=true:=by kernel_rfl
theorem topChained_stops:(Tryz.prog.stops==[])=true:=by kernel_rfl
theorem topChained_tieN:(namedTie Tryz.prog Rows.topChainedRow.named Rows.topChainedSpec.vars)=true:=by kernel_rfl
theorem topChained_closed:joinedFacts Tryz.prog 3 Tryz.f3 Rows.topChainedSpec Rows.topChainedRow=true:=by
 unfold joinedFacts
 rw [topChained_inPlace,topChained_unfollowed,topChained_recurses,topChained_varsN,topChained_stops,topChained_tieN]
 kernel_rfl
theorem topChained_named:Tryz.prog.funcNamed Rows.topChainedRow.func=some 3:=by kernel_rfl
theorem topChained_inst:Tryz.f3.isInstance Tryz.prog Rows.topChainedRow.origin Rows.topChainedRow.targs:=of_decide_eq_true (by kernel_rfl)
theorem topChained_wrap:Tryz.f3.isWrapper Tryz.prog Rows.topChainedRow.wrapper Rows.topChainedRow.mainSum:=by
 unfold Func.isWrapper;first |(rw [if_pos (by decide+kernel)];kernel_rfl)|(rw [if_neg (by decide+kernel)];exact⟨rfl,rfl⟩)
theorem topChained_wf:Rows.topChainedRow.wfByText (OpenSpec.ofChange Rows.topChainedSpec)=true:=by kernel_rfl
theorem topChained_main:Tryz.pinned.checked.prog.mainIs=some (true,"3e243f51eca82158f4cc980fc8469f4be6b11c71a5e4214403c251beb02ef7c5".toList):=by kernel_rfl
theorem topChained_looks:true=Tryz.prog.looks []:=by kernel_rfl
theorem topChained_goes:false=Rows.topChainedRow.goesBy Tryz.pinned.checked.prog:=by kernel_rfl
end Go.Proofs.YtccmlbinkgbpgaaGreatDoor
