/- integraphlaw05.GearFractions: what the row's statement asks of the program's text. -/
import Derived.Test.YtibikmmdbdlafaaGreatDoorRows
import Derived.WalkKit
import Derived.ProofKit
import Derived.LaidMore
import Derived.Lay
import Derived.OpenShut
import Derived.ChangeOld
import Derived.Below
import Derived.Stop.Joined
import Derived.SevenTiedAt
import Derived.SizedLaws
import Derived.ChangeMaps5
import Derived.SliceStrings
namespace Go.Proofs.YtibikmmdbdlafaaGreatDoor
open Go.ChangeShapes Go.WideShapes Go.ChangeAt Go.RowKit
theorem ap9:(Rows.gearFractionsRow.inPlace==Tryz.prog.inPlace 4)=true:=by kernel_rfl
theorem aqa:(Rows.gearFractionsRow.unfollowed==Tryz.prog.unfollowed 4)=true:=by kernel_rfl
theorem aqb:(Rows.gearFractionsRow.recurses==Tryz.prog.recurses 4)=true:=by kernel_rfl
theorem aqc:(Rows.gearFractionsRow.named==Tryz.prog.varsNamed 4)=true:=by kernel_rfl
theorem aqd:(Tryz.prog.stops==[])=true:=by kernel_rfl
theorem aqe:(namedTie Tryz.prog Rows.gearFractionsRow.named Rows.gearFractionsSpec.vars)=true:=by kernel_rfl
theorem aqf:joinedFacts Tryz.prog 4 Tryz.f4 Rows.gearFractionsSpec Rows.gearFractionsRow=true:=by
 unfold joinedFacts;rw [ap9,aqa,aqb,aqc,aqd,aqe];kernel_rfl
theorem W7:Tryz.prog.funcNamed Rows.gearFractionsRow.func=some 4:=by kernel_rfl
theorem aqg:Tryz.f4.isInstance Tryz.prog Rows.gearFractionsRow.origin Rows.gearFractionsRow.targs:=of_decide_eq_true (by kernel_rfl)
theorem aqh:Tryz.f4.isWrapper Tryz.prog Rows.gearFractionsRow.wrapper Rows.gearFractionsRow.mainSum:=by
 unfold Func.isWrapper;first |(rw [if_pos (by decide+kernel)];kernel_rfl)|(rw [if_neg (by decide+kernel)];exact⟨rfl,rfl⟩)
theorem aqi:Rows.gearFractionsRow.wfByText (OpenSpec.ofChange Rows.gearFractionsSpec)=true:=by kernel_rfl
theorem aqj:Tryz.pinned.checked.prog.mainIs=some (true,"604add947659f29206bd8bfe8092ca5daf5aaae9995fa2f84b079e74eac71499".toList):=by kernel_rfl
theorem aqk:true=Tryz.prog.looks []:=by kernel_rfl
theorem aql:false=Rows.gearFractionsRow.goesBy Tryz.pinned.checked.prog:=by kernel_rfl
end Go.Proofs.YtibikmmdbdlafaaGreatDoor
