import Derived.Test.YtibikmmdbdlafaaGreatDoorRows
import Derived.WalkKit
import Derived.ProofKit
import Derived.LaidMore
import Derived.Lay
import Derived.OpenShut
import Derived.SevenTiedAt
import Derived.SizedLaws
set_option linter.defProp false
namespace Go.Proofs.YtibikmmdbdlafaaGreatDoor
open Go.ChangeShapes Go.WideShapes Go.ChangeAt Go.RowKit
def arI:(Rows.gearMotionsRow.inPlace==Tryz.prog.inPlace 3)=true:=by kernel_rfl
def arJ:(Rows.gearMotionsRow.unfollowed==Tryz.prog.unfollowed 3)=true:=by kernel_rfl
def arK:(Rows.gearMotionsRow.recurses==Tryz.prog.recurses 3)=true:=by kernel_rfl
def arL:(Rows.gearMotionsRow.named==Tryz.prog.varsNamed 3)=true:=by kernel_rfl
def arM:(Tryz.prog.stops==[])=true:=by kernel_rfl
def arN:(namedTie Tryz.prog Rows.gearMotionsRow.named Rows.gearMotionsSpec.vars)=true:=by kernel_rfl
def arO:joinedFacts Tryz.prog 3 Tryz.f3 Rows.gearMotionsSpec Rows.gearMotionsRow=true:=by
 unfold joinedFacts;rw [arI,arJ,arK,arL,arM,arN];kernel_rfl
def XI:Tryz.prog.funcNamed Rows.gearMotionsRow.func=some 3:=by kernel_rfl
def arP:Tryz.f3.isInstance Tryz.prog Rows.gearMotionsRow.origin Rows.gearMotionsRow.targs:=of_decide_eq_true (by kernel_rfl)
def arQ:Tryz.f3.isWrapper Tryz.prog Rows.gearMotionsRow.wrapper Rows.gearMotionsRow.mainSum:=by
 unfold Func.isWrapper;first |(rw [if_pos (by decide+kernel)];kernel_rfl)|(rw [if_neg (by decide+kernel)];exact⟨rfl,rfl⟩)
def arR:Rows.gearMotionsRow.wfByText (OpenSpec.ofChange Rows.gearMotionsSpec)=true:=by kernel_rfl
def arS:Tryz.pinned.checked.prog.mainIs=some (true,"604add947659f29206bd8bfe8092ca5daf5aaae9995fa2f84b079e74eac71499".toList):=by kernel_rfl
def arT:true=Tryz.prog.looks []:=by kernel_rfl
def arU:false=Rows.gearMotionsRow.goesBy Tryz.pinned.checked.prog:=by kernel_rfl
end Go.Proofs.YtibikmmdbdlafaaGreatDoor
