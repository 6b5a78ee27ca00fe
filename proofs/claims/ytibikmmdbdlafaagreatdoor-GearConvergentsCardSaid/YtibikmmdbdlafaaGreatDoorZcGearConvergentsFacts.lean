import Derived.Test.YtibikmmdbdlafaaGreatDoorRows
import Derived.WalkKit
import Derived.ProofKit
import Derived.LaidMore
import Derived.Lay
import Derived.OpenShut
import Derived.SevenTiedAt
import Derived.SizedLaws
set_option linter.defProp false
namespace Go.Proofs.YtibikmmdbdlafaaGreatDoor
open Go.ChangeShapes Go.WideShapes Go.ChangeAt Go.RowKit
theorem κ{p:Prop}(h:p:=by kernel_rfl):p:=h
def atA:(Rows.gearConvergentsRow.inPlace==Tryz.prog.inPlace 5)=true:=by kernel_rfl
def atB:(Rows.gearConvergentsRow.unfollowed==Tryz.prog.unfollowed 5)=true:=by kernel_rfl
def atC:(Rows.gearConvergentsRow.recurses==Tryz.prog.recurses 5)=true:=by kernel_rfl
def atD:(Rows.gearConvergentsRow.named==Tryz.prog.varsNamed 5)=true:=by kernel_rfl
def atE:(Tryz.prog.stops==[])=true:=by kernel_rfl
def atF:(namedTie Tryz.prog Rows.gearConvergentsRow.named Rows.gearConvergentsSpec.vars)=true:=by kernel_rfl
def atG:joinedFacts Tryz.prog 5 Tryz.f5 Rows.gearConvergentsSpec Rows.gearConvergentsRow=true:=by
 unfold joinedFacts;rw [atA,atB,atC,atD,atE,atF];kernel_rfl
def Zy:Tryz.prog.funcNamed Rows.gearConvergentsRow.func=some 5:=by kernel_rfl
def atH:Tryz.f5.isInstance Tryz.prog Rows.gearConvergentsRow.origin Rows.gearConvergentsRow.targs:=of_decide_eq_true κ
def atI:Tryz.f5.isWrapper Tryz.prog Rows.gearConvergentsRow.wrapper Rows.gearConvergentsRow.mainSum:=by
 unfold Func.isWrapper;first |(rw [if_pos (by decide+kernel)];kernel_rfl)|(rw [if_neg (by decide+kernel)];exact⟨rfl,rfl⟩)
def atJ:Rows.gearConvergentsRow.wfByText (OpenSpec.ofChange Rows.gearConvergentsSpec)=true:=by kernel_rfl
def atK:Tryz.pinned.checked.prog.mainIs=some (true,"604add947659f29206bd8bfe8092ca5daf5aaae9995fa2f84b079e74eac71499".toList):=by kernel_rfl
def atL:true=Tryz.prog.looks []:=by kernel_rfl
def atM:false=Rows.gearConvergentsRow.goesBy Tryz.pinned.checked.prog:=by kernel_rfl
end Go.Proofs.YtibikmmdbdlafaaGreatDoor
