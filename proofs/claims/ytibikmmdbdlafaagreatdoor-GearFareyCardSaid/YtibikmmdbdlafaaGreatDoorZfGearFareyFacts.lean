import Derived.Test.YtibikmmdbdlafaaGreatDoorRows
import Derived.WalkKit
import Derived.ProofKit
import Derived.LaidMore
import Derived.Lay
import Derived.OpenShut
import Derived.SevenTiedAt
import Derived.SizedLaws
set_option linter.defProp false
namespace Go.Proofs.YtibikmmdbdlafaaGreatDoor
open Go.ChangeShapes Go.WideShapes Go.ChangeAt Go.RowKit
theorem κ{p:Prop}(h:p:=by kernel_rfl):p:=h
def aty:(Rows.gearFareyRow.inPlace==Tryz.prog.inPlace 7)=true:=by kernel_rfl
def atz:(Rows.gearFareyRow.unfollowed==Tryz.prog.unfollowed 7)=true:=by kernel_rfl
def atA:(Rows.gearFareyRow.recurses==Tryz.prog.recurses 7)=true:=by kernel_rfl
def atB:(Rows.gearFareyRow.named==Tryz.prog.varsNamed 7)=true:=by kernel_rfl
def atC:(Tryz.prog.stops==[])=true:=by kernel_rfl
def atD:(namedTie Tryz.prog Rows.gearFareyRow.named Rows.gearFareySpec.vars)=true:=by kernel_rfl
def atE:joinedFacts Tryz.prog 7 Tryz.f7 Rows.gearFareySpec Rows.gearFareyRow=true:=by
 unfold joinedFacts;rw [aty,atz,atA,atB,atC,atD];kernel_rfl
def Zg:Tryz.prog.funcNamed Rows.gearFareyRow.func=some 7:=by kernel_rfl
def atF:Tryz.f7.isInstance Tryz.prog Rows.gearFareyRow.origin Rows.gearFareyRow.targs:=of_decide_eq_true κ
def atG:Tryz.f7.isWrapper Tryz.prog Rows.gearFareyRow.wrapper Rows.gearFareyRow.mainSum:=by
 unfold Func.isWrapper;first |(rw [if_pos (by decide+kernel)];kernel_rfl)|(rw [if_neg (by decide+kernel)];exact⟨rfl,rfl⟩)
def atH:Rows.gearFareyRow.wfByText (OpenSpec.ofChange Rows.gearFareySpec)=true:=by kernel_rfl
def atI:Tryz.pinned.checked.prog.mainIs=some (true,"604add947659f29206bd8bfe8092ca5daf5aaae9995fa2f84b079e74eac71499".toList):=by kernel_rfl
def atJ:true=Tryz.prog.looks []:=by kernel_rfl
def atK:false=Rows.gearFareyRow.goesBy Tryz.pinned.checked.prog:=by kernel_rfl
end Go.Proofs.YtibikmmdbdlafaaGreatDoor
