import Derived.Test.YtibikmmdbdlafaaGreatDoorRows
import Derived.WalkKit
import Derived.ProofKit
import Derived.LaidMore
import Derived.Lay
import Derived.OpenShut
import Derived.SevenTiedAt
import Derived.SizedLaws
set_option linter.defProp false
namespace Go.Proofs.YtibikmmdbdlafaaGreatDoor
open Go.ChangeShapes Go.WideShapes Go.ChangeAt Go.RowKit
def atM:(Rows.gearNeighboursRow.inPlace==Tryz.prog.inPlace 6)=true:=by kernel_rfl
def atN:(Rows.gearNeighboursRow.unfollowed==Tryz.prog.unfollowed 6)=true:=by kernel_rfl
def atO:(Rows.gearNeighboursRow.recurses==Tryz.prog.recurses 6)=true:=by kernel_rfl
def atP:(Rows.gearNeighboursRow.named==Tryz.prog.varsNamed 6)=true:=by kernel_rfl
def atQ:(Tryz.prog.stops==[])=true:=by kernel_rfl
def atS:(namedTie Tryz.prog Rows.gearNeighboursRow.named Rows.gearNeighboursSpec.vars)=true:=by kernel_rfl
def atT:joinedFacts Tryz.prog 6 Tryz.f6 Rows.gearNeighboursSpec Rows.gearNeighboursRow=true:=by
 unfold joinedFacts;rw [atM,atN,atO,atP,atQ,atS];kernel_rfl
def Zf:Tryz.prog.funcNamed Rows.gearNeighboursRow.func=some 6:=by kernel_rfl
def atU:Tryz.f6.isInstance Tryz.prog Rows.gearNeighboursRow.origin Rows.gearNeighboursRow.targs:=of_decide_eq_true (by kernel_rfl)
def atV:Tryz.f6.isWrapper Tryz.prog Rows.gearNeighboursRow.wrapper Rows.gearNeighboursRow.mainSum:=by
 unfold Func.isWrapper;first |(rw [if_pos (by decide+kernel)];kernel_rfl)|(rw [if_neg (by decide+kernel)];exact⟨rfl,rfl⟩)
def atW:Rows.gearNeighboursRow.wfByText (OpenSpec.ofChange Rows.gearNeighboursSpec)=true:=by kernel_rfl
def atX:Tryz.pinned.checked.prog.mainIs=some (true,"604add947659f29206bd8bfe8092ca5daf5aaae9995fa2f84b079e74eac71499".toList):=by kernel_rfl
def atY:true=Tryz.prog.looks []:=by kernel_rfl
def atZ:false=Rows.gearNeighboursRow.goesBy Tryz.pinned.checked.prog:=by kernel_rfl
end Go.Proofs.YtibikmmdbdlafaaGreatDoor
