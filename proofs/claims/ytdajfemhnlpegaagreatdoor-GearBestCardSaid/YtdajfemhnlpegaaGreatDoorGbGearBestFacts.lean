import Derived.Test.YtdajfemhnlpegaaGreatDoorRows
import Derived.WalkKit
import Derived.ProofKit
import Derived.LaidMore
import Derived.Lay
import Derived.OpenShut
import Derived.SevenTiedAt
import Derived.SizedLaws
set_option linter.defProp false
namespace Go.Proofs.YtdajfemhnlpegaaGreatDoor
open Go.ChangeShapes Go.WideShapes Go.ChangeAt Go.RowKit
theorem κ{p:Prop}(h:p:=by kernel_rfl):p:=h
def aDi:(Rows.gearBestRow.inPlace==Tryz.prog.inPlace 3)=true:=by kernel_rfl
def aDj:(Rows.gearBestRow.unfollowed==Tryz.prog.unfollowed 3)=true:=by kernel_rfl
def aDk:(Rows.gearBestRow.recurses==Tryz.prog.recurses 3)=true:=by kernel_rfl
def aDl:(Rows.gearBestRow.named==Tryz.prog.varsNamed 3)=true:=by kernel_rfl
def aDm:(Tryz.prog.stops==[])=true:=by kernel_rfl
def aDn:(namedTie Tryz.prog Rows.gearBestRow.named Rows.gearBestSpec.vars)=true:=by kernel_rfl
def aDo:joinedFacts Tryz.prog 3 Tryz.f3 Rows.gearBestSpec Rows.gearBestRow=true:=by
 unfold joinedFacts;rw[aDi,aDj,aDk,aDl,aDm,aDn];kernel_rfl
def aeT:Tryz.prog.funcNamed Rows.gearBestRow.func=some 3:=by kernel_rfl
def aDp:Tryz.f3.isInstance Tryz.prog Rows.gearBestRow.origin Rows.gearBestRow.targs:=of_decide_eq_true κ
def aDq:Tryz.f3.isWrapper Tryz.prog Rows.gearBestRow.wrapper Rows.gearBestRow.mainSum:=by
 unfold Func.isWrapper;first |(rw[if_pos (by decide+kernel)];kernel_rfl)|(rw[if_neg (by decide+kernel)];exact⟨rfl,rfl⟩)
def aDr:Rows.gearBestRow.wfByText (OpenSpec.ofChange Rows.gearBestSpec)=true:=by kernel_rfl
def aDs:Tryz.pinned.checked.prog.mainIs=some (true,"cfb58d1e7bef7588e50189cb6f96c5d7dec09819c87e1d39298f6d59733543dc".toList):=by kernel_rfl
def aDt:true=Tryz.prog.looks []:=by kernel_rfl
def aDu:false=Rows.gearBestRow.goesBy Tryz.pinned.checked.prog:=by kernel_rfl
end Go.Proofs.YtdajfemhnlpegaaGreatDoor
