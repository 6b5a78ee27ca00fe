import Derived.Test.YtibikmmdbdlafaaGreatDoorZfGRun
set_option linter.defProp false
set_option linter.unusedSectionVars false
set_option linter.unusedSimpArgs false
namespace Go.Proofs.YtibikmmdbdlafaaGreatDoor
open Go.RowKit Sv Go.Proofs.Tryz
noncomputable section
abbrev sS:av:= .pair (.int .i64) (.int .i64)
abbrev ps (l:List (Int×Int)):af:= .bt false sS l
abbrev tx (l:List UInt8):af:= .raw (.string ⟨l.toArray⟩)
def N5:=a8 [DG,ri,Ht,VF,Hu,VG,NG,NH,DJ,NK,NZ,NI,V4,NJ,yp,wq,wu,yq,Dd,AL,GY,GZ,GX,Bm]
def N6:bD prog (bF N5):=cM (aP pC (aP uH (aP NN (aP alZ (aP NM (aP alP (aP VH (aP BY (aP Hv (aP VK (aP V7 (aP VI (aP amF (aP FSz (aP AJ (aP yw (aP i8 (aP AK (aP Gw (aP mc (aP M5 (aP M6 (aP M3 (aP DM dV))))))))))))))))))))))))
def V9 (f:FuncId) (args:List af):aM:=yT (DB yT prog (n4 prog (bF N5)) 400) f args H0
def ml (f:FuncId) (args:List af) (fresh:Bool) (res:af):Bool:=match V9 f args with | .ok v H'=>DP fresh H' v res|_=>false
def uJ {f:FuncId} {args:List af} {fresh:Bool} {res:af} (h:ml f args fresh res=true):Holds prog fresh f args res:=by
 unfold ml at h;cases hr:V9 f args with
 |ok v H'=>
  rw [hr]at h;exact N4 (Hp (Hg (fun ih hI=>Hp hI) known (Cx known mixed N6) 400)) hr (zt h)
 |_=>rw [hr]at h;cases h
def amI:ml 45 [ps [(20,30),(30,50)]] true (.tuple [tx [50,47,53],iv 0])=true:=by kernel_rfl
def amJ:ml 47 [ps [(20,2),(30,1),(50,1)],tx [49,47,50],iv 2] true (.tuple [ps [(20,50)],iv 0])=true:=by kernel_rfl
def amK:ml 49 [ps [(20,2),(30,1),(50,1)],iv 1] true (.tuple [.bt false .str [⟨#[50,47,53]⟩,⟨#[51,47,53]⟩,⟨#[50,47,51]⟩,⟨#[49]⟩,⟨#[51,47,50]⟩,⟨#[53,47,51]⟩,⟨#[53,47,50]⟩],iv 0])=true:=by kernel_rfl
def amL:ml 24 [tx [52,51,47,51,48]] true (.tuple [.bt false .str [⟨#[49]⟩,⟨#[51,47,50]⟩,⟨#[49,48,47,55]⟩,⟨#[52,51,47,51,48]⟩],iv 0])=true:=by kernel_rfl
def amM:ml 37 [tx [52,51,47,51,48],iv 20] true (.tuple [.agg [tx [49,48,47,55],tx [50,51,47,49,54]],iv 0])=true:=by kernel_rfl
def amN:ml 36 [tx [52,51,47,51,48],iv 20] true (.tuple [tx [50,51,47,49,54],iv 0])=true:=by kernel_rfl
def amO:ml 9 [iv 20,iv 60,tx [51],tx [45,49]] true (.tuple [tx [48],iv 0])=true:=by kernel_rfl
def amP:ml 10 [ps [(20,50),(20,30)], .bt false .str [⟨#[49,47,49,48,48]⟩,⟨#[49,47,53,48]⟩]] true (.tuple [tx [50,47,55,53],iv 0])=true:=by kernel_rfl
def amQ:ml 50 [ps [(20,2),(30,1),(50,1)],tx [49,47,50],tx [49,47,50,48],iv 2] true (.tuple [ps [],iv 7])=true:=by kernel_rfl
end
end Go.Proofs.YtibikmmdbdlafaaGreatDoor
