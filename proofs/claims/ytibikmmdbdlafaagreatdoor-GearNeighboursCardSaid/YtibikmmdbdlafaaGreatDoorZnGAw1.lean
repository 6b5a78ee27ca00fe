import Derived.Test.YtibikmmdbdlafaaGreatDoorZnGRun
set_option linter.defProp false
set_option linter.unusedSectionVars false
set_option linter.unusedSimpArgs false
namespace Go.Proofs.YtibikmmdbdlafaaGreatDoor
open Go.RowKit Sv Go.Proofs.Tryz
noncomputable section
abbrev sS:av:= .pair (.int .i64) (.int .i64)
abbrev ps (l:List (Int×Int)):af:= .bu false sS l
abbrev tx (l:List UInt8):af:= .raw (.string ⟨l.toArray⟩)
def NV:=a7 [DC,q6,Hj,Vu,Hl,Vv,Nu,Nv,DF,Ny,NP,Nw,VW,Nx,yl,we,wg,ym,Dc,AI,GU,GV,GS,Bl]
def NW:bD prog (bF NV):=cN (aQ Hf (aQ lc (aQ NC (aQ alR (aQ NB (aQ alG (aQ Vw (aQ Vx (aQ Ho (aQ VB (aQ VZ (aQ Vy (aQ amx (aQ Vz (aQ AH (aQ yq (aQ yt (aQ kd (aQ pf (aQ De (aQ zp (aQ MT (aQ MR (aQ DH dW))))))))))))))))))))))))
def V1 (f:FuncId) (args:List af):aM:=yR (vi yR prog (oa prog (bF NV)) 400) f args H0
def q7 (f:FuncId) (args:List af) (fresh:Bool) (res:af):Bool:=match V1 f args with | .ok v H'=>DL fresh H' v res|_=>false
def uM {f:FuncId} {args:List af} {fresh:Bool} {res:af} (h:q7 f args fresh res=true):Holds prog fresh f args res:=by
 unfold q7 at h;cases hr:V1 f args with
 |ok v H'=>
  rw [hr]at h;exact NU (G9 (m8 (fun ih hI=>G9 hI) known (Cw known mixed NW) 400)) hr (NT h)
 |_=>rw [hr]at h;cases h
def amA:q7 45 [ps [(20,30),(30,50)]] true (.tuple [tx [50,47,53],iv 0])=true:=by kernel_rfl
def amB:q7 47 [ps [(20,2),(30,1),(50,1)],tx [49,47,50],iv 2] true (.tuple [ps [(20,50)],iv 0])=true:=by kernel_rfl
def Ix:q7 49 [ps [(20,2),(30,1),(50,1)],iv 1] true (.tuple [.bu false .str [⟨#[50,47,53]⟩,⟨#[51,47,53]⟩,⟨#[50,47,51]⟩,⟨#[49]⟩,⟨#[51,47,50]⟩,⟨#[53,47,51]⟩,⟨#[53,47,50]⟩],iv 0])=true:=by kernel_rfl
def amC:q7 24 [tx [52,51,47,51,48]] true (.tuple [.bu false .str [⟨#[49]⟩,⟨#[51,47,50]⟩,⟨#[49,48,47,55]⟩,⟨#[52,51,47,51,48]⟩],iv 0])=true:=by kernel_rfl
def amD:q7 37 [tx [52,51,47,51,48],iv 20] true (.tuple [.agg [tx [49,48,47,55],tx [50,51,47,49,54]],iv 0])=true:=by kernel_rfl
def amE:q7 36 [tx [52,51,47,51,48],iv 20] true (.tuple [tx [50,51,47,49,54],iv 0])=true:=by kernel_rfl
def amF:q7 9 [iv 20,iv 60,tx [51],tx [45,49]] true (.tuple [tx [48],iv 0])=true:=by kernel_rfl
def amG:q7 10 [ps [(20,50),(20,30)], .bu false .str [⟨#[49,47,49,48,48]⟩,⟨#[49,47,53,48]⟩]] true (.tuple [tx [50,47,55,53],iv 0])=true:=by kernel_rfl
def amH:q7 50 [ps [(20,2),(30,1),(50,1)],tx [49,47,50],tx [49,47,50,48],iv 2] true (.tuple [ps [],iv 7])=true:=by kernel_rfl
end
end Go.Proofs.YtibikmmdbdlafaaGreatDoor
