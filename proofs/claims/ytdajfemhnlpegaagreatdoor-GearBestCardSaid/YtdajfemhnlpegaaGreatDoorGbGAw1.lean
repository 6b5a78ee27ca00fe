import Derived.Test.YtdajfemhnlpegaaGreatDoorGbGRun
set_option linter.defProp false
set_option linter.unusedSectionVars false
set_option linter.unusedSimpArgs false
namespace Go.Proofs.YtdajfemhnlpegaaGreatDoor
open Go.RowKit Sv Go.Proofs.Tryz
noncomputable section
abbrev vo:aq:= .pair (.int .i64) (.int .i64)
abbrev ps(l:List (Int×Int)):af:= .bh false vo l
abbrev tx(l:List UInt8):af:= .raw (.string ⟨l.toArray⟩)
def RL:=aA [GG,yQ,KU,Rf,Rg,KV,KW,KX,KY,Ri,RD,Rh,aab,ZO,A1,yH,A2,Dv,Kt,Qq,KN,Rb,KK,Rz]
def RM:bI prog (bJ RL):=dw (aV qn (aV DN (aV Ro (aV ZS (aV ZP (aV Rk (aV Rl (aV Rm (aV Rn (aV ZT (aV aae (aV ZQ (aV arC (aV Sp (aV Dx (aV A4 (aV Dy (aV mu (aV Qs (aV YO (aV Rc (aV Zw (aV Q9 (aV RA eH))))))))))))))))))))))))
def aaf(f:FuncId)(args:List af):aM:=AV (F3 AV prog (qq prog (bJ RL)) 400) f args H0
def mw(f:FuncId)(args:List af)(fresh:Bool)(res:af):Bool:=match aaf f args with |.ok v H'=>GM fresh H' v res|_=>false
def xm{f:FuncId}{args:List af}{fresh:Bool}{res:af}(h:mw f args fresh res=true):Holds prog fresh f args res:=by
 unfold mw at h;cases hr:aaf f args with
 |ok v H'=>
  rw[hr]at h;exact RJ (J3 (JW (λih hI=>J3 hI) known (FB known mixed RM) 400)) hr (RI h)
 |_=>rw[hr]at h;cases h
def arH:mw 29 [ps [(20,30),(30,50)]] true (.tuple [tx [50,47,53],iv 0])=true:=by kernel_rfl
def arI:mw 9 [ps [(20,2),(30,1),(50,1)],tx [49,47,50],iv 2] true (.tuple [ps [(20,50)],iv 0])=true:=by kernel_rfl
def arJ:mw 22 [ps [(20,2),(30,1),(50,1)],iv 1] true (.tuple [.bh false .str [⟨#[50,47,53]⟩,⟨#[51,47,53]⟩,⟨#[50,47,51]⟩,⟨#[49]⟩,⟨#[51,47,50]⟩,⟨#[53,47,51]⟩,⟨#[53,47,50]⟩],iv 0])=true:=by kernel_rfl
def arK:mw 36 [tx [52,51,47,51,48]] true (.tuple [.bh false .str [⟨#[49]⟩,⟨#[51,47,50]⟩,⟨#[49,48,47,55]⟩,⟨#[52,51,47,51,48]⟩],iv 0])=true:=by kernel_rfl
def arL:mw 37 [tx [52,51,47,51,48],iv 20] true (.tuple [.agg [tx [49,48,47,55],tx [50,51,47,49,54]],iv 0])=true:=by kernel_rfl
def arM:mw 38 [tx [52,51,47,51,48],iv 20] true (.tuple [tx [50,51,47,49,54],iv 0])=true:=by kernel_rfl
def arN:mw 39 [iv 20,iv 60,tx [51],tx [45,49]] true (.tuple [tx [48],iv 0])=true:=by kernel_rfl
def arO:mw 40 [ps [(20,50),(20,30)],.bh false .str [⟨#[49,47,49,48,48]⟩,⟨#[49,47,53,48]⟩]] true (.tuple [tx [50,47,55,53],iv 0])=true:=by kernel_rfl
def arP:mw 16 [ps [(20,2),(30,1),(50,1)],tx [49,47,50],tx [49,47,50,48],iv 2] true (.tuple [ps [],iv 7])=true:=by kernel_rfl
