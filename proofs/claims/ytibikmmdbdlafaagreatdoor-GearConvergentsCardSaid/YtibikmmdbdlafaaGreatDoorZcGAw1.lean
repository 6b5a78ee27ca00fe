import Derived.Test.YtibikmmdbdlafaaGreatDoorZcGRun
set_option linter.defProp false
set_option linter.unusedSectionVars false
set_option linter.unusedSimpArgs false
namespace Go.Proofs.YtibikmmdbdlafaaGreatDoor
open Go.RowKit Sv Go.Proofs.Tryz
noncomputable section
abbrev s4:av:= .pair (.int .i64) (.int .i64)
abbrev ps (l:List (Int×Int)):aa:= .bn false s4 l
abbrev tx (l:List UInt8):aa:= .raw (.string ⟨l.toArray⟩)
def Of:=bc [Bk,ru,Bm,UL,G6,MJ,MK,ML,G8,MM,Hh,G7,Vf,G9,yK,wL,uE,wM,Dt,A5,GZ,G0,GX,DO]
def Og:bC prog (bF Of):=cK (aP DK (aP uS (aP DM (aP aiA (aP MP (aP UM (aP UN (aP UO (aP MQ (aP UR (aP Nb (aP u4 (aP ajs (aP MR (aP A4 (aP yN (aP hJ (aP yO (aP GD (aP Dv (aP MF (aP MG (aP MD (aP pc dQ))))))))))))))))))))))))
def Wp (f:FuncId) (args:List aa):aL:=zw (vx zw prog (n9 prog (bF Of)) 400) f args H0
def rD (f:FuncId) (args:List aa) (fresh:Bool) (res:aa):Bool:=match Wp f args with | .ok v H'=>D9 fresh H' v res|_=>false
def u5 {f:FuncId} {args:List aa} {fresh:Bool} {res:aa} (h:rD f args fresh res=true):Holds prog fresh f args res:=by
 unfold rD at h;cases hr:Wp f args with
 |ok v H'=>
  rw [hr]at h;exact Oe (HR (HL (fun ih hI=>HR hI) known (lO known mixed Og) 400)) hr (Od h)
 |_=>rw [hr]at h;cases h
def ani:rD 45 [ps [(20,30),(30,50)]] true (.tuple [tx [50,47,53],iv 0])=true:=by kernel_rfl
def anj:rD 47 [ps [(20,2),(30,1),(50,1)],tx [49,47,50],iv 2] true (.tuple [ps [(20,50)],iv 0])=true:=by kernel_rfl
def ank:rD 49 [ps [(20,2),(30,1),(50,1)],iv 1] true (.tuple [.bn false .str [⟨#[50,47,53]⟩,⟨#[51,47,53]⟩,⟨#[50,47,51]⟩,⟨#[49]⟩,⟨#[51,47,50]⟩,⟨#[53,47,51]⟩,⟨#[53,47,50]⟩],iv 0])=true:=by kernel_rfl
def anl:rD 24 [tx [52,51,47,51,48]] true (.tuple [.bn false .str [⟨#[49]⟩,⟨#[51,47,50]⟩,⟨#[49,48,47,55]⟩,⟨#[52,51,47,51,48]⟩],iv 0])=true:=by kernel_rfl
def anm:rD 37 [tx [52,51,47,51,48],iv 20] true (.tuple [.agg [tx [49,48,47,55],tx [50,51,47,49,54]],iv 0])=true:=by kernel_rfl
def ann:rD 36 [tx [52,51,47,51,48],iv 20] true (.tuple [tx [50,51,47,49,54],iv 0])=true:=by kernel_rfl
def ano:rD 9 [iv 20,iv 60,tx [51],tx [45,49]] true (.tuple [tx [48],iv 0])=true:=by kernel_rfl
def anp:rD 10 [ps [(20,50),(20,30)], .bn false .str [⟨#[49,47,49,48,48]⟩,⟨#[49,47,53,48]⟩]] true (.tuple [tx [50,47,55,53],iv 0])=true:=by kernel_rfl
def anq:rD 50 [ps [(20,2),(30,1),(50,1)],tx [49,47,50],tx [49,47,50,48],iv 2] true (.tuple [ps [],iv 7])=true:=by kernel_rfl
end
end Go.Proofs.YtibikmmdbdlafaaGreatDoor
