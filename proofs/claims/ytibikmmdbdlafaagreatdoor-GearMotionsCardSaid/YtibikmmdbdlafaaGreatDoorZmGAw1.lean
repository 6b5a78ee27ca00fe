import Derived.Test.YtibikmmdbdlafaaGreatDoorZmGRun
set_option linter.defProp false
set_option linter.unusedSectionVars false
set_option linter.unusedSimpArgs false
namespace Go.Proofs.YtibikmmdbdlafaaGreatDoor
open Go.RowKit Sv Go.Proofs.Tryz
noncomputable section
abbrev sH:av:= .pair (.int .i64) (.int .i64)
abbrev ps (l:List (Int×Int)):aa:= .bh false sH l
abbrev tx (l:List UInt8):aa:= .raw (.string ⟨l.toArray⟩)
noncomputable def Nb:bI:=aR [CW,wA,Gc,CY,Gd,LL,LM,AG,LP,CZ,TM,LN,L6,Tc,x9,v8,ya,Ai,FI,KU,F5,LJ,F2,Gk]
def Nc:bD prog (bG Nb):=cY (aX F8 (aX tU (aX LR (aX Gf (aX LQ (aX Td (aX Te (aX C1 (aX Tg (aX Gg (aX Kp (aX Tf (aX TQ (aX agQ (aX Aj (aX gd (aX Ak (aX CF (aX KW (aX R6 (aX x5 (aX SV (aX LH (aX L4 eA))))))))))))))))))))))))
def Vb (f:FuncId) (args:List aa):aK:=yF (uc yF prog (n8 prog (bG Nb)) 400) f args H0
def qZ (f:FuncId) (args:List aa) (fresh:Bool) (res:aa):Bool:=match Vb f args with | .ok v H'=>Dr fresh H' v res|_=>false
def dj {f:FuncId} {args:List aa} {fresh:Bool} {res:aa} (h:qZ f args fresh res=true):Holds prog fresh f args res:=by
 unfold qZ at h;cases hr:Vb f args with
 |ok v H'=>
  rw [hr]at h;exact Na (G2 (GW (fun ih hI=>G2 hI) known (B6 known mixed Nc) 400)) hr (M9 h)
 |_=>rw [hr]at h;cases h
def alw:qZ 45 [ps [(20,30),(30,50)]] true (.tuple [tx [50,47,53],iv 0])=true:=by kernel_rfl
def alx:qZ 47 [ps [(20,2),(30,1),(50,1)],tx [49,47,50],iv 2] true (.tuple [ps [(20,50)],iv 0])=true:=by kernel_rfl
def aly:qZ 49 [ps [(20,2),(30,1),(50,1)],iv 1] true (.tuple [.bh false .str [⟨#[50,47,53]⟩,⟨#[51,47,53]⟩,⟨#[50,47,51]⟩,⟨#[49]⟩,⟨#[51,47,50]⟩,⟨#[53,47,51]⟩,⟨#[53,47,50]⟩],iv 0])=true:=by kernel_rfl
def alz:qZ 24 [tx [52,51,47,51,48]] true (.tuple [.bh false .str [⟨#[49]⟩,⟨#[51,47,50]⟩,⟨#[49,48,47,55]⟩,⟨#[52,51,47,51,48]⟩],iv 0])=true:=by kernel_rfl
def alA:qZ 37 [tx [52,51,47,51,48],iv 20] true (.tuple [.agg [tx [49,48,47,55],tx [50,51,47,49,54]],iv 0])=true:=by kernel_rfl
def alB:qZ 36 [tx [52,51,47,51,48],iv 20] true (.tuple [tx [50,51,47,49,54],iv 0])=true:=by kernel_rfl
def alC:qZ 9 [iv 20,iv 60,tx [51],tx [45,49]] true (.tuple [tx [48],iv 0])=true:=by kernel_rfl
def alD:qZ 10 [ps [(20,50),(20,30)], .bh false .str [⟨#[49,47,49,48,48]⟩,⟨#[49,47,53,48]⟩]] true (.tuple [tx [50,47,55,53],iv 0])=true:=by kernel_rfl
def alE:qZ 50 [ps [(20,2),(30,1),(50,1)],tx [49,47,50],tx [49,47,50,48],iv 2] true (.tuple [ps [],iv 7])=true:=by kernel_rfl
end
end Go.Proofs.YtibikmmdbdlafaaGreatDoor
