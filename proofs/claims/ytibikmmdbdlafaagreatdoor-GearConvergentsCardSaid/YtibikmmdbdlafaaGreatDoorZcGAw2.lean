import Derived.Test.YtibikmmdbdlafaaGreatDoorZcGDel
set_option linter.defProp false
set_option linter.unusedSectionVars false
set_option linter.unusedSimpArgs false
set_option linter.unusedVariables false
namespace Go.Proofs.YtibikmmdbdlafaaGreatDoor
open Go.RowKit Sv Go.Proofs.Tryz
noncomputable section
def YD (f:FuncId) (args:List aa):aL:=zw (vx zw prog (n9 prog IA) 400) f args H0
def arG {f:FuncId} {args:List aa} {fresh:Bool} {res:aa} (h:(match YD f args with | .ok v H'=>D9 fresh H' v res|_=>false)=true):Holds prog fresh f args res:=by
 cases hr:YD f args with
 |ok v H'=>
  rw [hr]at h;exact Oe (HR (HL (fun ih hI=>HR hI) known (lO known mixed arF) 400)) hr (Od h)
 |_=>rw [hr]at h;cases h
def sT:Holds prog true 46 [ps [(20,30),(30,50)]] (.tuple [ps [(20,50)],iv 0]):=arG (by kernel_rfl)
def YE:=IN 45 [.list false s4] [.str, .int .i64] true (fun d=>decide ((d.1:List (Int×Int))=[(20,30),(30,50)])) fun _=>(⟨#[50,47,53]⟩,(0),())
def arH:YE.Ok prog:=fun⟨x0,_⟩ h=>by
 have h:(decide ((x0:List (Int×Int))=[(20,30),(30,50)]))=true:=h;simp only [bE]at h;subst h;exact u5 ani
def YF:=IN 46 [.list false s4] [.list false s4, .int .i64] true (fun d=>decide ((d.1:List (Int×Int))=[(20,30),(30,50)])) fun _=>([(20,50)],(0),())
def CH:YF.Ok prog:=fun⟨x0,_⟩ h=>by
 have h:(decide ((x0:List (Int×Int))=[(20,30),(30,50)]))=true:=h;simp only [bE]at h;subst h;exact sT
def YG:=IN 47 [.list false s4, .str, .int .i64] [.list false s4, .int .i64] true (fun d=>decide ((d.1:List (Int×Int))=[(20,2),(30,1),(50,1)])&&(decide ((d.2.1:AT)=⟨#[49,47,50]⟩)&&(decide ((d.2.2.1:Int)=(2))))) fun _=>([(20,50)],(0),())
def arI:YG.Ok prog:=fun⟨x0,x1,x2,_⟩ h=>by
 have h:(decide ((x0:List (Int×Int))=[(20,2),(30,1),(50,1)])&&(decide ((x1:AT)=⟨#[49,47,50]⟩)&&(decide ((x2:Int)=(2)))))=true:=h;simp only [ae,bE]at h;obtain⟨rfl,rfl,rfl⟩:=h;exact u5 anj
def YH:=IN 49 [.list false s4, .int .i64] [.list false .str, .int .i64] true (fun d=>decide ((d.1:List (Int×Int))=[(20,2),(30,1),(50,1)])&&(decide ((d.2.1:Int)=(1)))) fun _=>([⟨#[50,47,53]⟩,⟨#[51,47,53]⟩,⟨#[50,47,51]⟩,⟨#[49]⟩,⟨#[51,47,50]⟩,⟨#[53,47,51]⟩,⟨#[53,47,50]⟩],(0),())
def arJ:YH.Ok prog:=fun⟨x0,x1,_⟩ h=>by
 have h:(decide ((x0:List (Int×Int))=[(20,2),(30,1),(50,1)])&&(decide ((x1:Int)=(1))))=true:=h;simp only [ae,bE]at h;obtain⟨rfl,rfl⟩:=h;exact u5 ank
def YI:=IN 24 [.str] [.list false .str, .int .i64] true (fun d=>decide ((d.1:AT)=⟨#[52,51,47,51,48]⟩)) fun _=>([⟨#[49]⟩,⟨#[51,47,50]⟩,⟨#[49,48,47,55]⟩,⟨#[52,51,47,51,48]⟩],(0),())
def arK:YI.Ok prog:=fun⟨x0,_⟩ h=>by
 have h:(decide ((x0:AT)=⟨#[52,51,47,51,48]⟩))=true:=h;simp only [bE]at h;subst h;exact u5 anl
def YJ:=IN 37 [.str, .int .i64] [.pair .str .str, .int .i64] true (fun d=>decide ((d.1:AT)=⟨#[52,51,47,51,48]⟩)&&(decide ((d.2.1:Int)=(20)))) fun _=>((⟨#[49,48,47,55]⟩,⟨#[50,51,47,49,54]⟩),(0),())
def arL:YJ.Ok prog:=fun⟨x0,x1,_⟩ h=>by
 have h:(decide ((x0:AT)=⟨#[52,51,47,51,48]⟩)&&(decide ((x1:Int)=(20))))=true:=h;simp only [ae,bE]at h;obtain⟨rfl,rfl⟩:=h;exact u5 anm
def YK:=IN 36 [.str, .int .i64] [.str, .int .i64] true (fun d=>decide ((d.1:AT)=⟨#[52,51,47,51,48]⟩)&&(decide ((d.2.1:Int)=(20)))) fun _=>(⟨#[50,51,47,49,54]⟩,(0),())
def arM:YK.Ok prog:=fun⟨x0,x1,_⟩ h=>by
 have h:(decide ((x0:AT)=⟨#[52,51,47,51,48]⟩)&&(decide ((x1:Int)=(20))))=true:=h;simp only [ae,bE]at h;obtain⟨rfl,rfl⟩:=h;exact u5 ann
def YL:=IN 9 [.int .i64, .int .i64, .str, .str] [.str, .int .i64] true (fun d=>decide ((d.1:Int)=(20))&&(decide ((d.2.1:Int)=(60))&&(decide ((d.2.2.1:AT)=⟨#[51]⟩)&&(decide ((d.2.2.2.1:AT)=⟨#[45,49]⟩))))) fun _=>(⟨#[48]⟩,(0),())
def arN:YL.Ok prog:=fun⟨x0,x1,x2,x3,_⟩ h=>by
 have h:(decide ((x0:Int)=(20))&&(decide ((x1:Int)=(60))&&(decide ((x2:AT)=⟨#[51]⟩)&&(decide ((x3:AT)=⟨#[45,49]⟩)))))=true:=h;simp only [ae,bE]at h;obtain⟨rfl,rfl,rfl,rfl⟩:=h;exact u5 ano
def YM:=IN 10 [.list false s4, .list false .str] [.str, .int .i64] true (fun d=>decide ((d.1:List (Int×Int))=[(20,50),(20,30)])&&(decide ((d.2.1:List AT)=[⟨#[49,47,49,48,48]⟩,⟨#[49,47,53,48]⟩]))) fun _=>(⟨#[50,47,55,53]⟩,(0),())
def arO:YM.Ok prog:=fun⟨x0,x1,_⟩ h=>by
 have h:(decide ((x0:List (Int×Int))=[(20,50),(20,30)])&&(decide ((x1:List AT)=[⟨#[49,47,49,48,48]⟩,⟨#[49,47,53,48]⟩])))=true:=h;simp only [ae,bE]at h;obtain⟨rfl,rfl⟩:=h;exact u5 anp
def YN:=IN 50 [.list false s4, .str, .str, .int .i64] [.list false s4, .int .i64] true (fun d=>decide ((d.1:List (Int×Int))=[(20,2),(30,1),(50,1)])&&(decide ((d.2.1:AT)=⟨#[49,47,50]⟩)&&(decide ((d.2.2.1:AT)=⟨#[49,47,50,48]⟩)&&(decide ((d.2.2.2.1:Int)=(2)))))) fun _=>([],(7),())
def arP:YN.Ok prog:=fun⟨x0,x1,x2,x3,_⟩ h=>by
 have h:(decide ((x0:List (Int×Int))=[(20,2),(30,1),(50,1)])&&(decide ((x1:AT)=⟨#[49,47,50]⟩)&&(decide ((x2:AT)=⟨#[49,47,50,48]⟩)&&(decide ((x3:Int)=(2))))))=true:=h;simp only [ae,bE]at h;obtain⟨rfl,rfl,rfl,rfl⟩:=h;exact u5 anq
def PN:=bc [YE,YF,YG,YH,YI,YJ,YK,YL,YM,YN]
def arQ:bC prog (bF PN):=cK (aP arH (aP CH (aP arI (aP arJ (aP arK (aP arL (aP arM (aP arN (aP arO (aP arP dQ))))))))))
def arR:(match mi prog (vx (mi prog) prog (n9 prog (bF PN)) 400) 8 [] H0 with | .ok v H'=>D9 true H' v (.raw (.bool true))|_=>false)=true:=by kernel_rfl
def arS:Holds prog true 8 [] (.raw (.bool true)):=by
 have h:=arR;cases hr:mi prog (vx (mi prog) prog (n9 prog (bF PN)) 400) 8 [] H0 with
 |ok v H'=>
  rw [hr]at h;exact Oe (HJ (HL (fun ih hI=>HJ hI) known (lO known mixed arQ) 400)) hr (Od h)
 |_=>rw [hr]at h;cases h
end
end Go.Proofs.YtibikmmdbdlafaaGreatDoor
