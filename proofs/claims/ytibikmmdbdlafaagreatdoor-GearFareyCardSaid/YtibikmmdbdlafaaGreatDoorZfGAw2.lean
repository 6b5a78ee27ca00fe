import Derived.Test.YtibikmmdbdlafaaGreatDoorZfGDel
set_option linter.defProp false
set_option linter.unusedSectionVars false
set_option linter.unusedSimpArgs false
set_option linter.unusedVariables false
namespace Go.Proofs.YtibikmmdbdlafaaGreatDoor
open Go.RowKit Sv Go.Proofs.Tryz
noncomputable section
def Yk (f:FuncId) (args:List af):aM:=yT (DB yT prog (n4 prog Il) 400) f args H0
def aq9 {f:FuncId} {args:List af} {fresh:Bool} {res:af} (h:(match Yk f args with | .ok v H'=>DP fresh H' v res|_=>false)=true):Holds prog fresh f args res:=by
 cases hr:Yk f args with
 |ok v H'=>
  rw [hr]at h;exact N4 (Hp (Hg (fun ih hI=>Hp hI) known (Cx known mixed aq8) 400)) hr (zt h)
 |_=>rw [hr]at h;cases h
def ara:Holds prog true 46 [ps [(20,30),(30,50)]] (.tuple [ps [(20,50)],iv 0]):=aq9 (by kernel_rfl)
def Yl:=IN 45 [.list false sS] [.str, .int .i64] true (fun d=>decide ((d.1:List (Int×Int))=[(20,30),(30,50)])) fun _=>(⟨#[50,47,53]⟩,(0),())
def arb:Yl.Ok prog:=fun⟨x0,_⟩ h=>by
 have h:(decide ((x0:List (Int×Int))=[(20,30),(30,50)]))=true:=h;simp only [bA]at h;subst h;exact uJ amI
def Ym:=IN 46 [.list false sS] [.list false sS, .int .i64] true (fun d=>decide ((d.1:List (Int×Int))=[(20,30),(30,50)])) fun _=>([(20,50)],(0),())
def arc:Ym.Ok prog:=fun⟨x0,_⟩ h=>by
 have h:(decide ((x0:List (Int×Int))=[(20,30),(30,50)]))=true:=h;simp only [bA]at h;subst h;exact ara
def Yn:=IN 47 [.list false sS, .str, .int .i64] [.list false sS, .int .i64] true (fun d=>decide ((d.1:List (Int×Int))=[(20,2),(30,1),(50,1)])&&(decide ((d.2.1:AT)=⟨#[49,47,50]⟩)&&(decide ((d.2.2.1:Int)=(2))))) fun _=>([(20,50)],(0),())
def ard:Yn.Ok prog:=fun⟨x0,x1,x2,_⟩ h=>by
 have h:(decide ((x0:List (Int×Int))=[(20,2),(30,1),(50,1)])&&(decide ((x1:AT)=⟨#[49,47,50]⟩)&&(decide ((x2:Int)=(2)))))=true:=h;simp only [ae,bA]at h;obtain⟨rfl,rfl,rfl⟩:=h;exact uJ amJ
def Yo:=IN 49 [.list false sS, .int .i64] [.list false .str, .int .i64] true (fun d=>decide ((d.1:List (Int×Int))=[(20,2),(30,1),(50,1)])&&(decide ((d.2.1:Int)=(1)))) fun _=>([⟨#[50,47,53]⟩,⟨#[51,47,53]⟩,⟨#[50,47,51]⟩,⟨#[49]⟩,⟨#[51,47,50]⟩,⟨#[53,47,51]⟩,⟨#[53,47,50]⟩],(0),())
def arf:Yo.Ok prog:=fun⟨x0,x1,_⟩ h=>by
 have h:(decide ((x0:List (Int×Int))=[(20,2),(30,1),(50,1)])&&(decide ((x1:Int)=(1))))=true:=h;simp only [ae,bA]at h;obtain⟨rfl,rfl⟩:=h;exact uJ amK
def Yp:=IN 24 [.str] [.list false .str, .int .i64] true (fun d=>decide ((d.1:AT)=⟨#[52,51,47,51,48]⟩)) fun _=>([⟨#[49]⟩,⟨#[51,47,50]⟩,⟨#[49,48,47,55]⟩,⟨#[52,51,47,51,48]⟩],(0),())
def arh:Yp.Ok prog:=fun⟨x0,_⟩ h=>by
 have h:(decide ((x0:AT)=⟨#[52,51,47,51,48]⟩))=true:=h;simp only [bA]at h;subst h;exact uJ amL
def Yq:=IN 37 [.str, .int .i64] [.pair .str .str, .int .i64] true (fun d=>decide ((d.1:AT)=⟨#[52,51,47,51,48]⟩)&&(decide ((d.2.1:Int)=(20)))) fun _=>((⟨#[49,48,47,55]⟩,⟨#[50,51,47,49,54]⟩),(0),())
def ari:Yq.Ok prog:=fun⟨x0,x1,_⟩ h=>by
 have h:(decide ((x0:AT)=⟨#[52,51,47,51,48]⟩)&&(decide ((x1:Int)=(20))))=true:=h;simp only [ae,bA]at h;obtain⟨rfl,rfl⟩:=h;exact uJ amM
def Yr:=IN 36 [.str, .int .i64] [.str, .int .i64] true (fun d=>decide ((d.1:AT)=⟨#[52,51,47,51,48]⟩)&&(decide ((d.2.1:Int)=(20)))) fun _=>(⟨#[50,51,47,49,54]⟩,(0),())
def arj:Yr.Ok prog:=fun⟨x0,x1,_⟩ h=>by
 have h:(decide ((x0:AT)=⟨#[52,51,47,51,48]⟩)&&(decide ((x1:Int)=(20))))=true:=h;simp only [ae,bA]at h;obtain⟨rfl,rfl⟩:=h;exact uJ amN
def Yt:=IN 9 [.int .i64, .int .i64, .str, .str] [.str, .int .i64] true (fun d=>decide ((d.1:Int)=(20))&&(decide ((d.2.1:Int)=(60))&&(decide ((d.2.2.1:AT)=⟨#[51]⟩)&&(decide ((d.2.2.2.1:AT)=⟨#[45,49]⟩))))) fun _=>(⟨#[48]⟩,(0),())
def ark:Yt.Ok prog:=fun⟨x0,x1,x2,x3,_⟩ h=>by
 have h:(decide ((x0:Int)=(20))&&(decide ((x1:Int)=(60))&&(decide ((x2:AT)=⟨#[51]⟩)&&(decide ((x3:AT)=⟨#[45,49]⟩)))))=true:=h;simp only [ae,bA]at h;obtain⟨rfl,rfl,rfl,rfl⟩:=h;exact uJ amO
def Yu:=IN 10 [.list false sS, .list false .str] [.str, .int .i64] true (fun d=>decide ((d.1:List (Int×Int))=[(20,50),(20,30)])&&(decide ((d.2.1:List AT)=[⟨#[49,47,49,48,48]⟩,⟨#[49,47,53,48]⟩]))) fun _=>(⟨#[50,47,55,53]⟩,(0),())
def arl:Yu.Ok prog:=fun⟨x0,x1,_⟩ h=>by
 have h:(decide ((x0:List (Int×Int))=[(20,50),(20,30)])&&(decide ((x1:List AT)=[⟨#[49,47,49,48,48]⟩,⟨#[49,47,53,48]⟩])))=true:=h;simp only [ae,bA]at h;obtain⟨rfl,rfl⟩:=h;exact uJ amP
def Yv:=IN 50 [.list false sS, .str, .str, .int .i64] [.list false sS, .int .i64] true (fun d=>decide ((d.1:List (Int×Int))=[(20,2),(30,1),(50,1)])&&(decide ((d.2.1:AT)=⟨#[49,47,50]⟩)&&(decide ((d.2.2.1:AT)=⟨#[49,47,50,48]⟩)&&(decide ((d.2.2.2.1:Int)=(2)))))) fun _=>([],(7),())
def arn:Yv.Ok prog:=fun⟨x0,x1,x2,x3,_⟩ h=>by
 have h:(decide ((x0:List (Int×Int))=[(20,2),(30,1),(50,1)])&&(decide ((x1:AT)=⟨#[49,47,50]⟩)&&(decide ((x2:AT)=⟨#[49,47,50,48]⟩)&&(decide ((x3:Int)=(2))))))=true:=h;simp only [ae,bA]at h;obtain⟨rfl,rfl,rfl,rfl⟩:=h;exact uJ amQ
def PC:=a8 [Yl,Ym,Yn,Yo,Yp,Yq,Yr,Yt,Yu,Yv]
def aro:bD prog (bF PC):=cM (aP arb (aP arc (aP ard (aP arf (aP arh (aP ari (aP arj (aP ark (aP arl (aP arn dV))))))))))
def arp:(match mi prog (DB (mi prog) prog (n4 prog (bF PC)) 400) 8 [] H0 with | .ok v H'=>DP true H' v (.raw (.bool true))|_=>false)=true:=by kernel_rfl
def arq:Holds prog true 8 [] (.raw (.bool true)):=by
 have h:=arp;cases hr:mi prog (DB (mi prog) prog (n4 prog (bF PC)) 400) 8 [] H0 with
 |ok v H'=>
  rw [hr]at h;exact N4 (He (Hg (fun ih hI=>He hI) known (Cx known mixed aro) 400)) hr (zt h)
 |_=>rw [hr]at h;cases h
end
end Go.Proofs.YtibikmmdbdlafaaGreatDoor
