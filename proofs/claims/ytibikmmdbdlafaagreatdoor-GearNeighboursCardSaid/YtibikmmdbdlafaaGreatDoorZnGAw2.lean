import Derived.Test.YtibikmmdbdlafaaGreatDoorZnGDel
set_option linter.defProp false
set_option linter.unusedSectionVars false
set_option linter.unusedSimpArgs false
set_option linter.unusedVariables false
namespace Go.Proofs.YtibikmmdbdlafaaGreatDoor
open Go.RowKit Sv Go.Proofs.Tryz
noncomputable section
def Yl (f:FuncId) (args:List af):aM:=yR (vi yR prog (oa prog Ie) 400) f args H0
def arv {f:FuncId} {args:List af} {fresh:Bool} {res:af} (h:(match Yl f args with | .ok v H'=>DL fresh H' v res|_=>false)=true):Holds prog fresh f args res:=by
 cases hr:Yl f args with
 |ok v H'=>
  rw [hr]at h;exact NU (G9 (m8 (fun ih hI=>G9 hI) known (Cw known mixed aru) 400)) hr (NT h)
 |_=>rw [hr]at h;cases h
def arw:Holds prog true 46 [ps [(20,30),(30,50)]] (.tuple [ps [(20,50)],iv 0]):=arv (by kernel_rfl)
def Ym:=IN 45 [.list false sS] [.str, .int .i64] true (fun d=>decide ((d.1:List (Int×Int))=[(20,30),(30,50)])) fun _=>(⟨#[50,47,53]⟩,(0),())
def arx:Ym.Ok prog:=fun⟨x0,_⟩ h=>by
 have h:(decide ((x0:List (Int×Int))=[(20,30),(30,50)]))=true:=h;simp only [bE]at h;subst h;exact uM amA
def Yn:=IN 46 [.list false sS] [.list false sS, .int .i64] true (fun d=>decide ((d.1:List (Int×Int))=[(20,30),(30,50)])) fun _=>([(20,50)],(0),())
def ary:Yn.Ok prog:=fun⟨x0,_⟩ h=>by
 have h:(decide ((x0:List (Int×Int))=[(20,30),(30,50)]))=true:=h;simp only [bE]at h;subst h;exact arw
def Yo:=IN 47 [.list false sS, .str, .int .i64] [.list false sS, .int .i64] true (fun d=>decide ((d.1:List (Int×Int))=[(20,2),(30,1),(50,1)])&&(decide ((d.2.1:AT)=⟨#[49,47,50]⟩)&&(decide ((d.2.2.1:Int)=(2))))) fun _=>([(20,50)],(0),())
def arz:Yo.Ok prog:=fun⟨x0,x1,x2,_⟩ h=>by
 have h:(decide ((x0:List (Int×Int))=[(20,2),(30,1),(50,1)])&&(decide ((x1:AT)=⟨#[49,47,50]⟩)&&(decide ((x2:Int)=(2)))))=true:=h;simp only [ae,bE]at h;obtain⟨rfl,rfl,rfl⟩:=h;exact uM amB
def Yp:=IN 49 [.list false sS, .int .i64] [.list false .str, .int .i64] true (fun d=>decide ((d.1:List (Int×Int))=[(20,2),(30,1),(50,1)])&&(decide ((d.2.1:Int)=(1)))) fun _=>([⟨#[50,47,53]⟩,⟨#[51,47,53]⟩,⟨#[50,47,51]⟩,⟨#[49]⟩,⟨#[51,47,50]⟩,⟨#[53,47,51]⟩,⟨#[53,47,50]⟩],(0),())
def arA:Yp.Ok prog:=fun⟨x0,x1,_⟩ h=>by
 have h:(decide ((x0:List (Int×Int))=[(20,2),(30,1),(50,1)])&&(decide ((x1:Int)=(1))))=true:=h;simp only [ae,bE]at h;obtain⟨rfl,rfl⟩:=h;exact uM Ix
def Yq:=IN 24 [.str] [.list false .str, .int .i64] true (fun d=>decide ((d.1:AT)=⟨#[52,51,47,51,48]⟩)) fun _=>([⟨#[49]⟩,⟨#[51,47,50]⟩,⟨#[49,48,47,55]⟩,⟨#[52,51,47,51,48]⟩],(0),())
def arB:Yq.Ok prog:=fun⟨x0,_⟩ h=>by
 have h:(decide ((x0:AT)=⟨#[52,51,47,51,48]⟩))=true:=h;simp only [bE]at h;subst h;exact uM amC
def Yr:=IN 37 [.str, .int .i64] [.pair .str .str, .int .i64] true (fun d=>decide ((d.1:AT)=⟨#[52,51,47,51,48]⟩)&&(decide ((d.2.1:Int)=(20)))) fun _=>((⟨#[49,48,47,55]⟩,⟨#[50,51,47,49,54]⟩),(0),())
def arC:Yr.Ok prog:=fun⟨x0,x1,_⟩ h=>by
 have h:(decide ((x0:AT)=⟨#[52,51,47,51,48]⟩)&&(decide ((x1:Int)=(20))))=true:=h;simp only [ae,bE]at h;obtain⟨rfl,rfl⟩:=h;exact uM amD
def Yt:=IN 36 [.str, .int .i64] [.str, .int .i64] true (fun d=>decide ((d.1:AT)=⟨#[52,51,47,51,48]⟩)&&(decide ((d.2.1:Int)=(20)))) fun _=>(⟨#[50,51,47,49,54]⟩,(0),())
def arD:Yt.Ok prog:=fun⟨x0,x1,_⟩ h=>by
 have h:(decide ((x0:AT)=⟨#[52,51,47,51,48]⟩)&&(decide ((x1:Int)=(20))))=true:=h;simp only [ae,bE]at h;obtain⟨rfl,rfl⟩:=h;exact uM amE
def Yu:=IN 9 [.int .i64, .int .i64, .str, .str] [.str, .int .i64] true (fun d=>decide ((d.1:Int)=(20))&&(decide ((d.2.1:Int)=(60))&&(decide ((d.2.2.1:AT)=⟨#[51]⟩)&&(decide ((d.2.2.2.1:AT)=⟨#[45,49]⟩))))) fun _=>(⟨#[48]⟩,(0),())
def arE:Yu.Ok prog:=fun⟨x0,x1,x2,x3,_⟩ h=>by
 have h:(decide ((x0:Int)=(20))&&(decide ((x1:Int)=(60))&&(decide ((x2:AT)=⟨#[51]⟩)&&(decide ((x3:AT)=⟨#[45,49]⟩)))))=true:=h;simp only [ae,bE]at h;obtain⟨rfl,rfl,rfl,rfl⟩:=h;exact uM amF
def Yv:=IN 10 [.list false sS, .list false .str] [.str, .int .i64] true (fun d=>decide ((d.1:List (Int×Int))=[(20,50),(20,30)])&&(decide ((d.2.1:List AT)=[⟨#[49,47,49,48,48]⟩,⟨#[49,47,53,48]⟩]))) fun _=>(⟨#[50,47,55,53]⟩,(0),())
def arF:Yv.Ok prog:=fun⟨x0,x1,_⟩ h=>by
 have h:(decide ((x0:List (Int×Int))=[(20,50),(20,30)])&&(decide ((x1:List AT)=[⟨#[49,47,49,48,48]⟩,⟨#[49,47,53,48]⟩])))=true:=h;simp only [ae,bE]at h;obtain⟨rfl,rfl⟩:=h;exact uM amG
def Yw:=IN 50 [.list false sS, .str, .str, .int .i64] [.list false sS, .int .i64] true (fun d=>decide ((d.1:List (Int×Int))=[(20,2),(30,1),(50,1)])&&(decide ((d.2.1:AT)=⟨#[49,47,50]⟩)&&(decide ((d.2.2.1:AT)=⟨#[49,47,50,48]⟩)&&(decide ((d.2.2.2.1:Int)=(2)))))) fun _=>([],(7),())
def arG:Yw.Ok prog:=fun⟨x0,x1,x2,x3,_⟩ h=>by
 have h:(decide ((x0:List (Int×Int))=[(20,2),(30,1),(50,1)])&&(decide ((x1:AT)=⟨#[49,47,50]⟩)&&(decide ((x2:AT)=⟨#[49,47,50,48]⟩)&&(decide ((x3:Int)=(2))))))=true:=h;simp only [ae,bE]at h;obtain⟨rfl,rfl,rfl,rfl⟩:=h;exact uM amH
def Pt:=a7 [Ym,Yn,Yo,Yp,Yq,Yr,Yt,Yu,Yv,Yw]
def arH:bD prog (bF Pt):=cN (aQ arx (aQ ary (aQ arz (aQ arA (aQ arB (aQ arC (aQ arD (aQ arE (aQ arF (aQ arG dW))))))))))
def arI:(match wF prog (vi (wF prog) prog (oa prog (bF Pt)) 400) 8 [] H0 with | .ok v H'=>DL true H' v (.raw (.bool true))|_=>false)=true:=by kernel_rfl
def arJ:Holds prog true 8 [] (.raw (.bool true)):=by
 have h:=arI;cases hr:wF prog (vi (wF prog) prog (oa prog (bF Pt)) 400) 8 [] H0 with
 |ok v H'=>
  rw [hr]at h;exact NU (m7 (m8 (fun ih hI=>m7 hI) known (Cw known mixed arH) 400)) hr (NT h)
 |_=>rw [hr]at h;cases h
end
end Go.Proofs.YtibikmmdbdlafaaGreatDoor
