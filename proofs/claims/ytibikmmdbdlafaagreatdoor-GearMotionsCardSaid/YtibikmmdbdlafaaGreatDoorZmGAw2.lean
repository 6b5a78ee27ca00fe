import Derived.Test.YtibikmmdbdlafaaGreatDoorZmGDel
set_option linter.defProp false
set_option linter.unusedVariables false
set_option linter.unusedSectionVars false
set_option linter.unusedSimpArgs false
namespace Go.Proofs.YtibikmmdbdlafaaGreatDoor
open Go.RowKit Sv Go.Proofs.Tryz
noncomputable section
def W4 (f:FuncId) (args:List aa):aK:=yF (uc yF prog (n8 prog HD) 400) f args H0
def apV {f:FuncId} {args:List aa} {fresh:Bool} {res:aa} (h:(match W4 f args with | .ok v H'=>Dr fresh H' v res|_=>false)=true):Holds prog fresh f args res:=by
 cases hr:W4 f args with
 |ok v H'=>
  rw [hr]at h;exact Na (G2 (GW (fun ih hI=>G2 hI) known (B6 known mixed apU) 400)) hr (M9 h)
 |_=>rw [hr]at h;cases h
def apW:Holds prog true 46 [ps [(20,30),(30,50)]] (.tuple [ps [(20,50)],iv 0]):=apV (by kernel_rfl)
noncomputable def W5:bp:={f:=45,ps:=[.list false sH],rs:=[.str, .int .i64],fresh:=true,pre:=fun d=>decide ((d.1:List (Int×Int))=[(20,30),(30,50)]),fn:=fun _=>(⟨#[50,47,53]⟩,(0),())}
def apX:W5.Ok prog:=fun⟨x0,_⟩ h=>by
 have h:(decide ((x0:List (Int×Int))=[(20,30),(30,50)]))=true:=h;simp only [bB]at h;subst h;exact dj alw
noncomputable def W6:bp:={f:=46,ps:=[.list false sH],rs:=[.list false sH, .int .i64],fresh:=true,pre:=fun d=>decide ((d.1:List (Int×Int))=[(20,30),(30,50)]),fn:=fun _=>([(20,50)],(0),())}
def apY:W6.Ok prog:=fun⟨x0,_⟩ h=>by
 have h:(decide ((x0:List (Int×Int))=[(20,30),(30,50)]))=true:=h;simp only [bB]at h;subst h;exact apW
noncomputable def W7:bp:={f:=47,ps:=[.list false sH, .str, .int .i64],rs:=[.list false sH, .int .i64],fresh:=true,pre:=fun d=>decide ((d.1:List (Int×Int))=[(20,2),(30,1),(50,1)])&&(decide ((d.2.1:ByteArray)=⟨#[49,47,50]⟩)&&(decide ((d.2.2.1:Int)=(2)))),fn:=fun _=>([(20,50)],(0),())}
def apZ:W7.Ok prog:=fun⟨x0,x1,x2,_⟩ h=>by
 have h:(decide ((x0:List (Int×Int))=[(20,2),(30,1),(50,1)])&&(decide ((x1:ByteArray)=⟨#[49,47,50]⟩)&&(decide ((x2:Int)=(2)))))=true:=h;simp only [ae,bB]at h;obtain⟨rfl,rfl,rfl⟩:=h;exact dj alx
noncomputable def W8:bp:={f:=49,ps:=[.list false sH, .int .i64],rs:=[.list false .str, .int .i64],fresh:=true,pre:=fun d=>decide ((d.1:List (Int×Int))=[(20,2),(30,1),(50,1)])&&(decide ((d.2.1:Int)=(1))),fn:=fun _=>([⟨#[50,47,53]⟩,⟨#[51,47,53]⟩,⟨#[50,47,51]⟩,⟨#[49]⟩,⟨#[51,47,50]⟩,⟨#[53,47,51]⟩,⟨#[53,47,50]⟩],(0),())}
def ap0:W8.Ok prog:=fun⟨x0,x1,_⟩ h=>by
 have h:(decide ((x0:List (Int×Int))=[(20,2),(30,1),(50,1)])&&(decide ((x1:Int)=(1))))=true:=h;simp only [ae,bB]at h;obtain⟨rfl,rfl⟩:=h;exact dj aly
noncomputable def W9:bp:={f:=24,ps:=[.str],rs:=[.list false .str, .int .i64],fresh:=true,pre:=fun d=>decide ((d.1:ByteArray)=⟨#[52,51,47,51,48]⟩),fn:=fun _=>([⟨#[49]⟩,⟨#[51,47,50]⟩,⟨#[49,48,47,55]⟩,⟨#[52,51,47,51,48]⟩],(0),())}
def ap1:W9.Ok prog:=fun⟨x0,_⟩ h=>by
 have h:(decide ((x0:ByteArray)=⟨#[52,51,47,51,48]⟩))=true:=h;simp only [bB]at h;subst h;exact dj alz
noncomputable def Xa:bp:={f:=37,ps:=[.str, .int .i64],rs:=[.pair .str .str, .int .i64],fresh:=true,pre:=fun d=>decide ((d.1:ByteArray)=⟨#[52,51,47,51,48]⟩)&&(decide ((d.2.1:Int)=(20))),fn:=fun _=>((⟨#[49,48,47,55]⟩,⟨#[50,51,47,49,54]⟩),(0),())}
def ap2:Xa.Ok prog:=fun⟨x0,x1,_⟩ h=>by
 have h:(decide ((x0:ByteArray)=⟨#[52,51,47,51,48]⟩)&&(decide ((x1:Int)=(20))))=true:=h;simp only [ae,bB]at h;obtain⟨rfl,rfl⟩:=h;exact dj alA
noncomputable def Xb:bp:={f:=36,ps:=[.str, .int .i64],rs:=[.str, .int .i64],fresh:=true,pre:=fun d=>decide ((d.1:ByteArray)=⟨#[52,51,47,51,48]⟩)&&(decide ((d.2.1:Int)=(20))),fn:=fun _=>(⟨#[50,51,47,49,54]⟩,(0),())}
def ap3:Xb.Ok prog:=fun⟨x0,x1,_⟩ h=>by
 have h:(decide ((x0:ByteArray)=⟨#[52,51,47,51,48]⟩)&&(decide ((x1:Int)=(20))))=true:=h;simp only [ae,bB]at h;obtain⟨rfl,rfl⟩:=h;exact dj alB
noncomputable def Xc:bp:={f:=9,ps:=[.int .i64, .int .i64, .str, .str],rs:=[.str, .int .i64],fresh:=true,pre:=fun d=>decide ((d.1:Int)=(20))&&(decide ((d.2.1:Int)=(60))&&(decide ((d.2.2.1:ByteArray)=⟨#[51]⟩)&&(decide ((d.2.2.2.1:ByteArray)=⟨#[45,49]⟩)))),fn:=fun _=>(⟨#[48]⟩,(0),())}
def ap4:Xc.Ok prog:=fun⟨x0,x1,x2,x3,_⟩ h=>by
 have h:(decide ((x0:Int)=(20))&&(decide ((x1:Int)=(60))&&(decide ((x2:ByteArray)=⟨#[51]⟩)&&(decide ((x3:ByteArray)=⟨#[45,49]⟩)))))=true:=h;simp only [ae,bB]at h;obtain⟨rfl,rfl,rfl,rfl⟩:=h;exact dj alC
noncomputable def Xd:bp:={f:=10,ps:=[.list false sH, .list false .str],rs:=[.str, .int .i64],fresh:=true,pre:=fun d=>decide ((d.1:List (Int×Int))=[(20,50),(20,30)])&&(decide ((d.2.1:List ByteArray)=[⟨#[49,47,49,48,48]⟩,⟨#[49,47,53,48]⟩])),fn:=fun _=>(⟨#[50,47,55,53]⟩,(0),())}
def ap5:Xd.Ok prog:=fun⟨x0,x1,_⟩ h=>by
 have h:(decide ((x0:List (Int×Int))=[(20,50),(20,30)])&&(decide ((x1:List ByteArray)=[⟨#[49,47,49,48,48]⟩,⟨#[49,47,53,48]⟩])))=true:=h;simp only [ae,bB]at h;obtain⟨rfl,rfl⟩:=h;exact dj alD
noncomputable def Xe:bp:={f:=50,ps:=[.list false sH, .str, .str, .int .i64],rs:=[.list false sH, .int .i64],fresh:=true,pre:=fun d=>decide ((d.1:List (Int×Int))=[(20,2),(30,1),(50,1)])&&(decide ((d.2.1:ByteArray)=⟨#[49,47,50]⟩)&&(decide ((d.2.2.1:ByteArray)=⟨#[49,47,50,48]⟩)&&(decide ((d.2.2.2.1:Int)=(2))))),fn:=fun _=>([],(7),())}
def ap6:Xe.Ok prog:=fun⟨x0,x1,x2,x3,_⟩ h=>by
 have h:(decide ((x0:List (Int×Int))=[(20,2),(30,1),(50,1)])&&(decide ((x1:ByteArray)=⟨#[49,47,50]⟩)&&(decide ((x2:ByteArray)=⟨#[49,47,50,48]⟩)&&(decide ((x3:Int)=(2))))))=true:=h;simp only [ae,bB]at h;obtain⟨rfl,rfl,rfl,rfl⟩:=h;exact dj alE
noncomputable def Ou:bI:=aR [W5,W6,W7,W8,W9,Xa,Xb,Xc,Xd,Xe]
def ap7:bD prog (bG Ou):=cY (aX apX (aX apY (aX apZ (aX ap0 (aX ap1 (aX ap2 (aX ap3 (aX ap4 (aX ap5 (aX ap6 eA))))))))))
def ap8:(match lL prog (uc (lL prog) prog (n8 prog (bG Ou)) 400) 8 [] H0 with | .ok v H'=>Dr true H' v (.raw (.bool true))|_=>false)=true:=by kernel_rfl
def ap9:Holds prog true 8 [] (.raw (.bool true)):=by
 have h:=ap8;cases hr:lL prog (uc (lL prog) prog (n8 prog (bG Ou)) 400) 8 [] H0 with
 |ok v H'=>
  rw [hr]at h;exact Na (ml (GW (fun ih hI=>ml hI) known (B6 known mixed ap7) 400)) hr (M9 h)
 |_=>rw [hr]at h;cases h
end
end Go.Proofs.YtibikmmdbdlafaaGreatDoor
