/- integraphlaw05: awake() comes to true, out of its calls. -/
import Derived.Test.YtibikmmdbdlafaaGreatDoorZxGDel
set_option linter.unusedVariables false
set_option linter.unusedSectionVars false
set_option linter.unusedSimpArgs false
namespace Go.Proofs.YtibikmmdbdlafaaGreatDoor
open Go.RowKit Sv Go.Proofs.Tryz
noncomputable section
def WM (f:FuncId) (args:List aa):aI:=yq (tp yq prog (nQ prog GZ) 400) f args H0
theorem apk {f:FuncId} {args:List aa} {fresh:Bool} {res:aa} (h:(match WM f args with | .ok v H'=>Kp fresh H' v res|_=>false)=true):Holds prog fresh f args res:=by
 cases hr:WM f args with
 |ok v H'=>
  rw [hr]at h;exact m6 (F8 (F2 (fun ih hI=>F8 hI) known (BX known mixed apj) 400)) hr (Mr h)
 |_=>rw [hr]at h;cases h
theorem apl:Holds prog true 46 [ps [(20,30),(30,50)]] (.tuple [ps [(20,50)],iv 0]):=apk (by kernel_rfl)
noncomputable def WN:bn:={f:=45,ps:=[.list false r0],rs:=[.str, .int .i64],fresh:=true,pre:=fun d=>decide ((d.1:List (Int×Int))=[(20,30),(30,50)]),fn:=fun _=>(⟨#[50,47,53]⟩,(0),())}
theorem apm:WN.Ok prog:=fun⟨x0,_⟩ h=>by
 have h:(decide ((x0:List (Int×Int))=[(20,30),(30,50)]))=true:=h;simp only [bz]at h;subst h;exact ue aku
noncomputable def WO:bn:={f:=46,ps:=[.list false r0],rs:=[.list false r0, .int .i64],fresh:=true,pre:=fun d=>decide ((d.1:List (Int×Int))=[(20,30),(30,50)]),fn:=fun _=>([(20,50)],(0),())}
theorem apn:WO.Ok prog:=fun⟨x0,_⟩ h=>by
 have h:(decide ((x0:List (Int×Int))=[(20,30),(30,50)]))=true:=h;simp only [bz]at h;subst h;exact apl
noncomputable def WQ:bn:={f:=47,ps:=[.list false r0, .str, .int .i64],rs:=[.list false r0, .int .i64],fresh:=true,pre:=fun d=>decide ((d.1:List (Int×Int))=[(20,2),(30,1),(50,1)])&&(decide ((d.2.1:ByteArray)=⟨#[49,47,50]⟩)&&(decide ((d.2.2.1:Int)=(2)))),fn:=fun _=>([(20,50)],(0),())}
theorem Hd:WQ.Ok prog:=fun⟨x0,x1,x2,_⟩ h=>by
 have h:(decide ((x0:List (Int×Int))=[(20,2),(30,1),(50,1)])&&(decide ((x1:ByteArray)=⟨#[49,47,50]⟩)&&(decide ((x2:Int)=(2)))))=true:=h;simp only [ae,bz]at h;obtain⟨rfl,rfl,rfl⟩:=h;exact ue akv
noncomputable def WR:bn:={f:=49,ps:=[.list false r0, .int .i64],rs:=[.list false .str, .int .i64],fresh:=true,pre:=fun d=>decide ((d.1:List (Int×Int))=[(20,2),(30,1),(50,1)])&&(decide ((d.2.1:Int)=(1))),fn:=fun _=>([⟨#[50,47,53]⟩,⟨#[51,47,53]⟩,⟨#[50,47,51]⟩,⟨#[49]⟩,⟨#[51,47,50]⟩,⟨#[53,47,51]⟩,⟨#[53,47,50]⟩],(0),())}
theorem apo:WR.Ok prog:=fun⟨x0,x1,_⟩ h=>by
 have h:(decide ((x0:List (Int×Int))=[(20,2),(30,1),(50,1)])&&(decide ((x1:Int)=(1))))=true:=h;simp only [ae,bz]at h;obtain⟨rfl,rfl⟩:=h;exact ue akw
noncomputable def WS:bn:={f:=24,ps:=[.str],rs:=[.list false .str, .int .i64],fresh:=true,pre:=fun d=>decide ((d.1:ByteArray)=⟨#[52,51,47,51,48]⟩),fn:=fun _=>([⟨#[49]⟩,⟨#[51,47,50]⟩,⟨#[49,48,47,55]⟩,⟨#[52,51,47,51,48]⟩],(0),())}
theorem apq:WS.Ok prog:=fun⟨x0,_⟩ h=>by
 have h:(decide ((x0:ByteArray)=⟨#[52,51,47,51,48]⟩))=true:=h;simp only [bz]at h;subst h;exact ue akx
noncomputable def WT:bn:={f:=37,ps:=[.str, .int .i64],rs:=[.pair .str .str, .int .i64],fresh:=true,pre:=fun d=>decide ((d.1:ByteArray)=⟨#[52,51,47,51,48]⟩)&&(decide ((d.2.1:Int)=(20))),fn:=fun _=>((⟨#[49,48,47,55]⟩,⟨#[50,51,47,49,54]⟩),(0),())}
theorem apr:WT.Ok prog:=fun⟨x0,x1,_⟩ h=>by
 have h:(decide ((x0:ByteArray)=⟨#[52,51,47,51,48]⟩)&&(decide ((x1:Int)=(20))))=true:=h;simp only [ae,bz]at h;obtain⟨rfl,rfl⟩:=h;exact ue aky
noncomputable def WU:bn:={f:=36,ps:=[.str, .int .i64],rs:=[.str, .int .i64],fresh:=true,pre:=fun d=>decide ((d.1:ByteArray)=⟨#[52,51,47,51,48]⟩)&&(decide ((d.2.1:Int)=(20))),fn:=fun _=>(⟨#[50,51,47,49,54]⟩,(0),())}
theorem aps:WU.Ok prog:=fun⟨x0,x1,_⟩ h=>by
 have h:(decide ((x0:ByteArray)=⟨#[52,51,47,51,48]⟩)&&(decide ((x1:Int)=(20))))=true:=h;simp only [ae,bz]at h;obtain⟨rfl,rfl⟩:=h;exact ue akz
noncomputable def WV:bn:={f:=9,ps:=[.int .i64, .int .i64, .str, .str],rs:=[.str, .int .i64],fresh:=true,pre:=fun d=>decide ((d.1:Int)=(20))&&(decide ((d.2.1:Int)=(60))&&(decide ((d.2.2.1:ByteArray)=⟨#[51]⟩)&&(decide ((d.2.2.2.1:ByteArray)=⟨#[45,49]⟩)))),fn:=fun _=>(⟨#[48]⟩,(0),())}
theorem apt:WV.Ok prog:=fun⟨x0,x1,x2,x3,_⟩ h=>by
 have h:(decide ((x0:Int)=(20))&&(decide ((x1:Int)=(60))&&(decide ((x2:ByteArray)=⟨#[51]⟩)&&(decide ((x3:ByteArray)=⟨#[45,49]⟩)))))=true:=h;simp only [ae,bz]at h;obtain⟨rfl,rfl,rfl,rfl⟩:=h;exact ue akA
noncomputable def WW:bn:={f:=10,ps:=[.list false r0, .list false .str],rs:=[.str, .int .i64],fresh:=true,pre:=fun d=>decide ((d.1:List (Int×Int))=[(20,50),(20,30)])&&(decide ((d.2.1:List ByteArray)=[⟨#[49,47,49,48,48]⟩,⟨#[49,47,53,48]⟩])),fn:=fun _=>(⟨#[50,47,55,53]⟩,(0),())}
theorem apu:WW.Ok prog:=fun⟨x0,x1,_⟩ h=>by
 have h:(decide ((x0:List (Int×Int))=[(20,50),(20,30)])&&(decide ((x1:List ByteArray)=[⟨#[49,47,49,48,48]⟩,⟨#[49,47,53,48]⟩])))=true:=h;simp only [ae,bz]at h;obtain⟨rfl,rfl⟩:=h;exact ue akB
noncomputable def WX:bn:={f:=50,ps:=[.list false r0, .str, .str, .int .i64],rs:=[.list false r0, .int .i64],fresh:=true,pre:=fun d=>decide ((d.1:List (Int×Int))=[(20,2),(30,1),(50,1)])&&(decide ((d.2.1:ByteArray)=⟨#[49,47,50]⟩)&&(decide ((d.2.2.1:ByteArray)=⟨#[49,47,50,48]⟩)&&(decide ((d.2.2.2.1:Int)=(2))))),fn:=fun _=>([],(7),())}
theorem apv:WX.Ok prog:=fun⟨x0,x1,x2,x3,_⟩ h=>by
 have h:(decide ((x0:List (Int×Int))=[(20,2),(30,1),(50,1)])&&(decide ((x1:ByteArray)=⟨#[49,47,50]⟩)&&(decide ((x2:ByteArray)=⟨#[49,47,50,48]⟩)&&(decide ((x3:Int)=(2))))))=true:=h;simp only [ae,bz]at h;obtain⟨rfl,rfl,rfl,rfl⟩:=h;exact ue akC
noncomputable def N1:bF:=a7 [WN,WO,WQ,WR,WS,WT,WU,WV,WW,WX]
theorem apw:bB prog (bD N1):=cR (aT apm (aT apn (aT Hd (aT apo (aT apq (aT apr (aT aps (aT apt (aT apu (aT apv dY))))))))))
theorem apx:(match vW prog (tp (vW prog) prog (nQ prog (bD N1)) 400) 8 [] H0 with | .ok v H'=>Kp true H' v (.raw (.bool true))|_=>false)=true:=by kernel_rfl
theorem apy:Holds prog true 8 [] (.raw (.bool true)):=by
 have h:=apx;cases hr:vW prog (tp (vW prog) prog (nQ prog (bD N1)) 400) 8 [] H0 with
 |ok v H'=>
  rw [hr]at h;exact m6 (F1 (F2 (fun ih hI=>F1 hI) known (BX known mixed apw) 400)) hr (Mr h)
 |_=>rw [hr]at h;cases h
end
end Go.Proofs.YtibikmmdbdlafaaGreatDoor
