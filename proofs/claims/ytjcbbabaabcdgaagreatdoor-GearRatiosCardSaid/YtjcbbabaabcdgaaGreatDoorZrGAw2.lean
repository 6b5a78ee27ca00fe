/- integraphlaw05: awake() comes to true, out of its calls. -/
import Derived.Test.YtjcbbabaabcdgaaGreatDoorZrGDel
namespace Go.Proofs.YtjcbbabaabcdgaaGreatDoor
open Go.RowKit Sv
set_option linter.unusedSectionVars false
set_option linter.unusedVariables false
noncomputable section
def gRunD (f:FuncId) (args:List AV):VR:=clT (acodeN clT Tryz.prog (sdraw Tryz.prog dS) 400) f args H0
theorem holds_runD {f:FuncId} {args:List AV} {fresh:Bool} {res:AV} (h:(match gRunD f args with | .ok v H'=>frzB fresh H' v res|_=>false)=true):Holds Tryz.prog fresh f args res:=by
 cases hr:gRunD f args with
 |ok v H'=>
  rw [hr]at h
  exact holds_call (clT_ok (acodeN_ok (fun ih hI=>clT_ok hI) known (sdraw_ok known mixed dS_ok) 400)) hr (frzB_ok h)
 |_=>rw [hr]at h;cases h
theorem aw_normal_holds:Holds Tryz.prog true 9 [ps [(20,30),(30,50)]] (.tuple [ps [(20,50)],iv 0]):=holds_runD (by kernel_rfl)
noncomputable def cRatioW:Ctr:={f:=8,ps:=[.list false tP],rs:=[.str, .int .i64],fresh:=true,pre:=fun d=>decide ((d.1:List (Int×Int))=[(20,30),(30,50)]),fn:=fun _=>(⟨#[50,47,53]⟩,(0),())}
theorem cRatioW_ok:cRatioW.Ok Tryz.prog:=fun⟨x0,_⟩ h=>by
 have h:(decide ((x0:List (Int×Int))=[(20,30),(30,50)]))=true:=h
 simp only [decide_eq_true_eq]at h
 subst h
 exact holds_okRun aw_ratio
noncomputable def cNormalW:Ctr:={f:=9,ps:=[.list false tP],rs:=[.list false tP, .int .i64],fresh:=true,pre:=fun d=>decide ((d.1:List (Int×Int))=[(20,30),(30,50)]),fn:=fun _=>([(20,50)],(0),())}
theorem cNormalW_ok:cNormalW.Ok Tryz.prog:=fun⟨x0,_⟩ h=>by
 have h:(decide ((x0:List (Int×Int))=[(20,30),(30,50)]))=true:=h
 simp only [decide_eq_true_eq]at h
 subst h
 exact aw_normal_holds
noncomputable def cBestW:Ctr:={f:=36,ps:=[.list false tP, .str, .int .i64],rs:=[.list false tP, .int .i64],fresh:=true,pre:=fun d=>decide ((d.1:List (Int×Int))=[(20,2),(30,1),(50,1)])&&(decide ((d.2.1:ByteArray)=⟨#[49,47,50]⟩)&&(decide ((d.2.2.1:Int)=(2)))),fn:=fun _=>([(20,50)],(0),())}
theorem cBestW_ok:cBestW.Ok Tryz.prog:=fun⟨x0,x1,x2,_⟩ h=>by
 have h:(decide ((x0:List (Int×Int))=[(20,2),(30,1),(50,1)])&&(decide ((x1:ByteArray)=⟨#[49,47,50]⟩)&&(decide ((x2:Int)=(2)))))=true:=h
 simp only [Bool.and_eq_true,decide_eq_true_eq]at h
 obtain⟨rfl,rfl,rfl⟩:=h
 exact holds_okRun aw_best
noncomputable def cRatiosW:Ctr:={f:=38,ps:=[.list false tP, .int .i64],rs:=[.list false .str, .int .i64],fresh:=true,pre:=fun d=>decide ((d.1:List (Int×Int))=[(20,2),(30,1),(50,1)])&&(decide ((d.2.1:Int)=(1))),fn:=fun _=>([⟨#[50,47,53]⟩,⟨#[51,47,53]⟩,⟨#[50,47,51]⟩,⟨#[49]⟩,⟨#[51,47,50]⟩,⟨#[53,47,51]⟩,⟨#[53,47,50]⟩],(0),())}
theorem cRatiosW_ok:cRatiosW.Ok Tryz.prog:=fun⟨x0,x1,_⟩ h=>by
 have h:(decide ((x0:List (Int×Int))=[(20,2),(30,1),(50,1)])&&(decide ((x1:Int)=(1))))=true:=h
 simp only [Bool.and_eq_true,decide_eq_true_eq]at h
 obtain⟨rfl,rfl⟩:=h
 exact holds_okRun aw_ratios
noncomputable def cConvW:Ctr:={f:=28,ps:=[.str],rs:=[.list false .str, .int .i64],fresh:=true,pre:=fun d=>decide ((d.1:ByteArray)=⟨#[52,51,47,51,48]⟩),fn:=fun _=>([⟨#[49]⟩,⟨#[51,47,50]⟩,⟨#[49,48,47,55]⟩,⟨#[52,51,47,51,48]⟩],(0),())}
theorem cConvW_ok:cConvW.Ok Tryz.prog:=fun⟨x0,_⟩ h=>by
 have h:(decide ((x0:ByteArray)=⟨#[52,51,47,51,48]⟩))=true:=h
 simp only [decide_eq_true_eq]at h
 subst h
 exact holds_okRun aw_conv
noncomputable def cNeighW:Ctr:={f:=39,ps:=[.str, .int .i64],rs:=[.pair .str .str, .int .i64],fresh:=true,pre:=fun d=>decide ((d.1:ByteArray)=⟨#[52,51,47,51,48]⟩)&&(decide ((d.2.1:Int)=(20))),fn:=fun _=>((⟨#[49,48,47,55]⟩,⟨#[50,51,47,49,54]⟩),(0),())}
theorem cNeighW_ok:cNeighW.Ok Tryz.prog:=fun⟨x0,x1,_⟩ h=>by
 have h:(decide ((x0:ByteArray)=⟨#[52,51,47,51,48]⟩)&&(decide ((x1:Int)=(20))))=true:=h
 simp only [Bool.and_eq_true,decide_eq_true_eq]at h
 obtain⟨rfl,rfl⟩:=h
 exact holds_okRun aw_neigh
noncomputable def cApprW:Ctr:={f:=40,ps:=[.str, .int .i64],rs:=[.str, .int .i64],fresh:=true,pre:=fun d=>decide ((d.1:ByteArray)=⟨#[52,51,47,51,48]⟩)&&(decide ((d.2.1:Int)=(20))),fn:=fun _=>(⟨#[50,51,47,49,54]⟩,(0),())}
theorem cApprW_ok:cApprW.Ok Tryz.prog:=fun⟨x0,x1,_⟩ h=>by
 have h:(decide ((x0:ByteArray)=⟨#[52,51,47,51,48]⟩)&&(decide ((x1:Int)=(20))))=true:=h
 simp only [Bool.and_eq_true,decide_eq_true_eq]at h
 obtain⟨rfl,rfl⟩:=h
 exact holds_okRun aw_appr
noncomputable def cCarrW:Ctr:={f:=15,ps:=[.int .i64, .int .i64, .str, .str],rs:=[.str, .int .i64],fresh:=true,pre:=fun d=>decide ((d.1:Int)=(20))&&(decide ((d.2.1:Int)=(60))&&(decide ((d.2.2.1:ByteArray)=⟨#[51]⟩)&&(decide ((d.2.2.2.1:ByteArray)=⟨#[45,49]⟩)))),fn:=fun _=>(⟨#[48]⟩,(0),())}
theorem cCarrW_ok:cCarrW.Ok Tryz.prog:=fun⟨x0,x1,x2,x3,_⟩ h=>by
 have h:(decide ((x0:Int)=(20))&&(decide ((x1:Int)=(60))&&(decide ((x2:ByteArray)=⟨#[51]⟩)&&(decide ((x3:ByteArray)=⟨#[45,49]⟩)))))=true:=h
 simp only [Bool.and_eq_true,decide_eq_true_eq]at h
 obtain⟨rfl,rfl,rfl,rfl⟩:=h
 exact holds_okRun aw_carr
noncomputable def cLostW:Ctr:={f:=16,ps:=[.list false tP, .list false .str],rs:=[.str, .int .i64],fresh:=true,pre:=fun d=>decide ((d.1:List (Int×Int))=[(20,50),(20,30)])&&(decide ((d.2.1:List ByteArray)=[⟨#[49,47,49,48,48]⟩,⟨#[49,47,53,48]⟩])),fn:=fun _=>(⟨#[50,47,55,53]⟩,(0),())}
theorem cLostW_ok:cLostW.Ok Tryz.prog:=fun⟨x0,x1,_⟩ h=>by
 have h:(decide ((x0:List (Int×Int))=[(20,50),(20,30)])&&(decide ((x1:List ByteArray)=[⟨#[49,47,49,48,48]⟩,⟨#[49,47,53,48]⟩])))=true:=h
 simp only [Bool.and_eq_true,decide_eq_true_eq]at h
 obtain⟨rfl,rfl⟩:=h
 exact holds_okRun aw_lost
noncomputable def cLeastW:Ctr:={f:=41,ps:=[.list false tP, .str, .str, .int .i64],rs:=[.list false tP, .int .i64],fresh:=true,pre:=fun d=>decide ((d.1:List (Int×Int))=[(20,2),(30,1),(50,1)])&&(decide ((d.2.1:ByteArray)=⟨#[49,47,50]⟩)&&(decide ((d.2.2.1:ByteArray)=⟨#[49,47,50,48]⟩)&&(decide ((d.2.2.2.1:Int)=(2))))),fn:=fun _=>([],(7),())}
theorem cLeastW_ok:cLeastW.Ok Tryz.prog:=fun⟨x0,x1,x2,x3,_⟩ h=>by
 have h:(decide ((x0:List (Int×Int))=[(20,2),(30,1),(50,1)])&&(decide ((x1:ByteArray)=⟨#[49,47,50]⟩)&&(decide ((x2:ByteArray)=⟨#[49,47,50,48]⟩)&&(decide ((x3:Int)=(2))))))=true:=h
 simp only [Bool.and_eq_true,decide_eq_true_eq]at h
 obtain⟨rfl,rfl,rfl,rfl⟩:=h
 exact holds_okRun aw_least
noncomputable def awCs:VCaller:=ctrs [cRatioW,cNormalW,cBestW,cRatiosW,cConvW,cNeighW,cApprW,cCarrW,cLostW,cLeastW]
theorem awCs_ok:CallOk Tryz.prog (gS awCs):=ctrs_ok fun c hc=>by
 simp only [List.mem_cons,List.not_mem_nil,or_false]at hc
 rcases hc with rfl |rfl |rfl |rfl |rfl |rfl |rfl |rfl |rfl |rfl
 ·exact cRatioW_ok
 ·exact cNormalW_ok
 ·exact cBestW_ok
 ·exact cRatiosW_ok
 ·exact cConvW_ok
 ·exact cNeighW_ok
 ·exact cApprW_ok
 ·exact cCarrW_ok
 ·exact cLostW_ok
 ·exact cLeastW_ok
theorem awake_run:(match acallN Tryz.prog (acodeN (acallN Tryz.prog) Tryz.prog (sdraw Tryz.prog (gS awCs)) 400) 7 [] H0 with | .ok v H'=>frzB true H' v (.raw (.bool true))|_=>false)=true:=by kernel_rfl
theorem awake_holds:Holds Tryz.prog true 7 [] (.raw (.bool true)):=by
 have h:=awake_run
 cases hr:acallN Tryz.prog (acodeN (acallN Tryz.prog) Tryz.prog (sdraw Tryz.prog (gS awCs)) 400) 7 [] H0 with
 |ok v H'=>
  rw [hr]at h
  exact holds_call (acallN_ok (acodeN_ok (fun ih hI=>acallN_ok hI) known (sdraw_ok known mixed awCs_ok) 400)) hr (frzB_ok h)
 |_=>rw [hr]at h;cases h
end
end Go.Proofs.YtjcbbabaabcdgaaGreatDoor
