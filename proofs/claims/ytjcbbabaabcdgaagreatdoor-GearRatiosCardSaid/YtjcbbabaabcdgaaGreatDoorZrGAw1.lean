/- Package gear: the calls of the examples. -/
import Derived.Test.YtjcbbabaabcdgaaGreatDoorZrGRun
namespace Go.Proofs.YtjcbbabaabcdgaaGreatDoor
open Go.RowKit Sv
set_option linter.unusedSectionVars false
noncomputable section
abbrev tP:Ty:= .pair (.int .i64) (.int .i64)
abbrev ps (l:List (Int×Int)):AV:= .lst false tP l
abbrev tx (l:List UInt8):AV:= .raw (.string ⟨l.toArray⟩)
noncomputable def gearCs:VCaller:=ctrs [cMake,cOf,cWh,cF,cIsW,cQSign,cQNeg,cQMul,cQCmp,cQAdd,cQSub,cQInv,cQDiv,cQFl,cINeg,cISign,cIAdd,cIMul,cISub,cICmp,cGcd,cQuo,cDm,cFrom]
theorem gear_ok:CallOk Tryz.prog (gS gearCs):=ctrs_ok fun c hc=>by
 simp only [List.mem_cons,List.not_mem_nil,or_false]at hc
 rcases hc with rfl |rfl |rfl |rfl |rfl |rfl |rfl |rfl |rfl |rfl |rfl |rfl |rfl |rfl |rfl |rfl |rfl |rfl |rfl |rfl |rfl |rfl |rfl |rfl
 ·exact cMake_ok
 ·exact cOf_ok
 ·exact cWh_ok
 ·exact cF_ok
 ·exact cIsW_ok
 ·exact cQSign_ok
 ·exact cQNeg_ok
 ·exact cQMul_ok
 ·exact cQCmp_ok
 ·exact cQAdd_ok
 ·exact cQSub_ok
 ·exact cQInv_ok
 ·exact cQDiv_ok
 ·exact cQFl_ok
 ·exact cINeg_ok
 ·exact cISign_ok
 ·exact cIAdd_ok
 ·exact cIMul_ok
 ·exact cISub_ok
 ·exact cICmp_ok
 ·exact cGcd_ok
 ·exact cQuo_ok
 ·exact cDm_ok
 ·exact cFrom_ok
def gRun (f:FuncId) (args:List AV):VR:=clT (acodeN clT Tryz.prog (sdraw Tryz.prog (gS gearCs)) 400) f args H0
def okRun (f:FuncId) (args:List AV) (fresh:Bool) (res:AV):Bool:=match gRun f args with | .ok v H'=>frzB fresh H' v res|_=>false
theorem holds_okRun {f:FuncId} {args:List AV} {fresh:Bool} {res:AV} (h:okRun f args fresh res=true):Holds Tryz.prog fresh f args res:=by
 unfold okRun at h
 cases hr:gRun f args with
 |ok v H'=>
  rw [hr]at h
  exact holds_call (clT_ok (acodeN_ok (fun ih hI=>clT_ok hI) known (sdraw_ok known mixed gear_ok) 400)) hr (frzB_ok h)
 |_=>rw [hr]at h;cases h
theorem aw_ratio:okRun 8 [ps [(20,30),(30,50)]] true (.tuple [tx [50,47,53],iv 0])=true:=by kernel_rfl
theorem aw_best:okRun 36 [ps [(20,2),(30,1),(50,1)],tx [49,47,50],iv 2] true (.tuple [ps [(20,50)],iv 0])=true:=by kernel_rfl
theorem aw_ratios:okRun 38 [ps [(20,2),(30,1),(50,1)],iv 1] true (.tuple [.lst false .str [⟨#[50,47,53]⟩,⟨#[51,47,53]⟩,⟨#[50,47,51]⟩,⟨#[49]⟩,⟨#[51,47,50]⟩,⟨#[53,47,51]⟩,⟨#[53,47,50]⟩],iv 0])=true:=by kernel_rfl
theorem aw_conv:okRun 28 [tx [52,51,47,51,48]] true (.tuple [.lst false .str [⟨#[49]⟩,⟨#[51,47,50]⟩,⟨#[49,48,47,55]⟩,⟨#[52,51,47,51,48]⟩],iv 0])=true:=by kernel_rfl
theorem aw_neigh:okRun 39 [tx [52,51,47,51,48],iv 20] true (.tuple [.agg [tx [49,48,47,55],tx [50,51,47,49,54]],iv 0])=true:=by kernel_rfl
theorem aw_appr:okRun 40 [tx [52,51,47,51,48],iv 20] true (.tuple [tx [50,51,47,49,54],iv 0])=true:=by kernel_rfl
theorem aw_carr:okRun 15 [iv 20,iv 60,tx [51],tx [45,49]] true (.tuple [tx [48],iv 0])=true:=by kernel_rfl
theorem aw_lost:okRun 16 [ps [(20,50),(20,30)], .lst false .str [⟨#[49,47,49,48,48]⟩,⟨#[49,47,53,48]⟩]] true (.tuple [tx [50,47,55,53],iv 0])=true:=by kernel_rfl
theorem aw_least:okRun 41 [ps [(20,2),(30,1),(50,1)],tx [49,47,50],tx [49,47,50,48],iv 2] true (.tuple [ps [],iv 7])=true:=by kernel_rfl
end
end Go.Proofs.YtjcbbabaabcdgaaGreatDoor
