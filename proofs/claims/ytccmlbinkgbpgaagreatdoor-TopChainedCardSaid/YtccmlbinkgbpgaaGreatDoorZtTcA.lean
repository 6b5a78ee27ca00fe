/- integraphtop.toothGears: it returns true: the kernel runs it; strconv.Itoa is known. -/
import Derived.Test.YtccmlbinkgbpgaaGreatDoorZtGAw1
namespace Go.Proofs.YtccmlbinkgbpgaaGreatDoor
open Go.RowKit Sv
set_option linter.unusedVariables false
noncomputable section
noncomputable def toCs:VCaller:=ctrs [cItoa]
theorem toCs_ok:CallOk Tryz.prog (gS toCs):=one_ok cItoa_ok
set_option maxRecDepth 1000000
theorem tooth_runs:okv (acall Tryz.prog (acode Tryz.prog (sdraw Tryz.prog (gS toCs)) 400) 5 [] H64)=true:=by kernel_rfl
theorem tooth_holds:Holds Tryz.prog true 5 [] (bv true):=by
 have hc:CallOk Tryz.prog (acall Tryz.prog (acode Tryz.prog (sdraw Tryz.prog (gS toCs)) 400)):=acall_ok (acode_ok known (sdraw_ok known mixed toCs_ok) 400)
 intro w F xs hF hG hd
 cases hd
 have h:=tooth_runs
 unfold okv at h
 split at h
 ·rename_i b H' hr
  subst h
  have hH:HDen Tryz.prog w.heap.size F H64 w:=⟨fun i k h=>(by rw [show H64.get i=none from Tr.get_nil i]at h;cases h),fun i j ki kj b ci cj h=>(by rw [show H64.get i=none from Tr.get_nil i]at h;cases h),fun i k h=>(by rw [show H64.get i=none from Tr.get_nil i]at h;cases h),Nat.le_refl _,
   fun b A h=>⟨hF.fz b A h,fun i k c hi=>(by rw [show H64.get i=none from Tr.get_nil i]at hi;cases hi)⟩⟩
  refine(callsIn_wide.1 (hc.sim 5 [] H64 _ H' hr w.heap.size F [] w 0 hH ⟨hF.all,hG⟩ .nil fun i h1 _=> ?_)).mono ?_
  ·have h1:64≤i:=h1
   cases hfi:F i with
   |none=>rfl
   |some x=>exact absurd (hF.glob i x hfi) (by omega)
  ·rintro e w2 ⟨x,ρ,rfl,r1,r2,r3⟩
   rw [r1.raw_eq]
   exact⟨_,⟨F.at',fun _=>none⟩,rfl, .raw _,⟨hF.glob,hF.all,fun b A h=>by cases h⟩,(fun b A h=>by cases h),r3.below hH⟩
 ·cases h
noncomputable def cTg:Ctr:={f:=5,ps:=[],rs:=[.bool],fresh:=true,pre:=fun d=>true,fn:=fun d=>(true,())}
theorem cTg_ok:cTg.Ok Tryz.prog:=fun _ _=>tooth_holds
end
end Go.Proofs.YtccmlbinkgbpgaaGreatDoor
