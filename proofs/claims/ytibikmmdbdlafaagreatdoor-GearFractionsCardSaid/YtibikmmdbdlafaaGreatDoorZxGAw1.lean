/- Package gear: the calls of the examples. -/
import Derived.Test.YtibikmmdbdlafaaGreatDoorZxGRun
set_option linter.unusedSectionVars false
set_option linter.unusedSimpArgs false
namespace Go.Proofs.YtibikmmdbdlafaaGreatDoor
open Go.RowKit Sv Go.Proofs.Tryz
noncomputable section
abbrev r0:au:= .pair (.int .i64) (.int .i64)
abbrev ps (l:List (Int×Int)):aa:= .bk false r0 l
abbrev tx (l:List UInt8):aa:= .raw (.string ⟨l.toArray⟩)
noncomputable def Ms:bF:=a7 [CZ,vX,AH,TR,Gf,L1,L2,L3,L4,L6,Ml,Gg,Uj,L5,xU,vD,vE,xV,Fl,KD,FN,Lr,FM,Mi]
theorem Mt:bB prog (bD Ms):=cR (aT Ga (aT AI (aT tz (aT ajK (aT L9 (aT TS (aT TT (aT Ax (aT TU (aT TX (aT Um (aT tw (aT akq (aT TV (aT z6 (aT xY (aT xZ (aT z7 (aT KF (aT RL (aT Ls (aT SI (aT Lp (aT Uf dY))))))))))))))))))))))))
def Un (f:FuncId) (args:List aa):aI:=yq (tp yq prog (nQ prog (bD Ms)) 400) f args H0
def qI (f:FuncId) (args:List aa) (fresh:Bool) (res:aa):Bool:=match Un f args with | .ok v H'=>Kp fresh H' v res|_=>false
theorem ue {f:FuncId} {args:List aa} {fresh:Bool} {res:aa} (h:qI f args fresh res=true):Holds prog fresh f args res:=by
 unfold qI at h;cases hr:Un f args with
 |ok v H'=>
  rw [hr]at h;exact m6 (F8 (F2 (fun ih hI=>F8 hI) known (BX known mixed Mt) 400)) hr (Mr h)
 |_=>rw [hr]at h;cases h
theorem aku:qI 45 [ps [(20,30),(30,50)]] true (.tuple [tx [50,47,53],iv 0])=true:=by kernel_rfl
theorem akv:qI 47 [ps [(20,2),(30,1),(50,1)],tx [49,47,50],iv 2] true (.tuple [ps [(20,50)],iv 0])=true:=by kernel_rfl
theorem akw:qI 49 [ps [(20,2),(30,1),(50,1)],iv 1] true (.tuple [.bk false .str [⟨#[50,47,53]⟩,⟨#[51,47,53]⟩,⟨#[50,47,51]⟩,⟨#[49]⟩,⟨#[51,47,50]⟩,⟨#[53,47,51]⟩,⟨#[53,47,50]⟩],iv 0])=true:=by kernel_rfl
theorem akx:qI 24 [tx [52,51,47,51,48]] true (.tuple [.bk false .str [⟨#[49]⟩,⟨#[51,47,50]⟩,⟨#[49,48,47,55]⟩,⟨#[52,51,47,51,48]⟩],iv 0])=true:=by kernel_rfl
theorem aky:qI 37 [tx [52,51,47,51,48],iv 20] true (.tuple [.agg [tx [49,48,47,55],tx [50,51,47,49,54]],iv 0])=true:=by kernel_rfl
theorem akz:qI 36 [tx [52,51,47,51,48],iv 20] true (.tuple [tx [50,51,47,49,54],iv 0])=true:=by kernel_rfl
theorem akA:qI 9 [iv 20,iv 60,tx [51],tx [45,49]] true (.tuple [tx [48],iv 0])=true:=by kernel_rfl
theorem akB:qI 10 [ps [(20,50),(20,30)], .bk false .str [⟨#[49,47,49,48,48]⟩,⟨#[49,47,53,48]⟩]] true (.tuple [tx [50,47,55,53],iv 0])=true:=by kernel_rfl
theorem akC:qI 50 [ps [(20,2),(30,1),(50,1)],tx [49,47,50],tx [49,47,50,48],iv 2] true (.tuple [ps [],iv 7])=true:=by kernel_rfl
end
end Go.Proofs.YtibikmmdbdlafaaGreatDoor
