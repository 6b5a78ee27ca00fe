/- integraphlaw05.GearFractions: the given statement and its card: for every input the law returns true and its arguments read as before. The conditions are the row's own: the listed package variables read as the program's text lays them. -/
import Derived.Test.YtibikmmdbdlafaaGreatDoorRows
import Derived.Test.YtibikmmdbdlafaaGreatDoorTie
import Derived.Test.YtibikmmdbdlafaaGreatDoorCards
import Derived.Test.YtibikmmdbdlafaaGreatDoorZxSvGive
import Derived.Test.YtibikmmdbdlafaaGreatDoorZxF9
import Derived.Test.YtibikmmdbdlafaaGreatDoorZxGearFractionsFacts
import Derived.WalkKit
import Derived.ProofKit
import Derived.LaidMore
import Derived.Lay
import Derived.OpenShut
import Derived.ChangeOld
import Derived.Below
import Derived.Stop.Joined
import Derived.SevenTiedAt
import Derived.SizedLaws
import Derived.ChangeMaps5
import Derived.SliceStrings
set_option linter.unusedVariables false
set_option linter.unusedSimpArgs false
namespace Go.Proofs.YtibikmmdbdlafaaGreatDoor
open Go.ChangeShapes Go.WideShapes Go.ChangeAt Go.RowKit Sv
set_option maxRecDepth 100000 in
theorem ll (os:Os) (started:os.Started) (H:Type) (enc:TypeId×Value->H):
  ReturnsInHanded {} Tryz.checked os 4 .any (fun w args=>(Rows.gearFractionsSpec.pre enc Tryz.prog Tryz.f4 [] false w args/\laidMetH Tryz.prog zS w)/\sizedMet enc Tryz.prog Tryz.f4 (OpenSpec.ofChange Rows.gearFractionsSpec) false w args)
   (Rows.gearFractionsSpec.post enc Tryz.prog Tryz.f4 false true false false):=by
 refine abm (C:=Tryz.checked) (X:=fun w _=>laidMetH Tryz.prog zS w) (fun _ _ _ hh h=>h.of_heap hh) abi started (by kernel_rfl) Tryz.func4
  (ChangeSpec.witness_shaped (enc:=enc) (C:=Tryz.checked) (os:=os) (X:=fun w _=>laidMetH Tryz.prog zS w) false (World.doorLaid Tryz.prog 400 os) #[.string .empty] 8 rfl (World.shaped_of_RefB (by kernel_rfl) (by kernel_rfl)) (by kernel_rfl) (by kernel_rfl) (by kernel_rfl) (IOz os _)) ?_
 intro W base args ds gs before W8 hW _ IJ hL hsh _;have hval:∀(j:Nat) t v,Tryz.f4.params[j]? =some t->args[j]? =some v->Value.okWide Tryz.prog W .any base t v:=W8;have aqm:=hW;obtain⟨p,q,lI,hV,rfl,hfz,hnd⟩:=hW;have hA:DataW.TrodAll enc Tryz.prog W 0 (fun _=>true) true Tryz.f4.params.toList args.toList ds p:=lI;rw [Tryz.params4]at hA hval;obtain⟨v0,arI,d0,arJ,gi,q0,hargs,rfl,rfl,h0,cL⟩:=trodAll_cons hA;obtain⟨rfl,rfl,rfl⟩:=trodAll_nil cL;obtain rfl:args= #[v0]:=by cases args;simp_all
 obtain⟨rfl,rfl⟩:=trodVars_none hV;obtain⟨s0,rfl,rfl,rfl,aqn⟩:=Go.ChangeMaps.open_string Tryz.underlying22 (hval 0 22 v0 rfl rfl) h0;clear lI W8;refine(abq (ap8 s0) (abp hL hsh) (.cons (.raw _) .nil)).mono fun e W' ⟨he,aqo⟩=> ?_
 subst he;exact⟨_,rfl,_,_,_,[],_,[],aqm,trodAll_mk1 (shut_bool Tryz.underlying4 _),(trodAll_cons_mk (Go.ChangeMaps.shut_string Tryz.underlying22 aqn) trodAll_mk0),rfl,aqo.frame _,fun h=>by cases h⟩
theorem m9:Rows.GearFractionsSaid:=
 OpenClaim.holds_of_wide (p:=Tryz.pinned) 4 Tryz.f4 rfl rfl rfl rfl rfl rfl rfl ⟨rfl,rfl,rfl,rfl,rfl⟩ rfl rfl rfl rfl rfl W7 Tryz.func4 aqf
  aqg aqh
  (fun os started H enc _=>ll os started H enc)
theorem gearFractions_holds:Rows.GearFractionsCardSaid:=
 Claim7.holds_tied_plain_at .later [] [.data, .data, .data, .sentinel, .sentinel] true (true,"604add947659f29206bd8bfe8092ca5daf5aaae9995fa2f84b079e74eac71499") true
  m9 (fun _ h=>by cases h) aqi (fun _ h=>by cases h) gearFractions_row_tie rfl ⟨rfl,rfl⟩ aqj rfl
  (fun f fn hf hfn=>by
    obtain rfl:f=4:=jB ((show Tryz.prog.funcNamed "integraph/integraphlaw05.GearFractions" =some 4 from W7).symm.trans hf) |>.symm;obtain rfl:fn=Tryz.f4:=(jB (Tryz.func4.symm.trans hfn)).symm;exact⟨aqk,fun j t ht=>by
     rw [Tryz.params4]at ht;have hm:t∈[22]:=by simpa using Array.mem_of_getElem? ht
     have hall:([22].all fun u=> !Tryz.prog.wantsStandIn u)=true:=by kernel_rfl
     exact(show Tryz.prog.wantsStandIn t=false by simpa using List.all_eq_true.1 hall t hm)⟩)
  aql
#print axioms gearFractions_holds
end Go.Proofs.YtibikmmdbdlafaaGreatDoor
