import Derived.Test.YtibikmmdbdlafaaGreatDoorTie
import Derived.Test.YtibikmmdbdlafaaGreatDoorCards
import Derived.Test.YtibikmmdbdlafaaGreatDoorZcCp4
import Derived.Test.YtibikmmdbdlafaaGreatDoorZcGearConvergentsFacts
set_option linter.defProp false
set_option linter.unusedSimpArgs false
set_option linter.unusedVariables false
namespace Go.Proofs.YtibikmmdbdlafaaGreatDoor
open Go.ChangeShapes Go.WideShapes Go.ChangeAt Go.RowKit Sv
set_option maxRecDepth 100000 in
theorem atN (os:Os) (started:os.Started) (H:Type) (enc:TypeId×Value->H):
  ReturnsInHanded {} Tryz.checked os 5 .any (fun w args=>(Rows.gearConvergentsSpec.pre enc Tryz.prog Tryz.f5 [] false w args/\laidMetH Tryz.prog AU w)/\sizedMet enc Tryz.prog Tryz.f5 (OpenSpec.ofChange Rows.gearConvergentsSpec) false w args)
   (Rows.gearConvergentsSpec.post enc Tryz.prog Tryz.f5 false true false false):=by
 refine sE (C:=Tryz.checked) (X:=fun w _=>laidMetH Tryz.prog AU w) (fun _ _ _ hh h=>h.of_heap hh) adW started κ Tryz.func5
  (ChangeSpec.witness_shaped (enc:=enc) (C:=Tryz.checked) (os:=os) (X:=fun w _=>laidMetH Tryz.prog AU w) false (World.doorLaid Tryz.prog 400 os) #[.string .empty] 8 rfl (World.shaped_of_RefB κ κ) κ κ κ (Kx os _)) ?_
 intro W base args ds gs before Zz hW _ Kg hL hsh _;have hval:∀(j:Nat) t v,Tryz.f5.params[j]? =some t->args[j]? =some v->Value.okWide Tryz.prog W .any base t v:=Zz;have atO:=hW;obtain⟨p,q,lW,hV,rfl,hfz,hnd⟩:=hW;have hA:DataW.TrodAll enc Tryz.prog W 0 (fun _=>true) true Tryz.f5.params.toList args.toList ds p:=lW;rw [Tryz.params5]at hA hval;obtain⟨v0,avi,d0,avj,gm,q0,hargs,rfl,rfl,h0,er⟩:=trodAll_cons hA;obtain⟨rfl,rfl,rfl⟩:=trodAll_nil er;obtain rfl:args= #[v0]:=by cases args;simp_all
 obtain⟨rfl,rfl⟩:=trodVars_none hV;obtain⟨s0,rfl,rfl,rfl,atP⟩:=Go.ChangeMaps.open_string Tryz.underlying22 (hval 0 22 v0 rfl rfl) h0;clear lW Zz;refine(ad3 (atq s0) (ad2 hL hsh) (.cons (.raw _) .nil)).mono fun e W' ⟨he,atQ⟩=> ?_
 subst he;exact⟨_,rfl,_,_,_,[],_,[],atO,trodAll_mk1 (shut_bool Tryz.underlying4 _),(trodAll_cons_mk (Go.ChangeMaps.shut_string Tryz.underlying22 atP) trodAll_mk0),rfl,atQ.frame _,fun h=>by cases h⟩
def mr:Rows.GearConvergentsSaid:=
 OpenClaim.holds_of_wide (p:=Tryz.pinned) 5 Tryz.f5 rfl rfl rfl rfl rfl rfl rfl ⟨rfl,rfl,rfl,rfl,rfl⟩ rfl rfl rfl rfl rfl Zy Tryz.func5 atG
  atH atI
  (fun os started H enc _=>atN os started H enc)
def gearConvergents_holds:Rows.GearConvergentsCardSaid:=
 Claim7.holds_tied_plain_at .later [] [.data, .data, .data, .sentinel, .sentinel] true (true,"604add947659f29206bd8bfe8092ca5daf5aaae9995fa2f84b079e74eac71499") true
  mr (fun _ h=>by cases h) atJ (fun _ h=>by cases h) gearConvergents_row_tie rfl ⟨rfl,rfl⟩ atK rfl
  (fun f fn hf hfn=>by
    obtain rfl:f=5:=jV ((show Tryz.prog.funcNamed "integraph/integraphlaw05.GearConvergents" =some 5 from Zy).symm.trans hf) |>.symm;obtain rfl:fn=Tryz.f5:=(jV (Tryz.func5.symm.trans hfn)).symm;exact⟨atL,fun j t ht=>by
     rw [Tryz.params5]at ht;have hm:t∈[22]:=by simpa using Array.mem_of_getElem? ht
     have hall:([22].all fun u=> !Tryz.prog.wantsStandIn u)=true:=by kernel_rfl
     exact(show Tryz.prog.wantsStandIn t=false by simpa using List.all_eq_true.1 hall t hm)⟩)
  atM
#print axioms gearConvergents_holds
end Go.Proofs.YtibikmmdbdlafaaGreatDoor
