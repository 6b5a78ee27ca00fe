import Derived.Test.YtibikmmdbdlafaaGreatDoorTie
import Derived.Test.YtibikmmdbdlafaaGreatDoorCards
import Derived.Test.YtibikmmdbdlafaaGreatDoorZmM5
import Derived.Test.YtibikmmdbdlafaaGreatDoorZmGearMotionsFacts
set_option linter.defProp false
set_option linter.unusedVariables false
set_option linter.unusedSimpArgs false
namespace Go.Proofs.YtibikmmdbdlafaaGreatDoor
open Go.ChangeShapes Go.WideShapes Go.ChangeAt Go.RowKit Sv
set_option maxRecDepth 100000 in
theorem nz (os:Os) (started:os.Started) (H:Type) (enc:TypeId×Value->H):
  ReturnsInHanded {} Tryz.checked os 3 .any (fun w args=>(Rows.gearMotionsSpec.pre enc Tryz.prog Tryz.f3 [] false w args/\laidMetH Tryz.prog wa w)/\sizedMet enc Tryz.prog Tryz.f3 (OpenSpec.ofChange Rows.gearMotionsSpec) false w args)
   (Rows.gearMotionsSpec.post enc Tryz.prog Tryz.f3 false true false false):=by
 refine ab3 (C:=Tryz.checked) (X:=fun w _=>laidMetH Tryz.prog wa w) (fun _ _ _ hh h=>h.of_heap hh) abY started (by kernel_rfl) Tryz.func3
  (ChangeSpec.witness_shaped (enc:=enc) (C:=Tryz.checked) (os:=os) (X:=fun w _=>laidMetH Tryz.prog wa w) false (World.doorLaid Tryz.prog 400 os) #[.agg #[.int .i64 0, .int .i64 0, .string .empty, .string .empty], .slice none 0 0, .slice none 0 0] 8 rfl (World.shaped_of_RefB (by kernel_rfl) (by kernel_rfl)) (by kernel_rfl) (by kernel_rfl) (by kernel_rfl) (abZ os _)) ?_
 intro W base args ds gs before XJ hW _ Jq hL hsh _;have hval:∀(j:Nat) t v,Tryz.f3.params[j]? =some t->args[j]? =some v->Value.okWide Tryz.prog W .any base t v:=XJ;have arV:=hW;obtain⟨p,q,lR,hV,rfl,hfz,hnd⟩:=hW;have hA:DataW.TrodAll enc Tryz.prog W 0 (fun _=>true) true Tryz.f3.params.toList args.toList ds p:=lR;rw [Tryz.params3]at hA hval;obtain⟨v0,atl,d0,atm,gb,q0,hargs,rfl,rfl,h0,gH⟩:=trodAll_cons hA;obtain⟨v1,ou,d1,abg,p1,q1,rfl,rfl,rfl,h1,r1⟩:=trodAll_cons gH;obtain⟨v2,Sy,d2,abh,p2,aO,rfl,rfl,rfl,h2,r2⟩:=trodAll_cons r1;obtain⟨rfl,rfl,rfl⟩:=trodAll_nil r2;obtain rfl:args= #[v0,v1,v2]:=by cases args;simp_all
 obtain⟨rfl,rfl⟩:=trodVars_none hV;have arW:∀x∈gb,x.block<W.heap.size:=by obtain⟨m,hm⟩:=h0;exact DataW.trod_lt m _ _ _ hm
 have arX:∀x∈p1,x.block<W.heap.size:=by obtain⟨m,hm⟩:=h1;exact DataW.trod_lt m _ _ _ hm
 have arY:∀x∈p2,x.block<W.heap.size:=by obtain⟨m,hm⟩:=h2;exact DataW.trod_lt m _ _ _ hm
 obtain⟨arZ,ar0,ar1,ar2,rfl⟩:=ab9 (hval 0 24 v0 rfl rfl) h0;obtain⟨l1,ar3⟩:=ab8 (hval 1 25 v1 rfl rfl) h1;obtain⟨l2,ar4⟩:=acf (hval 2 26 v2 rfl rfl) h2;clear lR XJ;refine(ab7 (arH arZ ar0 ar1 ar2 l1 l2) (ab6 hL hsh) (.cons (acd _ _ _ _ _) (.cons ar3 (.cons ar4 .nil)))).mono fun e W' ⟨he,HO⟩=> ?_
 subst he;exact⟨_,rfl,_,_,_,[],_,[],arV,trodAll_mk1 (shut_bool Tryz.underlying4 _),(trodAll_cons_mk (Below.trod Kv (by kernel_rfl) (ap (by kernel_rfl)) h0 HO arW) (trodAll_cons_mk (Below.trod Kv (by kernel_rfl) (ap (by kernel_rfl)) h1 HO arX) (trodAll_cons_mk (Below.trod Kv (by kernel_rfl) (ap (by kernel_rfl)) h2 HO arY) trodAll_mk0))),rfl,HO.frame _,fun h=>by cases h⟩
def ar5:Rows.GearMotionsSaid:=
 OpenClaim.holds_of_wide (p:=Tryz.pinned) 3 Tryz.f3 rfl rfl rfl rfl rfl rfl rfl ⟨rfl,rfl,rfl,rfl,rfl⟩ rfl rfl rfl rfl rfl XI Tryz.func3 arO
  arP arQ
  (fun os started H enc _=>nz os started H enc)
theorem gearMotions_holds:Rows.GearMotionsCardSaid:=
 Claim7.holds_tied_plain_at .later [] [.data, .data, .data, .sentinel, .sentinel] true (true,"604add947659f29206bd8bfe8092ca5daf5aaae9995fa2f84b079e74eac71499") true
  ar5 (fun _ h=>by cases h) arR (fun _ h=>by cases h) gearMotions_row_tie rfl ⟨rfl,rfl⟩ arS rfl
  (fun f fn hf hfn=>by
    obtain rfl:f=3:=jQ ((show Tryz.prog.funcNamed "integraph/integraphlaw05.GearMotions" =some 3 from XI).symm.trans hf) |>.symm;obtain rfl:fn=Tryz.f3:=(jQ (Tryz.func3.symm.trans hfn)).symm;exact⟨arT,fun j t ht=>by
     rw [Tryz.params3]at ht;have hm:t∈[24,25,26]:=by simpa using Array.mem_of_getElem? ht
     have hall:([24,25,26].all fun u=> !Tryz.prog.wantsStandIn u)=true:=by kernel_rfl
     exact(show Tryz.prog.wantsStandIn t=false by simpa using List.all_eq_true.1 hall t hm)⟩)
  arU
#print axioms gearMotions_holds
end Go.Proofs.YtibikmmdbdlafaaGreatDoor
