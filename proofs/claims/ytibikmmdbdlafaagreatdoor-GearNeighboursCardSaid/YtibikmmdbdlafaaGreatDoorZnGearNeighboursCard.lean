import Derived.Test.YtibikmmdbdlafaaGreatDoorTie
import Derived.Test.YtibikmmdbdlafaaGreatDoorCards
import Derived.Test.YtibikmmdbdlafaaGreatDoorZnN17
import Derived.Test.YtibikmmdbdlafaaGreatDoorZnGearNeighboursFacts
set_option linter.defProp false
set_option linter.unusedSimpArgs false
set_option linter.unusedVariables false
namespace Go.Proofs.YtibikmmdbdlafaaGreatDoor
open Go.ChangeShapes Go.WideShapes Go.ChangeAt Go.RowKit Sv
set_option maxRecDepth 100000 in
theorem lE (os:Os) (started:os.Started) (H:Type) (enc:TypeId×Value->H):
  ReturnsInHanded {} Tryz.checked os 6 .any (fun w args=>(Rows.gearNeighboursSpec.pre enc Tryz.prog Tryz.f6 [] false w args/\laidMetH Tryz.prog Ar w)/\sizedMet enc Tryz.prog Tryz.f6 (OpenSpec.ofChange Rows.gearNeighboursSpec) false w args)
   (Rows.gearNeighboursSpec.post enc Tryz.prog Tryz.f6 false true false false):=by
 refine sE (C:=Tryz.checked) (X:=fun w _=>laidMetH Tryz.prog Ar w) (fun _ _ _ hh h=>h.of_heap hh) adC started (by kernel_rfl) Tryz.func6
  (ChangeSpec.witness_shaped (enc:=enc) (C:=Tryz.checked) (os:=os) (X:=fun w _=>laidMetH Tryz.prog Ar w) false (World.doorLaid Tryz.prog 400 os) #[.string .empty, .int .i64 0, .agg #[.string .empty, .string .empty]] 8 rfl (World.shaped_of_RefB (by kernel_rfl) (by kernel_rfl)) (by kernel_rfl) (by kernel_rfl) (by kernel_rfl) (adE os _)) ?_
 intro W base args ds gs before Zg hW _ J' hL hsh _;have hval:∀(j:Nat) t v,Tryz.f6.params[j]? =some t->args[j]? =some v->Value.okWide Tryz.prog W .any base t v:=Zg;have at0:=hW;obtain⟨p,q,l5,hV,rfl,hfz,hnd⟩:=hW;have hA:DataW.TrodAll enc Tryz.prog W 0 (fun _=>true) true Tryz.f6.params.toList args.toList ds p:=l5;rw [Tryz.params6]at hA hval;obtain⟨v0,avm,d0,avn,gq,q0,hargs,rfl,rfl,h0,eo⟩:=trodAll_cons hA;obtain⟨v1,ou,d1,acS,p1,q1,rfl,rfl,rfl,h1,r1⟩:=trodAll_cons eo;obtain⟨v2,S1,d2,acT,p2,aP,rfl,rfl,rfl,h2,r2⟩:=trodAll_cons r1;obtain⟨rfl,rfl,rfl⟩:=trodAll_nil r2;obtain rfl:args= #[v0,v1,v2]:=by cases args;simp_all
 obtain⟨rfl,rfl⟩:=trodVars_none hV;have at1:∀x∈p2,x.block<W.heap.size:=by obtain⟨m,hm⟩:=h2;exact DataW.trod_lt m _ _ _ hm
 obtain⟨s0,rfl,rfl,rfl,at2⟩:=Go.ChangeMaps.open_string Tryz.underlying22 (hval 0 22 v0 rfl rfl) h0;obtain⟨n1,rfl,rfl,rfl,at3⟩:=open_int Tryz.underlying3 (hval 1 3 v1 rfl rfl) h1;obtain⟨at4,at5,rfl⟩:=adM (hval 2 54 v2 rfl rfl) h2;clear l5 Zg;refine(adL (atL s0 n1 at4 at5) (adK hL hsh) (.cons (.raw _) (.cons (.raw _) (.cons (adN _ _ _) .nil)))).mono fun e W' ⟨he,Zh⟩=> ?_
 subst he;exact⟨_,rfl,_,_,_,[],_,[],at0,trodAll_mk1 (shut_bool Tryz.underlying4 _),(trodAll_cons_mk (Go.ChangeMaps.shut_string Tryz.underlying22 at2) (trodAll_cons_mk (shut_int Tryz.underlying3 at3) (trodAll_cons_mk (Below.trod adD (by kernel_rfl) (ap (by kernel_rfl)) h2 Zh at1) trodAll_mk0))),rfl,Zh.frame _,fun h=>by cases h⟩
def nm:Rows.GearNeighboursSaid:=
 OpenClaim.holds_of_wide (p:=Tryz.pinned) 6 Tryz.f6 rfl rfl rfl rfl rfl rfl rfl ⟨rfl,rfl,rfl,rfl,rfl⟩ rfl rfl rfl rfl rfl Zf Tryz.func6 atT
  atU atV
  (fun os started H enc _=>lE os started H enc)
def gearNeighbours_holds:Rows.GearNeighboursCardSaid:=
 Claim7.holds_tied_plain_at .later [] [.data, .data, .data, .sentinel, .sentinel] true (true,"604add947659f29206bd8bfe8092ca5daf5aaae9995fa2f84b079e74eac71499") true
  nm (fun _ h=>by cases h) atW (fun _ h=>by cases h) gearNeighbours_row_tie rfl ⟨rfl,rfl⟩ atX rfl
  (fun f fn hf hfn=>by
    obtain rfl:f=6:=jV ((show Tryz.prog.funcNamed "integraph/integraphlaw05.GearNeighbours" =some 6 from Zf).symm.trans hf) |>.symm;obtain rfl:fn=Tryz.f6:=(jV (Tryz.func6.symm.trans hfn)).symm;exact⟨atY,fun j t ht=>by
     rw [Tryz.params6]at ht;have hm:t∈[22,3,54]:=by simpa using Array.mem_of_getElem? ht
     have hall:([22,3,54].all fun u=> !Tryz.prog.wantsStandIn u)=true:=by kernel_rfl
     exact(show Tryz.prog.wantsStandIn t=false by simpa using List.all_eq_true.1 hall t hm)⟩)
  atZ
#print axioms gearNeighbours_holds
end Go.Proofs.YtibikmmdbdlafaaGreatDoor
