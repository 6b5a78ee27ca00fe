import Derived.Test.YtibikmmdbdlafaaGreatDoorTie
import Derived.Test.YtibikmmdbdlafaaGreatDoorCards
import Derived.Test.YtibikmmdbdlafaaGreatDoorZfFa5
import Derived.Test.YtibikmmdbdlafaaGreatDoorZfGearFareyFacts
set_option linter.defProp false
set_option linter.unusedSimpArgs false
set_option linter.unusedVariables false
namespace Go.Proofs.YtibikmmdbdlafaaGreatDoor
open Go.ChangeShapes Go.WideShapes Go.ChangeAt Go.RowKit Sv
set_option maxRecDepth 100000 in
theorem atL (os:Os) (started:os.Started) (H:Type) (enc:TypeId×Value->H):
  ReturnsInHanded {} Tryz.checked os 7 .any (fun w args=>(Rows.gearFareySpec.pre enc Tryz.prog Tryz.f7 [] false w args/\laidMetH Tryz.prog Au w)/\sizedMet enc Tryz.prog Tryz.f7 (OpenSpec.ofChange Rows.gearFareySpec) false w args)
   (Rows.gearFareySpec.post enc Tryz.prog Tryz.f7 false true false false):=by
 refine adN (C:=Tryz.checked) (X:=fun w _=>laidMetH Tryz.prog Au w) (fun _ _ _ hh h=>h.of_heap hh) adH started κ Tryz.func7
  (ChangeSpec.witness_shaped (enc:=enc) (C:=Tryz.checked) (os:=os) (X:=fun w _=>laidMetH Tryz.prog Au w) false (World.doorLaid Tryz.prog 400 os) #[.string .empty, .int .u16 0, .agg #[.int .u16 0, .int .u16 0]] 8 rfl (World.shaped_of_RefB κ κ) κ κ κ (adJ os _)) ?_
 intro W base args ds gs before Zh hW _ Kf hL hsh _;have hval:∀(j:Nat) t v,Tryz.f7.params[j]? =some t->args[j]? =some v->Value.okWide Tryz.prog W .any base t v:=Zh;have atM:=hW;obtain⟨p,q,lS,hV,rfl,hfz,hnd⟩:=hW;have hA:DataW.TrodAll enc Tryz.prog W 0 (fun _=>true) true Tryz.f7.params.toList args.toList ds p:=lS;rw [Tryz.params7]at hA hval;obtain⟨v0,avd,d0,ave,fZ,q0,hargs,rfl,rfl,h0,ef⟩:=trodAll_cons hA;obtain⟨v1,oe,d1,acX,p1,q1,rfl,rfl,rfl,h1,r1⟩:=trodAll_cons ef;obtain⟨v2,Td,d2,acY,p2,aQ,rfl,rfl,rfl,h2,r2⟩:=trodAll_cons r1;obtain⟨rfl,rfl,rfl⟩:=trodAll_nil r2;obtain rfl:args= #[v0,v1,v2]:=by cases args;simp_all
 obtain⟨rfl,rfl⟩:=trodVars_none hV;have atN:∀x∈p2,x.block<W.heap.size:=by obtain⟨m,hm⟩:=h2;exact DataW.trod_lt m _ _ _ hm
 obtain⟨s0,rfl,rfl,rfl,atO⟩:=Go.ChangeMaps.open_string Tryz.underlying22 (hval 0 22 v0 rfl rfl) h0;obtain⟨n1,rfl,rfl,rfl,Zi⟩:=open_int Tryz.underlying62 (hval 1 62 v1 rfl rfl) h1;obtain⟨atP,atQ,rfl,atS,atT⟩:=adS (hval 2 63 v2 rfl rfl) h2;clear lS Zh;refine(adR (atq s0 n1 (Lt Zi) atP atQ atS atT) (adQ hL hsh) (.cons (.raw _) (.cons (.raw _) (.cons (adU _ _ _) .nil)))).mono fun e W' ⟨he,Zj⟩=> ?_
 subst he;exact⟨_,rfl,_,_,_,[],_,[],atM,trodAll_mk1 (shut_bool Tryz.underlying4 _),(trodAll_cons_mk (Go.ChangeMaps.shut_string Tryz.underlying22 atO) (trodAll_cons_mk (shut_int Tryz.underlying62 Zi) (trodAll_cons_mk (Below.trod adI κ (ap κ) h2 Zj atN) trodAll_mk0))),rfl,Zj.frame _,fun h=>by cases h⟩
def atU:Rows.GearFareySaid:=
 OpenClaim.holds_of_wide (p:=Tryz.pinned) 7 Tryz.f7 rfl rfl rfl rfl rfl rfl rfl ⟨rfl,rfl,rfl,rfl,rfl⟩ rfl rfl rfl rfl rfl Zg Tryz.func7 atE
  atF atG
  (fun os started H enc _=>atL os started H enc)
def gearFarey_holds:Rows.GearFareyCardSaid:=
 Claim7.holds_tied_plain_at .later [] [.data, .data, .data, .sentinel, .sentinel] true (true,"604add947659f29206bd8bfe8092ca5daf5aaae9995fa2f84b079e74eac71499") true
  atU (fun _ h=>by cases h) atH (fun _ h=>by cases h) gearFarey_row_tie rfl ⟨rfl,rfl⟩ atI rfl
  (fun f fn hf hfn=>by
    obtain rfl:f=7:=jP ((show Tryz.prog.funcNamed "integraph/integraphlaw05.GearFarey" =some 7 from Zg).symm.trans hf) |>.symm;obtain rfl:fn=Tryz.f7:=(jP (Tryz.func7.symm.trans hfn)).symm;exact⟨atJ,fun j t ht=>by
     rw [Tryz.params7]at ht;have hm:t∈[22,62,63]:=by simpa using Array.mem_of_getElem? ht
     have hall:([22,62,63].all fun u=> !Tryz.prog.wantsStandIn u)=true:=by kernel_rfl
     exact(show Tryz.prog.wantsStandIn t=false by simpa using List.all_eq_true.1 hall t hm)⟩)
  atK
#print axioms gearFarey_holds
end Go.Proofs.YtibikmmdbdlafaaGreatDoor
