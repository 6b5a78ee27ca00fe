/- integraphtop.TopChained: the given statement and its card: for every input the law returns true and its arguments read as before. The conditions are the row's own: the listed package variables read as the program's text lays them. -/
import Derived.Test.YtccmlbinkgbpgaaGreatDoorRows
import Derived.Test.YtccmlbinkgbpgaaGreatDoorTie
import Derived.Test.YtccmlbinkgbpgaaGreatDoorCards
import Derived.Test.YtccmlbinkgbpgaaGreatDoorZtDig
import Derived.Test.YtccmlbinkgbpgaaGreatDoorZtTcX
import Derived.Test.YtccmlbinkgbpgaaGreatDoorZtTopChainedFacts
import Derived.WalkKit
import Derived.ProofKit
import Derived.LaidMore
import Derived.Lay
import Derived.OpenShut
import Derived.ChangeOld
import Derived.Below
import Derived.Stop.Joined
import Derived.SevenTiedAt
import Derived.SizedLaws
namespace Go.Proofs.YtccmlbinkgbpgaaGreatDoor
open Go.ChangeShapes Go.WideShapes Go.ChangeAt Go.RowKit Sv
set_option linter.unusedVariables false
set_option maxRecDepth 100000 in
theorem topChained_lifted (os:Os) (started:os.Started) (H:Type) (enc:TypeId×Value→H):
  ReturnsInHanded {} Tryz.checked os 3 .any (fun w args=>(Rows.topChainedSpec.pre enc Tryz.prog Tryz.f3 [] false w args∧laidMetH Tryz.prog tLaid w)∧sizedMet enc Tryz.prog Tryz.f3 (OpenSpec.ofChange Rows.topChainedSpec) false w args)
   (Rows.topChainedSpec.post enc Tryz.prog Tryz.f3 false true false false):=by
 refine wrap_and_shaped (C:=Tryz.checked) (X:=fun w _=>laidMetH Tryz.prog tLaid w) (fun _ _ _ hh h=>h.of_heap hh) tOwn started (by kernel_rfl) Tryz.func3
  (ChangeSpec.witness_shaped (enc:=enc) (C:=Tryz.checked) (os:=os) (X:=fun w _=>laidMetH Tryz.prog tLaid w) false (World.doorLaid Tryz.prog 400 os) #[.slice none 0 0, .slice none 0 0, .agg #[.int .u8 0, .int .u8 0, .int .u8 0, .int .u8 0]] 8 rfl (World.shaped_of_RefB (by kernel_rfl) (by kernel_rfl)) (by kernel_rfl) (by kernel_rfl) (by kernel_rfl) (door_met os _)) ?_
 intro W base args ds gs before hval0 hW _ hwt hL hsh _
 have hval:∀(j:Nat) t v,Tryz.f3.params[j]? =some t→args[j]? =some v→Value.okWide Tryz.prog W .any base t v:=hval0
 have hW':=hW
 obtain⟨p,q,hA0,hV,rfl,hfz,hnd⟩:=hW
 have hA:DataW.TrodAll enc Tryz.prog W 0 (fun _=>true) true Tryz.f3.params.toList args.toList ds p:=hA0
 rw [Tryz.params3]at hA hval
 obtain⟨v0,vs0,d0,ds0,p0,q0,hargs,rfl,rfl,h0,r0⟩:=trodAll_cons hA
 obtain⟨v1,vs1,d1,ds1,p1,q1,rfl,rfl,rfl,h1,r1⟩:=trodAll_cons r0
 obtain⟨v2,vs2,d2,ds2,p2,q2,rfl,rfl,rfl,h2,r2⟩:=trodAll_cons r1
 obtain⟨rfl,rfl,rfl⟩:=trodAll_nil r2
 obtain rfl:args= #[v0,v1,v2]:=by cases args;simp_all
 obtain⟨rfl,rfl⟩:=trodVars_none hV
 have lt0:∀x∈p0,x.block<W.heap.size:=by obtain⟨m,hm⟩:=h0;exact DataW.trod_lt m _ _ _ hm
 have lt1:∀x∈p1,x.block<W.heap.size:=by obtain⟨m,hm⟩:=h1;exact DataW.trod_lt m _ _ _ hm
 have lt2:∀x∈p2,x.block<W.heap.size:=by obtain⟨m,hm⟩:=h2;exact DataW.trod_lt m _ _ _ hm
 obtain⟨l0,den0⟩:=open_pairs (hval 0 22 v0 rfl rfl) h0
 obtain⟨l1,den1⟩:=open_pairs (hval 1 22 v1 rfl rfl) h1
 obtain⟨k20,k21,k22,k23,rfl,wk2⟩:=open_four (hval 2 23 v2 rfl rfl) h2
 clear hA0 hval0
 refine(call_true (tc_holds l0 l1 k20 k21 k22 k23 wk2) (grd_of hL hsh) (.cons den0 (.cons den1 (.cons (.raw _) .nil)))).mono fun e W' ⟨he,bel⟩=> ?_
 subst he
 exact⟨_,rfl,_,_,_,[],_,[],hW',trodAll_mk1 (shut_bool Tryz.underlying4 _),(trodAll_cons_mk (Below.trod tLaidOut (by kernel_rfl) (of_decide_eq_true (by kernel_rfl)) h0 bel lt0) (trodAll_cons_mk (Below.trod tLaidOut (by kernel_rfl) (of_decide_eq_true (by kernel_rfl)) h1 bel lt1) (trodAll_cons_mk (Below.trod tLaidOut (by kernel_rfl) (of_decide_eq_true (by kernel_rfl)) h2 bel lt2) trodAll_mk0))),rfl,bel.frame _,fun h=>by cases h⟩
theorem topChained_said:Rows.TopChainedSaid:=
 OpenClaim.holds_of_wide (p:=Tryz.pinned) 3 Tryz.f3 rfl rfl rfl rfl rfl rfl rfl ⟨rfl,rfl,rfl,rfl,rfl⟩ rfl rfl rfl rfl rfl topChained_named Tryz.func3 topChained_closed
  topChained_inst topChained_wrap
  (fun os started H enc _=>topChained_lifted os started H enc)
theorem topChained_holds:Rows.TopChainedCardSaid:=
 Claim7.holds_tied_plain_at .later [] [.data, .data, .data, .sentinel, .sentinel] true (true,"3e243f51eca82158f4cc980fc8469f4be6b11c71a5e4214403c251beb02ef7c5") true
  topChained_said (fun _ h=>by cases h) topChained_wf (fun _ h=>by cases h) topChained_row_tie rfl ⟨rfl,rfl⟩ topChained_main rfl
  (fun f fn hf hfn=>by
    obtain rfl:f=3:=Option.some.inj ((show Tryz.prog.funcNamed "integraph/integraphtop.TopChained" =some 3 from topChained_named).symm.trans hf) |>.symm
    obtain rfl:fn=Tryz.f3:=(Option.some.inj (Tryz.func3.symm.trans hfn)).symm
    exact⟨topChained_looks,fun j t ht=>by
     rw [Tryz.params3]at ht
     have hm:t∈[22,22,23]:=by simpa using Array.mem_of_getElem? ht
     have hall:([22,22,23].all fun u=> !Tryz.prog.wantsStandIn u)=true:=by kernel_rfl
     exact(show Tryz.prog.wantsStandIn t=false by simpa using List.all_eq_true.1 hall t hm)⟩)
  topChained_goes
#print axioms topChained_holds
end Go.Proofs.YtccmlbinkgbpgaaGreatDoor
