import Derived.Test.YtdajfemhnlpegaaGreatDoorTie
import Derived.Test.YtdajfemhnlpegaaGreatDoorCards
import Derived.Test.YtdajfemhnlpegaaGreatDoorGbBst2
import Derived.Test.YtdajfemhnlpegaaGreatDoorGbGearBestFacts
open Bool renaming false->ao,true->D
open Go renaming TypeId->ed,World->du,DataW->Xs,trodAll_cons_mk->à
open Go.ChangeShapes renaming trodAll_cons->ć
open Go.OpenSpec renaming ofChange->Ð
open Option renaming none->bs,some->O
open _root_ renaming Nat->E
set_option linter.defProp false
set_option linter.unusedSimpArgs false
set_option linter.unusedVariables false
namespace Go.Proofs.YtdajfemhnlpegaaGreatDoor
open Go.ChangeShapes Go.WideShapes Go.ChangeAt Go.RowKit Sv
set_option maxRecDepth 100000 in
theorem aDv(os:Os)(V:os.Started)(H:Type)(enc:ed×Value->H):
  ReturnsInHanded {} Tryz.checked os 3 .any (λw a=>(Rows.gearBestSpec.pre enc Tryz.prog Tryz.f3 [] ao w a/\laidMetH Tryz.prog C5 w)/\sizedMet enc Tryz.prog Tryz.f3 (Ð Rows.gearBestSpec) ao w a)
   (Rows.gearBestSpec.post enc Tryz.prog Tryz.f3 ao D ao ao):=by
 refine tc (C:=Tryz.checked) (X:=λw _=>laidMetH Tryz.prog C5 w) (λ_ _ _ F h=>h.of_heap F) ajh V κ Tryz.func3
  (ChangeSpec.witness_shaped (enc:=enc) (C:=Tryz.checked) (os:=os) (X:=λw _=>laidMetH Tryz.prog C5 w) ao (du.doorLaid Tryz.prog 400 os) #[.slice bs 0 0,.string .empty,.int .i64 0] 8 rfl (du.shaped_of_RefB κ κ) κ κ κ (ajj os _)) ?_
 intro W s a u a6 a4 d g _ Z z J _;have b:∀(j:E) t v,Tryz.f3.params[j]? =O t->a[j]? =O v->Value.okWide Tryz.prog W .any s t v:=d;have o:=g;obtain⟨S,b2,i,A,rfl,b',b1⟩:=g;have f:Xs.TrodAll enc Tryz.prog W 0 (λ_=>D) D Tryz.f3.params.toList a.toList u S:=i;rw[Tryz.params3]at f b;obtain⟨k,a0,d0,a',L,q0,a9,rfl,rfl,c,K⟩:=ć f;obtain⟨l,b3,d1,a3,p1,q1,rfl,rfl,rfl,x,T⟩:=ć K;obtain⟨m,W3,d2,a2,p2,a1,rfl,rfl,rfl,y,r2⟩:=ć T;obtain⟨rfl,rfl,rfl⟩:=trodAll_nil r2;obtain rfl:a= #[k,l,m]:=by cases a;simp_all
 obtain⟨rfl,rfl⟩:=trodVars_none A;have p:∀Y∈L,Y.block<W.heap.size:=by obtain⟨P,G⟩:=c;exact Xs.trod_lt P _ _ _ G
 obtain⟨M,q⟩:=ajs (b 0 22 k rfl rfl) c;obtain⟨U,rfl,rfl,rfl,r⟩:=Go.ChangeMaps.open_string Tryz.underlying23 (b 1 23 l rfl rfl) x;obtain⟨Q,rfl,rfl,rfl,n⟩:=open_int Tryz.underlying3 (b 2 3 m rfl rfl) y;clear i d;refine(ajp (aDh M U Q) (ajo z J) (.cons q (.cons (.raw _) (.cons (.raw _) .nil)))).mono λa5 W' ⟨B,e⟩=>?_
 subst B;exact⟨_,rfl,_,_,_,[],_,[],o,trodAll_mk1 (shut_bool Tryz.underlying4 _),(à (Below.trod aji κ (cC κ) c e p) (à (Go.ChangeMaps.shut_string Tryz.underlying23 r) (à (shut_int Tryz.underlying3 n) trodAll_mk0))),rfl,e.frame _,λh=>by cases h⟩
def aDB:Rows.GearBestSaid:=
 OpenClaim.holds_of_wide (p:=Tryz.pinned) 3 Tryz.f3 rfl rfl rfl rfl rfl rfl rfl ⟨rfl,rfl,rfl,rfl,rfl⟩ rfl rfl rfl rfl rfl aeT Tryz.func3 aDo
  aDp aDq
  (λb c H a _=>aDv b c H a)
theorem gearBest_holds:Rows.GearBestCardSaid:=
 Claim7.holds_tied_plain_at .later [] [.data,.data,.data,.sentinel,.sentinel] D (D,"cfb58d1e7bef7588e50189cb6f96c5d7dec09819c87e1d39298f6d59733543dc") D
  aDB (λ_ h=>by cases h) aDr (λ_ h=>by cases h) gearBest_row_tie rfl ⟨rfl,rfl⟩ aDs rfl
  (λf b d e=>by
    obtain rfl:f=3:=kT ((show Tryz.prog.funcNamed "integraph/integraphlaw05.GearBest" =O 3 from aeT).symm.trans d) |>.symm;obtain rfl:b=Tryz.f3:=(kT (Tryz.func3.symm.trans e)).symm;exact⟨aDt,λj t a=>by
     rw[Tryz.params3]at a;have g:t∈[22,23,3]:=by simpa using Array.mem_of_getElem? a
     have c:([22,23,3].all λu=> !Tryz.prog.wantsStandIn u)=D:=by kernel_rfl
     exact(show Tryz.prog.wantsStandIn t=ao by simpa using List.all_eq_true.1 c t g)⟩)
  aDu
#print axioms gearBest_holds
end Go.Proofs.YtdajfemhnlpegaaGreatDoor
