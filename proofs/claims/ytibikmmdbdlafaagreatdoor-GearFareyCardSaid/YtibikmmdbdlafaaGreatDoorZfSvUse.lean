import Derived.Test.YtibikmmdbdlafaaGreatDoorZfSvFit
set_option linter.defProp false
set_option linter.unusedSectionVars false
set_option linter.unusedSimpArgs false
namespace Go.Proofs.YtibikmmdbdlafaaGreatDoor.Sv
open Go.RowKit
section
variable [Ground]
noncomputable section
structure Ext where
 rd:Option Nat
 K:Nat->Option Obj
 R:Act->World->Prop
 pin:List Nat:=[]
 A:Nat->Option (Nat×Nat):=fun _=>none
 Z:Nat->Option (Array Value):=fun _=>none
 sz:Nat:=0
 m:List Nat:=[]
 ds:List Deferred:=[]
 Y:Nat->Option Obj:=fun _=>none
def Ext.pins (X:Ext):List Nat:=X.m++X.pin
def pE:Ext:={rd:=none,K:=fun _=>none,R:=fun _ _=>False}
structure Kept (X:Ext) (ρ:Env) (H:ai) (w:World):Prop where
 k:∀b o,X.K b=some o->w.heap[b]? =some o/\¬Own ρ H b
 pin:∀i,i∈X.pin->i<H.next/\∀x,X.A i=some x->ρ i=some x
 z:∀b A,X.Z b=some A->ρ.fz b=some A
 sz:X.sz<=w.heap.size
 KU:∀b o,X.K b=some o->ρ.fz b=none
 xY:eA ρ X.m X.ds
 y:∀b o,X.Y b=some o->w.heap[b]? =some o/\¬Own ρ H b
structure mB (X:Ext) (P:Program) (w0:World) (F:Env) (n:Nat) (T:au af) (H:ai) (a:Act) (w:World):Prop where
 ex:∃ρ,ez P w0.heap.size ρ n T H a w/\(∀i,H.next<=i->ρ i=none)/\(∀b A,ρ.fz b=some A->F.fz b=some A\/w0.heap.size<=b)/\Kept X ρ H w
 below:Below w0.heap.size w0 w
 defers:a.defers=X.ds
abbrev Sat:=mB pE
def iK (X:Ext) (P:Program) (w0:World) (F:Env) (n:Nat) (c:Code) (T:au af) (H:ai) (Q:Exit->au af->ai->Prop):Prop:=
 ∀a w,mB X P w0 F n T H a w->∀k,c.wpIn (dO X.rd) k P (fun e a' w'=>(∃aO H',Q e aO H'/\mB X P w0 F n aO H' a' w')\/(e= .ret/\X.R a' w')) a w
abbrev Goal:=iK pE
def KV {X:Ext} {ρ ρ':Env} {H H':ai} {w w':World} (h:Kept X ρ H w) (s:bS ρ H w ρ' H' w'):Kept X ρ' H' w':=
 ⟨fun b o hb=>by
    obtain⟨h1,h2⟩:=h.k b o hb;have hlt:b<w.heap.size:=(dz.1 h1).1;exact⟨(s.frame b hlt h2).trans h1,fun hh=>h2 (s.own b hlt hh)⟩,
   fun i hi=>⟨Nat.lt_of_lt_of_le (h.pin i hi).1 s.next,fun x hx=>s.le _ _ ((h.pin i hi).2 x hx)⟩,
   fun b A hb=>s.le.fz _ _ (h.z b A hb),c6 h.sz s.size,fun b o hb=>by
    obtain⟨h1,h2⟩:=h.k b o hb;have hlt:b<w.heap.size:=(dz.1 h1).1;cases hz:ρ'.fz b with
    |none=>rfl
    |some A=>
     rcases s.mX b A hz with g|g|g
     .rw [h.KU b o hb]at g;cases g
     .omega
     .exact absurd g h2,h.xY.mono s.le,fun b o hb=>by
    obtain⟨h1,h2⟩:=h.y b o hb;have hlt:b<w.heap.size:=(dz.1 h1).1;exact⟨(s.frame b hlt h2).trans h1,fun hh=>h2 (s.own b hlt hh)⟩⟩
def eA.Sz {ρ ρ':Env}:∀{m:List Nat} {ds:List Deferred},eA ρ m ds->(∀i∈m,∀x,ρ i=some x->ρ' i=some x)->eA ρ' m ds
 |[],_,h,_=>h
 |i::_,_,⟨b,c,ds',h1,h2,h3⟩,hc=>⟨b,c,ds',hc i lW _ h1,h2,eA.Sz h3 fun j hj=>hc j (lV _ hj)⟩
def eA.unique {ρ:Env}:∀{m:List Nat} {ds ds':List Deferred},eA ρ m ds->eA ρ m ds'->ds=ds'
 |[],_,_,h,h'=>Eq.trans (show _=[]from h) (show _=[]from h').symm
 |i::m,_,_,⟨b,c,acX,h1,h2,h3⟩,⟨b',c',acY,k1,k2,dG⟩=>by
  rw [h1]at k1;cases k1;rw [h2,k2,eA.unique h3 dG]
def Kept.re {X:Ext} {ρ ρ':Env} {H H':ai} {w:World} (h:Kept X ρ H w) (hl:cA ρ ρ') (hn:H.next<=H'.next) (ho:∀b,Own ρ' H' b->Own ρ H b) (hz:∀b A,ρ'.fz b=some A->ρ.fz b=some A\/Own ρ H b):Kept X ρ' H' w:=
 ⟨fun b o hb=>⟨(h.k b o hb).1,fun hh=>(h.k b o hb).2 (ho b hh)⟩,fun i hi=>⟨Nat.lt_of_lt_of_le (h.pin i hi).1 hn,fun x hx=>hl _ _ ((h.pin i hi).2 x hx)⟩,fun b A hb=>hl.fz _ _ (h.z b A hb),h.sz,fun b o hb=>by
   cases o6:ρ'.fz b with
   |none=>rfl
   |some A=>
    rcases hz b A o6 with g|g
    .rw [h.KU b o hb]at g;cases g
    .exact absurd g (h.k b o hb).2,h.xY.mono hl,fun b o hb=>⟨(h.y b o hb).1,fun hh=>(h.y b o hb).2 (ho b hh)⟩⟩
def pinned (σ:Ren) (next:Nat) (l:List Nat):Bool:=l.all fun i=>Nat.ble (i+1) next&&n5 σ i i
def Kept.ren {X:Ext} {ρ:Env} {H:ai} {a:Act} {w:World} {P:Program} {B n:Nat} {T:au af} {σ:Ren} {s:bH} (h:Kept X ρ H w) (aR:ez P B ρ n T H a w) (hf:fit P σ n T H s) (hp:pinned σ s.H.next X.pins=true):Kept X (ren σ ρ) s.H w:=
 ⟨fun b o hb=>⟨(h.k b o hb).1,fun hh=>(h.k b o hb).2 (Sy aR hf hh)⟩,
   fun i hi=>by
    have:=List.all_eq_true.1 hp i (List.mem_append_right _ hi);rw [ae]at this;exact⟨bU this.1,fun x hx=>xW this.2 ((h.pin i hi).2 x hx)⟩,
   h.z,h.sz,h.KU,h.xY.Sz fun i hi x hx=>by
    have:=List.all_eq_true.1 hp i (List.mem_append_left _ hi);rw [ae]at this;exact xW this.2 hx,fun b o hb=>⟨(h.y b o hb).1,fun hh=>(h.y b o hb).2 (Sy aR hf hh)⟩⟩
def R.jY (r:R) (m:List Nat):R:=match r with
 | .no=> .no
 | .normal T H k=> .normal T H (k++m)
 | .exit id T H k=> .exit id T H (k++m)
 | .goto l T H k=> .goto l T H (k++m)
 | .ret T H k=> .ret T H (k++m)
def KW (r:R) (k m:List Nat):(r.jY k).jY m=r.jY (k++m):=by cases r<;>simp [R.jY,rB]
def SA {r:R} {e:Exit} {aO:au af} {H':ai} {k m:List Nat} (h:r.out=some (e,aO,H',k)):(r.jY m).out=some (e,aO,H',k++m):=by
 cases r<;>cases h<;>rfl
def Do {body:au af->ai->List Nat->R} (hb:∀T H m,body T H m=(body T H []).jY m):∀(k:Nat) (T:au af) (H:ai) (m:List Nat),iter body k T H m=(iter body k T H []).jY m
 |0,_,_,_=>rfl
 |k+1,T,H,m=>by
  show @R.rec (fun _=>R) .no (iter body k) .exit .goto .ret (body T H m)=(@R.rec (fun _=>R) .no (iter body k) .exit .goto .ret (body T H [])).jY m
  rw [hb T H m];cases body T H []with
  |no=>rfl
  |normal T1 H1 k1=>
   show iter body k T1 H1 (k1++m)=(iter body k T1 H1 k1).jY m;rw [Do hb k T1 H1 (k1++m),Do hb k T1 H1 k1,KW]
  |exit _ _ _ _=>rfl
  |goto _ _ _ _=>rfl
  |ret _ _ _=>rfl
def KX {P:Program} {draw:oY}:∀(fuel:Nat) (c:Code) (n:Nat) (aN:Bool) (T:au af) (H:ai) (m:List Nat),qh P draw fuel c n aN T H m=(qh P draw fuel c n aN T H []).jY m
 |0,_,_,_,_,_,_=>rfl
 |fuel+1,c,n,aN,T,H,m=>by
  have ih:=KX (P:=P) (draw:=draw) fuel;have e:∀m,qh P draw (fuel+1) c n aN T H m=zF c P draw (qh P draw fuel) n aN T H m:=fun _=>rfl
  rw [e,e];generalize qh P draw fuel=r at ih;cases c with
  |skip=>rfl
  |region id ops d=>
   show zE m (draw d (mW P r) (tC r) ops n T H)=(zE [] (draw d (mW P r) (tC r) ops n T H)).jY m;cases draw d (mW P r) (tC r) ops n T H<;>rfl
  |seq a b=>
   show @R.rec (fun _=>R) .no (fun T H m=>r b n aN T H m) .exit .goto .ret (r a n aN T H m)=(@R.rec (fun _=>R) .no (fun T H m=>r b n aN T H m) .exit .goto .ret (r a n aN T H [])).jY m
   rw [ih a n aN T H m];cases r a n aN T H []with
   |no=>rfl
   |normal T1 H1 k1=>
    show r b n aN T1 H1 (k1++m)=(r b n aN T1 H1 k1).jY m;rw [ih b n aN T1 H1 (k1++m),ih b n aN T1 H1 k1,KW]
   |exit _ _ _ _=>rfl
   |goto _ _ _ _=>rfl
   |ret _ _ _=>rfl
  |cond c x y=>
   show @mU.rec (fun _=>R) .no (fun b=> @Bool.rec (fun _=>R) (r y n aN T H m) (r x n aN T H m) b) (gI (cm T c))=(@mU.rec (fun _=>R) .no (fun b=> @Bool.rec (fun _=>R) (r y n aN T H []) (r x n aN T H []) b) (gI (cm T c))).jY m
   cases gI (cm T c)with
   |no=>rfl
   |mk b=>cases b<;>exact ih _ _ _ _ _ _
  |block id b=>
   show @R.rec (fun _=>R) .no .normal (fun i T H m=> @Bool.rec (fun _=>R) (.exit i T H m) (.normal T H m) (Nat.beq i id)) .goto .ret (r b n aN T H m)=(@R.rec (fun _=>R) .no .normal (fun i T H m=> @Bool.rec (fun _=>R) (.exit i T H m) (.normal T H m) (Nat.beq i id)) .goto .ret (r b n aN T H [])).jY m
   rw [ih b n aN T H m];cases r b n aN T H []with
   |no=>rfl
   |normal _ _ _=>rfl
   |exit i T1 H1 k1=>
    show @Bool.rec (fun _=>R) (.exit i T1 H1 (k1++m)) (.normal T1 H1 (k1++m)) (Nat.beq i id)=(@Bool.rec (fun _=>R) (.exit i T1 H1 k1) (.normal T1 H1 k1) (Nat.beq i id)).jY m
    cases Nat.beq i id<;>rfl
   |goto _ _ _ _=>rfl
   |ret _ _ _=>rfl
  |loop b=>exact Do (ih b n aN) rounds T H m
  |rangeFunc f ps a b=>
   show @Bool.rec (fun _=>R) (rK P r f ps a b n T H m) .no aN=(@Bool.rec (fun _=>R) (rK P r f ps a b n T H []) .no aN).jY m
   cases aN with
   |true=>rfl
   |false=>
    show rK P r f ps a b n T H m=(rK P r f ps a b n T H []).jY m;unfold rK;split
    .rename_i g args H2 _;unfold B3;split
     .split
      .split
       .rfl
       .split
        .rfl
        .rename_i c _;rw [ih c n false _ _ (H.next::m),ih c n false _ _ [H.next],KW];rfl
      .rfl
     .rfl
    .rfl
  |exit id=>rfl
  |scope b=>
   show @R.rec (fun _=>R) .no .normal .exit (fun _ _ _ _=> .no) .ret (r b n aN T H m)=(@R.rec (fun _=>R) .no .normal .exit (fun _ _ _ _=> .no) .ret (r b n aN T H [])).jY m
   rw [ih b n aN T H m];cases r b n aN T H []<;>rfl
  |label _=>rfl
  |goto _=>rfl
  |ret=>rfl
  |refuse _=>rfl
def ul {P:Program} {bu:bG}:∀(fuel:Nat) (c:Code) (n:Nat) (T:au af) (H:ai) (m:List Nat),qA P bu fuel c n true T H m=qA P bu fuel c n false T H m
 |0,_,_,_,_,_=>rfl
 |fuel+1,c,n,T,H,m=>by
  have ih:=ul (P:=P) (bu:=bu) fuel;show Ad P (Ac bu (xT P (qA P bu fuel))) (qA P bu fuel) c n true T H m=Ad P (Ac bu (xT P (qA P bu fuel))) (qA P bu fuel) c n false T H m;cases c<;>simp only [Ad,ih]
def SB {P:Program} {bu:bG} (fuel:Nat) (c:Code) (n:Nat) (r:Bool) (T:au af) (H:ai) (m:List Nat):qA P bu fuel c n r T H m=qA P bu fuel c n false T H m:=by
 cases r with
 |false=>rfl
 |true=>exact ul fuel c n T H m
def Hm (Q:Exit->au af->ai->Prop):R->Prop
 | .normal T H []=>Q .normal T H
 | .exit id T H []=>Q (.exit id) T H
 | .ret T H []=>Q .ret T H
 |_=>False
def gY (N:au af->ai->Prop) (Q:Exit->au af->ai->Prop):Exit->au af->ai->Prop
 | .normal,T,H=>N T H
 |e,T,H=>Q e T H
def CF (id:Nat) (Q:Exit->au af->ai->Prop):Exit->au af->ai->Prop
 | .exit i,T,H=>if i=id then Q .normal T H else Q (.exit i) T H
 |e,T,H=>Q e T H
def cat:Code->List Nat->Code
 |c,[]=>c
 | .seq a _,0::p=>cat a p
 | .seq _ b,_::p=>cat b p
 | .cond _ a _,0::p=>cat a p
 | .cond _ _ b,_::p=>cat b p
 | .block _ b,_::p=>cat b p
 | .loop b,_::p=>cat b p
 | .scope b,_::p=>cat b p
 | .rangeFunc _ _ a _,0::p=>cat a p
 | .rangeFunc _ _ _ b,_::p=>cat b p
 |_,_=> .skip
section
variable {P:Program} {w0:World} {F:Env} {n:Nat} {T:au af} {H:ai} {Q:Exit->au af->ai->Prop} {c x y:Code}
def SC {r:R} (h:Hm Q r):∃e aO H',r.out=some (e,aO,H',[])/\Q e aO H':=by
 unfold Hm at h;split at h
 .exact⟨_,_,_,rfl,h⟩
 .exact⟨_,_,_,rfl,h⟩
 .exact⟨_,_,_,rfl,h⟩
 .exact h.elim
def Goal.mono {X:Ext} {Q':Exit->au af->ai->Prop} (h:iK X P w0 F n c T H Q) (hq:∀e T H,Q e T H->Q' e T H):iK X P w0 F n c T H Q':=fun a w hs k=>
 wpIn_mono (h a w hs k) fun _ _ _ hh=>by
  rcases hh with⟨aO,H',h1,h2⟩|hh
  .exact .inl ⟨aO,H',hq _ _ _ h1,h2⟩
  .exact .inr hh
def Goal.run {X:Ext} (hK:e7 P) (hm:P.follows .mixedOrders=true) {bu:bG} (hS:bD P (bF bu)) (fuel:Nat) (D:List Bool) (h:(qA P bu fuel c n false T H []).path D (Hm Q)):iK X P w0 F n c T H Q:=by
 intro a w hs k;obtain⟨r,h1,h2⟩:=aD.tV _ _ h;obtain⟨e,aO,H',ho,hq⟩:=SC h2;rw [<-SB fuel c n X.rd.isSome]at h1;have hr:=KN (P:=P) (bu:=bu) fuel c n X.rd.isSome T H [] r h1 (by rintro rfl;cases ho);have hI:qq P (qh P (n4 P (bF bu)) fuel):=J2 hK (Cx hK hm hS) fuel;have ho':(qh P (n4 P (bF bu)) fuel c n X.rd.isSome T H X.m).out=some (e,aO,H',X.m):=by rw [KX,hr];exact SA ho
 obtain⟨ρ,aR,hf,hfz,hkp⟩:=hs.ex;refine hI.cw _ _ _ _ _ _ _ _ _ _ ho' w0.heap.size ρ a w X.rd k _ rfl aR (by rw [hs.defers];exact hkp.xY) (fun i h1 _=>hf i h1) fun ρ' a' w' g1 g2 g3=> ?_
 refine .inl ⟨aO,H',hq,⟨⟨ρ',g1,fun i hi=> ?_,fun b A hb=> ?_,KV hkp g2⟩,hs.below.trans (g2.below aR.H),g3.unique (hkp.xY.mono g2.le)⟩⟩
 .rw [g2.ext i (.inr hi)];exact hf i (c6 g2.next hi)
 .rcases g2.mX b A hb with h|h|⟨i,k,c,q1,aQ,b8⟩
  .exact hfz b A h
  .exact .inr (c6 hs.below.size h)
  .obtain⟨b',c',o,e1,_,_,bV⟩:=aR.H.blk i k q1;rw [b8]at e1;cases e1;exact .inr (bV aQ)
def mB.n7 {X:Ext} {a:Act} {w:World} {σ:Ren} {s:bH} (hs:mB X P w0 F n T H a w) (h:fit P σ n T H s) (hp:pinned σ s.H.next X.pins=true):mB X P w0 F n s.T s.H a w:=by
 obtain⟨ρ,aR,hf,hfz,hkp⟩:=hs.ex;obtain⟨h1,h2⟩:=acT aR h;exact⟨⟨ren σ ρ,h1,h2,hfz,hkp.ren aR h hp⟩,hs.below,hs.defers⟩
def Goal.n7 {X:Ext} {σ:Ren} {s:bH} (h:fit P σ n T H s) (hg:iK X P w0 F n c s.T s.H Q) (hp:pinned σ s.H.next X.pins=true:=by rfl):iK X P w0 F n c T H Q:=fun a w hs k=>hg a w (hs.n7 h hp) k
def Goal.seq {X:Ext} (hc:c= .seq x y) (h:iK X P w0 F n x T H (gY (fun T H=>iK X P w0 F n y T H Q) Q)):iK X P w0 F n c T H Q:=by
 subst hc;intro a w hs k;refine wpIn_seq (wpIn_mono (h a w hs k) fun e a' w' hh=> ?_);rcases hh with⟨aO,H',h1,h2⟩|⟨rfl,hh⟩
 .cases e with
  |normal=>exact h1 a' w' h2 k
  |_=>exact .inl ⟨aO,H',h1,h2⟩
 .exact .inr ⟨rfl,hh⟩
def Goal.block {X:Ext} {id:Nat} (hc:c= .block id x) (h:iK X P w0 F n x T H (CF id Q)):iK X P w0 F n c T H Q:=by
 subst hc;intro a w hs k;refine wpIn_block (wpIn_mono (h a w hs k) fun e a' w' hh=> ?_);rcases hh with⟨aO,H',h1,h2⟩|⟨rfl,hh⟩
 .cases e with
  |exit i=>
   show if i=id then _ else _
   have h1:if i=id then Q .normal aO H' else Q (.exit i) aO H':=h1
   by_cases hi:i=id
   .rw [if_pos hi]at h1 ⊢;exact .inl ⟨aO,H',h1,h2⟩
   .rw [if_neg hi]at h1 ⊢;exact .inl ⟨aO,H',h1,h2⟩
  |_=>exact .inl ⟨aO,H',h1,h2⟩
 .exact .inr ⟨rfl,hh⟩
def Goal.scope {X:Ext} (hc:c= .scope x) (h:iK X P w0 F n x T H (fun e T H=>(∀l,e≠ .goto l)/\Q e T H)):iK X P w0 F n c T H Q:=by
 subst hc;intro a w hs k;refine JP (wpIn_mono (h a w hs k) fun e a' w' hh=> ?_);rcases hh with⟨aO,H',h1,h2⟩|⟨rfl,hh⟩
 .cases e with
  |goto l=>exact absurd rfl (h1.1 l)
  |_=>exact .inl ⟨aO,H',h1.2,h2⟩
 .exact .inr ⟨rfl,hh⟩
def Goal.loop {X:Ext} {ι:Type} (hc:c= .loop x) (I:ι->bH) (μ:ι->Nat) (acZ:Ren) (i0:ι) (h0:fit P acZ n T H (I i0))
  (step:∀i,iK X P w0 F n x (I i).T (I i).H (gY (fun T H=>∃σ j,μ j<μ i/\fit P σ n T H (I j)) Q)) (hp:∀σ i,pinned σ (I i).H.next X.pins=true:=by exact fun _ _=>rfl):iK X P w0 F n c T H Q:=by
 subst hc;refine Goal.n7 h0 ?_ (hp _ _);have key:∀m i,μ i<m->∀a w,mB X P w0 F n (I i).T (I i).H a w->∀k,Code.roundsIn (dO X.rd) k P x (fun e a' w'=>(∃aO H',Q e aO H'/\mB X P w0 F n aO H' a' w')\/(e= .ret/\X.R a' w')) m a w:=by
  intro m;induction m with
  |zero=>intro i hi;exact absurd hi (Nat.not_lt_zero _)
  |succ m ih=>
   intro i hi a w hs k;rw [roundsIn_succ];refine wpIn_mono (step i a w hs k) fun e a' w' hh=> ?_
   rcases hh with⟨aO,H',h1,h2⟩|⟨rfl,hh⟩
   .cases e with
    |normal=>
     obtain⟨σ,j,g1,g2⟩:=h1;exact ih j ω a' w' (h2.n7 g2 (hp _ _)) k
    |_=>exact .inl ⟨aO,H',h1,h2⟩
   .exact .inr ⟨rfl,hh⟩
 intro a w hs k;exact wpIn_loop_rounds (μ i0+1) (key (μ i0+1) i0 (fB _) a w hs k)
end
def av.lI:av->Bool
 | .list _ _=>false
 | .ptr _=>false
 | .pair a b=>a.lI&&b.lI
 |_=>true
mutual
def cB (fresh:Bool) (H:ai):af->af->Prop
 | .raw (.slice none 0 0), .bt _ _ ys=>ys=[]
 | .raw a, .raw b=>xV a b
 | .bt z t xs, .bt z' u ys=>gX (!fresh) (Fv z z' ys.length (pn t u xs ys))
 | .bT e t i k len _, .bt z u ys=>gX (decide (t=u)&&(!fresh||t.lI)) (len=ys.length/\ys=((bQ u (H.get i)).drop k).take len/\(len=0\/bz e u (H.get i) (k+len-1)=true)/\(z=true->len≠0))
 | .slice i off n _, .bt z u ys=>(match H.get i with
   |some (.cells _ cs _ _ false)=>gX (!fresh||u.lI) (match u.rE n (cut cs off (n*u.size))with
    |some ds=>ds=ys/\(Nat.ble (off+n*u.size) cs.length&&(!z||Nat.ble 1 n))=true
    |none=>False)
   |_=>False)
 | .agg l, .agg l'=>tW fresh H l l'
 | .tuple l, .tuple l'=>tW fresh H l l'
 |_,_=>False
def tW (fresh:Bool) (H:ai):List af->List af->Prop
 |[],[]=>True
 |v::l,v'::l'=>cB fresh H v v'/\tW fresh H l l'
 |_,_=>False
end
structure tX (w:World) (F:Env):Prop where
 pF:∀i x,F i=some x->i<64
 all:∀g,g<64->∃c,F g=some (g,c)
 fz:∀b A,F.fz b=some A->∃e fr,w.heap[b]? =some (.cells A e fr)
def vK (F:Env):Prop:=∀b p,Ground.g b=some p->∃A,F.fz b=some A/\p A
def Holds (P:Program) (fresh:Bool) (f:FuncId) (args:List af) (res:af):Prop:=
 ∀(w:World) (F:Env) (xs:List Value),tX w F->vK F->aH F args xs->Calls P f xs.toArray w fun e w'=>∃x F',e= .returned x/\Den F' res x/\tX w' F'/\(∀b A,F'.fz b=some A->(fresh=false/\F.fz b=some A)\/w.heap.size<=b)/\Below w.heap.size w w'
def H0:ai:=⟨.nil,64⟩
def gZ (P:Program) (fresh:Bool) (fn:Func) (res:af):Exit->au af->ai->Prop:=fun e T H=>match e with
 | .normal| .ret=>(match jR P fn T H with | .ok v _=>cB fresh H v res|_=>False)
 |_=>False
section
variable {P:Program}
def kn (w:World) (b:Nat):Option (Array Value):=match w.heap[b]? with
 |some (.cells A _ _)=>some A
 |_=>none
def n8 {w:World} {b:Nat} {A:Array Value}:kn w b=some A↔ ∃e fr,w.heap[b]? =some (.cells A e fr):=by
 unfold kn;constructor
 .intro h;split at h
  .rename_i A' e fr hb;cases h;exact⟨e,fr,hb⟩
  .cases h
 .rintro⟨e,fr,h⟩;rw [h]
def CG (fresh:Bool) (n0:Nat) (w:World) (F:Env):Env:=⟨F.at',fun b=>if n0<=b then kn w b else if fresh then none else F.fz b⟩
def xZ {ρ ρ':Env}:∀(t:av) (d:t.den) ys,t.lI=true->aH ρ (t.cells d) ys->aH ρ' (t.cells d) ys
 | .int _,d,ys,_,h=>by cases h with |cons h1 h2=>cases h2;rw [h1.cc];exact .cons (.raw _) .nil
 | .bool,d,ys,_,h=>by cases h with |cons h1 h2=>cases h2;rw [h1.cc];exact .cons (.raw _) .nil
 | .str,d,ys,_,h=>by cases h with |cons h1 h2=>cases h2;rw [h1.cc];exact .cons (.raw _) .nil
 | .list z t,d,ys,hn,h=>by cases hn
 | .pair a b,d,ys,hn,h=>by
   simp only [av.lI,ae]at hn;obtain⟨y1,y2,rfl,h1,h2⟩:=aH.split (a:=a.cells d.1) (b:=b.cells d.2) h;exact(xZ a d.1 y1 hn.1 h1).append (xZ b d.2 y2 hn.2 h2)
 | .ptr t,d,ys,hn,h=>by cases hn
 | .unit,d,ys,_,h=>by cases h;exact .nil
variable {w0 w:World} {F ρ:Env} {H:ai} {fresh:Bool}
mutual
def Fz (hH:bh P w0.heap.size ρ H w) (hfz:∀b A,ρ.fz b=some A->F.fz b=some A\/w0.heap.size<=b):∀{v v':af} {x:Value},cB fresh H v v'->Den ρ v x->Den (CG fresh w0.heap.size w F) v' x:=by
 intro v v' x h hd;have hle':fresh=false->∀b A,ρ.fz b=some A->(CG fresh w0.heap.size w F).fz b=some A:=fun hf b A hb=>by
  show(if w0.heap.size<=b then kn w b else if fresh then none else F.fz b)=some A;by_cases h0:w0.heap.size<=b
  .rw [if_pos h0];exact n8.2 (hH.fz b A hb).1
  .rw [if_neg h0,hf];rcases hfz b A hb with h|h
   .exact h
   .exact absurd h h0
 unfold cB at h;split at h
 .subst h;rw [hd.cc];exact .e6 fun _=>⟨rfl,rfl⟩
 .rw [hd.cc,Sn h];exact .raw _
 .rename_i z t xs z' u ys;obtain⟨h1,h2⟩:=iZ h;obtain⟨h2,h3⟩:=Sm h2;obtain⟨e,rfl⟩:=Ai h2;subst e;have hf:fresh=false:=by simpa using h1
  rcases hd.tF with⟨rfl,a,k,rfl,hz⟩|⟨b,off,k,A,g1,g2,g3,g4,rfl,g5⟩
  .exact .e6 fun e=>(h3 e).elim hz fun hn=>absurd rfl hn
  .exact .bt (hle' hf _ _ g1) g2 rfl (n6 (fun d ys=>pq (hle' hf) t d ys) _ _ g3) g4 fun e=>(h3 e).elim g5 fun hn hxs=>hn (by subst hxs;rfl)
 .rename_i e t i k len cap z u ys;obtain⟨h1,h2,h3,h4,h5⟩:=iZ h;rw [ae]at h1;obtain⟨h1,h6⟩:=h1;have h1:=ap h1;subst h1;rcases hd.jt with⟨hl,a,rfl⟩|⟨b,c,kc,g1,g2,g3,rfl⟩
  .subst hl;have:ys=[]:=List.eq_nil_of_length_eq_zero h2.symm;subst this;exact .e6 fun e=>absurd rfl (h5 e)
  .rcases h4 with hl|h4
   .subst hl;have:ys=[]:=List.eq_nil_of_length_eq_zero h2.symm;subst this;exact .e6 fun e=>absurd rfl (h5 e)
   .obtain⟨b1,b2⟩:=vo h4;by_cases hl:len=0
    .subst hl;have:ys=[]:=List.eq_nil_of_length_eq_zero h2.symm;subst this;exact .e6 fun e=>absurd rfl (h5 e)
    .obtain⟨zs,q1,aQ,_⟩:=rM hH b1 g1;generalize bQ t (H.get i)=xs at b1 b2 h3 aQ;have hB:w0.heap.size<=b:=by
      obtain⟨b',c',o,e1,_,_,bV⟩:=hH.blk i _ b1;rw [g1]at e1;cases e1;exact bV rfl
     have hle2:k+len<=xs.length:=by omega
     have e1:(xs.drop k).take len=(xs.take (k+len)).drop k:=by rw [List.take_drop]
     have gL:=Cd (off:=0) (A:=zs.toList) (l:=k) (h:=k+len) (by simpa using aQ) ω hle2;rw [aw,<-e1,<-h3]at gL;rw [h2];refine .bt (A:=zs) ?_ ?_ rfl ?_ ω (fun e hys=>by subst hys;exact hl h2)
     .show(if w0.heap.size<=b then kn w b else _)=some zs;rw [if_pos hB];exact n8.2 ⟨_,_,q1⟩
     .have e2:=gL.length;have:k*t.size+(t.flat ys).length<=zs.toList.length:=by
       have e3:(t.flat xs).length<=zs.toList.length:=by
        have:=aQ.length;simp at this ⊢;omega
       rw [t.iW]at e3 ⊢;rw [<-h2,<-Nat.add_mul];exact c6 (Nat.mul_le_mul_right _ hle2) e3
      simpa using this
     .cases hf:fresh with
      |true=>
       rw [hf]at h6;have h6:t.lI=true:=by simpa using h6
       exact n6 (fun d ys=>xZ t d ys h6) _ _ gL
      |false=>rw [<-hf];exact n6 (fun d ys=>pq (hle' hf) t d ys) _ _ gL
 .rename_i i off n cap z u ys;split at h
  .rename_i e cs x fz hg;obtain⟨h1,h2⟩:=iZ h;split at h2
   .rename_i ds hrd;obtain⟨rfl,h3⟩:=h2;rw [ae]at h3;obtain⟨hle,ac0⟩:=h3;have hle:=bU hle;obtain⟨b,c,k,g1,_,g3,rfl⟩:=hd.ij;obtain⟨zs,xE,q1,_,b8,_,_,qD⟩:=l9 hH hg g1;have hcut:=(b8.drop off).take (n*u.size);obtain⟨mC,hn⟩:=av.B8 hrd hcut;subst hn;have hfl:=u.iW ds;have e2:((zs.toList.take cs.length).drop off).take (ds.length*u.size)=(zs.toList.drop off).take (u.flat ds).length:=by
     rw [hfl,List.drop_take,List.take_take,Nat.min_eq_left ω]
    rw [e2]at mC;have hB:w0.heap.size<=b:=by
     obtain⟨b',c',o,e1,_,_,bV⟩:=hH.blk i _ hg;rw [g1]at e1;cases e1;exact bV rfl
    refine .bt (A:=zs) ?_ (by rw [hfl];omega) rfl ?_ g3 fun e hys=> ?_
    .show(if w0.heap.size<=b then kn w b else _)=some zs;rw [if_pos hB];exact n8.2 ⟨_,_,q1⟩
    .cases hf:fresh with
     |true=>
      rw [hf]at h1;have h1:u.lI=true:=by simpa using h1
      exact n6 (fun d ys=>xZ u d ys h1) _ _ mC
     |false=>rw [<-hf];exact n6 (fun d ys=>pq (hle' hf) u d ys) _ _ mC
    .subst e;subst hys;cases ac0
   .exact h2.elim
  .exact h.elim
 .obtain⟨xs,g1,rfl⟩:=hd.tD;exact .agg (KY hH hfz h g1)
 .obtain⟨xs,g1,rfl⟩:=hd.B6;exact .tuple (KY hH hfz h g1)
 .exact h.elim
def KY (hH:bh P w0.heap.size ρ H w) (hfz:∀b A,ρ.fz b=some A->F.fz b=some A\/w0.heap.size<=b):∀{v v':List af} {x:List Value},tW fresh H v v'->aH ρ v x->aH (CG fresh w0.heap.size w F) v' x:=by
 intro v v' x h hd;unfold tW at h;split at h
 .cases hd;exact .nil
 .cases hd with
  |cons h1 h2=>exact .cons (Fz hH hfz h.1 h1) (KY hH hfz h.2 h2)
 .exact h.elim
end
def holds_of {f:FuncId} {fn:Func} {c:Code} {args:List af} {res:af} (hf:P.funcs[f]? =some fn) (hb:fn.body=some c) (hn:args.length<=fn.ntmps)
  (h:∀w F,Goal P w F fn.ntmps c (dt args .nil 0) H0 (gZ P fresh fn res)):Holds P fresh f args res:=by
 intro w F xs hF ct hd;have hg:=h w F;have hH:bh P w.heap.size F H0 w:=⟨fun i k h=>(by rw [show H0.get i=none from au.get_nil i]at h;cases h),fun i j eG eW b ci cl h=>(by rw [show H0.get i=none from au.get_nil i]at h;cases h),fun i k h=>(by rw [show H0.get i=none from au.get_nil i]at h;cases h),aJ _,
  fun b A h=>⟨hF.fz b A h,fun i k c hi=>(by rw [show H0.get i=none from au.get_nil i]at hi;cases hi)⟩⟩
 have hs:Sat P w F fn.ntmps (dt args .nil 0) H0 {tmps:=xs.toArray++Array.replicate (fn.ntmps-xs.toArray.size) undef,defers:=[]} w:=by
  refine⟨⟨F,⟨Ci hd hn,hH,hF.all,ct⟩,fun i hi=> ?_,fun b A h=> .inl h,⟨fun b o h=>(by cases h),fun i hi=>(by cases hi),fun b A h=>(by cases h),Nat.zero_le _,fun b o h=>(by cases h),rfl,fun b o h=>(by cases h)⟩⟩,Below.refl _ _,rfl⟩;have hi:64<=i:=hi;cases CI:F i with
  |none=>rfl
  |some x=>exact absurd (hF.pF i x CI) ω
 suffices hc:CallsIn (dO none) 0 P f xs.toArray w (fun e w'=>∃x F',e= .returned x/\Den F' res x/\tX w' F'/\(∀b A,F'.fz b=some A->(fresh=false/\F.fz b=some A)\/w.heap.size<=b)/\Below w.heap.size w w')from callsIn_wide.1 hc
 refine callsIn_of_wp_marks hf hb trivial (wpIn_mono (hg _ _ hs 0) fun e a' w' hh=> ?_);obtain⟨aO,H',h1,h2⟩:=hh.resolve_right fun q=>q.2
 obtain⟨ρ,aR,hnone,hfz,_⟩:=h2.ex;have hd':=h2.defers;have key:(match jR P fn aO H' with | .ok v _=>cB fresh H' v res|_=>False)->LeavesInM (dO none) 0 P fn a'.tmps (fun e w'=>∃x F',e= .returned x/\Den F' res x/\tX w' F'/\(∀b A,F'.fz b=some A->(fresh=false/\F.fz b=some A)\/w.heap.size<=b)/\Below w.heap.size w w') a'.defers .returning w':=by
  intro hr;split at hr
  .rename_i v H2 hres;have ng:eA ρ [] a'.defers:=hd';refine xH (T:=aO) (H:=H') [] aR ng (show kg P fn aO H' []= .ok v H2 from hres) fun y w2 r1 r2 r3=> ?_
   obtain⟨rfl,_⟩:=jn aR hres;refine⟨y,CG fresh w.heap.size w2 F,rfl,Fz r2 hfz hr r1,⟨hF.pF,hF.all,fun b A hb=> ?_⟩,fun b A hb=> ?_,h2.below.trans (r3.below aR.H)⟩
   .have hb:(if w.heap.size<=b then kn w2 b else if fresh then none else F.fz b)=some A:=hb;by_cases h0:w.heap.size<=b
    .rw [if_pos h0]at hb;exact n8.1 hb
    .rw [if_neg h0]at hb;cases hfr:fresh with
     |true=>rw [hfr]at hb;cases hb
     |false=>
      rw [hfr]at hb;obtain⟨e,fr,h3⟩:=hF.fz b A hb;exact⟨e,fr,((h2.below.trans (r3.below aR.H)).block b ω).trans h3⟩
   .have hb:(if w.heap.size<=b then kn w2 b else if fresh then none else F.fz b)=some A:=hb;by_cases h0:w.heap.size<=b
    .exact .inr h0
    .rw [if_neg h0]at hb;cases hfr:fresh with
     |true=>rw [hfr]at hb;cases hb
     |false=>rw [hfr]at hb;exact .inl ⟨rfl,hb⟩
  .exact hr.elim
 cases e with
 |normal=>exact key h1
 |ret=>exact key h1
 |_=>exact h1.elim
end
end
end
section
variable [Ground]
noncomputable section
def iw:List av->Type
 |[]=>Unit
 |t::l=>t.den×iw l
def CJ {β:Type} (H:ai) (cC z:Bool) (t:av) (no:aD β) (l:List af) (f:List t.den->List af->aD β):aD β:=match l with
 | .bt z' t' xs::r=>if h:t'=t then(match !z||z' with |true=>f (h ▸ xs) r|false=> .must (Nat.ble 1 xs.length) (f (h ▸ xs) r))else no
 | .raw (.slice none 0 0)::r=>f [] r
 | .bT e u i k len _::r=>(match cC&&(decide (u=t)&& !z)with
   |true=> .must (Nat.beq len 0||bz e t (H.get i) (k+len-1)) (f (((bQ t (H.get i)).drop k).take len) r)
   |false=>no)
 | .slice i off n _::r=>(match cC&& !z,H.get i with
   |true,some (.cells _ cs _ _ _)=>(match Nat.ble (off+n*t.size) cs.length,t.rE n (cut cs off (n*t.size))with
    |true,some ds=>f ds r
    |_,_=>no)
   |_,_=>no)
 |_=>no
def av.vL {β:Type} (H:ai) (cC:Bool) (no:aD β):(t:av)->List af->(t.den->List af->aD β)->aD β
 | .int k,l,f=>match zm k l with |some (x,r)=>f x r|none=>no
 | .bool,l,f=>match zn l with |some (x,r)=>f x r|none=>no
 | .str,l,f=>match zq l with |some (x,r)=>f x r|none=>no
 | .list z t,l,f=>CJ H cC z t no l f
 | .pair a b,l,f=>a.vL H cC no l fun x r=>b.vL H cC no r fun y r=>f (x,y) r
 | .ptr t,l,f=>match wl t l with |some (x,r)=>f x r|none=>no
 | .unit,l,f=>f () l
def av.isAgg:av->Bool
 | .pair _ _=>true
 | .unit=>true
 |_=>false
def CK {β:Type} (H:ai) (cC:Bool) (no:aD β) (t:av) (v:af) (f:t.den->aD β):aD β:=match t.isAgg,v with
 |true, .agg cs=>t.vL H cC no cs fun d r=>match r with |[]=>f d|_=>no
 |true,_=>no
 |false,v=>t.vL H cC no [v] fun d r=>match r with |[]=>f d|_=>no
def tY {β:Type} (H:ai) (cC:Bool) (no:aD β):(ps:List av)->List af->(iw ps->aD β)->aD β
 |[],[],f=>f ()
 |t::ps,v::vs,f=>CK H cC no t v fun d=>tY H cC no ps vs fun ds=>f (d,ds)
 |_,_,_=>no
def rY (t:av) (d:t.den):af:=match t.isAgg with
 |true=> .agg (t.cells d)
 |false=>(t.cells d).headD .bot
def jZ:(ts:List av)->iw ts->List af
 |[],_=>[]
 |t::l,d=>rY t d.1::jZ l d.2
def n9 (rs:List av) (d:iw rs):af:=match jZ rs d with
 |[v]=>v
 |vs=> .tuple vs
structure bp where
 f:FuncId
 ps:List av
 rs:List av
 fresh:Bool
 pre:iw ps->Bool
 fn:iw ps->iw rs
noncomputable def IN (f:FuncId) (ps rs:List av) (h:Bool) (p:iw ps->Bool) (n:iw ps->iw rs):bp:=⟨f,ps,rs,h,p,n⟩
noncomputable def k_a (f:Func):Code:=f.body.getD .skip
def bp.Ok (P:Program) (c:bp):Prop:=∀d,c.pre d=true->Holds P c.fresh c.f (jZ c.ps d) (n9 c.rs (c.fn d))
def x4 (c:bp) (args:List af) (H:ai):aD aM:=tY H c.fresh (.ret .no) c.ps args fun d=> .must (c.pre d) (.ret (.ok (n9 c.rs (c.fn d)) H))
def a8:List bp->bG
 |[],_,_,_=> .ret .no
 |c::l,f,args,H=>match Nat.beq f c.f with |true=>x4 c args H|false=>a8 l f args H
section
variable {P:Program} {B:Nat} {ρ:Env} {H:ai} {w:World}
def jy (cC:Bool) (w:World) (ρ:Env):Env:=⟨fun i=>if i<64 then ρ i else none,fun b=>if cC then kn w b else ρ.fz b⟩
def SD (hH:bh P B ρ H w) (cC:Bool):∀b A,ρ.fz b=some A->(jy cC w ρ).fz b=some A:=fun b A h=>by
 cases cC with
 |true=>exact n8.2 (hH.fz b A h).1
 |false=>exact h
def x5 (hH:bh P B ρ H w) (cC:Bool) {t:av} {d:t.den} {ys:List Value} (h:aH ρ (t.cells d) ys):aH (jy cC w ρ) (t.cells d) ys:=pq (SD hH cC) t d ys h
def ac1 {β:Type} (hH:bh P B ρ H w) {cC z:Bool} {t:av} {no:aD β} {b:β} (hno:no.gr≠some b) {l:List af} {f:List t.den->List af->aD β} (h:(CJ H cC z t no l f).gr=some b):
  ∃xs r,(f xs r).gr=some b/\∀ys,aH ρ l ys->∃y1 y2,ys=y1++y2/\aH (jy cC w ρ) [.bt z t xs] y1/\aH ρ r y2:=by
 unfold CJ at h;split at h
 .rename_i z' t' xs r;split at h
  .rename_i e;subst e;have key:∀(hz:z=true->z'=true\/xs≠[]) ys,aH ρ (.bt z' t' xs::r) ys->∃y1 y2,ys=y1++y2/\aH (jy cC w ρ) [.bt z t' xs] y1/\aH ρ r y2:=by
    intro hz ys hd;cases hd with
    |cons h1 h2=>
     refine⟨[_],_,rfl, .cons ?_ .nil,h2⟩;rcases h1.tF with⟨rfl,a,k,rfl,o6⟩|⟨b,off,k,A,g1,g2,g3,g4,rfl,g5⟩
     .exact .e6 fun e=>(hz e).elim o6 fun h=>absurd rfl h
     .exact .bt (SD hH cC _ _ g1) g2 rfl (n6 (fun d ys=>x5 hH cC) _ _ g3) g4 fun e=>(hz e).elim g5 id
   split at h
   .rename_i hz;exact⟨xs,r,h,key fun e=> .inl (by subst e;simpa using hz)⟩
   .cases hb:Nat.ble 1 xs.length with
    |false=>simp only [hb,aD.gr,cond_false]at h;cases h
    |true=>
     simp only [hb,aD.gr,cond_true]at h;exact⟨xs,r,h,key fun e=> .inr fun hx=>by subst hx;cases hb⟩
  .exact absurd h hno
 .rename_i r;refine⟨[],r,h,fun ys hd=> ?_⟩;cases hd with
  |cons h1 h2=>
   refine⟨[_],_,rfl, .cons ?_ .nil,h2⟩;rw [h1.cc];exact .e6 fun _=>⟨rfl,rfl⟩
 .rename_i e u i k len cap r;split at h
  .rename_i hc;simp only [ae,bA]at hc;obtain⟨hb,hu,hz⟩:=hc;subst hu;subst hb;have hz:z=false:=by simpa using hz
   subst hz;cases hm:(Nat.beq len 0||bz e u (H.get i) (k+len-1))with
   |false=>rw [hm]at h;cases h
   |true=>
    rw [hm]at h;refine⟨_,r,h,fun ys hd=> ?_⟩;cases hd with
    |cons h1 h2=>
     refine⟨[_],_,rfl, .cons ?_ .nil,h2⟩;rcases h1.jt with⟨rfl,a,rfl⟩|⟨b,c,kc,g1,g2,g3,rfl⟩
     .rw [List.take_zero];exact .e6 fun e=>by cases e
     .rw [Bool.or_eq_true]at hm;by_cases hl:len=0
      .subst hl;rw [List.take_zero];exact .e6 fun e=>by cases e
      .have hm:=hm.resolve_left fun e=>hl (ac e)
       obtain⟨b1,b2⟩:=vo hm;obtain⟨zs,q1,aQ,_⟩:=rM hH b1 g1;generalize bQ u (H.get i)=xs at b1 b2 aQ ⊢;have hle2:k+len<=xs.length:=by omega
       have e1:(xs.drop k).take len=(xs.take (k+len)).drop k:=by rw [List.take_drop]
       have gL:=Cd (off:=0) (A:=zs.toList) (l:=k) (h:=k+len) (by simpa using aQ) ω hle2;rw [aw,<-e1]at gL;have hn:((xs.drop k).take len).length=len:=by simp;omega
       have gw:=Den.bt (ρ:=jy true w ρ) (z:=false) (t:=u) (xs:=(xs.drop k).take len) (b:=b) (off:=k*u.size) (k:=kc) (A:=zs) (n8.2 ⟨_,_,q1⟩) (by
        have e3:(u.flat xs).length<=zs.toList.length:=by
         have:=aQ.length;simp at this ⊢;omega
        rw [u.iW]at e3 ⊢;rw [hn,<-Nat.add_mul];have:=c6 (Nat.mul_le_mul_right u.size hle2) e3;simpa using this) rfl (n6 (fun d ys=>x5 hH true) _ _ gL) ω (fun e=>by cases e)
       rwa [hn]at gw
  .exact absurd h hno
 .rename_i i off n cap r;split at h
  .rename_i e cs x fz ro hc hg;rw [ae]at hc;obtain⟨hb,hz⟩:=hc;subst hb;have hz:z=false:=by simpa using hz
   subst hz;split at h
   .rename_i ds hle hrd;have hle:=bU hle;refine⟨ds,r,h,fun ys hd=> ?_⟩;cases hd with
    |cons h1 h2=>
     refine⟨[_],_,rfl, .cons ?_ .nil,h2⟩;obtain⟨b,c,k,g1,_,g3,rfl⟩:=h1.ij;obtain⟨zs,xE,q1,_,b8,_,_,qD⟩:=l9 hH hg g1;have hcut:=(b8.drop off).take (n*t.size);obtain⟨mC,hn⟩:=av.B8 hrd hcut;subst hn;have hfl:=t.iW ds;have e2:((zs.toList.take cs.length).drop off).take (ds.length*t.size)=(zs.toList.drop off).take (t.flat ds).length:=by
      rw [hfl,List.drop_take,List.take_take,Nat.min_eq_left ω]
     rw [e2]at mC;exact .bt (n8.2 ⟨_,_,q1⟩) (by rw [hfl];omega) rfl (n6 (fun d ys=>x5 hH true) _ _ mC) g3 fun e=>by cases e
   .exact absurd h hno
  .exact absurd h hno
 .exact absurd h hno
def ac2 {β:Type} {cC z:Bool} {t:av} {no:aD β} {b:β} (hno:no.gr≠some b) {l:List af} {f:List t.den->List af->aD β} (h:(CJ H cC z t no l f).gr=some b):∃xs r,(f xs r).gr=some b:=by
 unfold CJ at h;split at h
 .split at h
  .split at h
   .exact⟨_,_,h⟩
   .rename_i xs r _ _ _;cases hb:Nat.ble 1 xs.length with
    |false=>simp only [hb,aD.gr,cond_false]at h;cases h
    |true=>simp only [hb,aD.gr,cond_true]at h;exact⟨_,_,h⟩
  .exact absurd h hno
 .exact⟨_,_,h⟩
 .rename_i e u i k len cap r;split at h
  .cases hm:(Nat.beq len 0||bz e t (H.get i) (k+len-1))with
   |false=>rw [hm]at h;cases h
   |true=>rw [hm]at h;exact⟨_,_,h⟩
  .exact absurd h hno
 .split at h
  .split at h
   .exact⟨_,_,h⟩
   .exact absurd h hno
  .exact absurd h hno
 .exact absurd h hno
def FA {β:Type} {cC:Bool} {no:aD β} {b:β} (hno:no.gr≠some b):∀(t:av) {l:List af} {f:t.den->List af->aD β},(t.vL H cC no l f).gr=some b->∃d r,(f d r).gr=some b
 | .int k,l,f,h=>by
   have h:(match zm k l with |some (x,r)=>f x r|none=>no).gr=some b:=h;split at h
   .exact⟨_,_,h⟩
   .exact absurd h hno
 | .bool,l,f,h=>by
   have h:(match zn l with |some (x,r)=>f x r|none=>no).gr=some b:=h;split at h
   .exact⟨_,_,h⟩
   .exact absurd h hno
 | .str,l,f,h=>by
   have h:(match zq l with |some (x,r)=>f x r|none=>no).gr=some b:=h;split at h
   .exact⟨_,_,h⟩
   .exact absurd h hno
 | .list z t,l,f,h=>ac2 hno h
 | .pair a c,l,f,h=>by
   obtain⟨x,r,h1⟩:=FA hno a (f:=fun x r=>c.vL H cC no r fun y r=>f (x,y) r) h;obtain⟨y,r',h3⟩:=FA hno c h1;exact⟨_,_,h3⟩
 | .ptr t,l,f,h=>by
   have h:(match wl t l with |some (x,r)=>f x r|none=>no).gr=some b:=h;split at h
   .exact⟨_,_,h⟩
   .exact absurd h hno
 | .unit,l,f,h=>⟨(),l,h⟩
def CL {β:Type} {cC:Bool} {no:aD β} {b:β} (hno:no.gr≠some b):∀(ps:List av) {vs:List af} {f:iw ps->aD β},(tY H cC no ps vs f).gr=some b->∃d,(f d).gr=some b
 |[],[],f,h=>⟨(),h⟩
 |[],_::_,f,h=>absurd h hno
 |_::_,[],f,h=>absurd h hno
 |t::ps,v::vs,f,h=>by
  have h:(CK H cC no t v fun d=>tY H cC no ps vs fun ds=>f (d,ds)).gr=some b:=h;have:∃d,(tY H cC no ps vs fun ds=>f (d,ds)).gr=some b:=by
   unfold CK at h;split at h
   .obtain⟨d,r,h1⟩:=FA hno t h;cases r with
    |cons _ _=>exact absurd h1 hno
    |nil=>exact⟨d,h1⟩
   .exact absurd h hno
   .obtain⟨d,r,h1⟩:=FA hno t h;cases r with
    |cons _ _=>exact absurd h1 hno
    |nil=>exact⟨d,h1⟩
  obtain⟨d,h1⟩:=this;obtain⟨ds,h3⟩:=CL hno ps h1;exact⟨(d,ds),h3⟩
def FB {β:Type} (hH:bh P B ρ H w) {cC:Bool} {no:aD β} {b:β} (hno:no.gr≠some b):∀(t:av) {l:List af} {f:t.den->List af->aD β},(t.vL H cC no l f).gr=some b->
  ∃d r,(f d r).gr=some b/\∀ys,aH ρ l ys->∃y1 y2,ys=y1++y2/\aH (jy cC w ρ) (t.cells d) y1/\aH ρ r y2
 | .int k,l,f,h=>by
   have h:(match zm k l with |some (x,r)=>f x r|none=>no).gr=some b:=h;split at h
   .rename_i x r hx;refine⟨x,r,h,fun ys hd=> ?_⟩;obtain⟨y1,y2,e,h1,h2⟩:=av.vn (.int k) hx hd;exact⟨y1,y2,e,x5 hH cC h1,h2⟩
   .exact absurd h hno
 | .bool,l,f,h=>by
   have h:(match zn l with |some (x,r)=>f x r|none=>no).gr=some b:=h;split at h
   .rename_i x r hx;refine⟨x,r,h,fun ys hd=> ?_⟩;obtain⟨y1,y2,e,h1,h2⟩:=av.vn .bool hx hd;exact⟨y1,y2,e,x5 hH cC h1,h2⟩
   .exact absurd h hno
 | .str,l,f,h=>by
   have h:(match zq l with |some (x,r)=>f x r|none=>no).gr=some b:=h;split at h
   .rename_i x r hx;refine⟨x,r,h,fun ys hd=> ?_⟩;obtain⟨y1,y2,e,h1,h2⟩:=av.vn .str hx hd;exact⟨y1,y2,e,x5 hH cC h1,h2⟩
   .exact absurd h hno
 | .list z t,l,f,h=>ac1 hH hno h
 | .pair a c,l,f,h=>by
   obtain⟨x,r,h1,h2⟩:=FB hH hno a (f:=fun x r=>c.vL H cC no r fun y r=>f (x,y) r) h;obtain⟨y,r',h3,h4⟩:=FB hH hno c h1;refine⟨(x,y),r',h3,fun ys hd=> ?_⟩;obtain⟨y1,y2,rfl,g1,g2⟩:=h2 ys hd;obtain⟨y3,Jl,rfl,g3,g4⟩:=h4 y2 g2;exact⟨y1++y3,Jl,by simp,g1.append g3,g4⟩
 | .ptr t,l,f,h=>by
   have h:(match wl t l with |some (x,r)=>f x r|none=>no).gr=some b:=h;split at h
   .rename_i x r hx;refine⟨x,r,h,fun ys hd=> ?_⟩;obtain⟨y1,y2,e,h1,h2⟩:=av.vn (.ptr t) hx hd;exact⟨y1,y2,e,x5 hH cC h1,h2⟩
   .exact absurd h hno
 | .unit,l,f,h=>⟨(),l,h,fun ys hd=>⟨[],ys,rfl, .nil,hd⟩⟩
def CN {t:av} (h:t.isAgg=false) (d:t.den):t.cells d=[rY t d]:=by
 cases t<;>first |rfl |cases h
def ac3 {β:Type} (hH:bh P B ρ H w) {cC:Bool} {no:aD β} {b:β} (hno:no.gr≠some b) {t:av} {v:af} {f:t.den->aD β} (h:(CK H cC no t v f).gr=some b):
  ∃d,(f d).gr=some b/\∀x,Den ρ v x->Den (jy cC w ρ) (rY t d) x:=by
 unfold CK at h;split at h
 .rename_i cs ha;obtain⟨d,r,h1,h2⟩:=FB hH hno t h;cases r with
  |cons _ _=>exact absurd h1 hno
  |nil=>
   refine⟨d,h1,fun x hx=> ?_⟩;obtain⟨xs,g1,rfl⟩:=hx.tD;obtain⟨y1,y2,rfl,g2,g3⟩:=h2 xs g1;cases g3;unfold rY;rw [ha,List.append_nil];exact .agg g2
 .exact absurd h hno
 .rename_i ha;obtain⟨d,r,h1,h2⟩:=FB hH hno t h;cases r with
  |cons _ _=>exact absurd h1 hno
  |nil=>
   refine⟨d,h1,fun x hx=> ?_⟩;obtain⟨y1,y2,e,g2,g3⟩:=h2 [x] (.cons hx .nil);cases g3;rw [List.append_nil]at e;subst e;rw [CN ha]at g2;cases g2 with |cons g _=>exact g
def FC {β:Type} (hH:bh P B ρ H w) {cC:Bool} {no:aD β} {b:β} (hno:no.gr≠some b):∀(ps:List av) {vs:List af} {f:iw ps->aD β},(tY H cC no ps vs f).gr=some b->
  ∃d,(f d).gr=some b/\∀xs,aH ρ vs xs->aH (jy cC w ρ) (jZ ps d) xs
 |[],[],f,h=>⟨(),h,fun xs hd=>by cases hd;exact .nil⟩
 |[],_::_,f,h=>absurd h hno
 |_::_,[],f,h=>absurd h hno
 |t::ps,v::vs,f,h=>by
  obtain⟨d,h1,h2⟩:=ac3 hH hno (f:=fun d=>tY H cC no ps vs fun ds=>f (d,ds)) h;obtain⟨ds,h3,h4⟩:=FC hH hno ps h1;refine⟨(d,ds),h3,fun xs hd=> ?_⟩;cases hd with
  |cons g1 g2=>exact .cons (h2 _ g1) (h4 _ g2)
def ac4 {F F':Env} (hf:∀b A,F.fz b=some A->F'.fz b=some A) {t:av} {d:t.den} {x:Value} (h:Den F (rY t d) x):Den F' (rY t d) x:=by
 cases ha:t.isAgg with
 |true=>
  unfold rY at h ⊢;rw [ha]at h ⊢;obtain⟨xs,g1,rfl⟩:=h.tD;exact .agg (pq hf t d xs g1)
 |false=>
  have h1:aH F (t.cells d) [x]:=by rw [CN ha];exact .cons h .nil
  have h2:=pq hf t d _ h1;rw [CN ha]at h2;cases h2 with |cons g _=>exact g
def SE {F F':Env} (hf:∀b A,F.fz b=some A->F'.fz b=some A):∀(ts:List av) {d:iw ts} {xs:List Value},aH F (jZ ts d) xs->aH F' (jZ ts d) xs
 |[],_,_,h=>by cases h;exact .nil
 |t::l,d,_,h=>by
  cases h with
  |cons h1 h2=>exact .cons (ac4 hf h1) (SE hf l h2)
def ac5 {F F':Env} (hf:∀b A,F.fz b=some A->F'.fz b=some A) {rs:List av} {d:iw rs} {x:Value} (h:Den F (n9 rs d) x):Den F' (n9 rs d) x:=by
 have key:∀l,jZ rs d=l->Den F (match l with |[v]=>v|vs=> .tuple vs) x->Den F' (match l with |[v]=>v|vs=> .tuple vs) x:=by
  intro l hl hd;have hds:∀xs,aH F l xs->aH F' l xs:=fun xs hx=>by rw [<-hl]at hx ⊢;exact SE hf rs hx
  split at hd
  .rename_i v;have:=hds [x] (.cons hd .nil);cases this with |cons g _=>exact g
  .rename_i hn;obtain⟨xs,g1,rfl⟩:=hd.B6;exact .tuple (hds _ g1)
 exact key _ rfl h
def KZ {c:bp} {args:List af} {v:af} {H':ai} (h:(x4 c args H).gr=some (.ok v H')):H'=H:=by
 obtain⟨d,h1⟩:=CL (cC:=c.fresh) (no:=aD.ret aM.no) (b:=aM.ok v H') (by simp [aD.gr]) c.ps h;cases hp:c.pre d with
 |false=>rw [hp]at h1;cases h1
 |true=>rw [hp]at h1;cases h1;rfl
def SF {c:bp} (hc:c.Ok P) {args:List af} {v:af} {H':ai} (h:(x4 c args H).gr=some (.ok v H')) {xs:List Value} (m:Nat) (hH:bh P B ρ H w) (ct:nZ ρ) (hd:aH ρ args xs):CallsIn (dO none) m P c.f xs.toArray w (mm P B ρ H w v H'):=by
 have hsame:=KZ h;obtain⟨d,h1,h2⟩:=FC (w:=w) hH (cC:=c.fresh) (no:=aD.ret aM.no) (b:=aM.ok v H') (by simp [aD.gr]) c.ps h;have hp:c.pre d=true/\v=n9 c.rs (c.fn d):=by
  cases hp:c.pre d with
  |false=>rw [hp]at h1;cases h1
  |true=>rw [hp]at h1;cases h1;exact⟨rfl,rfl⟩
 obtain⟨hp,rfl⟩:=hp;subst hsame;have hF:tX w (jy c.fresh w ρ):=by
  refine⟨fun i x hx=> ?_,fun g hg=> ?_,fun b A hb=> ?_⟩
  .have hx:(if i<64 then ρ i else none)=some x:=hx;by_cases h:i<64
   .exact h
   .rw [if_neg h]at hx;cases hx
  .obtain⟨c',tK⟩:=ct.at' g hg;exact⟨c',by show(if g<64 then ρ g else none)=_;rw [if_pos hg];exact tK⟩
  .have hb:(if c.fresh=true then kn w b else ρ.fz b)=some A:=hb;cases hfr:c.fresh with
   |true=>rw [hfr]at hb;exact n8.1 hb
   |false=>rw [hfr]at hb;exact(hH.fz b A hb).1
 have ac6:vK (jy c.fresh w ρ):=fun b p hb=>by
  obtain⟨A,h1,h2⟩:=ct.zS b p hb;refine⟨A, ?_,h2⟩;show(if c.fresh=true then kn w b else ρ.fz b)=some A;cases c.fresh with
  |true=>exact n8.2 (hH.fz b A h1).1
  |false=>exact h1
 have K0:=hc d hp w (jy c.fresh w ρ) xs hF ac6 (h2 xs hd);have hin:CallsIn (dO none) m P c.f xs.toArray w _:=callsIn_wide.2 K0;refine hin.mono ?_;rintro e w' ⟨x,F',rfl,hx,ac7,hfz,hb⟩;have ac8:∀b A,ρ.fz b=some A->b<w.heap.size:=fun b A h=>by
  obtain⟨⟨e,fr,h⟩,_⟩:=hH.fz b A h;exact(dz.1 h).1
 have hle:cA ρ ⟨ρ.at',fun b=>if w.heap.size<=b then F'.fz b else ρ.fz b⟩:=⟨fun _ _ h=>h,fun b A h=>by
  show(if w.heap.size<=b then F'.fz b else ρ.fz b)=some A;rw [if_neg (by have:=ac8 b A h;omega)];exact h⟩
 refine⟨x,⟨ρ.at',fun b=>if w.heap.size<=b then F'.fz b else ρ.fz b⟩,rfl,ac5 (fun b A ko=> ?_) hx,⟨fun i k hi=> ?_,hH.inj,hH.lt,c6 hH.base hb.size,fun b A ko=> ?_⟩,
  ⟨hle,fun _ _=>rfl,aJ _,hb.size,hb.os,hb.tape,hb.output,fun b hlt _=>hb.block b hlt,fun _ _ h=>h,fun _ _ h=>h,fun b A ko=> ?_⟩⟩
 .show(if w.heap.size<=b then F'.fz b else ρ.fz b)=some A;by_cases h0:w.heap.size<=b
  .rw [if_pos h0];exact ko
  .rw [if_neg h0];rcases hfz b A ko with⟨h3,h4⟩|h3
   .have h4:(if c.fresh then kn w b else ρ.fz b)=some A:=h4;rw [h3]at h4;exact h4
   .exact absurd h3 h0
 .obtain⟨b,c',o,e1,e2,e3,bV⟩:=hH.blk i k hi;have hlt:=(dz.1 e2).1;exact⟨b,c',o,e1,(hb.block b hlt).trans e2,e3.mono hle,bV⟩
 .have ko:(if w.heap.size<=b then F'.fz b else ρ.fz b)=some A:=ko;by_cases h0:w.heap.size<=b
  .rw [if_pos h0]at ko;refine⟨ac7.fz b A ko,fun i k c' hi hr=> ?_⟩;obtain⟨b',c2,o,e1,e2,_⟩:=hH.blk i k hi;have hr:ρ i=some (b,c'):=hr;rw [hr]at e1;cases e1;have:=(dz.1 e2).1;omega
  .rw [if_neg h0]at ko;obtain⟨⟨e,fr,h3⟩,h4⟩:=hH.fz b A ko;exact⟨⟨e,fr,(hb.block b ω).trans h3⟩,h4⟩
 .have ko:(if w.heap.size<=b then F'.fz b else ρ.fz b)=some A:=ko;by_cases h0:w.heap.size<=b
  .exact .inr (.inl h0)
  .rw [if_neg h0]at ko;exact .inl ko
def K1 {f:FuncId} {args:List af} {v:af} {H':ai}:∀{l:List bp},(a8 l f args H).gr=some (.ok v H')->∃c∈l,c.f=f/\(x4 c args H).gr=some (.ok v H')
 |[],h=>by cases h
 |c::l,h=>by
  unfold a8 at h;cases hb:Nat.beq f c.f with
  |true=>rw [hb]at h;exact⟨c,lW,(ac hb).symm,h⟩
  |false=>
   rw [hb]at h;obtain⟨c',h1,h2,h3⟩:=K1 h;exact⟨c',lV _ h1,h2,h3⟩
def gE {bu:bG} {f:FuncId} {args:List af} {v:af} {H':ai} (h:bF bu f args H= .ok v H'):(bu f args H).gr=some (.ok v H'):=by
 unfold bF at h;cases hg:(bu f args H).gr with
 |none=>rw [hg]at h;cases h
 |some r=>rw [hg]at h;rw [show r= .ok v H' from h]
def cM {l:List bp} (hl:∀c∈l,c.Ok P):bD P (bF (a8 l)) where
 mono f args H v H' h:=by
  obtain⟨c,_,_,h3⟩:=K1 (gE h);rw [KZ h3];exact aJ _
 cw f args H v H' h B ρ xs w m hH ct hd hf:=by
  obtain⟨c,h1,rfl,h3⟩:=K1 (gE h);exact SF (hl c h1) h3 m hH ct hd
end
end
end
section
variable [Ground]
noncomputable section
def tZ:Code->List Code
 | .seq a b=>tZ a++tZ b
 |c=>[c]
def fl (c:Code) (p:List Nat):List Code:=tZ (cat c p)
def Ak:Nat:=400
def iy (P:Program) (bu:bG) (n:Nat):List Code->au af->ai->aD R
 |[],T,H=> .ret (.normal T H [])
 |c::l,T,H=>(qA P bu Ak c n false T H []).bind fun r=>match r with
  | .normal T H []=>iy P bu n l T H
  |r=> .ret r
section
variable (P:Program) (bu:bG) (l:List Code)
def vM (k:Nat) (s:bH):aD R:=iy P bu s.n (l.take k) s.T s.H
def oa (s:bH):aD R:=iy P bu s.n l s.T s.H
def pG (k n:Nat) (args:List af):aD R:=iy P bu n (l.take k) (dt args .nil 0) H0
end
def dU (P:Program) (n:Nat) (e:Exit) (σ:Ren) (s':bH):R->Prop
 | .normal T H []=>(match e with | .normal=>fit P σ n T H s'|_=>False)
 | .exit id T H []=>(match e with | .exit i=>gX (Nat.beq i id) (fit P σ n T H s')|_=>False)
 |_=>False
def ua (P:Program) (fn:Func) (fresh:Bool) (res:af):R->Prop
 | .normal _ _ _=>False
 | .ret T H []=>(match jR P fn T H with | .ok v _=>cB fresh H v res|_=>False)
 |_=>False
section
variable {P:Program} {w0:World} {F:Env} {n:Nat} {T:au af} {H:ai} {Q:Exit->au af->ai->Prop}
def cg (X:Ext) (P:Program) (w0:World) (F:Env) (n:Nat):List Code->au af->ai->(Exit->au af->ai->Prop)->Prop
 |[],T,H,Q=>Q .normal T H
 |c::l,T,H,Q=>iK X P w0 F n c T H (gY (fun T H=>cg X P w0 F n l T H Q) Q)
abbrev aW:=cg pE
variable {X:Ext}
def K2 {N N':au af->ai->Prop} {Q':Exit->au af->ai->Prop} (h1:∀T H,N T H->N' T H) (h2:∀e T H,e≠ .normal->Q e T H->Q' e T H):∀e T H,gY N Q e T H->gY N' Q' e T H:=by
 intro e T H h;cases e with
 |normal=>exact h1 T H h
 |_=>exact h2 _ T H τ h
def aW.append:∀{l1 l2:List Code} {T:au af} {H:ai},cg X P w0 F n (l1++l2) T H Q->cg X P w0 F n l1 T H (gY (fun T H=>cg X P w0 F n l2 T H Q) Q)
 |[],l2,T,H,h=>h
 |c::l1,l2,T,H,h=>Goal.mono h (K2 (fun T H h=>aW.append h) fun e T H hn h=>by cases e<;>first |exact absurd rfl hn|exact h)
def aW.split:∀{l1 l2:List Code} {T:au af} {H:ai},cg X P w0 F n l1 T H (gY (fun T H=>cg X P w0 F n l2 T H Q) Q)->cg X P w0 F n (l1++l2) T H Q
 |[],l2,T,H,h=>h
 |c::l1,l2,T,H,h=>Goal.mono h (K2 (fun T H h=>aW.split h) fun e T H hn h=>by cases e<;>first |exact absurd rfl hn|exact h)
def aW.mono {Q':Exit->au af->ai->Prop} (hq:∀e T H,Q e T H->Q' e T H):∀{l:List Code} {T:au af} {H:ai},cg X P w0 F n l T H Q->cg X P w0 F n l T H Q'
 |[],_,_,h=>hq _ _ _ h
 |_::_,_,_,h=>Goal.mono h (K2 (fun _ _ h=>aW.mono hq h) fun e T H _ h=>hq e T H h)
def vN:∀{c:Code} {T:au af} {H:ai} {Q:Exit->au af->ai->Prop},cg X P w0 F n (tZ c) T H Q->iK X P w0 F n c T H Q
 | .seq a b,T,H,Q,h=>by
   refine Goal.seq rfl (vN (aW.mono (fun e T H h=> ?_) (aW.append (l1:=tZ a) (l2:=tZ b) h)));cases e with
   |normal=>exact vN (c:=b) h
   |_=>exact h
 | .skip,T,H,Q,h=>Goal.mono h fun e T H h=>by cases e<;>exact h
 | .region _ _ _,T,H,Q,h=>Goal.mono h fun e T H h=>by cases e<;>exact h
 | .cond _ _ _,T,H,Q,h=>Goal.mono h fun e T H h=>by cases e<;>exact h
 | .block _ _,T,H,Q,h=>Goal.mono h fun e T H h=>by cases e<;>exact h
 | .loop _,T,H,Q,h=>Goal.mono h fun e T H h=>by cases e<;>exact h
 | .rangeFunc _ _ _ _,T,H,Q,h=>Goal.mono h fun e T H h=>by cases e<;>exact h
 | .exit _,T,H,Q,h=>Goal.mono h fun e T H h=>by cases e<;>exact h
 | .scope _,T,H,Q,h=>Goal.mono h fun e T H h=>by cases e<;>exact h
 | .label _,T,H,Q,h=>Goal.mono h fun e T H h=>by cases e<;>exact h
 | .goto _,T,H,Q,h=>Goal.mono h fun e T H h=>by cases e<;>exact h
 | .ret,T,H,Q,h=>Goal.mono h fun e T H h=>by cases e<;>exact h
 | .refuse _,T,H,Q,h=>Goal.mono h fun e T H h=>by cases e<;>exact h
variable {bu:bG}
def aW.iy (hK:e7 P) (hm:P.follows .mixedOrders=true) (hS:bD P (bF bu)) {ob:R->Prop} (hq:∀r,ob r->Hm Q r):∀{l:List Code} {T:au af} {H:ai} {r:R},(Sv.iy P bu n l T H).gr=some r->ob r->cg X P w0 F n l T H Q
 |[],T,H,r,h,h1=>by
  cases h;exact hq _ h1
 |c::l,T,H,r,h,h1=>by
  obtain⟨r1,g1,g2⟩:=mA h;have run:∀ud:Exit->au af->ai->Prop,Hm ud r1->iK X P w0 F n c T H ud:=fun ud h2=>by
   intro a w hs k;obtain⟨e,aO,H',ho,vF⟩:=SC h2;have g1:=g1;rw [<-SB Ak c n X.rd.isSome]at g1;have hr:=KN (P:=P) (bu:=bu) Ak c n X.rd.isSome T H [] r1 g1 (by rintro rfl;cases ho);have hI:qq P (qh P (n4 P (bF bu)) Ak):=J2 hK (Cx hK hm hS) Ak;have ho':(qh P (n4 P (bF bu)) Ak c n X.rd.isSome T H X.m).out=some (e,aO,H',X.m):=by rw [KX,hr];exact SA ho
   obtain⟨ρ,aR,hf,hfz,hkp⟩:=hs.ex;refine hI.cw _ _ _ _ _ _ _ _ _ _ ho' w0.heap.size ρ a w X.rd k _ rfl aR (by rw [hs.defers];exact hkp.xY) (fun i h1 _=>hf i h1) fun ρ' a' w' g1 g2 g3=> ?_
   refine .inl ⟨aO,H',vF,⟨⟨ρ',g1,fun i hi=> ?_,fun b A hb=> ?_,KV hkp g2⟩,hs.below.trans (g2.below aR.H),g3.unique (hkp.xY.mono g2.le)⟩⟩
   .rw [g2.ext i (.inr hi)];exact hf i (c6 g2.next hi)
   .rcases g2.mX b A hb with h|h|⟨i,k,c,q1,aQ,b8⟩
    .exact hfz b A h
    .exact .inr (c6 hs.below.size h)
    .obtain⟨b',c',o,e1,_,_,bV⟩:=aR.H.blk i k q1;rw [b8]at e1;cases e1;exact .inr (bV aQ)
  refine run _ ?_;have kL:∀r2,(match r1 with | .normal T H []=>Sv.iy P bu n l T H|r=>aD.ret r).gr=some r2->ob r2->Hm (gY (fun T H=>cg X P w0 F n l T H Q) Q) r1:=by
   intro r2 h2 vF;split at h2
   .exact aW.iy hK hm hS hq h2 vF
   .cases h2;have:=hq _ vF;revert this;rename_i hnn;cases r1 with
    |no=>exact id
    |normal T1 H1 m1=>
     cases m1 with
     |nil=>exact absurd rfl (hnn T1 H1)
     |cons _ _=>exact id
    |exit id' T1 H1 m1=>cases m1<;>exact id
    |goto l' T1 H1 m1=>exact id
    |ret T1 H1 m1=>cases m1<;>exact id
  exact kL r g2 h1
def Goal.SG {c:Code} {Q':Exit->au af->ai->Prop} (h:iK X P w0 F n c T H Q) (hq:∀e T H,Q e T H->Q' e T H\/∃σ s,fit P σ n T H s/\pinned σ s.H.next X.pins=true/\Q' e s.T s.H):iK X P w0 F n c T H Q':=fun a w hs k=>
 wpIn_mono (h a w hs k) fun e a' w' hh=>by
  rcases hh with⟨aO,H',h1,h2⟩|hh
  .rcases hq _ _ _ h1 with h3|⟨σ,s,h3,h5,h4⟩
   .exact .inl ⟨aO,H',h3,h2⟩
   .exact .inl ⟨s.T,s.H,h4,h2.n7 h3 h5⟩
  .exact .inr hh
def aW.K3 {s':bH} {e:Exit} (hq:Q e s'.T s'.H):∀{l:List Code} {T:au af} {H:ai},l≠[]->cg X P w0 F n l T H (fun e' aO H'=>e'=e/\∃σ,fit P σ n aO H' s'/\pinned σ s'.H.next X.pins=true)->cg X P w0 F n l T H Q
 |[],_,_,hl,_=>absurd rfl hl
 |[c],T,H,_,h=>Goal.SG h fun e' aO H' h'=> .inr (by
    cases e' with
    |normal=>obtain⟨rfl,σ,hf,hp⟩:=h';exact⟨σ,s',hf,hp,hq⟩
    |_=>obtain⟨rfl,σ,hf,hp⟩:=h';exact⟨σ,s',hf,hp,hq⟩)
 |c::c2::l,T,H,_,h=>Goal.SG h fun e' aO H' h'=>by
   cases e' with
   |normal=>exact .inl (aW.K3 hq τ h')
   |_=>obtain⟨rfl,σ,hf,hp⟩:=h';exact .inr ⟨σ,s',hf,hp,hq⟩
def aW.to (hK:e7 P) (hm:P.follows .mixedOrders=true) (hS:bD P (bF bu)) {l:List Code} {s':bH} {e:Exit} {σ:Ren} (k:Nat) (D:List Bool) (h:(Sv.iy P bu n (l.take k) T H).path D (dU P n e σ s')) (hne:(l.take k).isEmpty=false)
  (hq:gY (fun T H=>cg X P w0 F n (l.drop k) T H Q) Q e s'.T s'.H) (hp:pinned σ s'.H.next X.pins=true:=by rfl):cg X P w0 F n l T H Q:=by
 obtain⟨r,h1,h2⟩:=aD.tV _ _ h;have key:cg X P w0 F n (l.take k) T H (fun e' aO H'=>e'=e/\∃σ,fit P σ n aO H' s'/\pinned σ s'.H.next X.pins=true):=by
  refine aW.iy hK hm hS (ob:=dU P n e σ s') (fun r hr=> ?_) h1 h2;unfold dU at hr;split at hr
  .split at hr
   .exact⟨rfl,σ,hr,hp⟩
   .exact hr.elim
  .split at hr
   .obtain⟨g1,g2⟩:=iZ hr;rw [ac g1];exact⟨rfl,σ,g2,hp⟩
   .exact hr.elim
  .exact hr.elim
 have kP:cg X P w0 F n (l.take k) T H (gY (fun T H=>cg X P w0 F n (l.drop k) T H Q) Q):=aW.K3 (s':=s') (e:=e) hq (fun hh=>by rw [hh]at hne;cases hne) key;have:=aW.split kP;rwa [List.take_append_drop]at this
def aW.ac9 (hK:e7 P) (hm:P.follows .mixedOrders=true) (hS:bD P (bF bu)) {l:List Code} {s':bH} {e:Exit} {σ:Ren} (k:Nat) (D:List Bool) (h:(Sv.iy P bu n (l.take k) T H).tU D (dU P n e σ s')) (hne:(l.take k).isEmpty=false)
  (hq:gY (fun T H=>cg X P w0 F n (l.drop k) T H Q) Q e s'.T s'.H) (hp:pinned σ s'.H.next X.pins=true:=by rfl):cg X P w0 F n l T H Q:=by
 obtain⟨r,h1,h2⟩:=aD.Cy _ _ h;have key:cg X P w0 F n (l.take k) T H (fun e' aO H'=>e'=e/\∃σ,fit P σ n aO H' s'/\pinned σ s'.H.next X.pins=true):=by
  refine aW.iy hK hm hS (ob:=dU P n e σ s') (fun r hr=> ?_) h1 h2;unfold dU at hr;split at hr
  .split at hr
   .exact⟨rfl,σ,hr,hp⟩
   .exact hr.elim
  .split at hr
   .obtain⟨g1,g2⟩:=iZ hr;rw [ac g1];exact⟨rfl,σ,g2,hp⟩
   .exact hr.elim
  .exact hr.elim
 have kP:cg X P w0 F n (l.take k) T H (gY (fun T H=>cg X P w0 F n (l.drop k) T H Q) Q):=aW.K3 (s':=s') (e:=e) hq (fun hh=>by rw [hh]at hne;cases hne) key;have:=aW.split kP;rwa [List.take_append_drop]at this
def aW.st (hK:e7 P) (hm:P.follows .mixedOrders=true) (hS:bD P (bF bu)) {l:List Code} {s s':bH} {e:Exit} {σ:Ren} (k:Nat) (D:List Bool) (h:(vM P bu l k s).path D (dU P s.n e σ s')) (hne:(l.take k).isEmpty=false)
  (hq:gY (fun T H=>cg X P w0 F s.n (l.drop k) T H Q) Q e s'.T s'.H) (hp:pinned σ s'.H.next X.pins=true:=by rfl):cg X P w0 F s.n l s.T s.H Q:=aW.to hK hm hS k D h hne hq hp
def aW.all (hK:e7 P) (hm:P.follows .mixedOrders=true) (hS:bD P (bF bu)) {l:List Code} {s s':bH} {e:Exit} {σ:Ren} (D:List Bool) (h:(oa P bu l s).path D (dU P s.n e σ s')) (hne:l.isEmpty=false)
  (hq:Q e s'.T s'.H) (hp:pinned σ s'.H.next X.pins=true:=by rfl):cg X P w0 F s.n l s.T s.H Q:=by
 have hk:l.take l.length=l:=dI;refine aW.to hK hm hS (s':=s') (e:=e) (σ:=σ) l.length D (by rw [hk];exact h) (by rw [hk];exact hne) ?_ hp;rw [List.drop_length];cases e<;>exact hq
def cG {N:au af->ai->Prop} {i:Nat} {T:au af} {H:ai} (h:Q (.exit i) T H):gY N Q (.exit i) T H:=h
def aW.ret (hK:e7 P) (hm:P.follows .mixedOrders=true) (hS:bD P (bF bu)) {l:List Code} {fn:Func} {fresh:Bool} {res:af} (k:Nat) (D:List Bool) (h:(Sv.iy P bu n (l.take k) T H).path D (ua P fn fresh res))
  (hq:∀T H,gZ P fresh fn res .ret T H->Q .ret T H):cg X P w0 F n l T H Q:=by
 obtain⟨r,h1,h2⟩:=aD.tV _ _ h;have key:cg X P w0 F n (l.take k) T H (gY (fun T H=>cg X P w0 F n (l.drop k) T H Q) Q):=by
  refine aW.iy hK hm hS (ob:=ua P fn fresh res) (fun r hr=> ?_) h1 h2;unfold ua at hr;split at hr
  .exact hr.elim
  .exact hq _ _ hr
  .exact hr.elim
 have:=aW.split key;rwa [List.take_append_drop]at this
def aW.vO (hK:e7 P) (hm:P.follows .mixedOrders=true) (hS:bD P (bF bu)) {l:List Code} {s:bH} {fn:Func} {fresh:Bool} {res:af} (D:List Bool) (h:(oa P bu l s).path D (ua P fn fresh res))
  (hq:∀T H,gZ P fresh fn res .ret T H->Q .ret T H):cg X P w0 F s.n l s.T s.H Q:=by
 refine aW.ret hK hm hS (fn:=fn) (fresh:=fresh) (res:=res) l.length D ?_ hq;rw [dI];exact h
def aW.loop {ι:Type} {l rest:List Code} {id:Nat} {b:Code} (hl:l= .block id (.loop b)::rest) (I:ι->bH) (μ:ι->Nat) (i0:ι) (_:∀i,(I i).n=n)
  (step:∀i,cg X P w0 F n (tZ b) (I i).T (I i).H (gY (fun T H=>∃j,μ j<μ i/\T=(I j).T/\H=(I j).H) (CF id (gY (fun T H=>cg X P w0 F n rest T H Q) Q)))):cg X P w0 F n l (I i0).T (I i0).H Q:=by
 subst hl;refine Goal.block (x:= .loop b) rfl ?_;have key:∀m i,μ i<m->∀a w,mB X P w0 F n (I i).T (I i).H a w->∀k,Code.roundsIn (dO X.rd) k P b (fun e a' w'=>(∃aO H',CF id (gY (fun T H=>cg X P w0 F n rest T H Q) Q) e aO H'/\mB X P w0 F n aO H' a' w')\/(e= .ret/\X.R a' w')) m a w:=by
  intro m;induction m with
  |zero=>intro i hi;exact absurd hi (Nat.not_lt_zero _)
  |succ m ih=>
   intro i hi a w hs k;rw [roundsIn_succ];refine wpIn_mono (vN (step i) a w hs k) fun e a' w' hh=> ?_
   rcases hh with⟨aO,H',h1,h2⟩|⟨rfl,hh⟩
   .cases e with
    |normal=>
     obtain⟨j,g1,rfl,rfl⟩:=h1;exact ih j ω a' w' h2 k
    |_=>exact .inl ⟨aO,H',h1,h2⟩
   .exact .inr ⟨rfl,hh⟩
 intro a w hs k;exact wpIn_loop_rounds (μ i0+1) (key (μ i0+1) i0 (fB _) a w hs k)
def cO {id:Nat} {T:au af} {H:ai} (h:Q .normal T H):CF id Q (.exit id) T H:=by
 show if id=id then _ else _
 rw [if_pos rfl];exact h
def eL {r:Int} (h: -9223372036854775808<=r/\r<=9223372036854775807):fits .i64 r=true:=by
 unfold fits;rw [ae];exact⟨ay h.1,ay h.2⟩
def ada {a b:Nat} (h:a=b):Nat.beq a b=true:=by rw [h,Nat.beq_refl]
def K4:Value->Bool
 | .int _ _| .bool _| .string _| .pointer none| .slice none _ _| .map none| .nilFunc| .nilIface=>true
 | .func _ ⟨[]⟩ ⟨[]⟩=>true
 |_=>false
def Al:af->Bool
 | .raw v=>K4 v
 | .ptr _ _| .slice _ _ _ _| .map _| .func _ [] []| .bt _ _ _| .ff _ _ _ _| .bT _ _ _ _ _ _| .dA _ _ _ _ _=>true
 |_=>false
def K5:af->Bool
 | .agg l| .tuple l=>l.all Al
 |v=>Al v
def adb {v:Value} (h:K4 v=true):xM 3 v v=true:=by
 unfold K4 at h;split at h<;>first |(simp [xM,Cp];done)|cases h
def av.beq_refl:∀(t:av) (a:t.den),t.beq a a=true
 | .int _,a=>ay rfl
 | .bool,a=>beq_self_eq_true a
 | .str,a=>ay rfl
 | .list _ t,a=>by
   show(Nat.beq a.length a.length&&(List.zip a a).all fun p=>t.beq p.1 p.2)=true
   rw [Nat.beq_refl,Bool.true_and,List.all_eq_true];intro p hp;obtain⟨i,h1,h2⟩:=List.mem_iff_getElem.1 hp;have Cs:p=((a:List t.den)[i]'(by simp at h1;exact h1),(a:List t.den)[i]'(by simp at h1;exact h1)):=by rw [<-h2];simp
   rw [Cs];exact t.beq_refl _
 | .pair s t,a=>by
   show(s.beq a.1 a.1&&t.beq a.2 a.2)=true;rw [s.beq_refl,t.beq_refl];rfl
 | .ptr t,a=>t.beq_refl a
 | .unit,_=>rfl
def Hn (t:av) (xs:List t.den):zX t t xs xs=true:=by
 unfold zX;rw [dif_pos rfl];exact av.beq_refl (.list false t) xs
def ade (c:aZ):c.same c=true:=by cases c<;>simp [aZ.same]
def K6 {v:af} (h:Al v=true):vE v v=true:=by
 unfold Al at h;split at h
 .simp [vE,adb h]
 all_goals first |(simp [vE,Hn,ade];done)|cases h
def K7:∀{l:List af},l.all Al=true->qw l l=true
 |[],_=>rfl
 |v::l,h=>by
  rw [List.all_cons,ae]at h;show(vE v v&&qw l l)=true;rw [K6 h.1,K7 h.2];rfl
def aF {v:af} (h:K5 v=true:=by kernel_rfl):af.same v v=true:=by
 unfold K5 at h;split at h
 .exact K7 h
 .exact K7 h
 .next h1 h2=>
  cases v with
  |func f a b=>
   cases a<;>cases b<;>first |exact K6 h|exact absurd h (by simp [Al])
  |_=>first |exact absurd rfl (h1 _)|exact absurd rfl (h2 _)|exact K6 h
def K8 (c:Code):cat c []=c:=by cases c<;>rfl
def bL {fresh:Bool} {f:FuncId} {fn:Func} {c:Code} {args:List af} {res:af} (hf:P.funcs[f]? =some fn) (hb:fn.body=some c) (hl:Nat.ble args.length fn.ntmps=true)
  (h:∀w F,aW P w F fn.ntmps (fl c []) (dt args .nil 0) H0 (gZ P fresh fn res)):Holds P fresh f args res:=
 holds_of hf hb (bU hl) fun w F=>vN (by have:=h w F;rwa [fl,K8]at this)
end
end
end
end Go.Proofs.YtibikmmdbdlafaaGreatDoor.Sv
