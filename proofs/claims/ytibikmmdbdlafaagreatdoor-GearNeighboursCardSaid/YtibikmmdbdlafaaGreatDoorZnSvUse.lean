import Derived.Test.YtibikmmdbdlafaaGreatDoorZnSvFit
set_option linter.defProp false
set_option linter.unusedSectionVars false
set_option linter.unusedSimpArgs false
namespace Go.Proofs.YtibikmmdbdlafaaGreatDoor.Sv
open Go.RowKit
section
variable [Ground]
noncomputable section
structure Ext where
 rd:Option Nat
 K:Nat->Option Obj
 R:Act->World->Prop
 pin:List Nat:=[]
 A:Nat->Option (Nat×Nat):=fun _=>none
 Z:Nat->Option (Array Value):=fun _=>none
 sz:Nat:=0
 m:List Nat:=[]
 ds:List Deferred:=[]
 Y:Nat->Option Obj:=fun _=>none
def Ext.pins (X:Ext):List Nat:=X.m++X.pin
def pI:Ext:={rd:=none,K:=fun _=>none,R:=fun _ _=>False}
structure Kept (X:Ext) (ρ:Env) (H:ai) (w:World):Prop where
 k:∀b o,X.K b=some o->w.heap[b]? =some o/\¬Own ρ H b
 pin:∀i,i∈X.pin->i<H.next/\∀x,X.A i=some x->ρ i=some x
 z:∀b A,X.Z b=some A->ρ.fz b=some A
 sz:X.sz<=w.heap.size
 KQ:∀b o,X.K b=some o->ρ.fz b=none
 xW:eF ρ X.m X.ds
 y:∀b o,X.Y b=some o->w.heap[b]? =some o/\¬Own ρ H b
structure mK (X:Ext) (P:Program) (w0:World) (F:Env) (n:Nat) (T:au af) (H:ai) (a:Act) (w:World):Prop where
 ex:∃ρ,eE P w0.heap.size ρ n T H a w/\(∀i,H.next<=i->ρ i=none)/\(∀b A,ρ.fz b=some A->F.fz b=some A\/w0.heap.size<=b)/\Kept X ρ H w
 below:Below w0.heap.size w0 w
 defers:a.defers=X.ds
abbrev Sat:=mK pI
def iT (X:Ext) (P:Program) (w0:World) (F:Env) (n:Nat) (c:Code) (T:au af) (H:ai) (Q:Exit->au af->ai->Prop):Prop:=
 ∀a w,mK X P w0 F n T H a w->∀k,c.wpIn (dU X.rd) k P (fun e a' w'=>(∃aO H',Q e aO H'/\mK X P w0 F n aO H' a' w')\/(e= .ret/\X.R a' w')) a w
abbrev Goal:=iT pI
def KR {X:Ext} {ρ ρ':Env} {H H':ai} {w w':World} (h:Kept X ρ H w) (s:bR ρ H w ρ' H' w'):Kept X ρ' H' w':=
 ⟨fun b o hb=>by
    obtain⟨h1,h2⟩:=h.k b o hb;have hlt:b<w.heap.size:=(dG.1 h1).1;exact⟨(s.frame b hlt h2).trans h1,fun hh=>h2 (s.own b hlt hh)⟩,
   fun i hi=>⟨Nat.lt_of_lt_of_le (h.pin i hi).1 s.next,fun x hx=>s.le _ _ ((h.pin i hi).2 x hx)⟩,
   fun b A hb=>s.le.fz _ _ (h.z b A hb),dc h.sz s.size,fun b o hb=>by
    obtain⟨h1,h2⟩:=h.k b o hb;have hlt:b<w.heap.size:=(dG.1 h1).1;cases hz:ρ'.fz b with
    |none=>rfl
    |some A=>
     rcases s.nr b A hz with g|g|g
     .rw [h.KQ b o hb]at g;cases g
     .omega
     .exact absurd g h2,h.xW.mono s.le,fun b o hb=>by
    obtain⟨h1,h2⟩:=h.y b o hb;have hlt:b<w.heap.size:=(dG.1 h1).1;exact⟨(s.frame b hlt h2).trans h1,fun hh=>h2 (s.own b hlt hh)⟩⟩
def eF.Sk {ρ ρ':Env}:∀{m:List Nat} {ds:List Deferred},eF ρ m ds->(∀i∈m,∀x,ρ i=some x->ρ' i=some x)->eF ρ' m ds
 |[],_,h,_=>h
 |i::_,_,⟨b,c,ds',h1,h2,h3⟩,hc=>⟨b,c,ds',hc i mj _ h1,h2,eF.Sk h3 fun j hj=>hc j (mh _ hj)⟩
def eF.unique {ρ:Env}:∀{m:List Nat} {ds ds':List Deferred},eF ρ m ds->eF ρ m ds'->ds=ds'
 |[],_,_,h,h'=>Eq.trans (show _=[]from h) (show _=[]from h').symm
 |i::m,_,_,⟨b,c,acS,h1,h2,h3⟩,⟨b',c',acT,k1,k2,c8⟩=>by
  rw [h1]at k1;cases k1;rw [h2,k2,eF.unique h3 c8]
def Kept.re {X:Ext} {ρ ρ':Env} {H H':ai} {w:World} (h:Kept X ρ H w) (hl:cD ρ ρ') (hn:H.next<=H'.next) (ho:∀b,Own ρ' H' b->Own ρ H b) (hz:∀b A,ρ'.fz b=some A->ρ.fz b=some A\/Own ρ H b):Kept X ρ' H' w:=
 ⟨fun b o hb=>⟨(h.k b o hb).1,fun hh=>(h.k b o hb).2 (ho b hh)⟩,fun i hi=>⟨Nat.lt_of_lt_of_le (h.pin i hi).1 hn,fun x hx=>hl _ _ ((h.pin i hi).2 x hx)⟩,fun b A hb=>hl.fz _ _ (h.z b A hb),h.sz,fun b o hb=>by
   cases pg:ρ'.fz b with
   |none=>rfl
   |some A=>
    rcases hz b A pg with g|g
    .rw [h.KQ b o hb]at g;cases g
    .exact absurd g (h.k b o hb).2,h.xW.mono hl,fun b o hb=>⟨(h.y b o hb).1,fun hh=>(h.y b o hb).2 (ho b hh)⟩⟩
def pinned (σ:Ren) (next:Nat) (l:List Nat):Bool:=l.all fun i=>Nat.ble (i+1) next&&ob σ i i
def Kept.ren {X:Ext} {ρ:Env} {H:ai} {a:Act} {w:World} {P:Program} {B n:Nat} {T:au af} {σ:Ren} {s:bI} (h:Kept X ρ H w) (aR:eE P B ρ n T H a w) (hf:fit P σ n T H s) (hp:pinned σ s.H.next X.pins=true):Kept X (ren σ ρ) s.H w:=
 ⟨fun b o hb=>⟨(h.k b o hb).1,fun hh=>(h.k b o hb).2 (Sj aR hf hh)⟩,
   fun i hi=>by
    have:=List.all_eq_true.1 hp i (List.mem_append_right _ hi);rw [ae]at this;exact⟨bV this.1,fun x hx=>xU this.2 ((h.pin i hi).2 x hx)⟩,
   h.z,h.sz,h.KQ,h.xW.Sk fun i hi x hx=>by
    have:=List.all_eq_true.1 hp i (List.mem_append_left _ hi);rw [ae]at this;exact xU this.2 hx,fun b o hb=>⟨(h.y b o hb).1,fun hh=>(h.y b o hb).2 (Sj aR hf hh)⟩⟩
def R.j4 (r:R) (m:List Nat):R:=match r with
 | .no=> .no
 | .normal T H k=> .normal T H (k++m)
 | .exit id T H k=> .exit id T H (k++m)
 | .goto l T H k=> .goto l T H (k++m)
 | .ret T H k=> .ret T H (k++m)
def KS (r:R) (k m:List Nat):(r.j4 k).j4 m=r.j4 (k++m):=by cases r<;>simp [R.j4,rA]
def Sl {r:R} {e:Exit} {aO:au af} {H':ai} {k m:List Nat} (h:r.out=some (e,aO,H',k)):(r.j4 m).out=some (e,aO,H',k++m):=by
 cases r<;>cases h<;>rfl
def KT {body:au af->ai->List Nat->R} (hb:∀T H m,body T H m=(body T H []).j4 m):∀(k:Nat) (T:au af) (H:ai) (m:List Nat),iter body k T H m=(iter body k T H []).j4 m
 |0,_,_,_=>rfl
 |k+1,T,H,m=>by
  show @R.rec (fun _=>R) .no (iter body k) .exit .goto .ret (body T H m)=(@R.rec (fun _=>R) .no (iter body k) .exit .goto .ret (body T H [])).j4 m
  rw [hb T H m];cases body T H []with
  |no=>rfl
  |normal T1 H1 k1=>
   show iter body k T1 H1 (k1++m)=(iter body k T1 H1 k1).j4 m;rw [KT hb k T1 H1 (k1++m),KT hb k T1 H1 k1,KS]
  |exit _ _ _ _=>rfl
  |goto _ _ _ _=>rfl
  |ret _ _ _=>rfl
def KU {P:Program} {draw:o6}:∀(fuel:Nat) (c:Code) (n:Nat) (aN:Bool) (T:au af) (H:ai) (m:List Nat),qj P draw fuel c n aN T H m=(qj P draw fuel c n aN T H []).j4 m
 |0,_,_,_,_,_,_=>rfl
 |fuel+1,c,n,aN,T,H,m=>by
  have ih:=KU (P:=P) (draw:=draw) fuel;have e:∀m,qj P draw (fuel+1) c n aN T H m=zE c P draw (qj P draw fuel) n aN T H m:=fun _=>rfl
  rw [e,e];generalize qj P draw fuel=r at ih;cases c with
  |skip=>rfl
  |region id ops d=>
   show zD m (draw d (nk P r) (tF r) ops n T H)=(zD [] (draw d (nk P r) (tF r) ops n T H)).j4 m;cases draw d (nk P r) (tF r) ops n T H<;>rfl
  |seq a b=>
   show @R.rec (fun _=>R) .no (fun T H m=>r b n aN T H m) .exit .goto .ret (r a n aN T H m)=(@R.rec (fun _=>R) .no (fun T H m=>r b n aN T H m) .exit .goto .ret (r a n aN T H [])).j4 m
   rw [ih a n aN T H m];cases r a n aN T H []with
   |no=>rfl
   |normal T1 H1 k1=>
    show r b n aN T1 H1 (k1++m)=(r b n aN T1 H1 k1).j4 m;rw [ih b n aN T1 H1 (k1++m),ih b n aN T1 H1 k1,KS]
   |exit _ _ _ _=>rfl
   |goto _ _ _ _=>rfl
   |ret _ _ _=>rfl
  |cond c x y=>
   show @ni.rec (fun _=>R) .no (fun b=> @Bool.rec (fun _=>R) (r y n aN T H m) (r x n aN T H m) b) (gR (cq T c))=(@ni.rec (fun _=>R) .no (fun b=> @Bool.rec (fun _=>R) (r y n aN T H []) (r x n aN T H []) b) (gR (cq T c))).j4 m
   cases gR (cq T c)with
   |no=>rfl
   |mk b=>cases b<;>exact ih _ _ _ _ _ _
  |block id b=>
   show @R.rec (fun _=>R) .no .normal (fun i T H m=> @Bool.rec (fun _=>R) (.exit i T H m) (.normal T H m) (Nat.beq i id)) .goto .ret (r b n aN T H m)=(@R.rec (fun _=>R) .no .normal (fun i T H m=> @Bool.rec (fun _=>R) (.exit i T H m) (.normal T H m) (Nat.beq i id)) .goto .ret (r b n aN T H [])).j4 m
   rw [ih b n aN T H m];cases r b n aN T H []with
   |no=>rfl
   |normal _ _ _=>rfl
   |exit i T1 H1 k1=>
    show @Bool.rec (fun _=>R) (.exit i T1 H1 (k1++m)) (.normal T1 H1 (k1++m)) (Nat.beq i id)=(@Bool.rec (fun _=>R) (.exit i T1 H1 k1) (.normal T1 H1 k1) (Nat.beq i id)).j4 m
    cases Nat.beq i id<;>rfl
   |goto _ _ _ _=>rfl
   |ret _ _ _=>rfl
  |loop b=>exact KT (ih b n aN) rounds T H m
  |rangeFunc f ps a b=>
   show @Bool.rec (fun _=>R) (rI P r f ps a b n T H m) .no aN=(@Bool.rec (fun _=>R) (rI P r f ps a b n T H []) .no aN).j4 m
   cases aN with
   |true=>rfl
   |false=>
    show rI P r f ps a b n T H m=(rI P r f ps a b n T H []).j4 m;unfold rI;split
    .rename_i g args H2 _;unfold B1;split
     .split
      .split
       .rfl
       .split
        .rfl
        .rename_i c _;rw [ih c n false _ _ (H.next::m),ih c n false _ _ [H.next],KS];rfl
      .rfl
     .rfl
    .rfl
  |exit id=>rfl
  |scope b=>
   show @R.rec (fun _=>R) .no .normal .exit (fun _ _ _ _=> .no) .ret (r b n aN T H m)=(@R.rec (fun _=>R) .no .normal .exit (fun _ _ _ _=> .no) .ret (r b n aN T H [])).j4 m
   rw [ih b n aN T H m];cases r b n aN T H []<;>rfl
  |label _=>rfl
  |goto _=>rfl
  |ret=>rfl
  |refuse _=>rfl
def Sm {P:Program} {bw:bG}:∀(fuel:Nat) (c:Code) (n:Nat) (T:au af) (H:ai) (m:List Nat),qz P bw fuel c n true T H m=qz P bw fuel c n false T H m
 |0,_,_,_,_,_=>rfl
 |fuel+1,c,n,T,H,m=>by
  have ih:=Sm (P:=P) (bw:=bw) fuel;show Aa P (z8 bw (xR P (qz P bw fuel))) (qz P bw fuel) c n true T H m=Aa P (z8 bw (xR P (qz P bw fuel))) (qz P bw fuel) c n false T H m;cases c<;>simp only [Aa,ih]
def Sn {P:Program} {bw:bG} (fuel:Nat) (c:Code) (n:Nat) (r:Bool) (T:au af) (H:ai) (m:List Nat):qz P bw fuel c n r T H m=qz P bw fuel c n false T H m:=by
 cases r with
 |false=>rfl
 |true=>exact Sm fuel c n T H m
def Ah (Q:Exit->au af->ai->Prop):R->Prop
 | .normal T H []=>Q .normal T H
 | .exit id T H []=>Q (.exit id) T H
 | .ret T H []=>Q .ret T H
 |_=>False
def ig (N:au af->ai->Prop) (Q:Exit->au af->ai->Prop):Exit->au af->ai->Prop
 | .normal,T,H=>N T H
 |e,T,H=>Q e T H
def CE (id:Nat) (Q:Exit->au af->ai->Prop):Exit->au af->ai->Prop
 | .exit i,T,H=>if i=id then Q .normal T H else Q (.exit i) T H
 |e,T,H=>Q e T H
def cat:Code->List Nat->Code
 |c,[]=>c
 | .seq a _,0::p=>cat a p
 | .seq _ b,_::p=>cat b p
 | .cond _ a _,0::p=>cat a p
 | .cond _ _ b,_::p=>cat b p
 | .block _ b,_::p=>cat b p
 | .loop b,_::p=>cat b p
 | .scope b,_::p=>cat b p
 | .rangeFunc _ _ a _,0::p=>cat a p
 | .rangeFunc _ _ _ b,_::p=>cat b p
 |_,_=> .skip
section
variable {P:Program} {w0:World} {F:Env} {n:Nat} {T:au af} {H:ai} {Q:Exit->au af->ai->Prop} {c x y:Code}
def Sq {r:R} (h:Ah Q r):∃e aO H',r.out=some (e,aO,H',[])/\Q e aO H':=by
 unfold Ah at h;split at h
 .exact⟨_,_,_,rfl,h⟩
 .exact⟨_,_,_,rfl,h⟩
 .exact⟨_,_,_,rfl,h⟩
 .exact h.elim
def Goal.mono {X:Ext} {Q':Exit->au af->ai->Prop} (h:iT X P w0 F n c T H Q) (hq:∀e T H,Q e T H->Q' e T H):iT X P w0 F n c T H Q':=fun a w hs k=>
 wpIn_mono (h a w hs k) fun _ _ _ hh=>by
  rcases hh with⟨aO,H',h1,h2⟩|hh
  .exact .inl ⟨aO,H',hq _ _ _ h1,h2⟩
  .exact .inr hh
def Goal.run {X:Ext} (hK:ff P) (hm:P.follows .mixedOrders=true) {bw:bG} (hS:bD P (bF bw)) (fuel:Nat) (D:List Bool) (h:(qz P bw fuel c n false T H []).path D (Ah Q)):iT X P w0 F n c T H Q:=by
 intro a w hs k;obtain⟨r,h1,h2⟩:=aE.tX _ _ h;obtain⟨e,aO,H',ho,hq⟩:=Sq h2;rw [<-Sn fuel c n X.rd.isSome]at h1;have hr:=KI (P:=P) (bw:=bw) fuel c n X.rd.isSome T H [] r h1 (by rintro rfl;cases ho);have hI:qq P (qj P (oa P (bF bw)) fuel):=JX hK (Cw hK hm hS) fuel;have ho':(qj P (oa P (bF bw)) fuel c n X.rd.isSome T H X.m).out=some (e,aO,H',X.m):=by rw [KU,hr];exact Sl ho
 obtain⟨ρ,aR,hf,hfz,hkp⟩:=hs.ex;refine hI.cz _ _ _ _ _ _ _ _ _ _ ho' w0.heap.size ρ a w X.rd k _ rfl aR (by rw [hs.defers];exact hkp.xW) (fun i h1 _=>hf i h1) fun ρ' a' w' g1 g2 g3=> ?_
 refine .inl ⟨aO,H',hq,⟨⟨ρ',g1,fun i hi=> ?_,fun b A hb=> ?_,KR hkp g2⟩,hs.below.trans (g2.below aR.H),g3.unique (hkp.xW.mono g2.le)⟩⟩
 .rw [g2.ext i (.inr hi)];exact hf i (dc g2.next hi)
 .rcases g2.nr b A hb with h|h|⟨i,k,c,q1,aP,b8⟩
  .exact hfz b A h
  .exact .inr (dc hs.below.size h)
  .obtain⟨b',c',o,e1,_,_,bW⟩:=aR.H.blk i k q1;rw [b8]at e1;cases e1;exact .inr (bW aP)
def mK.od {X:Ext} {a:Act} {w:World} {σ:Ren} {s:bI} (hs:mK X P w0 F n T H a w) (h:fit P σ n T H s) (hp:pinned σ s.H.next X.pins=true):mK X P w0 F n s.T s.H a w:=by
 obtain⟨ρ,aR,hf,hfz,hkp⟩:=hs.ex;obtain⟨h1,h2⟩:=acO aR h;exact⟨⟨ren σ ρ,h1,h2,hfz,hkp.ren aR h hp⟩,hs.below,hs.defers⟩
def Goal.od {X:Ext} {σ:Ren} {s:bI} (h:fit P σ n T H s) (hg:iT X P w0 F n c s.T s.H Q) (hp:pinned σ s.H.next X.pins=true:=by rfl):iT X P w0 F n c T H Q:=fun a w hs k=>hg a w (hs.od h hp) k
def Goal.seq {X:Ext} (hc:c= .seq x y) (h:iT X P w0 F n x T H (ig (fun T H=>iT X P w0 F n y T H Q) Q)):iT X P w0 F n c T H Q:=by
 subst hc;intro a w hs k;refine wpIn_seq (wpIn_mono (h a w hs k) fun e a' w' hh=> ?_);rcases hh with⟨aO,H',h1,h2⟩|⟨rfl,hh⟩
 .cases e with
  |normal=>exact h1 a' w' h2 k
  |_=>exact .inl ⟨aO,H',h1,h2⟩
 .exact .inr ⟨rfl,hh⟩
def Goal.block {X:Ext} {id:Nat} (hc:c= .block id x) (h:iT X P w0 F n x T H (CE id Q)):iT X P w0 F n c T H Q:=by
 subst hc;intro a w hs k;refine wpIn_block (wpIn_mono (h a w hs k) fun e a' w' hh=> ?_);rcases hh with⟨aO,H',h1,h2⟩|⟨rfl,hh⟩
 .cases e with
  |exit i=>
   show if i=id then _ else _
   have h1:if i=id then Q .normal aO H' else Q (.exit i) aO H':=h1
   by_cases hi:i=id
   .rw [if_pos hi]at h1 ⊢;exact .inl ⟨aO,H',h1,h2⟩
   .rw [if_neg hi]at h1 ⊢;exact .inl ⟨aO,H',h1,h2⟩
  |_=>exact .inl ⟨aO,H',h1,h2⟩
 .exact .inr ⟨rfl,hh⟩
def Goal.scope {X:Ext} (hc:c= .scope x) (h:iT X P w0 F n x T H (fun e T H=>(∀l,e≠ .goto l)/\Q e T H)):iT X P w0 F n c T H Q:=by
 subst hc;intro a w hs k;refine JK (wpIn_mono (h a w hs k) fun e a' w' hh=> ?_);rcases hh with⟨aO,H',h1,h2⟩|⟨rfl,hh⟩
 .cases e with
  |goto l=>exact absurd rfl (h1.1 l)
  |_=>exact .inl ⟨aO,H',h1.2,h2⟩
 .exact .inr ⟨rfl,hh⟩
def Goal.loop {X:Ext} {ι:Type} (hc:c= .loop x) (I:ι->bI) (μ:ι->Nat) (acU:Ren) (i0:ι) (h0:fit P acU n T H (I i0))
  (step:∀i,iT X P w0 F n x (I i).T (I i).H (ig (fun T H=>∃σ j,μ j<μ i/\fit P σ n T H (I j)) Q)) (hp:∀σ i,pinned σ (I i).H.next X.pins=true:=by exact fun _ _=>rfl):iT X P w0 F n c T H Q:=by
 subst hc;refine Goal.od h0 ?_ (hp _ _);have key:∀m i,μ i<m->∀a w,mK X P w0 F n (I i).T (I i).H a w->∀k,Code.roundsIn (dU X.rd) k P x (fun e a' w'=>(∃aO H',Q e aO H'/\mK X P w0 F n aO H' a' w')\/(e= .ret/\X.R a' w')) m a w:=by
  intro m;induction m with
  |zero=>intro i hi;exact absurd hi (Nat.not_lt_zero _)
  |succ m ih=>
   intro i hi a w hs k;rw [roundsIn_succ];refine wpIn_mono (step i a w hs k) fun e a' w' hh=> ?_
   rcases hh with⟨aO,H',h1,h2⟩|⟨rfl,hh⟩
   .cases e with
    |normal=>
     obtain⟨σ,j,g1,g2⟩:=h1;exact ih j (by omega) a' w' (h2.od g2 (hp _ _)) k
    |_=>exact .inl ⟨aO,H',h1,h2⟩
   .exact .inr ⟨rfl,hh⟩
 intro a w hs k;exact wpIn_loop_rounds (μ i0+1) (key (μ i0+1) i0 (fL _) a w hs k)
end
def av.lS:av->Bool
 | .list _ _=>false
 | .ptr _=>false
 | .pair a b=>a.lS&&b.lS
 |_=>true
mutual
def cG (fresh:Bool) (H:ai):af->af->Prop
 | .raw (.slice none 0 0), .bu _ _ ys=>ys=[]
 | .raw a, .raw b=>xT a b
 | .bu z t xs, .bu z' u ys=>ic (!fresh) (Fw z z' ys.length (pF t u xs ys))
 | .bU e t i k len _, .bu z u ys=>ic (decide (t=u)&&(!fresh||t.lS)) (len=ys.length/\ys=((bP u (H.get i)).drop k).take len/\(len=0\/bA e u (H.get i) (k+len-1)=true)/\(z=true->len≠0))
 | .slice i off n _, .bu z u ys=>(match H.get i with
   |some (.cells _ cs _ _ false)=>ic (!fresh||u.lS) (match u.rD n (cut cs off (n*u.size))with
    |some ds=>ds=ys/\(Nat.ble (off+n*u.size) cs.length&&(!z||Nat.ble 1 n))=true
    |none=>False)
   |_=>False)
 | .agg l, .agg l'=>tZ fresh H l l'
 | .tuple l, .tuple l'=>tZ fresh H l l'
 |_,_=>False
def tZ (fresh:Bool) (H:ai):List af->List af->Prop
 |[],[]=>True
 |v::l,v'::l'=>cG fresh H v v'/\tZ fresh H l l'
 |_,_=>False
end
structure ua (w:World) (F:Env):Prop where
 pJ:∀i x,F i=some x->i<64
 all:∀g,g<64->∃c,F g=some (g,c)
 fz:∀b A,F.fz b=some A->∃e fr,w.heap[b]? =some (.cells A e fr)
def vL (F:Env):Prop:=∀b p,Ground.g b=some p->∃A,F.fz b=some A/\p A
def Holds (P:Program) (fresh:Bool) (f:FuncId) (args:List af) (res:af):Prop:=
 ∀(w:World) (F:Env) (xs:List Value),ua w F->vL F->aI F args xs->Calls P f xs.toArray w fun e w'=>∃x F',e= .returned x/\Den F' res x/\ua w' F'/\(∀b A,F'.fz b=some A->(fresh=false/\F.fz b=some A)\/w.heap.size<=b)/\Below w.heap.size w w'
def H0:ai:=⟨.nil,64⟩
def hJ (P:Program) (fresh:Bool) (fn:Func) (res:af):Exit->au af->ai->Prop:=fun e T H=>match e with
 | .normal| .ret=>(match jX P fn T H with | .ok v _=>cG fresh H v res|_=>False)
 |_=>False
section
variable {P:Program}
def kz (w:World) (b:Nat):Option (Array Value):=match w.heap[b]? with
 |some (.cells A _ _)=>some A
 |_=>none
def oe {w:World} {b:Nat} {A:Array Value}:kz w b=some A↔ ∃e fr,w.heap[b]? =some (.cells A e fr):=by
 unfold kz;constructor
 .intro h;split at h
  .rename_i A' e fr hb;cases h;exact⟨e,fr,hb⟩
  .cases h
 .rintro⟨e,fr,h⟩;rw [h]
def CF (fresh:Bool) (n0:Nat) (w:World) (F:Env):Env:=⟨F.at',fun b=>if n0<=b then kz w b else if fresh then none else F.fz b⟩
def xX {ρ ρ':Env}:∀(t:av) (d:t.den) ys,t.lS=true->aI ρ (t.cells d) ys->aI ρ' (t.cells d) ys
 | .int _,d,ys,_,h=>by cases h with |cons h1 h2=>cases h2;rw [h1.cc];exact .cons (.raw _) .nil
 | .bool,d,ys,_,h=>by cases h with |cons h1 h2=>cases h2;rw [h1.cc];exact .cons (.raw _) .nil
 | .str,d,ys,_,h=>by cases h with |cons h1 h2=>cases h2;rw [h1.cc];exact .cons (.raw _) .nil
 | .list z t,d,ys,hn,h=>by cases hn
 | .pair a b,d,ys,hn,h=>by
   simp only [av.lS,ae]at hn;obtain⟨y1,y2,rfl,h1,h2⟩:=aI.split (a:=a.cells d.1) (b:=b.cells d.2) h;exact(xX a d.1 y1 hn.1 h1).append (xX b d.2 y2 hn.2 h2)
 | .ptr t,d,ys,hn,h=>by cases hn
 | .unit,d,ys,_,h=>by cases h;exact .nil
variable {w0 w:World} {F ρ:Env} {H:ai} {fresh:Bool}
mutual
def FA (hH:bk P w0.heap.size ρ H w) (hfz:∀b A,ρ.fz b=some A->F.fz b=some A\/w0.heap.size<=b):∀{v v':af} {x:Value},cG fresh H v v'->Den ρ v x->Den (CF fresh w0.heap.size w F) v' x:=by
 intro v v' x h hd;have hle':fresh=false->∀b A,ρ.fz b=some A->(CF fresh w0.heap.size w F).fz b=some A:=fun hf b A hb=>by
  show(if w0.heap.size<=b then kz w b else if fresh then none else F.fz b)=some A;by_cases h0:w0.heap.size<=b
  .rw [if_pos h0];exact oe.2 (hH.fz b A hb).1
  .rw [if_neg h0,hf];rcases hfz b A hb with h|h
   .exact h
   .exact absurd h h0
 unfold cG at h;split at h
 .subst h;rw [hd.cc];exact .fe fun _=>⟨rfl,rfl⟩
 .rw [hd.cc,Sc h];exact .raw _
 .rename_i z t xs z' u ys;obtain⟨h1,h2⟩:=jk h;obtain⟨h2,h3⟩:=Sb h2;obtain⟨e,rfl⟩:=Af h2;subst e;have hf:fresh=false:=by simpa using h1
  rcases hd.tI with⟨rfl,a,k,rfl,hz⟩|⟨b,off,k,A,g1,g2,g3,g4,rfl,g5⟩
  .exact .fe fun e=>(h3 e).elim hz fun hn=>absurd rfl hn
  .exact .bu (hle' hf _ _ g1) g2 rfl (oc (fun d ys=>pG (hle' hf) t d ys) _ _ g3) g4 fun e=>(h3 e).elim g5 fun hn hxs=>hn (by subst hxs;rfl)
 .rename_i e t i k len cap z u ys;obtain⟨h1,h2,h3,h4,h5⟩:=jk h;rw [ae]at h1;obtain⟨h1,h6⟩:=h1;have h1:=ap h1;subst h1;rcases hd.jA with⟨hl,a,rfl⟩|⟨b,c,kc,g1,g2,g3,rfl⟩
  .subst hl;have:ys=[]:=List.eq_nil_of_length_eq_zero h2.symm;subst this;exact .fe fun e=>absurd rfl (h5 e)
  .rcases h4 with hl|h4
   .subst hl;have:ys=[]:=List.eq_nil_of_length_eq_zero h2.symm;subst this;exact .fe fun e=>absurd rfl (h5 e)
   .obtain⟨b1,b2⟩:=vq h4;by_cases hl:len=0
    .subst hl;have:ys=[]:=List.eq_nil_of_length_eq_zero h2.symm;subst this;exact .fe fun e=>absurd rfl (h5 e)
    .obtain⟨zs,q1,aP,_⟩:=rK hH b1 g1;generalize bP t (H.get i)=xs at b1 b2 h3 aP;have hB:w0.heap.size<=b:=by
      obtain⟨b',c',o,e1,_,_,bW⟩:=hH.blk i _ b1;rw [g1]at e1;cases e1;exact bW rfl
     have hle2:k+len<=xs.length:=by omega
     have e1:(xs.drop k).take len=(xs.take (k+len)).drop k:=by rw [List.take_drop]
     have gU:=lP (off:=0) (A:=zs.toList) (l:=k) (h:=k+len) (by simpa using aP) (by omega) hle2;rw [aw,<-e1,<-h3]at gU;rw [h2];refine .bu (A:=zs) ?_ ?_ rfl ?_ (by omega) (fun e hys=>by subst hys;exact hl h2)
     .show(if w0.heap.size<=b then kz w b else _)=some zs;rw [if_pos hB];exact oe.2 ⟨_,_,q1⟩
     .have e2:=gU.length;have:k*t.size+(t.flat ys).length<=zs.toList.length:=by
       have e3:(t.flat xs).length<=zs.toList.length:=by
        have:=aP.length;simp at this ⊢;omega
       rw [t.jf]at e3 ⊢;rw [<-h2,<-Nat.add_mul];exact dc (Nat.mul_le_mul_right _ hle2) e3
      simpa using this
     .cases hf:fresh with
      |true=>
       rw [hf]at h6;have h6:t.lS=true:=by simpa using h6
       exact oc (fun d ys=>xX t d ys h6) _ _ gU
      |false=>rw [<-hf];exact oc (fun d ys=>pG (hle' hf) t d ys) _ _ gU
 .rename_i i off n cap z u ys;split at h
  .rename_i e cs x fz hg;obtain⟨h1,h2⟩:=jk h;split at h2
   .rename_i ds hrd;obtain⟨rfl,h3⟩:=h2;rw [ae]at h3;obtain⟨hle,acV⟩:=h3;have hle:=bV hle;obtain⟨b,c,k,g1,_,g3,rfl⟩:=hd.iz;obtain⟨zs,xC,q1,_,b8,_,_,qC⟩:=dp hH hg g1;have hcut:=(b8.drop off).take (n*u.size);obtain⟨mL,hn⟩:=av.B6 hrd hcut;subst hn;have hfl:=u.jf ds;have e2:((zs.toList.take cs.length).drop off).take (ds.length*u.size)=(zs.toList.drop off).take (u.flat ds).length:=by
     rw [hfl,List.drop_take,List.take_take,Nat.min_eq_left (by omega)]
    rw [e2]at mL;have hB:w0.heap.size<=b:=by
     obtain⟨b',c',o,e1,_,_,bW⟩:=hH.blk i _ hg;rw [g1]at e1;cases e1;exact bW rfl
    refine .bu (A:=zs) ?_ (by rw [hfl];omega) rfl ?_ g3 fun e hys=> ?_
    .show(if w0.heap.size<=b then kz w b else _)=some zs;rw [if_pos hB];exact oe.2 ⟨_,_,q1⟩
    .cases hf:fresh with
     |true=>
      rw [hf]at h1;have h1:u.lS=true:=by simpa using h1
      exact oc (fun d ys=>xX u d ys h1) _ _ mL
     |false=>rw [<-hf];exact oc (fun d ys=>pG (hle' hf) u d ys) _ _ mL
    .subst e;subst hys;cases acV
   .exact h2.elim
  .exact h.elim
 .obtain⟨xs,g1,rfl⟩:=hd.tG;exact .agg (KV hH hfz h g1)
 .obtain⟨xs,g1,rfl⟩:=hd.B4;exact .tuple (KV hH hfz h g1)
 .exact h.elim
def KV (hH:bk P w0.heap.size ρ H w) (hfz:∀b A,ρ.fz b=some A->F.fz b=some A\/w0.heap.size<=b):∀{v v':List af} {x:List Value},tZ fresh H v v'->aI ρ v x->aI (CF fresh w0.heap.size w F) v' x:=by
 intro v v' x h hd;unfold tZ at h;split at h
 .cases hd;exact .nil
 .cases hd with
  |cons h1 h2=>exact .cons (FA hH hfz h.1 h1) (KV hH hfz h.2 h2)
 .exact h.elim
end
def holds_of {f:FuncId} {fn:Func} {c:Code} {args:List af} {res:af} (hf:P.funcs[f]? =some fn) (hb:fn.body=some c) (hn:args.length<=fn.ntmps)
  (h:∀w F,Goal P w F fn.ntmps c (fX args .nil 0) H0 (hJ P fresh fn res)):Holds P fresh f args res:=by
 intro w F xs hF cv hd;have hg:=h w F;have hH:bk P w.heap.size F H0 w:=⟨fun i k h=>(by rw [show H0.get i=none from au.get_nil i]at h;cases h),fun i j eN e5 b ci cn h=>(by rw [show H0.get i=none from au.get_nil i]at h;cases h),fun i k h=>(by rw [show H0.get i=none from au.get_nil i]at h;cases h),aK _,
  fun b A h=>⟨hF.fz b A h,fun i k c hi=>(by rw [show H0.get i=none from au.get_nil i]at hi;cases hi)⟩⟩
 have hs:Sat P w F fn.ntmps (fX args .nil 0) H0 {tmps:=xs.toArray++Array.replicate (fn.ntmps-xs.toArray.size) undef,defers:=[]} w:=by
  refine⟨⟨F,⟨Ce hd hn,hH,hF.all,cv⟩,fun i hi=> ?_,fun b A h=> .inl h,⟨fun b o h=>(by cases h),fun i hi=>(by cases hi),fun b A h=>(by cases h),Nat.zero_le _,fun b o h=>(by cases h),rfl,fun b o h=>(by cases h)⟩⟩,Below.refl _ _,rfl⟩;have hi:64<=i:=hi;cases CG:F i with
  |none=>rfl
  |some x=>exact absurd (hF.pJ i x CG) (by omega)
 suffices hc:CallsIn (dU none) 0 P f xs.toArray w (fun e w'=>∃x F',e= .returned x/\Den F' res x/\ua w' F'/\(∀b A,F'.fz b=some A->(fresh=false/\F.fz b=some A)\/w.heap.size<=b)/\Below w.heap.size w w')from callsIn_wide.1 hc
 refine callsIn_of_wp_marks hf hb trivial (wpIn_mono (hg _ _ hs 0) fun e a' w' hh=> ?_);obtain⟨aO,H',h1,h2⟩:=hh.resolve_right fun q=>q.2
 obtain⟨ρ,aR,hnone,hfz,_⟩:=h2.ex;have hd':=h2.defers;have key:(match jX P fn aO H' with | .ok v _=>cG fresh H' v res|_=>False)->LeavesInM (dU none) 0 P fn a'.tmps (fun e w'=>∃x F',e= .returned x/\Den F' res x/\ua w' F'/\(∀b A,F'.fz b=some A->(fresh=false/\F.fz b=some A)\/w.heap.size<=b)/\Below w.heap.size w w') a'.defers .returning w':=by
  intro hr;split at hr
  .rename_i v H2 hres;have nx:eF ρ [] a'.defers:=hd';refine xG (T:=aO) (H:=H') [] aR nx (show ko P fn aO H' []= .ok v H2 from hres) fun y w2 r1 r2 r3=> ?_
   obtain⟨rfl,_⟩:=EZ aR hres;refine⟨y,CF fresh w.heap.size w2 F,rfl,FA r2 hfz hr r1,⟨hF.pJ,hF.all,fun b A hb=> ?_⟩,fun b A hb=> ?_,h2.below.trans (r3.below aR.H)⟩
   .have hb:(if w.heap.size<=b then kz w2 b else if fresh then none else F.fz b)=some A:=hb;by_cases h0:w.heap.size<=b
    .rw [if_pos h0]at hb;exact oe.1 hb
    .rw [if_neg h0]at hb;cases hfr:fresh with
     |true=>rw [hfr]at hb;cases hb
     |false=>
      rw [hfr]at hb;obtain⟨e,fr,h3⟩:=hF.fz b A hb;exact⟨e,fr,((h2.below.trans (r3.below aR.H)).block b (by omega)).trans h3⟩
   .have hb:(if w.heap.size<=b then kz w2 b else if fresh then none else F.fz b)=some A:=hb;by_cases h0:w.heap.size<=b
    .exact .inr h0
    .rw [if_neg h0]at hb;cases hfr:fresh with
     |true=>rw [hfr]at hb;cases hb
     |false=>rw [hfr]at hb;exact .inl ⟨rfl,hb⟩
  .exact hr.elim
 cases e with
 |normal=>exact key h1
 |ret=>exact key h1
 |_=>exact h1.elim
end
end
end
section
variable [Ground]
noncomputable section
def iD:List av->Type
 |[]=>Unit
 |t::l=>t.den×iD l
def CI {β:Type} (H:ai) (cH z:Bool) (t:av) (no:aE β) (l:List af) (f:List t.den->List af->aE β):aE β:=match l with
 | .bu z' t' xs::r=>if h:t'=t then(match !z||z' with |true=>f (h ▸ xs) r|false=> .must (Nat.ble 1 xs.length) (f (h ▸ xs) r))else no
 | .raw (.slice none 0 0)::r=>f [] r
 | .bU e u i k len _::r=>(match cH&&(decide (u=t)&& !z)with
   |true=> .must (Nat.beq len 0||bA e t (H.get i) (k+len-1)) (f (((bP t (H.get i)).drop k).take len) r)
   |false=>no)
 | .slice i off n _::r=>(match cH&& !z,H.get i with
   |true,some (.cells _ cs _ _ _)=>(match Nat.ble (off+n*t.size) cs.length,t.rD n (cut cs off (n*t.size))with
    |true,some ds=>f ds r
    |_,_=>no)
   |_,_=>no)
 |_=>no
def av.vM {β:Type} (H:ai) (cH:Bool) (no:aE β):(t:av)->List af->(t.den->List af->aE β)->aE β
 | .int k,l,f=>match wv k l with |some (x,r)=>f x r|none=>no
 | .bool,l,f=>match zl l with |some (x,r)=>f x r|none=>no
 | .str,l,f=>match ww l with |some (x,r)=>f x r|none=>no
 | .list z t,l,f=>CI H cH z t no l f
 | .pair a b,l,f=>a.vM H cH no l fun x r=>b.vM H cH no r fun y r=>f (x,y) r
 | .ptr t,l,f=>match wx t l with |some (x,r)=>f x r|none=>no
 | .unit,l,f=>f () l
def av.isAgg:av->Bool
 | .pair _ _=>true
 | .unit=>true
 |_=>false
def CJ {β:Type} (H:ai) (cH:Bool) (no:aE β) (t:av) (v:af) (f:t.den->aE β):aE β:=match t.isAgg,v with
 |true, .agg cs=>t.vM H cH no cs fun d r=>match r with |[]=>f d|_=>no
 |true,_=>no
 |false,v=>t.vM H cH no [v] fun d r=>match r with |[]=>f d|_=>no
def ud {β:Type} (H:ai) (cH:Bool) (no:aE β):(ps:List av)->List af->(iD ps->aE β)->aE β
 |[],[],f=>f ()
 |t::ps,v::vs,f=>CJ H cH no t v fun d=>ud H cH no ps vs fun ds=>f (d,ds)
 |_,_,_=>no
def wa (t:av) (d:t.den):af:=match t.isAgg with
 |true=> .agg (t.cells d)
 |false=>(t.cells d).headD .bot
def ga:(ts:List av)->iD ts->List af
 |[],_=>[]
 |t::l,d=>wa t d.1::ga l d.2
def og (rs:List av) (d:iD rs):af:=match ga rs d with
 |[v]=>v
 |vs=> .tuple vs
structure bn where
 f:FuncId
 ps:List av
 rs:List av
 fresh:Bool
 pre:iD ps->Bool
 fn:iD ps->iD rs
noncomputable def IN (f:FuncId) (ps rs:List av) (h:Bool) (p:iD ps->Bool) (n:iD ps->iD rs):bn:=⟨f,ps,rs,h,p,n⟩
noncomputable def k_a (f:Func):Code:=f.body.getD .skip
def bn.Ok (P:Program) (c:bn):Prop:=∀d,c.pre d=true->Holds P c.fresh c.f (ga c.ps d) (og c.rs (c.fn d))
def xY (c:bn) (args:List af) (H:ai):aE aM:=ud H c.fresh (.ret .no) c.ps args fun d=> .must (c.pre d) (.ret (.ok (og c.rs (c.fn d)) H))
def a7:List bn->bG
 |[],_,_,_=> .ret .no
 |c::l,f,args,H=>match Nat.beq f c.f with |true=>xY c args H|false=>a7 l f args H
section
variable {P:Program} {B:Nat} {ρ:Env} {H:ai} {w:World}
def jF (cH:Bool) (w:World) (ρ:Env):Env:=⟨fun i=>if i<64 then ρ i else none,fun b=>if cH then kz w b else ρ.fz b⟩
def Sr (hH:bk P B ρ H w) (cH:Bool):∀b A,ρ.fz b=some A->(jF cH w ρ).fz b=some A:=fun b A h=>by
 cases cH with
 |true=>exact oe.2 (hH.fz b A h).1
 |false=>exact h
def xZ (hH:bk P B ρ H w) (cH:Bool) {t:av} {d:t.den} {ys:List Value} (h:aI ρ (t.cells d) ys):aI (jF cH w ρ) (t.cells d) ys:=pG (Sr hH cH) t d ys h
def acW {β:Type} (hH:bk P B ρ H w) {cH z:Bool} {t:av} {no:aE β} {b:β} (hno:no.gr≠some b) {l:List af} {f:List t.den->List af->aE β} (h:(CI H cH z t no l f).gr=some b):
  ∃xs r,(f xs r).gr=some b/\∀ys,aI ρ l ys->∃y1 y2,ys=y1++y2/\aI (jF cH w ρ) [.bu z t xs] y1/\aI ρ r y2:=by
 unfold CI at h;split at h
 .rename_i z' t' xs r;split at h
  .rename_i e;subst e;have key:∀(hz:z=true->z'=true\/xs≠[]) ys,aI ρ (.bu z' t' xs::r) ys->∃y1 y2,ys=y1++y2/\aI (jF cH w ρ) [.bu z t' xs] y1/\aI ρ r y2:=by
    intro hz ys hd;cases hd with
    |cons h1 h2=>
     refine⟨[_],_,rfl, .cons ?_ .nil,h2⟩;rcases h1.tI with⟨rfl,a,k,rfl,pg⟩|⟨b,off,k,A,g1,g2,g3,g4,rfl,g5⟩
     .exact .fe fun e=>(hz e).elim pg fun h=>absurd rfl h
     .exact .bu (Sr hH cH _ _ g1) g2 rfl (oc (fun d ys=>xZ hH cH) _ _ g3) g4 fun e=>(hz e).elim g5 id
   split at h
   .rename_i hz;exact⟨xs,r,h,key fun e=> .inl (by subst e;simpa using hz)⟩
   .cases hb:Nat.ble 1 xs.length with
    |false=>simp only [hb,aE.gr,cond_false]at h;cases h
    |true=>
     simp only [hb,aE.gr,cond_true]at h;exact⟨xs,r,h,key fun e=> .inr fun hx=>by subst hx;cases hb⟩
  .exact absurd h hno
 .rename_i r;refine⟨[],r,h,fun ys hd=> ?_⟩;cases hd with
  |cons h1 h2=>
   refine⟨[_],_,rfl, .cons ?_ .nil,h2⟩;rw [h1.cc];exact .fe fun _=>⟨rfl,rfl⟩
 .rename_i e u i k len cap r;split at h
  .rename_i hc;simp only [ae,bE]at hc;obtain⟨hb,hu,hz⟩:=hc;subst hu;subst hb;have hz:z=false:=by simpa using hz
   subst hz;cases hm:(Nat.beq len 0||bA e u (H.get i) (k+len-1))with
   |false=>rw [hm]at h;cases h
   |true=>
    rw [hm]at h;refine⟨_,r,h,fun ys hd=> ?_⟩;cases hd with
    |cons h1 h2=>
     refine⟨[_],_,rfl, .cons ?_ .nil,h2⟩;rcases h1.jA with⟨rfl,a,rfl⟩|⟨b,c,kc,g1,g2,g3,rfl⟩
     .rw [List.take_zero];exact .fe fun e=>by cases e
     .rw [Bool.or_eq_true]at hm;by_cases hl:len=0
      .subst hl;rw [List.take_zero];exact .fe fun e=>by cases e
      .have hm:=hm.resolve_left fun e=>hl (ac e)
       obtain⟨b1,b2⟩:=vq hm;obtain⟨zs,q1,aP,_⟩:=rK hH b1 g1;generalize bP u (H.get i)=xs at b1 b2 aP ⊢;have hle2:k+len<=xs.length:=by omega
       have e1:(xs.drop k).take len=(xs.take (k+len)).drop k:=by rw [List.take_drop]
       have gU:=lP (off:=0) (A:=zs.toList) (l:=k) (h:=k+len) (by simpa using aP) (by omega) hle2;rw [aw,<-e1]at gU;have hn:((xs.drop k).take len).length=len:=by simp;omega
       have gH:=Den.bu (ρ:=jF true w ρ) (z:=false) (t:=u) (xs:=(xs.drop k).take len) (b:=b) (off:=k*u.size) (k:=kc) (A:=zs) (oe.2 ⟨_,_,q1⟩) (by
        have e3:(u.flat xs).length<=zs.toList.length:=by
         have:=aP.length;simp at this ⊢;omega
        rw [u.jf]at e3 ⊢;rw [hn,<-Nat.add_mul];have:=dc (Nat.mul_le_mul_right u.size hle2) e3;simpa using this) rfl (oc (fun d ys=>xZ hH true) _ _ gU) (by omega) (fun e=>by cases e)
       rwa [hn]at gH
  .exact absurd h hno
 .rename_i i off n cap r;split at h
  .rename_i e cs x fz ro hc hg;rw [ae]at hc;obtain⟨hb,hz⟩:=hc;subst hb;have hz:z=false:=by simpa using hz
   subst hz;split at h
   .rename_i ds hle hrd;have hle:=bV hle;refine⟨ds,r,h,fun ys hd=> ?_⟩;cases hd with
    |cons h1 h2=>
     refine⟨[_],_,rfl, .cons ?_ .nil,h2⟩;obtain⟨b,c,k,g1,_,g3,rfl⟩:=h1.iz;obtain⟨zs,xC,q1,_,b8,_,_,qC⟩:=dp hH hg g1;have hcut:=(b8.drop off).take (n*t.size);obtain⟨mL,hn⟩:=av.B6 hrd hcut;subst hn;have hfl:=t.jf ds;have e2:((zs.toList.take cs.length).drop off).take (ds.length*t.size)=(zs.toList.drop off).take (t.flat ds).length:=by
      rw [hfl,List.drop_take,List.take_take,Nat.min_eq_left (by omega)]
     rw [e2]at mL;exact .bu (oe.2 ⟨_,_,q1⟩) (by rw [hfl];omega) rfl (oc (fun d ys=>xZ hH true) _ _ mL) g3 fun e=>by cases e
   .exact absurd h hno
  .exact absurd h hno
 .exact absurd h hno
def acX {β:Type} {cH z:Bool} {t:av} {no:aE β} {b:β} (hno:no.gr≠some b) {l:List af} {f:List t.den->List af->aE β} (h:(CI H cH z t no l f).gr=some b):∃xs r,(f xs r).gr=some b:=by
 unfold CI at h;split at h
 .split at h
  .split at h
   .exact⟨_,_,h⟩
   .rename_i xs r _ _ _;cases hb:Nat.ble 1 xs.length with
    |false=>simp only [hb,aE.gr,cond_false]at h;cases h
    |true=>simp only [hb,aE.gr,cond_true]at h;exact⟨_,_,h⟩
  .exact absurd h hno
 .exact⟨_,_,h⟩
 .rename_i e u i k len cap r;split at h
  .cases hm:(Nat.beq len 0||bA e t (H.get i) (k+len-1))with
   |false=>rw [hm]at h;cases h
   |true=>rw [hm]at h;exact⟨_,_,h⟩
  .exact absurd h hno
 .split at h
  .split at h
   .exact⟨_,_,h⟩
   .exact absurd h hno
  .exact absurd h hno
 .exact absurd h hno
def FB {β:Type} {cH:Bool} {no:aE β} {b:β} (hno:no.gr≠some b):∀(t:av) {l:List af} {f:t.den->List af->aE β},(t.vM H cH no l f).gr=some b->∃d r,(f d r).gr=some b
 | .int k,l,f,h=>by
   have h:(match wv k l with |some (x,r)=>f x r|none=>no).gr=some b:=h;split at h
   .exact⟨_,_,h⟩
   .exact absurd h hno
 | .bool,l,f,h=>by
   have h:(match zl l with |some (x,r)=>f x r|none=>no).gr=some b:=h;split at h
   .exact⟨_,_,h⟩
   .exact absurd h hno
 | .str,l,f,h=>by
   have h:(match ww l with |some (x,r)=>f x r|none=>no).gr=some b:=h;split at h
   .exact⟨_,_,h⟩
   .exact absurd h hno
 | .list z t,l,f,h=>acX hno h
 | .pair a c,l,f,h=>by
   obtain⟨x,r,h1⟩:=FB hno a (f:=fun x r=>c.vM H cH no r fun y r=>f (x,y) r) h;obtain⟨y,r',h3⟩:=FB hno c h1;exact⟨_,_,h3⟩
 | .ptr t,l,f,h=>by
   have h:(match wx t l with |some (x,r)=>f x r|none=>no).gr=some b:=h;split at h
   .exact⟨_,_,h⟩
   .exact absurd h hno
 | .unit,l,f,h=>⟨(),l,h⟩
def CK {β:Type} {cH:Bool} {no:aE β} {b:β} (hno:no.gr≠some b):∀(ps:List av) {vs:List af} {f:iD ps->aE β},(ud H cH no ps vs f).gr=some b->∃d,(f d).gr=some b
 |[],[],f,h=>⟨(),h⟩
 |[],_::_,f,h=>absurd h hno
 |_::_,[],f,h=>absurd h hno
 |t::ps,v::vs,f,h=>by
  have h:(CJ H cH no t v fun d=>ud H cH no ps vs fun ds=>f (d,ds)).gr=some b:=h;have:∃d,(ud H cH no ps vs fun ds=>f (d,ds)).gr=some b:=by
   unfold CJ at h;split at h
   .obtain⟨d,r,h1⟩:=FB hno t h;cases r with
    |cons _ _=>exact absurd h1 hno
    |nil=>exact⟨d,h1⟩
   .exact absurd h hno
   .obtain⟨d,r,h1⟩:=FB hno t h;cases r with
    |cons _ _=>exact absurd h1 hno
    |nil=>exact⟨d,h1⟩
  obtain⟨d,h1⟩:=this;obtain⟨ds,h3⟩:=CK hno ps h1;exact⟨(d,ds),h3⟩
def FC {β:Type} (hH:bk P B ρ H w) {cH:Bool} {no:aE β} {b:β} (hno:no.gr≠some b):∀(t:av) {l:List af} {f:t.den->List af->aE β},(t.vM H cH no l f).gr=some b->
  ∃d r,(f d r).gr=some b/\∀ys,aI ρ l ys->∃y1 y2,ys=y1++y2/\aI (jF cH w ρ) (t.cells d) y1/\aI ρ r y2
 | .int k,l,f,h=>by
   have h:(match wv k l with |some (x,r)=>f x r|none=>no).gr=some b:=h;split at h
   .rename_i x r hx;refine⟨x,r,h,fun ys hd=> ?_⟩;obtain⟨y1,y2,e,h1,h2⟩:=av.vp (.int k) hx hd;exact⟨y1,y2,e,xZ hH cH h1,h2⟩
   .exact absurd h hno
 | .bool,l,f,h=>by
   have h:(match zl l with |some (x,r)=>f x r|none=>no).gr=some b:=h;split at h
   .rename_i x r hx;refine⟨x,r,h,fun ys hd=> ?_⟩;obtain⟨y1,y2,e,h1,h2⟩:=av.vp .bool hx hd;exact⟨y1,y2,e,xZ hH cH h1,h2⟩
   .exact absurd h hno
 | .str,l,f,h=>by
   have h:(match ww l with |some (x,r)=>f x r|none=>no).gr=some b:=h;split at h
   .rename_i x r hx;refine⟨x,r,h,fun ys hd=> ?_⟩;obtain⟨y1,y2,e,h1,h2⟩:=av.vp .str hx hd;exact⟨y1,y2,e,xZ hH cH h1,h2⟩
   .exact absurd h hno
 | .list z t,l,f,h=>acW hH hno h
 | .pair a c,l,f,h=>by
   obtain⟨x,r,h1,h2⟩:=FC hH hno a (f:=fun x r=>c.vM H cH no r fun y r=>f (x,y) r) h;obtain⟨y,r',h3,h4⟩:=FC hH hno c h1;refine⟨(x,y),r',h3,fun ys hd=> ?_⟩;obtain⟨y1,y2,rfl,g1,g2⟩:=h2 ys hd;obtain⟨y3,Jf,rfl,g3,g4⟩:=h4 y2 g2;exact⟨y1++y3,Jf,by simp,g1.append g3,g4⟩
 | .ptr t,l,f,h=>by
   have h:(match wx t l with |some (x,r)=>f x r|none=>no).gr=some b:=h;split at h
   .rename_i x r hx;refine⟨x,r,h,fun ys hd=> ?_⟩;obtain⟨y1,y2,e,h1,h2⟩:=av.vp (.ptr t) hx hd;exact⟨y1,y2,e,xZ hH cH h1,h2⟩
   .exact absurd h hno
 | .unit,l,f,h=>⟨(),l,h,fun ys hd=>⟨[],ys,rfl, .nil,hd⟩⟩
def CL {t:av} (h:t.isAgg=false) (d:t.den):t.cells d=[wa t d]:=by
 cases t<;>first |rfl |cases h
def acY {β:Type} (hH:bk P B ρ H w) {cH:Bool} {no:aE β} {b:β} (hno:no.gr≠some b) {t:av} {v:af} {f:t.den->aE β} (h:(CJ H cH no t v f).gr=some b):
  ∃d,(f d).gr=some b/\∀x,Den ρ v x->Den (jF cH w ρ) (wa t d) x:=by
 unfold CJ at h;split at h
 .rename_i cs ha;obtain⟨d,r,h1,h2⟩:=FC hH hno t h;cases r with
  |cons _ _=>exact absurd h1 hno
  |nil=>
   refine⟨d,h1,fun x hx=> ?_⟩;obtain⟨xs,g1,rfl⟩:=hx.tG;obtain⟨y1,y2,rfl,g2,g3⟩:=h2 xs g1;cases g3;unfold wa;rw [ha,List.append_nil];exact .agg g2
 .exact absurd h hno
 .rename_i ha;obtain⟨d,r,h1,h2⟩:=FC hH hno t h;cases r with
  |cons _ _=>exact absurd h1 hno
  |nil=>
   refine⟨d,h1,fun x hx=> ?_⟩;obtain⟨y1,y2,e,g2,g3⟩:=h2 [x] (.cons hx .nil);cases g3;rw [List.append_nil]at e;subst e;rw [CL ha]at g2;cases g2 with |cons g _=>exact g
def FD {β:Type} (hH:bk P B ρ H w) {cH:Bool} {no:aE β} {b:β} (hno:no.gr≠some b):∀(ps:List av) {vs:List af} {f:iD ps->aE β},(ud H cH no ps vs f).gr=some b->
  ∃d,(f d).gr=some b/\∀xs,aI ρ vs xs->aI (jF cH w ρ) (ga ps d) xs
 |[],[],f,h=>⟨(),h,fun xs hd=>by cases hd;exact .nil⟩
 |[],_::_,f,h=>absurd h hno
 |_::_,[],f,h=>absurd h hno
 |t::ps,v::vs,f,h=>by
  obtain⟨d,h1,h2⟩:=acY hH hno (f:=fun d=>ud H cH no ps vs fun ds=>f (d,ds)) h;obtain⟨ds,h3,h4⟩:=FD hH hno ps h1;refine⟨(d,ds),h3,fun xs hd=> ?_⟩;cases hd with
  |cons g1 g2=>exact .cons (h2 _ g1) (h4 _ g2)
def acZ {F F':Env} (hf:∀b A,F.fz b=some A->F'.fz b=some A) {t:av} {d:t.den} {x:Value} (h:Den F (wa t d) x):Den F' (wa t d) x:=by
 cases ha:t.isAgg with
 |true=>
  unfold wa at h ⊢;rw [ha]at h ⊢;obtain⟨xs,g1,rfl⟩:=h.tG;exact .agg (pG hf t d xs g1)
 |false=>
  have h1:aI F (t.cells d) [x]:=by rw [CL ha];exact .cons h .nil
  have h2:=pG hf t d _ h1;rw [CL ha]at h2;cases h2 with |cons g _=>exact g
def Ss {F F':Env} (hf:∀b A,F.fz b=some A->F'.fz b=some A):∀(ts:List av) {d:iD ts} {xs:List Value},aI F (ga ts d) xs->aI F' (ga ts d) xs
 |[],_,_,h=>by cases h;exact .nil
 |t::l,d,_,h=>by
  cases h with
  |cons h1 h2=>exact .cons (acZ hf h1) (Ss hf l h2)
def ac0 {F F':Env} (hf:∀b A,F.fz b=some A->F'.fz b=some A) {rs:List av} {d:iD rs} {x:Value} (h:Den F (og rs d) x):Den F' (og rs d) x:=by
 have key:∀l,ga rs d=l->Den F (match l with |[v]=>v|vs=> .tuple vs) x->Den F' (match l with |[v]=>v|vs=> .tuple vs) x:=by
  intro l hl hd;have hds:∀xs,aI F l xs->aI F' l xs:=fun xs hx=>by rw [<-hl]at hx ⊢;exact Ss hf rs hx
  split at hd
  .rename_i v;have:=hds [x] (.cons hd .nil);cases this with |cons g _=>exact g
  .rename_i hn;obtain⟨xs,g1,rfl⟩:=hd.B4;exact .tuple (hds _ g1)
 exact key _ rfl h
def KW {c:bn} {args:List af} {v:af} {H':ai} (h:(xY c args H).gr=some (.ok v H')):H'=H:=by
 obtain⟨d,h1⟩:=CK (cH:=c.fresh) (no:=aE.ret aM.no) (b:=aM.ok v H') (by simp [aE.gr]) c.ps h;cases hp:c.pre d with
 |false=>rw [hp]at h1;cases h1
 |true=>rw [hp]at h1;cases h1;rfl
def St {c:bn} (hc:c.Ok P) {args:List af} {v:af} {H':ai} (h:(xY c args H).gr=some (.ok v H')) {xs:List Value} (m:Nat) (hH:bk P B ρ H w) (cv:n9 ρ) (hd:aI ρ args xs):CallsIn (dU none) m P c.f xs.toArray w (dt P B ρ H w v H'):=by
 have hsame:=KW h;obtain⟨d,h1,h2⟩:=FD (w:=w) hH (cH:=c.fresh) (no:=aE.ret aM.no) (b:=aM.ok v H') (by simp [aE.gr]) c.ps h;have hp:c.pre d=true/\v=og c.rs (c.fn d):=by
  cases hp:c.pre d with
  |false=>rw [hp]at h1;cases h1
  |true=>rw [hp]at h1;cases h1;exact⟨rfl,rfl⟩
 obtain⟨hp,rfl⟩:=hp;subst hsame;have hF:ua w (jF c.fresh w ρ):=by
  refine⟨fun i x hx=> ?_,fun g hg=> ?_,fun b A hb=> ?_⟩
  .have hx:(if i<64 then ρ i else none)=some x:=hx;by_cases h:i<64
   .exact h
   .rw [if_neg h]at hx;cases hx
  .obtain⟨c',tM⟩:=cv.at' g hg;exact⟨c',by show(if g<64 then ρ g else none)=_;rw [if_pos hg];exact tM⟩
  .have hb:(if c.fresh=true then kz w b else ρ.fz b)=some A:=hb;cases hfr:c.fresh with
   |true=>rw [hfr]at hb;exact oe.1 hb
   |false=>rw [hfr]at hb;exact(hH.fz b A hb).1
 have ac1:vL (jF c.fresh w ρ):=fun b p hb=>by
  obtain⟨A,h1,h2⟩:=cv.zR b p hb;refine⟨A, ?_,h2⟩;show(if c.fresh=true then kz w b else ρ.fz b)=some A;cases c.fresh with
  |true=>exact oe.2 (hH.fz b A h1).1
  |false=>exact h1
 have KX:=hc d hp w (jF c.fresh w ρ) xs hF ac1 (h2 xs hd);have hin:CallsIn (dU none) m P c.f xs.toArray w _:=callsIn_wide.2 KX;refine hin.mono ?_;rintro e w' ⟨x,F',rfl,hx,ac2,hfz,hb⟩;have ac3:∀b A,ρ.fz b=some A->b<w.heap.size:=fun b A h=>by
  obtain⟨⟨e,fr,h⟩,_⟩:=hH.fz b A h;exact(dG.1 h).1
 have hle:cD ρ ⟨ρ.at',fun b=>if w.heap.size<=b then F'.fz b else ρ.fz b⟩:=⟨fun _ _ h=>h,fun b A h=>by
  show(if w.heap.size<=b then F'.fz b else ρ.fz b)=some A;rw [if_neg (by have:=ac3 b A h;omega)];exact h⟩
 refine⟨x,⟨ρ.at',fun b=>if w.heap.size<=b then F'.fz b else ρ.fz b⟩,rfl,ac0 (fun b A kA=> ?_) hx,⟨fun i k hi=> ?_,hH.inj,hH.lt,dc hH.base hb.size,fun b A kA=> ?_⟩,
  ⟨hle,fun _ _=>rfl,aK _,hb.size,hb.os,hb.tape,hb.output,fun b hlt _=>hb.block b hlt,fun _ _ h=>h,fun _ _ h=>h,fun b A kA=> ?_⟩⟩
 .show(if w.heap.size<=b then F'.fz b else ρ.fz b)=some A;by_cases h0:w.heap.size<=b
  .rw [if_pos h0];exact kA
  .rw [if_neg h0];rcases hfz b A kA with⟨h3,h4⟩|h3
   .have h4:(if c.fresh then kz w b else ρ.fz b)=some A:=h4;rw [h3]at h4;exact h4
   .exact absurd h3 h0
 .obtain⟨b,c',o,e1,e2,e3,bW⟩:=hH.blk i k hi;have hlt:=(dG.1 e2).1;exact⟨b,c',o,e1,(hb.block b hlt).trans e2,e3.mono hle,bW⟩
 .have kA:(if w.heap.size<=b then F'.fz b else ρ.fz b)=some A:=kA;by_cases h0:w.heap.size<=b
  .rw [if_pos h0]at kA;refine⟨ac2.fz b A kA,fun i k c' hi hr=> ?_⟩;obtain⟨b',c2,o,e1,e2,_⟩:=hH.blk i k hi;have hr:ρ i=some (b,c'):=hr;rw [hr]at e1;cases e1;have:=(dG.1 e2).1;omega
  .rw [if_neg h0]at kA;obtain⟨⟨e,fr,h3⟩,h4⟩:=hH.fz b A kA;exact⟨⟨e,fr,(hb.block b (by omega)).trans h3⟩,h4⟩
 .have kA:(if w.heap.size<=b then F'.fz b else ρ.fz b)=some A:=kA;by_cases h0:w.heap.size<=b
  .exact .inr (.inl h0)
  .rw [if_neg h0]at kA;exact .inl kA
def KY {f:FuncId} {args:List af} {v:af} {H':ai}:∀{l:List bn},(a7 l f args H).gr=some (.ok v H')->∃c∈l,c.f=f/\(xY c args H).gr=some (.ok v H')
 |[],h=>by cases h
 |c::l,h=>by
  unfold a7 at h;cases hb:Nat.beq f c.f with
  |true=>rw [hb]at h;exact⟨c,mj,(ac hb).symm,h⟩
  |false=>
   rw [hb]at h;obtain⟨c',h1,h2,h3⟩:=KY h;exact⟨c',mh _ h1,h2,h3⟩
def rW {bw:bG} {f:FuncId} {args:List af} {v:af} {H':ai} (h:bF bw f args H= .ok v H'):(bw f args H).gr=some (.ok v H'):=by
 unfold bF at h;cases hg:(bw f args H).gr with
 |none=>rw [hg]at h;cases h
 |some r=>rw [hg]at h;rw [show r= .ok v H' from h]
def cN {l:List bn} (hl:∀c∈l,c.Ok P):bD P (bF (a7 l)) where
 mono f args H v H' h:=by
  obtain⟨c,_,_,h3⟩:=KY (rW h);rw [KW h3];exact aK _
 cz f args H v H' h B ρ xs w m hH cv hd hf:=by
  obtain⟨c,h1,rfl,h3⟩:=KY (rW h);exact St (hl c h1) h3 m hH cv hd
end
end
end
section
variable [Ground]
noncomputable section
def ue:Code->List Code
 | .seq a b=>ue a++ue b
 |c=>[c]
def fl (c:Code) (p:List Nat):List Code:=ue (cat c p)
def Ai:Nat:=400
def iE (P:Program) (bw:bG) (n:Nat):List Code->au af->ai->aE R
 |[],T,H=> .ret (.normal T H [])
 |c::l,T,H=>(qz P bw Ai c n false T H []).bind fun r=>match r with
  | .normal T H []=>iE P bw n l T H
  |r=> .ret r
section
variable (P:Program) (bw:bG) (l:List Code)
def Aj (k:Nat) (s:bI):aE R:=iE P bw s.n (l.take k) s.T s.H
def oh (s:bI):aE R:=iE P bw s.n l s.T s.H
def om (k n:Nat) (args:List af):aE R:=iE P bw n (l.take k) (fX args .nil 0) H0
end
def ep (P:Program) (n:Nat) (e:Exit) (σ:Ren) (s':bI):R->Prop
 | .normal T H []=>(match e with | .normal=>fit P σ n T H s'|_=>False)
 | .exit id T H []=>(match e with | .exit i=>ic (Nat.beq i id) (fit P σ n T H s')|_=>False)
 |_=>False
def uf (P:Program) (fn:Func) (fresh:Bool) (res:af):R->Prop
 | .normal _ _ _=>False
 | .ret T H []=>(match jX P fn T H with | .ok v _=>cG fresh H v res|_=>False)
 |_=>False
section
variable {P:Program} {w0:World} {F:Env} {n:Nat} {T:au af} {H:ai} {Q:Exit->au af->ai->Prop}
def cg (X:Ext) (P:Program) (w0:World) (F:Env) (n:Nat):List Code->au af->ai->(Exit->au af->ai->Prop)->Prop
 |[],T,H,Q=>Q .normal T H
 |c::l,T,H,Q=>iT X P w0 F n c T H (ig (fun T H=>cg X P w0 F n l T H Q) Q)
abbrev aW:=cg pI
variable {X:Ext}
def KZ {N N':au af->ai->Prop} {Q':Exit->au af->ai->Prop} (h1:∀T H,N T H->N' T H) (h2:∀e T H,e≠ .normal->Q e T H->Q' e T H):∀e T H,ig N Q e T H->ig N' Q' e T H:=by
 intro e T H h;cases e with
 |normal=>exact h1 T H h
 |_=>exact h2 _ T H (by simp) h
def aW.append:∀{l1 l2:List Code} {T:au af} {H:ai},cg X P w0 F n (l1++l2) T H Q->cg X P w0 F n l1 T H (ig (fun T H=>cg X P w0 F n l2 T H Q) Q)
 |[],l2,T,H,h=>h
 |c::l1,l2,T,H,h=>Goal.mono h (KZ (fun T H h=>aW.append h) fun e T H hn h=>by cases e<;>first |exact absurd rfl hn|exact h)
def aW.split:∀{l1 l2:List Code} {T:au af} {H:ai},cg X P w0 F n l1 T H (ig (fun T H=>cg X P w0 F n l2 T H Q) Q)->cg X P w0 F n (l1++l2) T H Q
 |[],l2,T,H,h=>h
 |c::l1,l2,T,H,h=>Goal.mono h (KZ (fun T H h=>aW.split h) fun e T H hn h=>by cases e<;>first |exact absurd rfl hn|exact h)
def aW.mono {Q':Exit->au af->ai->Prop} (hq:∀e T H,Q e T H->Q' e T H):∀{l:List Code} {T:au af} {H:ai},cg X P w0 F n l T H Q->cg X P w0 F n l T H Q'
 |[],_,_,h=>hq _ _ _ h
 |_::_,_,_,h=>Goal.mono h (KZ (fun _ _ h=>aW.mono hq h) fun e T H _ h=>hq e T H h)
def vN:∀{c:Code} {T:au af} {H:ai} {Q:Exit->au af->ai->Prop},cg X P w0 F n (ue c) T H Q->iT X P w0 F n c T H Q
 | .seq a b,T,H,Q,h=>by
   refine Goal.seq rfl (vN (aW.mono (fun e T H h=> ?_) (aW.append (l1:=ue a) (l2:=ue b) h)));cases e with
   |normal=>exact vN (c:=b) h
   |_=>exact h
 | .skip,T,H,Q,h=>Goal.mono h fun e T H h=>by cases e<;>exact h
 | .region _ _ _,T,H,Q,h=>Goal.mono h fun e T H h=>by cases e<;>exact h
 | .cond _ _ _,T,H,Q,h=>Goal.mono h fun e T H h=>by cases e<;>exact h
 | .block _ _,T,H,Q,h=>Goal.mono h fun e T H h=>by cases e<;>exact h
 | .loop _,T,H,Q,h=>Goal.mono h fun e T H h=>by cases e<;>exact h
 | .rangeFunc _ _ _ _,T,H,Q,h=>Goal.mono h fun e T H h=>by cases e<;>exact h
 | .exit _,T,H,Q,h=>Goal.mono h fun e T H h=>by cases e<;>exact h
 | .scope _,T,H,Q,h=>Goal.mono h fun e T H h=>by cases e<;>exact h
 | .label _,T,H,Q,h=>Goal.mono h fun e T H h=>by cases e<;>exact h
 | .goto _,T,H,Q,h=>Goal.mono h fun e T H h=>by cases e<;>exact h
 | .ret,T,H,Q,h=>Goal.mono h fun e T H h=>by cases e<;>exact h
 | .refuse _,T,H,Q,h=>Goal.mono h fun e T H h=>by cases e<;>exact h
variable {bw:bG}
def aW.iE (hK:ff P) (hm:P.follows .mixedOrders=true) (hS:bD P (bF bw)) {oo:R->Prop} (hq:∀r,oo r->Ah Q r):∀{l:List Code} {T:au af} {H:ai} {r:R},(Sv.iE P bw n l T H).gr=some r->oo r->cg X P w0 F n l T H Q
 |[],T,H,r,h,h1=>by
  cases h;exact hq _ h1
 |c::l,T,H,r,h,h1=>by
  obtain⟨r1,g1,g2⟩:=mJ h;have run:∀ug:Exit->au af->ai->Prop,Ah ug r1->iT X P w0 F n c T H ug:=fun ug h2=>by
   intro a w hs k;obtain⟨e,aO,H',ho,vG⟩:=Sq h2;have g1:=g1;rw [<-Sn Ai c n X.rd.isSome]at g1;have hr:=KI (P:=P) (bw:=bw) Ai c n X.rd.isSome T H [] r1 g1 (by rintro rfl;cases ho);have hI:qq P (qj P (oa P (bF bw)) Ai):=JX hK (Cw hK hm hS) Ai;have ho':(qj P (oa P (bF bw)) Ai c n X.rd.isSome T H X.m).out=some (e,aO,H',X.m):=by rw [KU,hr];exact Sl ho
   obtain⟨ρ,aR,hf,hfz,hkp⟩:=hs.ex;refine hI.cz _ _ _ _ _ _ _ _ _ _ ho' w0.heap.size ρ a w X.rd k _ rfl aR (by rw [hs.defers];exact hkp.xW) (fun i h1 _=>hf i h1) fun ρ' a' w' g1 g2 g3=> ?_
   refine .inl ⟨aO,H',vG,⟨⟨ρ',g1,fun i hi=> ?_,fun b A hb=> ?_,KR hkp g2⟩,hs.below.trans (g2.below aR.H),g3.unique (hkp.xW.mono g2.le)⟩⟩
   .rw [g2.ext i (.inr hi)];exact hf i (dc g2.next hi)
   .rcases g2.nr b A hb with h|h|⟨i,k,c,q1,aP,b8⟩
    .exact hfz b A h
    .exact .inr (dc hs.below.size h)
    .obtain⟨b',c',o,e1,_,_,bW⟩:=aR.H.blk i k q1;rw [b8]at e1;cases e1;exact .inr (bW aP)
  refine run _ ?_;have kU:∀r2,(match r1 with | .normal T H []=>Sv.iE P bw n l T H|r=>aE.ret r).gr=some r2->oo r2->Ah (ig (fun T H=>cg X P w0 F n l T H Q) Q) r1:=by
   intro r2 h2 vG;split at h2
   .exact aW.iE hK hm hS hq h2 vG
   .cases h2;have:=hq _ vG;revert this;rename_i hnn;cases r1 with
    |no=>exact id
    |normal T1 H1 m1=>
     cases m1 with
     |nil=>exact absurd rfl (hnn T1 H1)
     |cons _ _=>exact id
    |exit id' T1 H1 m1=>cases m1<;>exact id
    |goto l' T1 H1 m1=>exact id
    |ret T1 H1 m1=>cases m1<;>exact id
  exact kU r g2 h1
def Goal.Su {c:Code} {Q':Exit->au af->ai->Prop} (h:iT X P w0 F n c T H Q) (hq:∀e T H,Q e T H->Q' e T H\/∃σ s,fit P σ n T H s/\pinned σ s.H.next X.pins=true/\Q' e s.T s.H):iT X P w0 F n c T H Q':=fun a w hs k=>
 wpIn_mono (h a w hs k) fun e a' w' hh=>by
  rcases hh with⟨aO,H',h1,h2⟩|hh
  .rcases hq _ _ _ h1 with h3|⟨σ,s,h3,h5,h4⟩
   .exact .inl ⟨aO,H',h3,h2⟩
   .exact .inl ⟨s.T,s.H,h4,h2.od h3 h5⟩
  .exact .inr hh
def aW.K0 {s':bI} {e:Exit} (hq:Q e s'.T s'.H):∀{l:List Code} {T:au af} {H:ai},l≠[]->cg X P w0 F n l T H (fun e' aO H'=>e'=e/\∃σ,fit P σ n aO H' s'/\pinned σ s'.H.next X.pins=true)->cg X P w0 F n l T H Q
 |[],_,_,hl,_=>absurd rfl hl
 |[c],T,H,_,h=>Goal.Su h fun e' aO H' h'=> .inr (by
    cases e' with
    |normal=>obtain⟨rfl,σ,hf,hp⟩:=h';exact⟨σ,s',hf,hp,hq⟩
    |_=>obtain⟨rfl,σ,hf,hp⟩:=h';exact⟨σ,s',hf,hp,hq⟩)
 |c::c2::l,T,H,_,h=>Goal.Su h fun e' aO H' h'=>by
   cases e' with
   |normal=>exact .inl (aW.K0 hq (by simp) h')
   |_=>obtain⟨rfl,σ,hf,hp⟩:=h';exact .inr ⟨σ,s',hf,hp,hq⟩
def aW.to (hK:ff P) (hm:P.follows .mixedOrders=true) (hS:bD P (bF bw)) {l:List Code} {s':bI} {e:Exit} {σ:Ren} (k:Nat) (D:List Bool) (h:(Sv.iE P bw n (l.take k) T H).path D (ep P n e σ s')) (hne:(l.take k).isEmpty=false)
  (hq:ig (fun T H=>cg X P w0 F n (l.drop k) T H Q) Q e s'.T s'.H) (hp:pinned σ s'.H.next X.pins=true:=by rfl):cg X P w0 F n l T H Q:=by
 obtain⟨r,h1,h2⟩:=aE.tX _ _ h;have key:cg X P w0 F n (l.take k) T H (fun e' aO H'=>e'=e/\∃σ,fit P σ n aO H' s'/\pinned σ s'.H.next X.pins=true):=by
  refine aW.iE hK hm hS (oo:=ep P n e σ s') (fun r hr=> ?_) h1 h2;unfold ep at hr;split at hr
  .split at hr
   .exact⟨rfl,σ,hr,hp⟩
   .exact hr.elim
  .split at hr
   .obtain⟨g1,g2⟩:=jk hr;rw [ac g1];exact⟨rfl,σ,g2,hp⟩
   .exact hr.elim
  .exact hr.elim
 have kY:cg X P w0 F n (l.take k) T H (ig (fun T H=>cg X P w0 F n (l.drop k) T H Q) Q):=aW.K0 (s':=s') (e:=e) hq (fun hh=>by rw [hh]at hne;cases hne) key;have:=aW.split kY;rwa [List.take_append_drop]at this
def aW.ac4 (hK:ff P) (hm:P.follows .mixedOrders=true) (hS:bD P (bF bw)) {l:List Code} {s':bI} {e:Exit} {σ:Ren} (k:Nat) (D:List Bool) (h:(Sv.iE P bw n (l.take k) T H).tW D (ep P n e σ s')) (hne:(l.take k).isEmpty=false)
  (hq:ig (fun T H=>cg X P w0 F n (l.drop k) T H Q) Q e s'.T s'.H) (hp:pinned σ s'.H.next X.pins=true:=by rfl):cg X P w0 F n l T H Q:=by
 obtain⟨r,h1,h2⟩:=aE.Cx _ _ h;have key:cg X P w0 F n (l.take k) T H (fun e' aO H'=>e'=e/\∃σ,fit P σ n aO H' s'/\pinned σ s'.H.next X.pins=true):=by
  refine aW.iE hK hm hS (oo:=ep P n e σ s') (fun r hr=> ?_) h1 h2;unfold ep at hr;split at hr
  .split at hr
   .exact⟨rfl,σ,hr,hp⟩
   .exact hr.elim
  .split at hr
   .obtain⟨g1,g2⟩:=jk hr;rw [ac g1];exact⟨rfl,σ,g2,hp⟩
   .exact hr.elim
  .exact hr.elim
 have kY:cg X P w0 F n (l.take k) T H (ig (fun T H=>cg X P w0 F n (l.drop k) T H Q) Q):=aW.K0 (s':=s') (e:=e) hq (fun hh=>by rw [hh]at hne;cases hne) key;have:=aW.split kY;rwa [List.take_append_drop]at this
def aW.st (hK:ff P) (hm:P.follows .mixedOrders=true) (hS:bD P (bF bw)) {l:List Code} {s s':bI} {e:Exit} {σ:Ren} (k:Nat) (D:List Bool) (h:(Aj P bw l k s).path D (ep P s.n e σ s')) (hne:(l.take k).isEmpty=false)
  (hq:ig (fun T H=>cg X P w0 F s.n (l.drop k) T H Q) Q e s'.T s'.H) (hp:pinned σ s'.H.next X.pins=true:=by rfl):cg X P w0 F s.n l s.T s.H Q:=aW.to hK hm hS k D h hne hq hp
def aW.all (hK:ff P) (hm:P.follows .mixedOrders=true) (hS:bD P (bF bw)) {l:List Code} {s s':bI} {e:Exit} {σ:Ren} (D:List Bool) (h:(oh P bw l s).path D (ep P s.n e σ s')) (hne:l.isEmpty=false)
  (hq:Q e s'.T s'.H) (hp:pinned σ s'.H.next X.pins=true:=by rfl):cg X P w0 F s.n l s.T s.H Q:=by
 have hk:l.take l.length=l:=dR;refine aW.to hK hm hS (s':=s') (e:=e) (σ:=σ) l.length D (by rw [hk];exact h) (by rw [hk];exact hne) ?_ hp;rw [List.drop_length];cases e<;>exact hq
def cI {N:au af->ai->Prop} {i:Nat} {T:au af} {H:ai} (h:Q (.exit i) T H):ig N Q (.exit i) T H:=h
def aW.ret (hK:ff P) (hm:P.follows .mixedOrders=true) (hS:bD P (bF bw)) {l:List Code} {fn:Func} {fresh:Bool} {res:af} (k:Nat) (D:List Bool) (h:(Sv.iE P bw n (l.take k) T H).path D (uf P fn fresh res))
  (hq:∀T H,hJ P fresh fn res .ret T H->Q .ret T H):cg X P w0 F n l T H Q:=by
 obtain⟨r,h1,h2⟩:=aE.tX _ _ h;have key:cg X P w0 F n (l.take k) T H (ig (fun T H=>cg X P w0 F n (l.drop k) T H Q) Q):=by
  refine aW.iE hK hm hS (oo:=uf P fn fresh res) (fun r hr=> ?_) h1 h2;unfold uf at hr;split at hr
  .exact hr.elim
  .exact hq _ _ hr
  .exact hr.elim
 have:=aW.split key;rwa [List.take_append_drop]at this
def aW.rX (hK:ff P) (hm:P.follows .mixedOrders=true) (hS:bD P (bF bw)) {l:List Code} {s:bI} {fn:Func} {fresh:Bool} {res:af} (D:List Bool) (h:(oh P bw l s).path D (uf P fn fresh res))
  (hq:∀T H,hJ P fresh fn res .ret T H->Q .ret T H):cg X P w0 F s.n l s.T s.H Q:=by
 refine aW.ret hK hm hS (fn:=fn) (fresh:=fresh) (res:=res) l.length D ?_ hq;rw [dR];exact h
def aW.loop {ι:Type} {l rest:List Code} {id:Nat} {b:Code} (hl:l= .block id (.loop b)::rest) (I:ι->bI) (μ:ι->Nat) (i0:ι) (_:∀i,(I i).n=n)
  (step:∀i,cg X P w0 F n (ue b) (I i).T (I i).H (ig (fun T H=>∃j,μ j<μ i/\T=(I j).T/\H=(I j).H) (CE id (ig (fun T H=>cg X P w0 F n rest T H Q) Q)))):cg X P w0 F n l (I i0).T (I i0).H Q:=by
 subst hl;refine Goal.block (x:= .loop b) rfl ?_;have key:∀m i,μ i<m->∀a w,mK X P w0 F n (I i).T (I i).H a w->∀k,Code.roundsIn (dU X.rd) k P b (fun e a' w'=>(∃aO H',CE id (ig (fun T H=>cg X P w0 F n rest T H Q) Q) e aO H'/\mK X P w0 F n aO H' a' w')\/(e= .ret/\X.R a' w')) m a w:=by
  intro m;induction m with
  |zero=>intro i hi;exact absurd hi (Nat.not_lt_zero _)
  |succ m ih=>
   intro i hi a w hs k;rw [roundsIn_succ];refine wpIn_mono (vN (step i) a w hs k) fun e a' w' hh=> ?_
   rcases hh with⟨aO,H',h1,h2⟩|⟨rfl,hh⟩
   .cases e with
    |normal=>
     obtain⟨j,g1,rfl,rfl⟩:=h1;exact ih j (by omega) a' w' h2 k
    |_=>exact .inl ⟨aO,H',h1,h2⟩
   .exact .inr ⟨rfl,hh⟩
 intro a w hs k;exact wpIn_loop_rounds (μ i0+1) (key (μ i0+1) i0 (fL _) a w hs k)
def cQ {id:Nat} {T:au af} {H:ai} (h:Q .normal T H):CE id Q (.exit id) T H:=by
 show if id=id then _ else _
 rw [if_pos rfl];exact h
def eP {r:Int} (h: -9223372036854775808<=r/\r<=9223372036854775807):fits .i64 r=true:=by
 unfold fits;rw [ae];exact⟨az h.1,az h.2⟩
def ac5 {a b:Nat} (h:a=b):Nat.beq a b=true:=by rw [h,Nat.beq_refl]
def Kp:Value->Bool
 | .int _ _| .bool _| .string _| .pointer none| .slice none _ _| .map none| .nilFunc| .nilIface=>true
 | .func _ ⟨[]⟩ ⟨[]⟩=>true
 |_=>false
def Ak:af->Bool
 | .raw v=>Kp v
 | .ptr _ _| .slice _ _ _ _| .map _| .func _ [] []| .bu _ _ _| .fB _ _ _ _| .bU _ _ _ _ _ _| .dH _ _ _ _ _=>true
 |_=>false
def K1:af->Bool
 | .agg l| .tuple l=>l.all Ak
 |v=>Ak v
def ac6 {v:Value} (h:Kp v=true):xK 3 v v=true:=by
 unfold Kp at h;split at h<;>first |(simp [xK,Cm];done)|cases h
def av.beq_refl:∀(t:av) (a:t.den),t.beq a a=true
 | .int _,a=>az rfl
 | .bool,a=>beq_self_eq_true a
 | .str,a=>az rfl
 | .list _ t,a=>by
   show(Nat.beq a.length a.length&&(List.zip a a).all fun p=>t.beq p.1 p.2)=true
   rw [Nat.beq_refl,Bool.true_and,List.all_eq_true];intro p hp;obtain⟨i,h1,h2⟩:=List.mem_iff_getElem.1 hp;have Cq:p=((a:List t.den)[i]'(by simp at h1;exact h1),(a:List t.den)[i]'(by simp at h1;exact h1)):=by rw [<-h2];simp
   rw [Cq];exact t.beq_refl _
 | .pair s t,a=>by
   show(s.beq a.1 a.1&&t.beq a.2 a.2)=true;rw [s.beq_refl,t.beq_refl];rfl
 | .ptr t,a=>t.beq_refl a
 | .unit,_=>rfl
def ac7 (t:av) (xs:List t.den):Hb t t xs xs=true:=by
 unfold Hb;rw [dif_pos rfl];exact av.beq_refl (.list false t) xs
def ac8 (c:bh):c.same c=true:=by cases c<;>simp [bh.same]
def K2 {v:af} (h:Ak v=true):vF v v=true:=by
 unfold Ak at h;split at h
 .simp [vF,ac6 h]
 all_goals first |(simp [vF,ac7,ac8];done)|cases h
def K3:∀{l:List af},l.all Ak=true->qv l l=true
 |[],_=>rfl
 |v::l,h=>by
  rw [List.all_cons,ae]at h;show(vF v v&&qv l l)=true;rw [K2 h.1,K3 h.2];rfl
def aD {v:af} (h:K1 v=true:=by kernel_rfl):af.same v v=true:=by
 unfold K1 at h;split at h
 .exact K3 h
 .exact K3 h
 .next h1 h2=>
  cases v with
  |func f a b=>
   cases a<;>cases b<;>first |exact K2 h|exact absurd h (by simp [Ak])
  |_=>first |exact absurd rfl (h1 _)|exact absurd rfl (h2 _)|exact K2 h
def K4 (c:Code):cat c []=c:=by cases c<;>rfl
def bL {fresh:Bool} {f:FuncId} {fn:Func} {c:Code} {args:List af} {res:af} (hf:P.funcs[f]? =some fn) (hb:fn.body=some c) (hl:Nat.ble args.length fn.ntmps=true)
  (h:∀w F,aW P w F fn.ntmps (fl c []) (fX args .nil 0) H0 (hJ P fresh fn res)):Holds P fresh f args res:=
 holds_of hf hb (bV hl) fun w F=>vN (by have:=h w F;rwa [fl,K4]at this)
end
end
end
end Go.Proofs.YtibikmmdbdlafaaGreatDoor.Sv
