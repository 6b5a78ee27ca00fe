/- The runner over an abstract memory: goals on code, and their rules. -/
import Derived.Test.YtibikmmdbdlafaaGreatDoorZxSvFit
set_option linter.unusedSectionVars false
set_option linter.unusedSimpArgs false
namespace Go.Proofs.YtibikmmdbdlafaaGreatDoor.Sv
open Go.RowKit
variable [Ground]
noncomputable section
structure Ext where
 rd:Option Nat
 K:Nat->Option Obj
 R:Act->World->Prop
 pin:List Nat:=[]
 A:Nat->Option (Nat×Nat):=fun _=>none
 Z:Nat->Option (Array Value):=fun _=>none
 sz:Nat:=0
 m:List Nat:=[]
 ds:List Deferred:=[]
 Y:Nat->Option Obj:=fun _=>none
def Ext.pins (X:Ext):List Nat:=X.m++X.pin
def oQ:Ext:={rd:=none,K:=fun _=>none,R:=fun _ _=>False}
structure Kept (X:Ext) (ρ:Env) (H:ai) (w:World):Prop where
 k:∀b o,X.K b=some o->w.heap[b]? =some o/\¬Own ρ H b
 pin:∀i,i∈X.pin->i<H.next/\∀x,X.A i=some x->ρ i=some x
 z:∀b A,X.Z b=some A->ρ.fz b=some A
 sz:X.sz<=w.heap.size
 Jq:∀b o,X.K b=some o->ρ.fz b=none
 xC:ey ρ X.m X.ds
 y:∀b o,X.Y b=some o->w.heap[b]? =some o/\¬Own ρ H b
structure mq (X:Ext) (P:Program) (w0:World) (F:Env) (n:Nat) (T:av aa) (H:ai) (a:Act) (w:World):Prop where
 ex:∃ρ,ew P w0.heap.size ρ n T H a w/\(∀i,H.next<=i->ρ i=none)/\(∀b A,ρ.fz b=some A->F.fz b=some A\/w0.heap.size<=b)/\Kept X ρ H w
 below:Below w0.heap.size w0 w
 defers:a.defers=X.ds
abbrev Sat:=mq oQ
def eI (X:Ext) (P:Program) (w0:World) (F:Env) (n:Nat) (c:Code) (T:av aa) (H:ai) (Q:Exit->av aa->ai->Prop):Prop:=
 ∀a w,mq X P w0 F n T H a w->∀k,c.wpIn (dM X.rd) k P (fun e a' w'=>(∃aL H',Q e aL H'/\mq X P w0 F n aL H' a' w')\/(e= .ret/\X.R a' w')) a w
abbrev Goal:=eI oQ
theorem Jr {X:Ext} {ρ ρ':Env} {H H':ai} {w w':World} (h:Kept X ρ H w) (s:bL ρ H w ρ' H' w'):Kept X ρ' H' w':=
 ⟨fun b o hb=>by
    obtain⟨h1,h2⟩:=h.k b o hb;have hlt:b<w.heap.size:=(dx.1 h1).1;exact⟨(s.frame b hlt h2).trans h1,fun hh=>h2 (s.own b hlt hh)⟩,
   fun i hi=>⟨Nat.lt_of_lt_of_le (h.pin i hi).1 s.next,fun x hx=>s.le _ _ ((h.pin i hi).2 x hx)⟩,
   fun b A hb=>s.le.fz _ _ (h.z b A hb),cX h.sz s.size,fun b o hb=>by
    obtain⟨h1,h2⟩:=h.k b o hb;have hlt:b<w.heap.size:=(dx.1 h1).1;cases hz:ρ'.fz b with
    |none=>rfl
    |some A=>
     rcases s.mV b A hz with g|g|g
     .rw [h.Jq b o hb]at g;cases g
     .omega
     .exact absurd g h2,h.xC.mono s.le,fun b o hb=>by
    obtain⟨h1,h2⟩:=h.y b o hb;have hlt:b<w.heap.size:=(dx.1 h1).1;exact⟨(s.frame b hlt h2).trans h1,fun hh=>h2 (s.own b hlt hh)⟩⟩
theorem ey.Qx {ρ ρ':Env}:∀{m:List Nat} {ds:List Deferred},ey ρ m ds->(∀i∈m,∀x,ρ i=some x->ρ' i=some x)->ey ρ' m ds
 |[],_,h,_=>h
 |i::_,_,⟨b,c,ds',h1,h2,h3⟩,hc=>⟨b,c,ds',hc i k7 _ h1,h2,ey.Qx h3 fun j hj=>hc j (k6 _ hj)⟩
theorem ey.unique {ρ:Env}:∀{m:List Nat} {ds ds':List Deferred},ey ρ m ds->ey ρ m ds'->ds=ds'
 |[],_,_,h,h'=>Eq.trans (show _=[]from h) (show _=[]from h').symm
 |i::m,_,_,⟨b,c,aqz,h1,h2,h3⟩,⟨b',c',aqA,k1,k2,dB⟩=>by
  rw [h1]at k1;cases k1;rw [h2,k2,ey.unique h3 dB]
theorem Kept.re {X:Ext} {ρ ρ':Env} {H H':ai} {w:World} (h:Kept X ρ H w) (hl:cw ρ ρ') (hn:H.next<=H'.next) (ho:∀b,Own ρ' H' b->Own ρ H b) (hz:∀b A,ρ'.fz b=some A->ρ.fz b=some A\/Own ρ H b):Kept X ρ' H' w:=
 ⟨fun b o hb=>⟨(h.k b o hb).1,fun hh=>(h.k b o hb).2 (ho b hh)⟩,fun i hi=>⟨Nat.lt_of_lt_of_le (h.pin i hi).1 hn,fun x hx=>hl _ _ ((h.pin i hi).2 x hx)⟩,fun b A hb=>hl.fz _ _ (h.z b A hb),h.sz,fun b o hb=>by
   cases oI:ρ'.fz b with
   |none=>rfl
   |some A=>
    rcases hz b A oI with g|g
    .rw [h.Jq b o hb]at g;cases g
    .exact absurd g (h.k b o hb).2,h.xC.mono hl,fun b o hb=>⟨(h.y b o hb).1,fun hh=>(h.y b o hb).2 (ho b hh)⟩⟩
def pinned (σ:Ren) (next:Nat) (l:List Nat):Bool:=l.all fun i=>Nat.ble (i+1) next&&nR σ i i
theorem Kept.ren {X:Ext} {ρ:Env} {H:ai} {a:Act} {w:World} {P:Program} {B n:Nat} {T:av aa} {σ:Ren} {s:bC} (h:Kept X ρ H w) (aN:ew P B ρ n T H a w) (hf:fit P σ n T H s) (hp:pinned σ s.H.next X.pins=true):Kept X (ren σ ρ) s.H w:=
 ⟨fun b o hb=>⟨(h.k b o hb).1,fun hh=>(h.k b o hb).2 (Qw aN hf hh)⟩,
   fun i hi=>by
    have:=List.all_eq_true.1 hp i (List.mem_append_right _ hi);rw [ae]at this;exact⟨bR this.1,fun x hx=>xA this.2 ((h.pin i hi).2 x hx)⟩,
   h.z,h.sz,h.Jq,h.xC.Qx fun i hi x hx=>by
    have:=List.all_eq_true.1 hp i (List.mem_append_left _ hi);rw [ae]at this;exact xA this.2 hx,fun b o hb=>⟨(h.y b o hb).1,fun hh=>(h.y b o hb).2 (Qw aN hf hh)⟩⟩
def R.jK (r:R) (m:List Nat):R:=match r with
 | .no=> .no
 | .normal T H k=> .normal T H (k++m)
 | .exit id T H k=> .exit id T H (k++m)
 | .goto l T H k=> .goto l T H (k++m)
 | .ret T H k=> .ret T H (k++m)
theorem Js (r:R) (k m:List Nat):(r.jK k).jK m=r.jK (k++m):=by cases r<;>simp [R.jK,ou]
theorem Qy {r:R} {e:Exit} {aL:av aa} {H':ai} {k m:List Nat} (h:r.out=some (e,aL,H',k)):(r.jK m).out=some (e,aL,H',k++m):=by
 cases r<;>cases h<;>rfl
theorem Jt {body:av aa->ai->List Nat->R} (hb:∀T H m,body T H m=(body T H []).jK m):∀(k:Nat) (T:av aa) (H:ai) (m:List Nat),iter body k T H m=(iter body k T H []).jK m
 |0,_,_,_=>rfl
 |k+1,T,H,m=>by
  show @R.rec (fun _=>R) .no (iter body k) .exit .goto .ret (body T H m)=(@R.rec (fun _=>R) .no (iter body k) .exit .goto .ret (body T H [])).jK m
  rw [hb T H m];cases body T H []with
  |no=>rfl
  |normal T1 H1 k1=>
   show iter body k T1 H1 (k1++m)=(iter body k T1 H1 k1).jK m;rw [Jt hb k T1 H1 (k1++m),Jt hb k T1 H1 k1,Js]
  |exit _ _ _ _=>rfl
  |goto _ _ _ _=>rfl
  |ret _ _ _=>rfl
theorem Ju {P:Program} {draw:oE}:∀(fuel:Nat) (c:Code) (n:Nat) (aK:Bool) (T:av aa) (H:ai) (m:List Nat),pQ P draw fuel c n aK T H m=(pQ P draw fuel c n aK T H []).jK m
 |0,_,_,_,_,_,_=>rfl
 |fuel+1,c,n,aK,T,H,m=>by
  have ih:=Ju (P:=P) (draw:=draw) fuel;have e:∀m,pQ P draw (fuel+1) c n aK T H m=lw c P draw (pQ P draw fuel) n aK T H m:=fun _=>rfl
  rw [e,e];generalize pQ P draw fuel=r at ih;cases c with
  |skip=>rfl
  |region id ops d=>
   show y7 m (draw d (mU P r) (sN r) ops n T H)=(y7 [] (draw d (mU P r) (sN r) ops n T H)).jK m;cases draw d (mU P r) (sN r) ops n T H<;>rfl
  |seq a b=>
   show @R.rec (fun _=>R) .no (fun T H m=>r b n aK T H m) .exit .goto .ret (r a n aK T H m)=(@R.rec (fun _=>R) .no (fun T H m=>r b n aK T H m) .exit .goto .ret (r a n aK T H [])).jK m
   rw [ih a n aK T H m];cases r a n aK T H []with
   |no=>rfl
   |normal T1 H1 k1=>
    show r b n aK T1 H1 (k1++m)=(r b n aK T1 H1 k1).jK m;rw [ih b n aK T1 H1 (k1++m),ih b n aK T1 H1 k1,Js]
   |exit _ _ _ _=>rfl
   |goto _ _ _ _=>rfl
   |ret _ _ _=>rfl
  |cond c x y=>
   show @mS.rec (fun _=>R) .no (fun b=> @Bool.rec (fun _=>R) (r y n aK T H m) (r x n aK T H m) b) (gq (cc T c))=(@mS.rec (fun _=>R) .no (fun b=> @Bool.rec (fun _=>R) (r y n aK T H []) (r x n aK T H []) b) (gq (cc T c))).jK m
   cases gq (cc T c)with
   |no=>rfl
   |mk b=>cases b<;>exact ih _ _ _ _ _ _
  |block id b=>
   show @R.rec (fun _=>R) .no .normal (fun i T H m=> @Bool.rec (fun _=>R) (.exit i T H m) (.normal T H m) (Nat.beq i id)) .goto .ret (r b n aK T H m)=(@R.rec (fun _=>R) .no .normal (fun i T H m=> @Bool.rec (fun _=>R) (.exit i T H m) (.normal T H m) (Nat.beq i id)) .goto .ret (r b n aK T H [])).jK m
   rw [ih b n aK T H m];cases r b n aK T H []with
   |no=>rfl
   |normal _ _ _=>rfl
   |exit i T1 H1 k1=>
    show @Bool.rec (fun _=>R) (.exit i T1 H1 (k1++m)) (.normal T1 H1 (k1++m)) (Nat.beq i id)=(@Bool.rec (fun _=>R) (.exit i T1 H1 k1) (.normal T1 H1 k1) (Nat.beq i id)).jK m
    cases Nat.beq i id<;>rfl
   |goto _ _ _ _=>rfl
   |ret _ _ _=>rfl
  |loop b=>exact Jt (ih b n aK) rounds T H m
  |rangeFunc f ps a b=>
   show @Bool.rec (fun _=>R) (qR P r f ps a b n T H m) .no aK=(@Bool.rec (fun _=>R) (qR P r f ps a b n T H []) .no aK).jK m
   cases aK with
   |true=>rfl
   |false=>
    show qR P r f ps a b n T H m=(qR P r f ps a b n T H []).jK m;unfold qR;split
    .rename_i g args H2 _;unfold Bs;split
     .split
      .split
       .rfl
       .split
        .rfl
        .rename_i c _;rw [ih c n false _ _ (H.next::m),ih c n false _ _ [H.next],Js];rfl
      .rfl
     .rfl
    .rfl
  |exit id=>rfl
  |scope b=>
   show @R.rec (fun _=>R) .no .normal .exit (fun _ _ _ _=> .no) .ret (r b n aK T H m)=(@R.rec (fun _=>R) .no .normal .exit (fun _ _ _ _=> .no) .ret (r b n aK T H [])).jK m
   rw [ih b n aK T H m];cases r b n aK T H []<;>rfl
  |label _=>rfl
  |goto _=>rfl
  |ret=>rfl
  |refuse _=>rfl
theorem Qz {P:Program} {bl:bF}:∀(fuel:Nat) (c:Code) (n:Nat) (T:av aa) (H:ai) (m:List Nat),p7 P bl fuel c n true T H m=p7 P bl fuel c n false T H m
 |0,_,_,_,_,_=>rfl
 |fuel+1,c,n,T,H,m=>by
  have ih:=Qz (P:=P) (bl:=bl) fuel;show zE P (zD bl (xx P (p7 P bl fuel))) (p7 P bl fuel) c n true T H m=zE P (zD bl (xx P (p7 P bl fuel))) (p7 P bl fuel) c n false T H m;cases c<;>simp only [zE,ih]
theorem vd {P:Program} {bl:bF} (fuel:Nat) (c:Code) (n:Nat) (r:Bool) (T:av aa) (H:ai) (m:List Nat):p7 P bl fuel c n r T H m=p7 P bl fuel c n false T H m:=by
 cases r with
 |false=>rfl
 |true=>exact Qz fuel c n T H m
def zL (Q:Exit->av aa->ai->Prop):R->Prop
 | .normal T H []=>Q .normal T H
 | .exit id T H []=>Q (.exit id) T H
 | .ret T H []=>Q .ret T H
 |_=>False
def gP (N:av aa->ai->Prop) (Q:Exit->av aa->ai->Prop):Exit->av aa->ai->Prop
 | .normal,T,H=>N T H
 |e,T,H=>Q e T H
def B5 (id:Nat) (Q:Exit->av aa->ai->Prop):Exit->av aa->ai->Prop
 | .exit i,T,H=>if i=id then Q .normal T H else Q (.exit i) T H
 |e,T,H=>Q e T H
def cat:Code->List Nat->Code
 |c,[]=>c
 | .seq a _,0::p=>cat a p
 | .seq _ b,_::p=>cat b p
 | .cond _ a _,0::p=>cat a p
 | .cond _ _ b,_::p=>cat b p
 | .block _ b,_::p=>cat b p
 | .loop b,_::p=>cat b p
 | .scope b,_::p=>cat b p
 | .rangeFunc _ _ a _,0::p=>cat a p
 | .rangeFunc _ _ _ b,_::p=>cat b p
 |_,_=> .skip
section
variable {P:Program} {w0:World} {F:Env} {n:Nat} {T:av aa} {H:ai} {Q:Exit->av aa->ai->Prop} {c x y:Code}
theorem QA {r:R} (h:zL Q r):∃e aL H',r.out=some (e,aL,H',[])/\Q e aL H':=by
 unfold zL at h;split at h
 .exact⟨_,_,_,rfl,h⟩
 .exact⟨_,_,_,rfl,h⟩
 .exact⟨_,_,_,rfl,h⟩
 .exact h.elim
theorem Goal.mono {X:Ext} {Q':Exit->av aa->ai->Prop} (h:eI X P w0 F n c T H Q) (hq:∀e T H,Q e T H->Q' e T H):eI X P w0 F n c T H Q':=fun a w hs k=>
 wpIn_mono (h a w hs k) fun _ _ _ hh=>by
  rcases hh with⟨aL,H',h1,h2⟩|hh
  .exact .inl ⟨aL,H',hq _ _ _ h1,h2⟩
  .exact .inr hh
theorem Goal.run {X:Ext} (hK:eW P) (hm:P.follows .mixedOrders=true) {bl:bF} (hS:bB P (bD bl)) (fuel:Nat) (D:List Bool) (h:(p7 P bl fuel c n false T H []).path D (zL Q)):eI X P w0 F n c T H Q:=by
 intro a w hs k;obtain⟨r,h1,h2⟩:=aA.s9 _ _ h;obtain⟨e,aL,H',ho,hq⟩:=QA h2;rw [<-vd fuel c n X.rd.isSome]at h1;have hr:=Ji (P:=P) (bl:=bl) fuel c n X.rd.isSome T H [] r h1 (by rintro rfl;cases ho);have hI:pX P (pQ P (nQ P (bD bl)) fuel):=sh hK (BX hK hm hS) fuel;have ho':(pQ P (nQ P (bD bl)) fuel c n X.rd.isSome T H X.m).out=some (e,aL,H',X.m):=by rw [Ju,hr];exact Qy ho
 obtain⟨ρ,aN,hf,hfz,hkp⟩:=hs.ex;refine hI.ct _ _ _ _ _ _ _ _ _ _ ho' w0.heap.size ρ a w X.rd k _ rfl aN (by rw [hs.defers];exact hkp.xC) (fun i h1 _=>hf i h1) fun ρ' a' w' g1 g2 g3=> ?_
 refine .inl ⟨aL,H',hq,⟨⟨ρ',g1,fun i hi=> ?_,fun b A hb=> ?_,Jr hkp g2⟩,hs.below.trans (g2.below aN.H),g3.unique (hkp.xC.mono g2.le)⟩⟩
 .rw [g2.ext i (.inr hi)];exact hf i (cX g2.next hi)
 .rcases g2.mV b A hb with h|h|⟨i,k,c,q1,aO,bZ⟩
  .exact hfz b A h
  .exact .inr (cX hs.below.size h)
  .obtain⟨b',c',o,e1,_,_,bP⟩:=aN.H.blk i k q1;rw [bZ]at e1;cases e1;exact .inr (bP aO)
theorem mq.ng {X:Ext} {a:Act} {w:World} {σ:Ren} {s:bC} (hs:mq X P w0 F n T H a w) (h:fit P σ n T H s) (hp:pinned σ s.H.next X.pins=true):mq X P w0 F n s.T s.H a w:=by
 obtain⟨ρ,aN,hf,hfz,hkp⟩:=hs.ex;obtain⟨h1,h2⟩:=PQ aN h;exact⟨⟨ren σ ρ,h1,h2,hfz,hkp.ren aN h hp⟩,hs.below,hs.defers⟩
theorem Goal.ng {X:Ext} {σ:Ren} {s:bC} (h:fit P σ n T H s) (hg:eI X P w0 F n c s.T s.H Q) (hp:pinned σ s.H.next X.pins=true:=by rfl):eI X P w0 F n c T H Q:=fun a w hs k=>hg a w (hs.ng h hp) k
theorem Goal.seq {X:Ext} (hc:c= .seq x y) (h:eI X P w0 F n x T H (gP (fun T H=>eI X P w0 F n y T H Q) Q)):eI X P w0 F n c T H Q:=by
 subst hc;intro a w hs k;refine wpIn_seq (wpIn_mono (h a w hs k) fun e a' w' hh=> ?_);rcases hh with⟨aL,H',h1,h2⟩|⟨rfl,hh⟩
 .cases e with
  |normal=>exact h1 a' w' h2 k
  |_=>exact .inl ⟨aL,H',h1,h2⟩
 .exact .inr ⟨rfl,hh⟩
theorem Goal.block {X:Ext} {id:Nat} (hc:c= .block id x) (h:eI X P w0 F n x T H (B5 id Q)):eI X P w0 F n c T H Q:=by
 subst hc;intro a w hs k;refine wpIn_block (wpIn_mono (h a w hs k) fun e a' w' hh=> ?_);rcases hh with⟨aL,H',h1,h2⟩|⟨rfl,hh⟩
 .cases e with
  |exit i=>
   show if i=id then _ else _
   have h1:if i=id then Q .normal aL H' else Q (.exit i) aL H':=h1
   by_cases hi:i=id
   .rw [if_pos hi]at h1 ⊢;exact .inl ⟨aL,H',h1,h2⟩
   .rw [if_neg hi]at h1 ⊢;exact .inl ⟨aL,H',h1,h2⟩
  |_=>exact .inl ⟨aL,H',h1,h2⟩
 .exact .inr ⟨rfl,hh⟩
theorem Goal.scope {X:Ext} (hc:c= .scope x) (h:eI X P w0 F n x T H (fun e T H=>(∀l,e≠ .goto l)/\Q e T H)):eI X P w0 F n c T H Q:=by
 subst hc;intro a w hs k;refine Ig (wpIn_mono (h a w hs k) fun e a' w' hh=> ?_);rcases hh with⟨aL,H',h1,h2⟩|⟨rfl,hh⟩
 .cases e with
  |goto l=>exact absurd rfl (h1.1 l)
  |_=>exact .inl ⟨aL,H',h1.2,h2⟩
 .exact .inr ⟨rfl,hh⟩
theorem Goal.loop {X:Ext} {ι:Type} (hc:c= .loop x) (I:ι->bC) (μ:ι->Nat) (aaB:Ren) (i0:ι) (h0:fit P aaB n T H (I i0))
  (step:∀i,eI X P w0 F n x (I i).T (I i).H (gP (fun T H=>∃σ j,μ j<μ i/\fit P σ n T H (I j)) Q)) (hp:∀σ i,pinned σ (I i).H.next X.pins=true:=by exact fun _ _=>rfl):eI X P w0 F n c T H Q:=by
 subst hc;refine Goal.ng h0 ?_ (hp _ _);have key:∀m i,μ i<m->∀a w,mq X P w0 F n (I i).T (I i).H a w->∀k,Code.roundsIn (dM X.rd) k P x (fun e a' w'=>(∃aL H',Q e aL H'/\mq X P w0 F n aL H' a' w')\/(e= .ret/\X.R a' w')) m a w:=by
  intro m;induction m with
  |zero=>intro i hi;exact absurd hi (Nat.not_lt_zero _)
  |succ m ih=>
   intro i hi a w hs k;rw [roundsIn_succ];refine wpIn_mono (step i a w hs k) fun e a' w' hh=> ?_
   rcases hh with⟨aL,H',h1,h2⟩|⟨rfl,hh⟩
   .cases e with
    |normal=>
     obtain⟨σ,j,g1,g2⟩:=h1;exact ih j (by omega) a' w' (h2.ng g2 (hp _ _)) k
    |_=>exact .inl ⟨aL,H',h1,h2⟩
   .exact .inr ⟨rfl,hh⟩
 intro a w hs k;exact wpIn_loop_rounds (μ i0+1) (key (μ i0+1) i0 (e7 _) a w hs k)
end
def au.lB:au->Bool
 | .list _ _=>false
 | .ptr _=>false
 | .pair a b=>a.lB&&b.lB
 |_=>true
mutual
def cz (fresh:Bool) (H:ai):aa->aa->Prop
 | .raw (.slice none 0 0), .bk _ _ ys=>ys=[]
 | .raw a, .raw b=>xz a b
 | .bk z t xs, .bk z' u ys=>gO (!fresh) (Eu z z' ys.length (oO t u xs ys))
 | .bN e t i k len _, .bk z u ys=>gO (decide (t=u)&&(!fresh||t.lB)) (len=ys.length/\ys=((bI u (H.get i)).drop k).take len/\(len=0\/bt e u (H.get i) (k+len-1)=true)/\(z=true->len≠0))
 | .slice i off n _, .bk z u ys=>(match H.get i with
   |some (.cells _ cs _ _ false)=>gO (!fresh||u.lB) (match u.qL n (cut cs off (n*u.size))with
    |some ds=>ds=ys/\(Nat.ble (off+n*u.size) cs.length&&(!z||Nat.ble 1 n))=true
    |none=>False)
   |_=>False)
 | .agg l, .agg l'=>th fresh H l l'
 | .tuple l, .tuple l'=>th fresh H l l'
 |_,_=>False
def th (fresh:Bool) (H:ai):List aa->List aa->Prop
 |[],[]=>True
 |v::l,v'::l'=>cz fresh H v v'/\th fresh H l l'
 |_,_=>False
end
structure tj (w:World) (F:Env):Prop where
 oR:∀i x,F i=some x->i<64
 all:∀g,g<64->∃c,F g=some (g,c)
 fz:∀b A,F.fz b=some A->∃e fr,w.heap[b]? =some (.cells A e fr)
def u5 (F:Env):Prop:=∀b p,Ground.g b=some p->∃A,F.fz b=some A/\p A
def Holds (P:Program) (fresh:Bool) (f:FuncId) (args:List aa) (res:aa):Prop:=
 ∀(w:World) (F:Env) (xs:List Value),tj w F->u5 F->aF F args xs->Calls P f xs.toArray w fun e w'=>∃x F',e= .returned x/\Den F' res x/\tj w' F'/\(∀b A,F'.fz b=some A->(fresh=false/\F.fz b=some A)\/w.heap.size<=b)/\Below w.heap.size w w'
def H0:ai:=⟨.nil,64⟩
def gk (P:Program) (fresh:Bool) (fn:Func) (res:aa):Exit->av aa->ai->Prop:=fun e T H=>match e with
 | .normal| .ret=>(match jD P fn T H with | .ok v _=>cz fresh H v res|_=>False)
 |_=>False
section
variable {P:Program}
def j3 (w:World) (b:Nat):Option (Array Value):=match w.heap[b]? with
 |some (.cells A _ _)=>some A
 |_=>none
theorem nT {w:World} {b:Nat} {A:Array Value}:j3 w b=some A↔ ∃e fr,w.heap[b]? =some (.cells A e fr):=by
 unfold j3;constructor
 .intro h;split at h
  .rename_i A' e fr hb;cases h;exact⟨e,fr,hb⟩
  .cases h
 .rintro⟨e,fr,h⟩;rw [h]
def B6 (fresh:Bool) (n0:Nat) (w:World) (F:Env):Env:=⟨F.at',fun b=>if n0<=b then j3 w b else if fresh then none else F.fz b⟩
theorem xD {ρ ρ':Env}:∀(t:au) (d:t.den) ys,t.lB=true->aF ρ (t.cells d) ys->aF ρ' (t.cells d) ys
 | .int _,d,ys,_,h=>by cases h with |cons h1 h2=>cases h2;rw [h1.b7];exact .cons (.raw _) .nil
 | .bool,d,ys,_,h=>by cases h with |cons h1 h2=>cases h2;rw [h1.b7];exact .cons (.raw _) .nil
 | .str,d,ys,_,h=>by cases h with |cons h1 h2=>cases h2;rw [h1.b7];exact .cons (.raw _) .nil
 | .list z t,d,ys,hn,h=>by cases hn
 | .pair a b,d,ys,hn,h=>by
   simp only [au.lB,ae]at hn;obtain⟨y1,y2,rfl,h1,h2⟩:=aF.split (a:=a.cells d.1) (b:=b.cells d.2) h;exact(xD a d.1 y1 hn.1 h1).append (xD b d.2 y2 hn.2 h2)
 | .ptr t,d,ys,hn,h=>by cases hn
 | .unit,d,ys,_,h=>by cases h;exact .nil
variable {w0 w:World} {F ρ:Env} {H:ai} {fresh:Bool}
mutual
theorem rm (hH:aX P w0.heap.size ρ H w) (hfz:∀b A,ρ.fz b=some A->F.fz b=some A\/w0.heap.size<=b):∀{v v':aa} {x:Value},cz fresh H v v'->Den ρ v x->Den (B6 fresh w0.heap.size w F) v' x:=by
 intro v v' x h hd;have hle':fresh=false->∀b A,ρ.fz b=some A->(B6 fresh w0.heap.size w F).fz b=some A:=fun hf b A hb=>by
  show(if w0.heap.size<=b then j3 w b else if fresh then none else F.fz b)=some A;by_cases h0:w0.heap.size<=b
  .rw [if_pos h0];exact nT.2 (hH.fz b A hb).1
  .rw [if_neg h0,hf];rcases hfz b A hb with h|h
   .exact h
   .exact absurd h h0
 unfold cz at h;split at h
 .subst h;rw [hd.b7];exact .eV fun _=>⟨rfl,rfl⟩
 .rw [hd.b7,Qs h];exact .raw _
 .rename_i z t xs z' u ys;obtain⟨h1,h2⟩:=iU h;obtain⟨h2,h3⟩:=u4 h2;obtain⟨e,rfl⟩:=zJ h2;subst e;have hf:fresh=false:=by simpa using h1
  rcases hd.sQ with⟨rfl,a,k,rfl,hz⟩|⟨b,off,k,A,g1,g2,g3,g4,rfl,g5⟩
  .exact .eV fun e=>(h3 e).elim hz fun hn=>absurd rfl hn
  .exact .bk (hle' hf _ _ g1) g2 rfl (nS (fun d ys=>p8 (hle' hf) t d ys) _ _ g3) g4 fun e=>(h3 e).elim g5 fun hn hxs=>hn (by subst hxs;rfl)
 .rename_i e t i k len cap z u ys;obtain⟨h1,h2,h3,h4,h5⟩:=iU h;rw [ae]at h1;obtain⟨h1,h6⟩:=h1;have h1:=ap h1;subst h1;rcases hd.jl with⟨hl,a,rfl⟩|⟨b,c,kc,g1,g2,g3,rfl⟩
  .subst hl;have:ys=[]:=List.eq_nil_of_length_eq_zero h2.symm;subst this;exact .eV fun e=>absurd rfl (h5 e)
  .rcases h4 with hl|h4
   .subst hl;have:ys=[]:=List.eq_nil_of_length_eq_zero h2.symm;subst this;exact .eV fun e=>absurd rfl (h5 e)
   .obtain⟨b1,b2⟩:=uM h4;by_cases hl:len=0
    .subst hl;have:ys=[]:=List.eq_nil_of_length_eq_zero h2.symm;subst this;exact .eV fun e=>absurd rfl (h5 e)
    .obtain⟨zs,q1,aO,_⟩:=qU hH b1 g1;generalize bI t (H.get i)=xs at b1 b2 h3 aO;have hB:w0.heap.size<=b:=by
      obtain⟨b',c',o,e1,_,_,bP⟩:=hH.blk i _ b1;rw [g1]at e1;cases e1;exact bP rfl
     have hle2:k+len<=xs.length:=by omega
     have e1:(xs.drop k).take len=(xs.take (k+len)).drop k:=by rw [List.take_drop]
     have gw:=BA (off:=0) (A:=zs.toList) (l:=k) (h:=k+len) (by simpa using aO) (by omega) hle2;rw [aw,<-e1,<-h3]at gw;rw [h2];refine .bk (A:=zs) ?_ ?_ rfl ?_ (by omega) (fun e hys=>by subst hys;exact hl h2)
     .show(if w0.heap.size<=b then j3 w b else _)=some zs;rw [if_pos hB];exact nT.2 ⟨_,_,q1⟩
     .have e2:=gw.length;have:k*t.size+(t.flat ys).length<=zs.toList.length:=by
       have e3:(t.flat xs).length<=zs.toList.length:=by
        have:=aO.length;simp at this ⊢;omega
       rw [t.iP]at e3 ⊢;rw [<-h2,<-Nat.add_mul];exact cX (Nat.mul_le_mul_right _ hle2) e3
      simpa using this
     .cases hf:fresh with
      |true=>
       rw [hf]at h6;have h6:t.lB=true:=by simpa using h6
       exact nS (fun d ys=>xD t d ys h6) _ _ gw
      |false=>rw [<-hf];exact nS (fun d ys=>p8 (hle' hf) t d ys) _ _ gw
 .rename_i i off n cap z u ys;split at h
  .rename_i e cs x fz hg;obtain⟨h1,h2⟩:=iU h;split at h2
   .rename_i ds hrd;obtain⟨rfl,h3⟩:=h2;rw [ae]at h3;obtain⟨hle,aaC⟩:=h3;have hle:=bR hle;obtain⟨b,c,k,g1,_,g3,rfl⟩:=hd.gY;obtain⟨zs,w6,q1,_,bZ,_,_,qa⟩:=l6 hH hg g1;have hcut:=(bZ.drop off).take (n*u.size);obtain⟨mz,hn⟩:=au.Bw hrd hcut;subst hn;have hfl:=u.iP ds;have e2:((zs.toList.take cs.length).drop off).take (ds.length*u.size)=(zs.toList.drop off).take (u.flat ds).length:=by
     rw [hfl,List.drop_take,List.take_take,Nat.min_eq_left (by omega)]
    rw [e2]at mz;have hB:w0.heap.size<=b:=by
     obtain⟨b',c',o,e1,_,_,bP⟩:=hH.blk i _ hg;rw [g1]at e1;cases e1;exact bP rfl
    refine .bk (A:=zs) ?_ (by rw [hfl];omega) rfl ?_ g3 fun e hys=> ?_
    .show(if w0.heap.size<=b then j3 w b else _)=some zs;rw [if_pos hB];exact nT.2 ⟨_,_,q1⟩
    .cases hf:fresh with
     |true=>
      rw [hf]at h1;have h1:u.lB=true:=by simpa using h1
      exact nS (fun d ys=>xD u d ys h1) _ _ mz
     |false=>rw [<-hf];exact nS (fun d ys=>p8 (hle' hf) u d ys) _ _ mz
    .subst e;subst hys;cases aaC
   .exact h2.elim
  .exact h.elim
 .obtain⟨xs,g1,rfl⟩:=hd.sO;exact .agg (Jv hH hfz h g1)
 .obtain⟨xs,g1,rfl⟩:=hd.Bu;exact .tuple (Jv hH hfz h g1)
 .exact h.elim
theorem Jv (hH:aX P w0.heap.size ρ H w) (hfz:∀b A,ρ.fz b=some A->F.fz b=some A\/w0.heap.size<=b):∀{v v':List aa} {x:List Value},th fresh H v v'->aF ρ v x->aF (B6 fresh w0.heap.size w F) v' x:=by
 intro v v' x h hd;unfold th at h;split at h
 .cases hd;exact .nil
 .cases hd with
  |cons h1 h2=>exact .cons (rm hH hfz h.1 h1) (Jv hH hfz h.2 h2)
 .exact h.elim
end
theorem holds_of {f:FuncId} {fn:Func} {c:Code} {args:List aa} {res:aa} (hf:P.funcs[f]? =some fn) (hb:fn.body=some c) (hn:args.length<=fn.ntmps)
  (h:∀w F,Goal P w F fn.ntmps c (fG args .nil 0) H0 (gk P fresh fn res)):Holds P fresh f args res:=by
 intro w F xs hF cn hd;have hg:=h w F;have hH:aX P w.heap.size F H0 w:=⟨fun i k h=>(by rw [show H0.get i=none from av.get_nil i]at h;cases h),fun i j eB eO b ci b9 h=>(by rw [show H0.get i=none from av.get_nil i]at h;cases h),fun i k h=>(by rw [show H0.get i=none from av.get_nil i]at h;cases h),aE _,
  fun b A h=>⟨hF.fz b A h,fun i k c hi=>(by rw [show H0.get i=none from av.get_nil i]at hi;cases hi)⟩⟩
 have hs:Sat P w F fn.ntmps (fG args .nil 0) H0 {tmps:=xs.toArray++Array.replicate (fn.ntmps-xs.toArray.size) undef,defers:=[]} w:=by
  refine⟨⟨F,⟨BF hd hn,hH,hF.all,cn⟩,fun i hi=> ?_,fun b A h=> .inl h,⟨fun b o h=>(by cases h),fun i hi=>(by cases hi),fun b A h=>(by cases h),Nat.zero_le _,fun b o h=>(by cases h),rfl,fun b o h=>(by cases h)⟩⟩,Below.refl _ _,rfl⟩;have hi:64<=i:=hi;cases B7:F i with
  |none=>rfl
  |some x=>exact absurd (hF.oR i x B7) (by omega)
 suffices hc:CallsIn (dM none) 0 P f xs.toArray w (fun e w'=>∃x F',e= .returned x/\Den F' res x/\tj w' F'/\(∀b A,F'.fz b=some A->(fresh=false/\F.fz b=some A)\/w.heap.size<=b)/\Below w.heap.size w w')from callsIn_wide.1 hc
 refine callsIn_of_wp_marks hf hb trivial (wpIn_mono (hg _ _ hs 0) fun e a' w' hh=> ?_);obtain⟨aL,H',h1,h2⟩:=hh.resolve_right fun q=>q.2
 obtain⟨ρ,aN,hnone,hfz,_⟩:=h2.ex;have hd':=h2.defers;have key:(match jD P fn aL H' with | .ok v _=>cz fresh H' v res|_=>False)->LeavesInM (dM none) 0 P fn a'.tmps (fun e w'=>∃x F',e= .returned x/\Den F' res x/\tj w' F'/\(∀b A,F'.fz b=some A->(fresh=false/\F.fz b=some A)\/w.heap.size<=b)/\Below w.heap.size w w') a'.defers .returning w':=by
  intro hr;split at hr
  .rename_i v H2 hres;have mY:ey ρ [] a'.defers:=hd';refine xd (T:=aL) (H:=H') [] aN mY (show jZ P fn aL H' []= .ok v H2 from hres) fun y w2 r1 r2 r3=> ?_
   obtain⟨rfl,_⟩:=D1 aN hres;refine⟨y,B6 fresh w.heap.size w2 F,rfl,rm r2 hfz hr r1,⟨hF.oR,hF.all,fun b A hb=> ?_⟩,fun b A hb=> ?_,h2.below.trans (r3.below aN.H)⟩
   .have hb:(if w.heap.size<=b then j3 w2 b else if fresh then none else F.fz b)=some A:=hb;by_cases h0:w.heap.size<=b
    .rw [if_pos h0]at hb;exact nT.1 hb
    .rw [if_neg h0]at hb;cases hfr:fresh with
     |true=>rw [hfr]at hb;cases hb
     |false=>
      rw [hfr]at hb;obtain⟨e,fr,h3⟩:=hF.fz b A hb;exact⟨e,fr,((h2.below.trans (r3.below aN.H)).block b (by omega)).trans h3⟩
   .have hb:(if w.heap.size<=b then j3 w2 b else if fresh then none else F.fz b)=some A:=hb;by_cases h0:w.heap.size<=b
    .exact .inr h0
    .rw [if_neg h0]at hb;cases hfr:fresh with
     |true=>rw [hfr]at hb;cases hb
     |false=>rw [hfr]at hb;exact .inl ⟨rfl,hb⟩
  .exact hr.elim
 cases e with
 |normal=>exact key h1
 |ret=>exact key h1
 |_=>exact h1.elim
end
end
end Go.Proofs.YtibikmmdbdlafaaGreatDoor.Sv
/- The runner over an abstract memory: functions of which it is known what they return for plain data. -/
namespace Go.Proofs.YtibikmmdbdlafaaGreatDoor.Sv
open Go.RowKit
variable [Ground]
noncomputable section
def hO:List au->Type
 |[]=>Unit
 |t::l=>t.den×hO l
def B8 {β:Type} (H:ai) (cA z:Bool) (t:au) (no:aA β) (l:List aa) (f:List t.den->List aa->aA β):aA β:=match l with
 | .bk z' t' xs::r=>if h:t'=t then(match !z||z' with |true=>f (h ▸ xs) r|false=> .must (Nat.ble 1 xs.length) (f (h ▸ xs) r))else no
 | .raw (.slice none 0 0)::r=>f [] r
 | .bN e u i k len _::r=>(match cA&&(decide (u=t)&& !z)with
   |true=> .must (Nat.beq len 0||bt e t (H.get i) (k+len-1)) (f (((bI t (H.get i)).drop k).take len) r)
   |false=>no)
 | .slice i off n _::r=>(match cA&& !z,H.get i with
   |true,some (.cells _ cs _ _ _)=>(match Nat.ble (off+n*t.size) cs.length,t.qL n (cut cs off (n*t.size))with
    |true,some ds=>f ds r
    |_,_=>no)
   |_,_=>no)
 |_=>no
def au.u6 {β:Type} (H:ai) (cA:Bool) (no:aA β):(t:au)->List aa->(t.den->List aa->aA β)->aA β
 | .int k,l,f=>match yQ k l with |some (x,r)=>f x r|none=>no
 | .bool,l,f=>match yR l with |some (x,r)=>f x r|none=>no
 | .str,l,f=>match yS l with |some (x,r)=>f x r|none=>no
 | .list z t,l,f=>B8 H cA z t no l f
 | .pair a b,l,f=>a.u6 H cA no l fun x r=>b.u6 H cA no r fun y r=>f (x,y) r
 | .ptr t,l,f=>match yT t l with |some (x,r)=>f x r|none=>no
 | .unit,l,f=>f () l
def au.isAgg:au->Bool
 | .pair _ _=>true
 | .unit=>true
 |_=>false
def B9 {β:Type} (H:ai) (cA:Bool) (no:aA β) (t:au) (v:aa) (f:t.den->aA β):aA β:=match t.isAgg,v with
 |true, .agg cs=>t.u6 H cA no cs fun d r=>match r with |[]=>f d|_=>no
 |true,_=>no
 |false,v=>t.u6 H cA no [v] fun d r=>match r with |[]=>f d|_=>no
def ns {β:Type} (H:ai) (cA:Bool) (no:aA β):(ps:List au)->List aa->(hO ps->aA β)->aA β
 |[],[],f=>f ()
 |t::ps,v::vs,f=>B9 H cA no t v fun d=>ns H cA no ps vs fun ds=>f (d,ds)
 |_,_,_=>no
def q7 (t:au) (d:t.den):aa:=match t.isAgg with
 |true=> .agg (t.cells d)
 |false=>(t.cells d).headD .bot
def jL:(ts:List au)->hO ts->List aa
 |[],_=>[]
 |t::l,d=>q7 t d.1::jL l d.2
def nU (rs:List au) (d:hO rs):aa:=match jL rs d with
 |[v]=>v
 |vs=> .tuple vs
structure bn where
 f:FuncId
 ps:List au
 rs:List au
 fresh:Bool
 pre:hO ps->Bool
 fn:hO ps->hO rs
def bn.Ok (P:Program) (c:bn):Prop:=∀d,c.pre d=true->Holds P c.fresh c.f (jL c.ps d) (nU c.rs (c.fn d))
def xE (c:bn) (args:List aa) (H:ai):aA aI:=ns H c.fresh (.ret .no) c.ps args fun d=> .must (c.pre d) (.ret (.ok (nU c.rs (c.fn d)) H))
def a7:List bn->bF
 |[],_,_,_=> .ret .no
 |c::l,f,args,H=>match Nat.beq f c.f with |true=>xE c args H|false=>a7 l f args H
section
variable {P:Program} {B:Nat} {ρ:Env} {H:ai} {w:World}
def js (cA:Bool) (w:World) (ρ:Env):Env:=⟨fun i=>if i<64 then ρ i else none,fun b=>if cA then j3 w b else ρ.fz b⟩
theorem QB (hH:aX P B ρ H w) (cA:Bool):∀b A,ρ.fz b=some A->(js cA w ρ).fz b=some A:=fun b A h=>by
 cases cA with
 |true=>exact nT.2 (hH.fz b A h).1
 |false=>exact h
theorem fi (hH:aX P B ρ H w) (cA:Bool) {t:au} {d:t.den} {ys:List Value} (h:aF ρ (t.cells d) ys):aF (js cA w ρ) (t.cells d) ys:=p8 (QB hH cA) t d ys h
theorem aaD {β:Type} (hH:aX P B ρ H w) {cA z:Bool} {t:au} {no:aA β} {b:β} (hno:no.gr≠some b) {l:List aa} {f:List t.den->List aa->aA β} (h:(B8 H cA z t no l f).gr=some b):
  ∃xs r,(f xs r).gr=some b/\∀ys,aF ρ l ys->∃y1 y2,ys=y1++y2/\aF (js cA w ρ) [.bk z t xs] y1/\aF ρ r y2:=by
 unfold B8 at h;split at h
 .rename_i z' t' xs r;split at h
  .rename_i e;subst e;have key:∀(hz:z=true->z'=true\/xs≠[]) ys,aF ρ (.bk z' t' xs::r) ys->∃y1 y2,ys=y1++y2/\aF (js cA w ρ) [.bk z t' xs] y1/\aF ρ r y2:=by
    intro hz ys hd;cases hd with
    |cons h1 h2=>
     refine⟨[_],_,rfl, .cons ?_ .nil,h2⟩;rcases h1.sQ with⟨rfl,a,k,rfl,oI⟩|⟨b,off,k,A,g1,g2,g3,g4,rfl,g5⟩
     .exact .eV fun e=>(hz e).elim oI fun h=>absurd rfl h
     .exact .bk (QB hH cA _ _ g1) g2 rfl (nS (fun d ys=>fi hH cA) _ _ g3) g4 fun e=>(hz e).elim g5 id
   split at h
   .rename_i hz;exact⟨xs,r,h,key fun e=> .inl (by subst e;simpa using hz)⟩
   .cases hb:Nat.ble 1 xs.length with
    |false=>simp only [hb,aA.gr,cond_false]at h;cases h
    |true=>
     simp only [hb,aA.gr,cond_true]at h;exact⟨xs,r,h,key fun e=> .inr fun hx=>by subst hx;cases hb⟩
  .exact absurd h hno
 .rename_i r;refine⟨[],r,h,fun ys hd=> ?_⟩;cases hd with
  |cons h1 h2=>
   refine⟨[_],_,rfl, .cons ?_ .nil,h2⟩;rw [h1.b7];exact .eV fun _=>⟨rfl,rfl⟩
 .rename_i e u i k len cap r;split at h
  .rename_i hc;simp only [ae,bz]at hc;obtain⟨hb,hu,hz⟩:=hc;subst hu;subst hb;have hz:z=false:=by simpa using hz
   subst hz;cases hm:(Nat.beq len 0||bt e u (H.get i) (k+len-1))with
   |false=>rw [hm]at h;cases h
   |true=>
    rw [hm]at h;refine⟨_,r,h,fun ys hd=> ?_⟩;cases hd with
    |cons h1 h2=>
     refine⟨[_],_,rfl, .cons ?_ .nil,h2⟩;rcases h1.jl with⟨rfl,a,rfl⟩|⟨b,c,kc,g1,g2,g3,rfl⟩
     .rw [List.take_zero];exact .eV fun e=>by cases e
     .rw [Bool.or_eq_true]at hm;by_cases hl:len=0
      .subst hl;rw [List.take_zero];exact .eV fun e=>by cases e
      .have hm:=hm.resolve_left fun e=>hl (ac e)
       obtain⟨b1,b2⟩:=uM hm;obtain⟨zs,q1,aO,_⟩:=qU hH b1 g1;generalize bI u (H.get i)=xs at b1 b2 aO ⊢;have hle2:k+len<=xs.length:=by omega
       have e1:(xs.drop k).take len=(xs.take (k+len)).drop k:=by rw [List.take_drop]
       have gw:=BA (off:=0) (A:=zs.toList) (l:=k) (h:=k+len) (by simpa using aO) (by omega) hle2;rw [aw,<-e1]at gw;have hn:((xs.drop k).take len).length=len:=by simp;omega
       have gy:=Den.bk (ρ:=js true w ρ) (z:=false) (t:=u) (xs:=(xs.drop k).take len) (b:=b) (off:=k*u.size) (k:=kc) (A:=zs) (nT.2 ⟨_,_,q1⟩) (by
        have e3:(u.flat xs).length<=zs.toList.length:=by
         have:=aO.length;simp at this ⊢;omega
        rw [u.iP]at e3 ⊢;rw [hn,<-Nat.add_mul];have:=cX (Nat.mul_le_mul_right u.size hle2) e3;simpa using this) rfl (nS (fun d ys=>fi hH true) _ _ gw) (by omega) (fun e=>by cases e)
       rwa [hn]at gy
  .exact absurd h hno
 .rename_i i off n cap r;split at h
  .rename_i e cs x fz ro hc hg;rw [ae]at hc;obtain⟨hb,hz⟩:=hc;subst hb;have hz:z=false:=by simpa using hz
   subst hz;split at h
   .rename_i ds hle hrd;have hle:=bR hle;refine⟨ds,r,h,fun ys hd=> ?_⟩;cases hd with
    |cons h1 h2=>
     refine⟨[_],_,rfl, .cons ?_ .nil,h2⟩;obtain⟨b,c,k,g1,_,g3,rfl⟩:=h1.gY;obtain⟨zs,w6,q1,_,bZ,_,_,qa⟩:=l6 hH hg g1;have hcut:=(bZ.drop off).take (n*t.size);obtain⟨mz,hn⟩:=au.Bw hrd hcut;subst hn;have hfl:=t.iP ds;have e2:((zs.toList.take cs.length).drop off).take (ds.length*t.size)=(zs.toList.drop off).take (t.flat ds).length:=by
      rw [hfl,List.drop_take,List.take_take,Nat.min_eq_left (by omega)]
     rw [e2]at mz;exact .bk (nT.2 ⟨_,_,q1⟩) (by rw [hfl];omega) rfl (nS (fun d ys=>fi hH true) _ _ mz) g3 fun e=>by cases e
   .exact absurd h hno
  .exact absurd h hno
 .exact absurd h hno
theorem aaE {β:Type} {cA z:Bool} {t:au} {no:aA β} {b:β} (hno:no.gr≠some b) {l:List aa} {f:List t.den->List aa->aA β} (h:(B8 H cA z t no l f).gr=some b):∃xs r,(f xs r).gr=some b:=by
 unfold B8 at h;split at h
 .split at h
  .split at h
   .exact⟨_,_,h⟩
   .rename_i xs r _ _ _;cases hb:Nat.ble 1 xs.length with
    |false=>simp only [hb,aA.gr,cond_false]at h;cases h
    |true=>simp only [hb,aA.gr,cond_true]at h;exact⟨_,_,h⟩
  .exact absurd h hno
 .exact⟨_,_,h⟩
 .rename_i e u i k len cap r;split at h
  .cases hm:(Nat.beq len 0||bt e t (H.get i) (k+len-1))with
   |false=>rw [hm]at h;cases h
   |true=>rw [hm]at h;exact⟨_,_,h⟩
  .exact absurd h hno
 .split at h
  .split at h
   .exact⟨_,_,h⟩
   .exact absurd h hno
  .exact absurd h hno
 .exact absurd h hno
theorem Ex {β:Type} {cA:Bool} {no:aA β} {b:β} (hno:no.gr≠some b):∀(t:au) {l:List aa} {f:t.den->List aa->aA β},(t.u6 H cA no l f).gr=some b->∃d r,(f d r).gr=some b
 | .int k,l,f,h=>by
   have h:(match yQ k l with |some (x,r)=>f x r|none=>no).gr=some b:=h;split at h
   .exact⟨_,_,h⟩
   .exact absurd h hno
 | .bool,l,f,h=>by
   have h:(match yR l with |some (x,r)=>f x r|none=>no).gr=some b:=h;split at h
   .exact⟨_,_,h⟩
   .exact absurd h hno
 | .str,l,f,h=>by
   have h:(match yS l with |some (x,r)=>f x r|none=>no).gr=some b:=h;split at h
   .exact⟨_,_,h⟩
   .exact absurd h hno
 | .list z t,l,f,h=>aaE hno h
 | .pair a c,l,f,h=>by
   obtain⟨x,r,h1⟩:=Ex hno a (f:=fun x r=>c.u6 H cA no r fun y r=>f (x,y) r) h;obtain⟨y,r',h3⟩:=Ex hno c h1;exact⟨_,_,h3⟩
 | .ptr t,l,f,h=>by
   have h:(match yT t l with |some (x,r)=>f x r|none=>no).gr=some b:=h;split at h
   .exact⟨_,_,h⟩
   .exact absurd h hno
 | .unit,l,f,h=>⟨(),l,h⟩
theorem Ca {β:Type} {cA:Bool} {no:aA β} {b:β} (hno:no.gr≠some b):∀(ps:List au) {vs:List aa} {f:hO ps->aA β},(ns H cA no ps vs f).gr=some b->∃d,(f d).gr=some b
 |[],[],f,h=>⟨(),h⟩
 |[],_::_,f,h=>absurd h hno
 |_::_,[],f,h=>absurd h hno
 |t::ps,v::vs,f,h=>by
  have h:(B9 H cA no t v fun d=>ns H cA no ps vs fun ds=>f (d,ds)).gr=some b:=h;have:∃d,(ns H cA no ps vs fun ds=>f (d,ds)).gr=some b:=by
   unfold B9 at h;split at h
   .obtain⟨d,r,h1⟩:=Ex hno t h;cases r with
    |cons _ _=>exact absurd h1 hno
    |nil=>exact⟨d,h1⟩
   .exact absurd h hno
   .obtain⟨d,r,h1⟩:=Ex hno t h;cases r with
    |cons _ _=>exact absurd h1 hno
    |nil=>exact⟨d,h1⟩
  obtain⟨d,h1⟩:=this;obtain⟨ds,h3⟩:=Ca hno ps h1;exact⟨(d,ds),h3⟩
theorem Ey {β:Type} (hH:aX P B ρ H w) {cA:Bool} {no:aA β} {b:β} (hno:no.gr≠some b):∀(t:au) {l:List aa} {f:t.den->List aa->aA β},(t.u6 H cA no l f).gr=some b->
  ∃d r,(f d r).gr=some b/\∀ys,aF ρ l ys->∃y1 y2,ys=y1++y2/\aF (js cA w ρ) (t.cells d) y1/\aF ρ r y2
 | .int k,l,f,h=>by
   have h:(match yQ k l with |some (x,r)=>f x r|none=>no).gr=some b:=h;split at h
   .rename_i x r hx;refine⟨x,r,h,fun ys hd=> ?_⟩;obtain⟨y1,y2,e,h1,h2⟩:=au.uL (.int k) hx hd;exact⟨y1,y2,e,fi hH cA h1,h2⟩
   .exact absurd h hno
 | .bool,l,f,h=>by
   have h:(match yR l with |some (x,r)=>f x r|none=>no).gr=some b:=h;split at h
   .rename_i x r hx;refine⟨x,r,h,fun ys hd=> ?_⟩;obtain⟨y1,y2,e,h1,h2⟩:=au.uL .bool hx hd;exact⟨y1,y2,e,fi hH cA h1,h2⟩
   .exact absurd h hno
 | .str,l,f,h=>by
   have h:(match yS l with |some (x,r)=>f x r|none=>no).gr=some b:=h;split at h
   .rename_i x r hx;refine⟨x,r,h,fun ys hd=> ?_⟩;obtain⟨y1,y2,e,h1,h2⟩:=au.uL .str hx hd;exact⟨y1,y2,e,fi hH cA h1,h2⟩
   .exact absurd h hno
 | .list z t,l,f,h=>aaD hH hno h
 | .pair a c,l,f,h=>by
   obtain⟨x,r,h1,h2⟩:=Ey hH hno a (f:=fun x r=>c.u6 H cA no r fun y r=>f (x,y) r) h;obtain⟨y,r',h3,h4⟩:=Ey hH hno c h1;refine⟨(x,y),r',h3,fun ys hd=> ?_⟩;obtain⟨y1,y2,rfl,g1,g2⟩:=h2 ys hd;obtain⟨y3,HG,rfl,g3,g4⟩:=h4 y2 g2;exact⟨y1++y3,HG,by simp,g1.append g3,g4⟩
 | .ptr t,l,f,h=>by
   have h:(match yT t l with |some (x,r)=>f x r|none=>no).gr=some b:=h;split at h
   .rename_i x r hx;refine⟨x,r,h,fun ys hd=> ?_⟩;obtain⟨y1,y2,e,h1,h2⟩:=au.uL (.ptr t) hx hd;exact⟨y1,y2,e,fi hH cA h1,h2⟩
   .exact absurd h hno
 | .unit,l,f,h=>⟨(),l,h,fun ys hd=>⟨[],ys,rfl, .nil,hd⟩⟩
theorem ga {t:au} (h:t.isAgg=false) (d:t.den):t.cells d=[q7 t d]:=by
 cases t<;>first |rfl |cases h
theorem aaF {β:Type} (hH:aX P B ρ H w) {cA:Bool} {no:aA β} {b:β} (hno:no.gr≠some b) {t:au} {v:aa} {f:t.den->aA β} (h:(B9 H cA no t v f).gr=some b):
  ∃d,(f d).gr=some b/\∀x,Den ρ v x->Den (js cA w ρ) (q7 t d) x:=by
 unfold B9 at h;split at h
 .rename_i cs ha;obtain⟨d,r,h1,h2⟩:=Ey hH hno t h;cases r with
  |cons _ _=>exact absurd h1 hno
  |nil=>
   refine⟨d,h1,fun x hx=> ?_⟩;obtain⟨xs,g1,rfl⟩:=hx.sO;obtain⟨y1,y2,rfl,g2,g3⟩:=h2 xs g1;cases g3;unfold q7;rw [ha,List.append_nil];exact .agg g2
 .exact absurd h hno
 .rename_i ha;obtain⟨d,r,h1,h2⟩:=Ey hH hno t h;cases r with
  |cons _ _=>exact absurd h1 hno
  |nil=>
   refine⟨d,h1,fun x hx=> ?_⟩;obtain⟨y1,y2,e,g2,g3⟩:=h2 [x] (.cons hx .nil);cases g3;rw [List.append_nil]at e;subst e;rw [ga ha]at g2;cases g2 with |cons g _=>exact g
theorem lL {β:Type} (hH:aX P B ρ H w) {cA:Bool} {no:aA β} {b:β} (hno:no.gr≠some b):∀(ps:List au) {vs:List aa} {f:hO ps->aA β},(ns H cA no ps vs f).gr=some b->
  ∃d,(f d).gr=some b/\∀xs,aF ρ vs xs->aF (js cA w ρ) (jL ps d) xs
 |[],[],f,h=>⟨(),h,fun xs hd=>by cases hd;exact .nil⟩
 |[],_::_,f,h=>absurd h hno
 |_::_,[],f,h=>absurd h hno
 |t::ps,v::vs,f,h=>by
  obtain⟨d,h1,h2⟩:=aaF hH hno (f:=fun d=>ns H cA no ps vs fun ds=>f (d,ds)) h;obtain⟨ds,h3,h4⟩:=lL hH hno ps h1;refine⟨(d,ds),h3,fun xs hd=> ?_⟩;cases hd with
  |cons g1 g2=>exact .cons (h2 _ g1) (h4 _ g2)
theorem LT {F F':Env} (hf:∀b A,F.fz b=some A->F'.fz b=some A) {t:au} {d:t.den} {x:Value} (h:Den F (q7 t d) x):Den F' (q7 t d) x:=by
 cases ha:t.isAgg with
 |true=>
  unfold q7 at h ⊢;rw [ha]at h ⊢;obtain⟨xs,g1,rfl⟩:=h.sO;exact .agg (p8 hf t d xs g1)
 |false=>
  have h1:aF F (t.cells d) [x]:=by rw [ga ha];exact .cons h .nil
  have h2:=p8 hf t d _ h1;rw [ga ha]at h2;cases h2 with |cons g _=>exact g
theorem QC {F F':Env} (hf:∀b A,F.fz b=some A->F'.fz b=some A):∀(ts:List au) {d:hO ts} {xs:List Value},aF F (jL ts d) xs->aF F' (jL ts d) xs
 |[],_,_,h=>by cases h;exact .nil
 |t::l,d,_,h=>by
  cases h with
  |cons h1 h2=>exact .cons (LT hf h1) (QC hf l h2)
theorem aaG {F F':Env} (hf:∀b A,F.fz b=some A->F'.fz b=some A) {rs:List au} {d:hO rs} {x:Value} (h:Den F (nU rs d) x):Den F' (nU rs d) x:=by
 have key:∀l,jL rs d=l->Den F (match l with |[v]=>v|vs=> .tuple vs) x->Den F' (match l with |[v]=>v|vs=> .tuple vs) x:=by
  intro l hl hd;have hds:∀xs,aF F l xs->aF F' l xs:=fun xs hx=>by rw [<-hl]at hx ⊢;exact QC hf rs hx
  split at hd
  .rename_i v;have:=hds [x] (.cons hd .nil);cases this with |cons g _=>exact g
  .rename_i hn;obtain⟨xs,g1,rfl⟩:=hd.Bu;exact .tuple (hds _ g1)
 exact key _ rfl h
theorem Jw {c:bn} {args:List aa} {v:aa} {H':ai} (h:(xE c args H).gr=some (.ok v H')):H'=H:=by
 obtain⟨d,h1⟩:=Ca (cA:=c.fresh) (no:=aA.ret aI.no) (b:=aI.ok v H') (by simp [aA.gr]) c.ps h;cases hp:c.pre d with
 |false=>rw [hp]at h1;cases h1
 |true=>rw [hp]at h1;cases h1;rfl
theorem QD {c:bn} (hc:c.Ok P) {args:List aa} {v:aa} {H':ai} (h:(xE c args H).gr=some (.ok v H')) {xs:List Value} (m:Nat) (hH:aX P B ρ H w) (cn:nP ρ) (hd:aF ρ args xs):CallsIn (dM none) m P c.f xs.toArray w (mb P B ρ H w v H'):=by
 have hsame:=Jw h;obtain⟨d,h1,h2⟩:=lL (w:=w) hH (cA:=c.fresh) (no:=aA.ret aI.no) (b:=aI.ok v H') (by simp [aA.gr]) c.ps h;have hp:c.pre d=true/\v=nU c.rs (c.fn d):=by
  cases hp:c.pre d with
  |false=>rw [hp]at h1;cases h1
  |true=>rw [hp]at h1;cases h1;exact⟨rfl,rfl⟩
 obtain⟨hp,rfl⟩:=hp;subst hsame;have hF:tj w (js c.fresh w ρ):=by
  refine⟨fun i x hx=> ?_,fun g hg=> ?_,fun b A hb=> ?_⟩
  .have hx:(if i<64 then ρ i else none)=some x:=hx;by_cases h:i<64
   .exact h
   .rw [if_neg h]at hx;cases hx
  .obtain⟨c',sV⟩:=cn.at' g hg;exact⟨c',by show(if g<64 then ρ g else none)=_;rw [if_pos hg];exact sV⟩
  .have hb:(if c.fresh=true then j3 w b else ρ.fz b)=some A:=hb;cases hfr:c.fresh with
   |true=>rw [hfr]at hb;exact nT.1 hb
   |false=>rw [hfr]at hb;exact(hH.fz b A hb).1
 have aaH:u5 (js c.fresh w ρ):=fun b p hb=>by
  obtain⟨A,h1,h2⟩:=cn.zk b p hb;refine⟨A, ?_,h2⟩;show(if c.fresh=true then j3 w b else ρ.fz b)=some A;cases c.fresh with
  |true=>exact nT.2 (hH.fz b A h1).1
  |false=>exact h1
 have Jx:=hc d hp w (js c.fresh w ρ) xs hF aaH (h2 xs hd);have hin:CallsIn (dM none) m P c.f xs.toArray w _:=callsIn_wide.2 Jx;refine hin.mono ?_;rintro e w' ⟨x,F',rfl,hx,aaI,hfz,hb⟩;have aaJ:∀b A,ρ.fz b=some A->b<w.heap.size:=fun b A h=>by
  obtain⟨⟨e,fr,h⟩,_⟩:=hH.fz b A h;exact(dx.1 h).1
 have hle:cw ρ ⟨ρ.at',fun b=>if w.heap.size<=b then F'.fz b else ρ.fz b⟩:=⟨fun _ _ h=>h,fun b A h=>by
  show(if w.heap.size<=b then F'.fz b else ρ.fz b)=some A;rw [if_neg (by have:=aaJ b A h;omega)];exact h⟩
 refine⟨x,⟨ρ.at',fun b=>if w.heap.size<=b then F'.fz b else ρ.fz b⟩,rfl,aaG (fun b A j4=> ?_) hx,⟨fun i k hi=> ?_,hH.inj,hH.lt,cX hH.base hb.size,fun b A j4=> ?_⟩,
  ⟨hle,fun _ _=>rfl,aE _,hb.size,hb.os,hb.tape,hb.output,fun b hlt _=>hb.block b hlt,fun _ _ h=>h,fun _ _ h=>h,fun b A j4=> ?_⟩⟩
 .show(if w.heap.size<=b then F'.fz b else ρ.fz b)=some A;by_cases h0:w.heap.size<=b
  .rw [if_pos h0];exact j4
  .rw [if_neg h0];rcases hfz b A j4 with⟨h3,h4⟩|h3
   .have h4:(if c.fresh then j3 w b else ρ.fz b)=some A:=h4;rw [h3]at h4;exact h4
   .exact absurd h3 h0
 .obtain⟨b,c',o,e1,e2,e3,bP⟩:=hH.blk i k hi;have hlt:=(dx.1 e2).1;exact⟨b,c',o,e1,(hb.block b hlt).trans e2,e3.mono hle,bP⟩
 .have j4:(if w.heap.size<=b then F'.fz b else ρ.fz b)=some A:=j4;by_cases h0:w.heap.size<=b
  .rw [if_pos h0]at j4;refine⟨aaI.fz b A j4,fun i k c' hi hr=> ?_⟩;obtain⟨b',c2,o,e1,e2,_⟩:=hH.blk i k hi;have hr:ρ i=some (b,c'):=hr;rw [hr]at e1;cases e1;have:=(dx.1 e2).1;omega
  .rw [if_neg h0]at j4;obtain⟨⟨e,fr,h3⟩,h4⟩:=hH.fz b A j4;exact⟨⟨e,fr,(hb.block b (by omega)).trans h3⟩,h4⟩
 .have j4:(if w.heap.size<=b then F'.fz b else ρ.fz b)=some A:=j4;by_cases h0:w.heap.size<=b
  .exact .inr (.inl h0)
  .rw [if_neg h0]at j4;exact .inl j4
theorem Jy {f:FuncId} {args:List aa} {v:aa} {H':ai}:∀{l:List bn},(a7 l f args H).gr=some (.ok v H')->∃c∈l,c.f=f/\(xE c args H).gr=some (.ok v H')
 |[],h=>by cases h
 |c::l,h=>by
  unfold a7 at h;cases hb:Nat.beq f c.f with
  |true=>rw [hb]at h;exact⟨c,k7,(ac hb).symm,h⟩
  |false=>
   rw [hb]at h;obtain⟨c',h1,h2,h3⟩:=Jy h;exact⟨c',k6 _ h1,h2,h3⟩
theorem q8 {bl:bF} {f:FuncId} {args:List aa} {v:aa} {H':ai} (h:bD bl f args H= .ok v H'):(bl f args H).gr=some (.ok v H'):=by
 unfold bD at h;cases hg:(bl f args H).gr with
 |none=>rw [hg]at h;cases h
 |some r=>rw [hg]at h;rw [show r= .ok v H' from h]
theorem cR {l:List bn} (hl:∀c∈l,c.Ok P):bB P (bD (a7 l)) where
 mono f args H v H' h:=by
  obtain⟨c,_,_,h3⟩:=Jy (q8 h);rw [Jw h3];exact aE _
 ct f args H v H' h B ρ xs w m hH cn hd hf:=by
  obtain⟨c,h1,rfl,h3⟩:=Jy (q8 h);exact QD (hl c h1) h3 m hH cn hd
end
end
end Go.Proofs.YtibikmmdbdlafaaGreatDoor.Sv
/- The runner over an abstract memory: how it is used: a function's body as a list of parts; loops; what is returned. -/
namespace Go.Proofs.YtibikmmdbdlafaaGreatDoor.Sv
open Go.RowKit
variable [Ground]
noncomputable section
def q9:Code->List Code
 | .seq a b=>q9 a++q9 b
 |c=>[c]
def fl (c:Code) (p:List Nat):List Code:=q9 (cat c p)
def zM:Nat:=400
def hU (P:Program) (bl:bF) (n:Nat):List Code->av aa->ai->aA R
 |[],T,H=> .ret (.normal T H [])
 |c::l,T,H=>(p7 P bl zM c n false T H []).bind fun r=>match r with
  | .normal T H []=>hU P bl n l T H
  |r=> .ret r
def zN (P:Program) (bl:bF) (l:List Code) (k:Nat) (s:bC):aA R:=hU P bl s.n (l.take k) s.T s.H
def nV (P:Program) (bl:bF) (l:List Code) (s:bC):aA R:=hU P bl s.n l s.T s.H
def oS (P:Program) (bl:bF) (l:List Code) (k n:Nat) (args:List aa):aA R:=hU P bl n (l.take k) (fG args .nil 0) H0
def dX (P:Program) (n:Nat) (e:Exit) (σ:Ren) (s':bC):R->Prop
 | .normal T H []=>(match e with | .normal=>fit P σ n T H s'|_=>False)
 | .exit id T H []=>(match e with | .exit i=>gO (Nat.beq i id) (fit P σ n T H s')|_=>False)
 |_=>False
def tq (P:Program) (fn:Func) (fresh:Bool) (res:aa):R->Prop
 | .normal _ _ _=>False
 | .ret T H []=>(match jD P fn T H with | .ok v _=>cz fresh H v res|_=>False)
 |_=>False
section
variable {P:Program} {w0:World} {F:Env} {n:Nat} {T:av aa} {H:ai} {Q:Exit->av aa->ai->Prop}
def a8 (X:Ext) (P:Program) (w0:World) (F:Env) (n:Nat):List Code->av aa->ai->(Exit->av aa->ai->Prop)->Prop
 |[],T,H,Q=>Q .normal T H
 |c::l,T,H,Q=>eI X P w0 F n c T H (gP (fun T H=>a8 X P w0 F n l T H Q) Q)
abbrev aR:=a8 oQ
variable {X:Ext}
theorem Jz {N N':av aa->ai->Prop} {Q':Exit->av aa->ai->Prop} (h1:∀T H,N T H->N' T H) (h2:∀e T H,e≠ .normal->Q e T H->Q' e T H):∀e T H,gP N Q e T H->gP N' Q' e T H:=by
 intro e T H h;cases e with
 |normal=>exact h1 T H h
 |_=>exact h2 _ T H (by simp) h
theorem aR.append:∀{l1 l2:List Code} {T:av aa} {H:ai},a8 X P w0 F n (l1++l2) T H Q->a8 X P w0 F n l1 T H (gP (fun T H=>a8 X P w0 F n l2 T H Q) Q)
 |[],l2,T,H,h=>h
 |c::l1,l2,T,H,h=>Goal.mono h (Jz (fun T H h=>aR.append h) fun e T H hn h=>by cases e<;>first |exact absurd rfl hn|exact h)
theorem aR.split:∀{l1 l2:List Code} {T:av aa} {H:ai},a8 X P w0 F n l1 T H (gP (fun T H=>a8 X P w0 F n l2 T H Q) Q)->a8 X P w0 F n (l1++l2) T H Q
 |[],l2,T,H,h=>h
 |c::l1,l2,T,H,h=>Goal.mono h (Jz (fun T H h=>aR.split h) fun e T H hn h=>by cases e<;>first |exact absurd rfl hn|exact h)
theorem aR.mono {Q':Exit->av aa->ai->Prop} (hq:∀e T H,Q e T H->Q' e T H):∀{l:List Code} {T:av aa} {H:ai},a8 X P w0 F n l T H Q->a8 X P w0 F n l T H Q'
 |[],_,_,h=>hq _ _ _ h
 |_::_,_,_,h=>Goal.mono h (Jz (fun _ _ h=>aR.mono hq h) fun e T H _ h=>hq e T H h)
theorem tr:∀{c:Code} {T:av aa} {H:ai} {Q:Exit->av aa->ai->Prop},a8 X P w0 F n (q9 c) T H Q->eI X P w0 F n c T H Q
 | .seq a b,T,H,Q,h=>by
   refine Goal.seq rfl (tr (aR.mono (fun e T H h=> ?_) (aR.append (l1:=q9 a) (l2:=q9 b) h)));cases e with
   |normal=>exact tr (c:=b) h
   |_=>exact h
 | .skip,T,H,Q,h=>Goal.mono h fun e T H h=>by cases e<;>exact h
 | .region _ _ _,T,H,Q,h=>Goal.mono h fun e T H h=>by cases e<;>exact h
 | .cond _ _ _,T,H,Q,h=>Goal.mono h fun e T H h=>by cases e<;>exact h
 | .block _ _,T,H,Q,h=>Goal.mono h fun e T H h=>by cases e<;>exact h
 | .loop _,T,H,Q,h=>Goal.mono h fun e T H h=>by cases e<;>exact h
 | .rangeFunc _ _ _ _,T,H,Q,h=>Goal.mono h fun e T H h=>by cases e<;>exact h
 | .exit _,T,H,Q,h=>Goal.mono h fun e T H h=>by cases e<;>exact h
 | .scope _,T,H,Q,h=>Goal.mono h fun e T H h=>by cases e<;>exact h
 | .label _,T,H,Q,h=>Goal.mono h fun e T H h=>by cases e<;>exact h
 | .goto _,T,H,Q,h=>Goal.mono h fun e T H h=>by cases e<;>exact h
 | .ret,T,H,Q,h=>Goal.mono h fun e T H h=>by cases e<;>exact h
 | .refuse _,T,H,Q,h=>Goal.mono h fun e T H h=>by cases e<;>exact h
variable {bl:bF}
theorem aR.hU (hK:eW P) (hm:P.follows .mixedOrders=true) (hS:bB P (bD bl)) {nW:R->Prop} (hq:∀r,nW r->zL Q r):∀{l:List Code} {T:av aa} {H:ai} {r:R},(Sv.hU P bl n l T H).gr=some r->nW r->a8 X P w0 F n l T H Q
 |[],T,H,r,h,h1=>by
  cases h;exact hq _ h1
 |c::l,T,H,r,h,h1=>by
  obtain⟨r1,g1,g2⟩:=mo h;have run:∀tu:Exit->av aa->ai->Prop,zL tu r1->eI X P w0 F n c T H tu:=fun tu h2=>by
   intro a w hs k;obtain⟨e,aL,H',ho,uW⟩:=QA h2;have g1:=g1;rw [<-vd zM c n X.rd.isSome]at g1;have hr:=Ji (P:=P) (bl:=bl) zM c n X.rd.isSome T H [] r1 g1 (by rintro rfl;cases ho);have hI:pX P (pQ P (nQ P (bD bl)) zM):=sh hK (BX hK hm hS) zM;have ho':(pQ P (nQ P (bD bl)) zM c n X.rd.isSome T H X.m).out=some (e,aL,H',X.m):=by rw [Ju,hr];exact Qy ho
   obtain⟨ρ,aN,hf,hfz,hkp⟩:=hs.ex;refine hI.ct _ _ _ _ _ _ _ _ _ _ ho' w0.heap.size ρ a w X.rd k _ rfl aN (by rw [hs.defers];exact hkp.xC) (fun i h1 _=>hf i h1) fun ρ' a' w' g1 g2 g3=> ?_
   refine .inl ⟨aL,H',uW,⟨⟨ρ',g1,fun i hi=> ?_,fun b A hb=> ?_,Jr hkp g2⟩,hs.below.trans (g2.below aN.H),g3.unique (hkp.xC.mono g2.le)⟩⟩
   .rw [g2.ext i (.inr hi)];exact hf i (cX g2.next hi)
   .rcases g2.mV b A hb with h|h|⟨i,k,c,q1,aO,bZ⟩
    .exact hfz b A h
    .exact .inr (cX hs.below.size h)
    .obtain⟨b',c',o,e1,_,_,bP⟩:=aN.H.blk i k q1;rw [bZ]at e1;cases e1;exact .inr (bP aO)
  refine run _ ?_;have kE:∀r2,(match r1 with | .normal T H []=>Sv.hU P bl n l T H|r=>aA.ret r).gr=some r2->nW r2->zL (gP (fun T H=>a8 X P w0 F n l T H Q) Q) r1:=by
   intro r2 h2 uW;split at h2
   .exact aR.hU hK hm hS hq h2 uW
   .cases h2;have:=hq _ uW;revert this;rename_i hnn;cases r1 with
    |no=>exact id
    |normal T1 H1 m1=>
     cases m1 with
     |nil=>exact absurd rfl (hnn T1 H1)
     |cons _ _=>exact id
    |exit id' T1 H1 m1=>cases m1<;>exact id
    |goto l' T1 H1 m1=>exact id
    |ret T1 H1 m1=>cases m1<;>exact id
  exact kE r g2 h1
theorem Goal.QE {c:Code} {Q':Exit->av aa->ai->Prop} (h:eI X P w0 F n c T H Q) (hq:∀e T H,Q e T H->Q' e T H\/∃σ s,fit P σ n T H s/\pinned σ s.H.next X.pins=true/\Q' e s.T s.H):eI X P w0 F n c T H Q':=fun a w hs k=>
 wpIn_mono (h a w hs k) fun e a' w' hh=>by
  rcases hh with⟨aL,H',h1,h2⟩|hh
  .rcases hq _ _ _ h1 with h3|⟨σ,s,h3,h5,h4⟩
   .exact .inl ⟨aL,H',h3,h2⟩
   .exact .inl ⟨s.T,s.H,h4,h2.ng h3 h5⟩
  .exact .inr hh
theorem aR.JA {s':bC} {e:Exit} (hq:Q e s'.T s'.H):∀{l:List Code} {T:av aa} {H:ai},l≠[]->a8 X P w0 F n l T H (fun e' aL H'=>e'=e/\∃σ,fit P σ n aL H' s'/\pinned σ s'.H.next X.pins=true)->a8 X P w0 F n l T H Q
 |[],_,_,hl,_=>absurd rfl hl
 |[c],T,H,_,h=>Goal.QE h fun e' aL H' h'=> .inr (by
    cases e' with
    |normal=>obtain⟨rfl,σ,hf,hp⟩:=h';exact⟨σ,s',hf,hp,hq⟩
    |_=>obtain⟨rfl,σ,hf,hp⟩:=h';exact⟨σ,s',hf,hp,hq⟩)
 |c::c2::l,T,H,_,h=>Goal.QE h fun e' aL H' h'=>by
   cases e' with
   |normal=>exact .inl (aR.JA hq (by simp) h')
   |_=>obtain⟨rfl,σ,hf,hp⟩:=h';exact .inr ⟨σ,s',hf,hp,hq⟩
theorem aR.to (hK:eW P) (hm:P.follows .mixedOrders=true) (hS:bB P (bD bl)) {l:List Code} {s':bC} {e:Exit} {σ:Ren} (k:Nat) (D:List Bool) (h:(Sv.hU P bl n (l.take k) T H).path D (dX P n e σ s')) (hne:(l.take k).isEmpty=false)
  (hq:gP (fun T H=>a8 X P w0 F n (l.drop k) T H Q) Q e s'.T s'.H) (hp:pinned σ s'.H.next X.pins=true:=by rfl):a8 X P w0 F n l T H Q:=by
 obtain⟨r,h1,h2⟩:=aA.s9 _ _ h;have key:a8 X P w0 F n (l.take k) T H (fun e' aL H'=>e'=e/\∃σ,fit P σ n aL H' s'/\pinned σ s'.H.next X.pins=true):=by
  refine aR.hU hK hm hS (nW:=dX P n e σ s') (fun r hr=> ?_) h1 h2;unfold dX at hr;split at hr
  .split at hr
   .exact⟨rfl,σ,hr,hp⟩
   .exact hr.elim
  .split at hr
   .obtain⟨g1,g2⟩:=iU hr;rw [ac g1];exact⟨rfl,σ,g2,hp⟩
   .exact hr.elim
  .exact hr.elim
 have kI:a8 X P w0 F n (l.take k) T H (gP (fun T H=>a8 X P w0 F n (l.drop k) T H Q) Q):=aR.JA (s':=s') (e:=e) hq (fun hh=>by rw [hh]at hne;cases hne) key;have:=aR.split kI;rwa [List.take_append_drop]at this
theorem aR.aaK (hK:eW P) (hm:P.follows .mixedOrders=true) (hS:bB P (bD bl)) {l:List Code} {s':bC} {e:Exit} {σ:Ren} (k:Nat) (D:List Bool) (h:(Sv.hU P bl n (l.take k) T H).s8 D (dX P n e σ s')) (hne:(l.take k).isEmpty=false)
  (hq:gP (fun T H=>a8 X P w0 F n (l.drop k) T H Q) Q e s'.T s'.H) (hp:pinned σ s'.H.next X.pins=true:=by rfl):a8 X P w0 F n l T H Q:=by
 obtain⟨r,h1,h2⟩:=aA.BZ _ _ h;have key:a8 X P w0 F n (l.take k) T H (fun e' aL H'=>e'=e/\∃σ,fit P σ n aL H' s'/\pinned σ s'.H.next X.pins=true):=by
  refine aR.hU hK hm hS (nW:=dX P n e σ s') (fun r hr=> ?_) h1 h2;unfold dX at hr;split at hr
  .split at hr
   .exact⟨rfl,σ,hr,hp⟩
   .exact hr.elim
  .split at hr
   .obtain⟨g1,g2⟩:=iU hr;rw [ac g1];exact⟨rfl,σ,g2,hp⟩
   .exact hr.elim
  .exact hr.elim
 have kI:a8 X P w0 F n (l.take k) T H (gP (fun T H=>a8 X P w0 F n (l.drop k) T H Q) Q):=aR.JA (s':=s') (e:=e) hq (fun hh=>by rw [hh]at hne;cases hne) key;have:=aR.split kI;rwa [List.take_append_drop]at this
theorem aR.st (hK:eW P) (hm:P.follows .mixedOrders=true) (hS:bB P (bD bl)) {l:List Code} {s s':bC} {e:Exit} {σ:Ren} (k:Nat) (D:List Bool) (h:(zN P bl l k s).path D (dX P s.n e σ s')) (hne:(l.take k).isEmpty=false)
  (hq:gP (fun T H=>a8 X P w0 F s.n (l.drop k) T H Q) Q e s'.T s'.H) (hp:pinned σ s'.H.next X.pins=true:=by rfl):a8 X P w0 F s.n l s.T s.H Q:=aR.to hK hm hS k D h hne hq hp
theorem aR.all (hK:eW P) (hm:P.follows .mixedOrders=true) (hS:bB P (bD bl)) {l:List Code} {s s':bC} {e:Exit} {σ:Ren} (D:List Bool) (h:(nV P bl l s).path D (dX P s.n e σ s')) (hne:l.isEmpty=false)
  (hq:Q e s'.T s'.H) (hp:pinned σ s'.H.next X.pins=true:=by rfl):a8 X P w0 F s.n l s.T s.H Q:=by
 have hk:l.take l.length=l:=dA;refine aR.to hK hm hS (s':=s') (e:=e) (σ:=σ) l.length D (by rw [hk];exact h) (by rw [hk];exact hne) ?_ hp;rw [List.drop_length];cases e<;>exact hq
theorem cv {N:av aa->ai->Prop} {i:Nat} {T:av aa} {H:ai} (h:Q (.exit i) T H):gP N Q (.exit i) T H:=h
theorem aR.ret (hK:eW P) (hm:P.follows .mixedOrders=true) (hS:bB P (bD bl)) {l:List Code} {fn:Func} {fresh:Bool} {res:aa} (k:Nat) (D:List Bool) (h:(Sv.hU P bl n (l.take k) T H).path D (tq P fn fresh res))
  (hq:∀T H,gk P fresh fn res .ret T H->Q .ret T H):a8 X P w0 F n l T H Q:=by
 obtain⟨r,h1,h2⟩:=aA.s9 _ _ h;have key:a8 X P w0 F n (l.take k) T H (gP (fun T H=>a8 X P w0 F n (l.drop k) T H Q) Q):=by
  refine aR.hU hK hm hS (nW:=tq P fn fresh res) (fun r hr=> ?_) h1 h2;unfold tq at hr;split at hr
  .exact hr.elim
  .exact hq _ _ hr
  .exact hr.elim
 have:=aR.split key;rwa [List.take_append_drop]at this
theorem aR.tv (hK:eW P) (hm:P.follows .mixedOrders=true) (hS:bB P (bD bl)) {l:List Code} {s:bC} {fn:Func} {fresh:Bool} {res:aa} (D:List Bool) (h:(nV P bl l s).path D (tq P fn fresh res))
  (hq:∀T H,gk P fresh fn res .ret T H->Q .ret T H):a8 X P w0 F s.n l s.T s.H Q:=by
 refine aR.ret hK hm hS (fn:=fn) (fresh:=fresh) (res:=res) l.length D ?_ hq;rw [dA];exact h
theorem aR.loop {ι:Type} {l rest:List Code} {id:Nat} {b:Code} (hl:l= .block id (.loop b)::rest) (I:ι->bC) (μ:ι->Nat) (i0:ι) (_:∀i,(I i).n=n)
  (step:∀i,a8 X P w0 F n (q9 b) (I i).T (I i).H (gP (fun T H=>∃j,μ j<μ i/\T=(I j).T/\H=(I j).H) (B5 id (gP (fun T H=>a8 X P w0 F n rest T H Q) Q)))):a8 X P w0 F n l (I i0).T (I i0).H Q:=by
 subst hl;refine Goal.block (x:= .loop b) rfl ?_;have key:∀m i,μ i<m->∀a w,mq X P w0 F n (I i).T (I i).H a w->∀k,Code.roundsIn (dM X.rd) k P b (fun e a' w'=>(∃aL H',B5 id (gP (fun T H=>a8 X P w0 F n rest T H Q) Q) e aL H'/\mq X P w0 F n aL H' a' w')\/(e= .ret/\X.R a' w')) m a w:=by
  intro m;induction m with
  |zero=>intro i hi;exact absurd hi (Nat.not_lt_zero _)
  |succ m ih=>
   intro i hi a w hs k;rw [roundsIn_succ];refine wpIn_mono (tr (step i) a w hs k) fun e a' w' hh=> ?_
   rcases hh with⟨aL,H',h1,h2⟩|⟨rfl,hh⟩
   .cases e with
    |normal=>
     obtain⟨j,g1,rfl,rfl⟩:=h1;exact ih j (by omega) a' w' h2 k
    |_=>exact .inl ⟨aL,H',h1,h2⟩
   .exact .inr ⟨rfl,hh⟩
 intro a w hs k;exact wpIn_loop_rounds (μ i0+1) (key (μ i0+1) i0 (e7 _) a w hs k)
theorem cD {id:Nat} {T:av aa} {H:ai} (h:Q .normal T H):B5 id Q (.exit id) T H:=by
 show if id=id then _ else _
 rw [if_pos rfl];exact h
theorem bm {r:Int} (h: -9223372036854775808<=r/\r<=9223372036854775807):fits .i64 r=true:=by
 unfold fits;rw [ae];exact⟨az h.1,az h.2⟩
theorem aaL {a b:Nat} (h:a=b):Nat.beq a b=true:=by rw [h,Nat.beq_refl]
def JB:Value->Bool
 | .int _ _| .bool _| .string _| .pointer none| .slice none _ _| .map none| .nilFunc| .nilIface=>true
 | .func _ ⟨[]⟩ ⟨[]⟩=>true
 |_=>false
def vf:aa->Bool
 | .raw v=>JB v
 | .ptr _ _| .slice _ _ _ _| .map _| .func _ [] []| .bk _ _ _| .e8 _ _ _ _| .bN _ _ _ _ _ _| .dy _ _ _ _ _=>true
 |_=>false
def JC:aa->Bool
 | .agg l| .tuple l=>l.all vf
 |v=>vf v
theorem aaM {v:Value} (h:JB v=true):xk 3 v v=true:=by
 unfold JB at h;split at h<;>first |(simp [xk,BN];done)|cases h
theorem au.beq_refl:∀(t:au) (a:t.den),t.beq a a=true
 | .int _,a=>az rfl
 | .bool,a=>beq_self_eq_true a
 | .str,a=>az rfl
 | .list _ t,a=>by
   show(Nat.beq a.length a.length&&(List.zip a a).all fun p=>t.beq p.1 p.2)=true
   rw [Nat.beq_refl,Bool.true_and,List.all_eq_true];intro p hp;obtain⟨i,h1,h2⟩:=List.mem_iff_getElem.1 hp;have BQ:p=((a:List t.den)[i]'(by simp at h1;exact h1),(a:List t.den)[i]'(by simp at h1;exact h1)):=by rw [<-h2];simp
   rw [BQ];exact t.beq_refl _
 | .pair s t,a=>by
   show(s.beq a.1 a.1&&t.beq a.2 a.2)=true;rw [s.beq_refl,t.beq_refl];rfl
 | .ptr t,a=>t.beq_refl a
 | .unit,_=>rfl
theorem aaN (t:au) (xs:List t.den):zq t t xs xs=true:=by
 unfold zq;rw [dif_pos rfl];exact au.beq_refl (.list false t) xs
theorem aaO (c:aS):c.same c=true:=by cases c<;>simp [aS.same]
theorem JD {v:aa} (h:vf v=true):qe v v=true:=by
 unfold vf at h;split at h
 .simp [qe,aaM h]
 all_goals first |(simp [qe,aaN,aaO];done)|cases h
theorem JE:∀{l:List aa},l.all vf=true->p4 l l=true
 |[],_=>rfl
 |v::l,h=>by
  rw [List.all_cons,ae]at h;show(qe v v&&p4 l l)=true;rw [JD h.1,JE h.2];rfl
theorem aW {v:aa} (h:JC v=true):aa.same v v=true:=by
 unfold JC at h;split at h
 .exact JE h
 .exact JE h
 .next h1 h2=>
  cases v with
  |func f a b=>
   cases a<;>cases b<;>first |exact JD h|exact absurd h (by simp [vf])
  |_=>first |exact absurd rfl (h1 _)|exact absurd rfl (h2 _)|exact JD h
theorem JF (c:Code):cat c []=c:=by cases c<;>rfl
theorem bJ {fresh:Bool} {f:FuncId} {fn:Func} {c:Code} {args:List aa} {res:aa} (hf:P.funcs[f]? =some fn) (hb:fn.body=some c) (hl:Nat.ble args.length fn.ntmps=true)
  (h:∀w F,aR P w F fn.ntmps (fl c []) (fG args .nil 0) H0 (gk P fresh fn res)):Holds P fresh f args res:=
 holds_of hf hb (bR hl) fun w F=>tr (by have:=h w F;rwa [fl,JF]at this)
end
end
end Go.Proofs.YtibikmmdbdlafaaGreatDoor.Sv
