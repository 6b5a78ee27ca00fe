import Derived.Test.YtibikmmdbdlafaaGreatDoorZmSvFit
set_option linter.unusedSectionVars false
set_option linter.unusedSimpArgs false
namespace Go.Proofs.YtibikmmdbdlafaaGreatDoor.Sv
open Go.RowKit
section
variable [Ground]
noncomputable section
structure Ext where
 rd:Option Nat
 K:Nat->Option Obj
 R:Act->World->Prop
 pin:List Nat:=[]
 A:Nat->Option (Nat×Nat):=fun _=>none
 Z:Nat->Option (Array Value):=fun _=>none
 sz:Nat:=0
 m:List Nat:=[]
 ds:List Deferred:=[]
 Y:Nat->Option Obj:=fun _=>none
def Ext.pins (X:Ext):List Nat:=X.m++X.pin
def oZ:Ext:={rd:=none,K:=fun _=>none,R:=fun _ _=>False}
structure Kept (X:Ext) (ρ:Env) (H:ai) (w:World):Prop where
 k:∀b o,X.K b=some o->w.heap[b]? =some o/\¬Own ρ H b
 pin:∀i,i∈X.pin->i<H.next/\∀x,X.A i=some x->ρ i=some x
 z:∀b A,X.Z b=some A->ρ.fz b=some A
 sz:X.sz<=w.heap.size
 JZ:∀b o,X.K b=some o->ρ.fz b=none
 xV:ez ρ X.m X.ds
 y:∀b o,X.Y b=some o->w.heap[b]? =some o/\¬Own ρ H b
structure mG (X:Ext) (P:Program) (w0:World) (F:Env) (n:Nat) (T:aq aa) (H:ai) (a:Act) (w:World):Prop where
 ex:∃ρ,ey P w0.heap.size ρ n T H a w/\(∀i,H.next<=i->ρ i=none)/\(∀b A,ρ.fz b=some A->F.fz b=some A\/w0.heap.size<=b)/\Kept X ρ H w
 below:Below w0.heap.size w0 w
 defers:a.defers=X.ds
abbrev Sat:=mG oZ
def iM (X:Ext) (P:Program) (w0:World) (F:Env) (n:Nat) (c:Code) (T:aq aa) (H:ai) (Q:Exit->aq aa->ai->Prop):Prop:=
 ∀a w,mG X P w0 F n T H a w->∀k,c.wpIn (dO X.rd) k P (fun e a' w'=>(∃aM H',Q e aM H'/\mG X P w0 F n aM H' a' w')\/(e= .ret/\X.R a' w')) a w
abbrev Goal:=iM oZ
theorem J0 {X:Ext} {ρ ρ':Env} {H H':ai} {w w':World} (h:Kept X ρ H w) (s:bO ρ H w ρ' H' w'):Kept X ρ' H' w':=
 ⟨fun b o hb=>by
    obtain⟨h1,h2⟩:=h.k b o hb;have hlt:b<w.heap.size:=(cV.1 h1).1;exact⟨(s.frame b hlt h2).trans h1,fun hh=>h2 (s.own b hlt hh)⟩,
   fun i hi=>⟨Nat.lt_of_lt_of_le (h.pin i hi).1 s.next,fun x hx=>s.le _ _ ((h.pin i hi).2 x hx)⟩,
   fun b A hb=>s.le.fz _ _ (h.z b A hb),cX h.sz s.size,fun b o hb=>by
    obtain⟨h1,h2⟩:=h.k b o hb;have hlt:b<w.heap.size:=(cV.1 h1).1;cases hz:ρ'.fz b with
    |none=>rfl
    |some A=>
     rcases s.ng b A hz with g|g|g
     .rw [h.JZ b o hb]at g;cases g
     .omega
     .exact absurd g h2,h.xV.mono s.le,fun b o hb=>by
    obtain⟨h1,h2⟩:=h.y b o hb;have hlt:b<w.heap.size:=(cV.1 h1).1;exact⟨(s.frame b hlt h2).trans h1,fun hh=>h2 (s.own b hlt hh)⟩⟩
theorem ez.Rb {ρ ρ':Env}:∀{m:List Nat} {ds:List Deferred},ez ρ m ds->(∀i∈m,∀x,ρ i=some x->ρ' i=some x)->ez ρ' m ds
 |[],_,h,_=>h
 |i::_,_,⟨b,c,ds',h1,h2,h3⟩,hc=>⟨b,c,ds',hc i kK _ h1,h2,ez.Rb h3 fun j hj=>hc j (j8 _ hj)⟩
theorem ez.unique {ρ:Env}:∀{m:List Nat} {ds ds':List Deferred},ez ρ m ds->ez ρ m ds'->ds=ds'
 |[],_,_,h,h'=>Eq.trans (show _=[]from h) (show _=[]from h').symm
 |i::m,_,_,⟨b,c,abg,h1,h2,h3⟩,⟨b',c',abh,k1,k2,dF⟩=>by
  rw [h1]at k1;cases k1;rw [h2,k2,ez.unique h3 dF]
theorem Kept.re {X:Ext} {ρ ρ':Env} {H H':ai} {w:World} (h:Kept X ρ H w) (hl:cB ρ ρ') (hn:H.next<=H'.next) (ho:∀b,Own ρ' H' b->Own ρ H b) (hz:∀b A,ρ'.fz b=some A->ρ.fz b=some A\/Own ρ H b):Kept X ρ' H' w:=
 ⟨fun b o hb=>⟨(h.k b o hb).1,fun hh=>(h.k b o hb).2 (ho b hh)⟩,fun i hi=>⟨Nat.lt_of_lt_of_le (h.pin i hi).1 hn,fun x hx=>hl _ _ ((h.pin i hi).2 x hx)⟩,fun b A hb=>hl.fz _ _ (h.z b A hb),h.sz,fun b o hb=>by
   cases oR:ρ'.fz b with
   |none=>rfl
   |some A=>
    rcases hz b A oR with g|g
    .rw [h.JZ b o hb]at g;cases g
    .exact absurd g (h.k b o hb).2,h.xV.mono hl,fun b o hb=>⟨(h.y b o hb).1,fun hh=>(h.y b o hb).2 (ho b hh)⟩⟩
def pinned (σ:Ren) (next:Nat) (l:List Nat):Bool:=l.all fun i=>Nat.ble (i+1) next&&pv σ i i
theorem Kept.ren {X:Ext} {ρ:Env} {H:ai} {a:Act} {w:World} {P:Program} {B n:Nat} {T:aq aa} {σ:Ren} {s:bC} (h:Kept X ρ H w) (aQ:ey P B ρ n T H a w) (hf:fit P σ n T H s) (hp:pinned σ s.H.next X.pins=true):Kept X (ren σ ρ) s.H w:=
 ⟨fun b o hb=>⟨(h.k b o hb).1,fun hh=>(h.k b o hb).2 (Ra aQ hf hh)⟩,
   fun i hi=>by
    have:=List.all_eq_true.1 hp i (List.mem_append_right _ hi);rw [ae]at this;exact⟨bS this.1,fun x hx=>m9 this.2 ((h.pin i hi).2 x hx)⟩,
   h.z,h.sz,h.JZ,h.xV.Rb fun i hi x hx=>by
    have:=List.all_eq_true.1 hp i (List.mem_append_left _ hi);rw [ae]at this;exact m9 this.2 hx,fun b o hb=>⟨(h.y b o hb).1,fun hh=>(h.y b o hb).2 (Ra aQ hf hh)⟩⟩
def R.jX (r:R) (m:List Nat):R:=match r with
 | .no=> .no
 | .normal T H k=> .normal T H (k++m)
 | .exit id T H k=> .exit id T H (k++m)
 | .goto l T H k=> .goto l T H (k++m)
 | .ret T H k=> .ret T H (k++m)
theorem pD (r:R) (k m:List Nat):(r.jX k).jX m=r.jX (k++m):=by cases r<;>simp [R.jX,q5]
theorem Rc {r:R} {e:Exit} {aM:aq aa} {H':ai} {k m:List Nat} (h:r.out=some (e,aM,H',k)):(r.jX m).out=some (e,aM,H',k++m):=by
 cases r<;>cases h<;>rfl
theorem J1 {body:aq aa->ai->List Nat->R} (hb:∀T H m,body T H m=(body T H []).jX m):∀(k:Nat) (T:aq aa) (H:ai) (m:List Nat),iter body k T H m=(iter body k T H []).jX m
 |0,_,_,_=>rfl
 |k+1,T,H,m=>by
  show @R.rec (fun _=>R) .no (iter body k) .exit .goto .ret (body T H m)=(@R.rec (fun _=>R) .no (iter body k) .exit .goto .ret (body T H [])).jX m
  rw [hb T H m];cases body T H []with
  |no=>rfl
  |normal T1 H1 k1=>
   show iter body k T1 H1 (k1++m)=(iter body k T1 H1 k1).jX m;rw [J1 hb k T1 H1 (k1++m),J1 hb k T1 H1 k1,pD]
  |exit _ _ _ _=>rfl
  |goto _ _ _ _=>rfl
  |ret _ _ _=>rfl
theorem J2 {P:Program} {draw:oN}:∀(fuel:Nat) (c:Code) (n:Nat) (aL:Bool) (T:aq aa) (H:ai) (m:List Nat),p8 P draw fuel c n aL T H m=(p8 P draw fuel c n aL T H []).jX m
 |0,_,_,_,_,_,_=>rfl
 |fuel+1,c,n,aL,T,H,m=>by
  have ih:=J2 (P:=P) (draw:=draw) fuel;have e:∀m,p8 P draw (fuel+1) c n aL T H m=zn c P draw (p8 P draw fuel) n aL T H m:=fun _=>rfl
  rw [e,e];generalize p8 P draw fuel=r at ih;cases c with
  |skip=>rfl
  |region id ops d=>
   show zm m (draw d (nc P r) (th r) ops n T H)=(zm [] (draw d (nc P r) (th r) ops n T H)).jX m;cases draw d (nc P r) (th r) ops n T H<;>rfl
  |seq a b=>
   show @R.rec (fun _=>R) .no (fun T H m=>r b n aL T H m) .exit .goto .ret (r a n aL T H m)=(@R.rec (fun _=>R) .no (fun T H m=>r b n aL T H m) .exit .goto .ret (r a n aL T H [])).jX m
   rw [ih a n aL T H m];cases r a n aL T H []with
   |no=>rfl
   |normal T1 H1 k1=>
    show r b n aL T1 H1 (k1++m)=(r b n aL T1 H1 k1).jX m;rw [ih b n aL T1 H1 (k1++m),ih b n aL T1 H1 k1,pD]
   |exit _ _ _ _=>rfl
   |goto _ _ _ _=>rfl
   |ret _ _ _=>rfl
  |cond c x y=>
   show @mY.rec (fun _=>R) .no (fun b=> @Bool.rec (fun _=>R) (r y n aL T H m) (r x n aL T H m) b) (gD (ck T c))=(@mY.rec (fun _=>R) .no (fun b=> @Bool.rec (fun _=>R) (r y n aL T H []) (r x n aL T H []) b) (gD (ck T c))).jX m
   cases gD (ck T c)with
   |no=>rfl
   |mk b=>cases b<;>exact ih _ _ _ _ _ _
  |block id b=>
   show @R.rec (fun _=>R) .no .normal (fun i T H m=> @Bool.rec (fun _=>R) (.exit i T H m) (.normal T H m) (Nat.beq i id)) .goto .ret (r b n aL T H m)=(@R.rec (fun _=>R) .no .normal (fun i T H m=> @Bool.rec (fun _=>R) (.exit i T H m) (.normal T H m) (Nat.beq i id)) .goto .ret (r b n aL T H [])).jX m
   rw [ih b n aL T H m];cases r b n aL T H []with
   |no=>rfl
   |normal _ _ _=>rfl
   |exit i T1 H1 k1=>
    show @Bool.rec (fun _=>R) (.exit i T1 H1 (k1++m)) (.normal T1 H1 (k1++m)) (Nat.beq i id)=(@Bool.rec (fun _=>R) (.exit i T1 H1 k1) (.normal T1 H1 k1) (Nat.beq i id)).jX m
    cases Nat.beq i id<;>rfl
   |goto _ _ _ _=>rfl
   |ret _ _ _=>rfl
  |loop b=>exact J1 (ih b n aL) rounds T H m
  |rangeFunc f ps a b=>
   show @Bool.rec (fun _=>R) (i8 P r f ps a b n T H m) .no aL=(@Bool.rec (fun _=>R) (i8 P r f ps a b n T H []) .no aL).jX m
   cases aL with
   |true=>rfl
   |false=>
    show i8 P r f ps a b n T H m=(i8 P r f ps a b n T H []).jX m;unfold i8;split
    .rename_i g args H2 _;unfold BA;split
     .split
      .split
       .rfl
       .split
        .rfl
        .rename_i c _;rw [ih c n false _ _ (H.next::m),ih c n false _ _ [H.next],pD];rfl
      .rfl
     .rfl
    .rfl
  |exit id=>rfl
  |scope b=>
   show @R.rec (fun _=>R) .no .normal .exit (fun _ _ _ _=> .no) .ret (r b n aL T H m)=(@R.rec (fun _=>R) .no .normal .exit (fun _ _ _ _=> .no) .ret (r b n aL T H [])).jX m
   rw [ih b n aL T H m];cases r b n aL T H []<;>rfl
  |label _=>rfl
  |goto _=>rfl
  |ret=>rfl
  |refuse _=>rfl
theorem Re {P:Program} {bw:bI}:∀(fuel:Nat) (c:Code) (n:Nat) (T:aq aa) (H:ai) (m:List Nat),lh P bw fuel c n true T H m=lh P bw fuel c n false T H m
 |0,_,_,_,_,_=>rfl
 |fuel+1,c,n,T,H,m=>by
  have ih:=Re (P:=P) (bw:=bw) fuel;show zS P (zR bw (xS P (lh P bw fuel))) (lh P bw fuel) c n true T H m=zS P (zR bw (xS P (lh P bw fuel))) (lh P bw fuel) c n false T H m;cases c<;>simp only [zS,ih]
theorem Rf {P:Program} {bw:bI} (fuel:Nat) (c:Code) (n:Nat) (r:Bool) (T:aq aa) (H:ai) (m:List Nat):lh P bw fuel c n r T H m=lh P bw fuel c n false T H m:=by
 cases r with
 |false=>rfl
 |true=>exact Re fuel c n T H m
def zW (Q:Exit->aq aa->ai->Prop):R->Prop
 | .normal T H []=>Q .normal T H
 | .exit id T H []=>Q (.exit id) T H
 | .ret T H []=>Q .ret T H
 |_=>False
def hG (N:aq aa->ai->Prop) (Q:Exit->aq aa->ai->Prop):Exit->aq aa->ai->Prop
 | .normal,T,H=>N T H
 |e,T,H=>Q e T H
def Ce (id:Nat) (Q:Exit->aq aa->ai->Prop):Exit->aq aa->ai->Prop
 | .exit i,T,H=>if i=id then Q .normal T H else Q (.exit i) T H
 |e,T,H=>Q e T H
def cat:Code->List Nat->Code
 |c,[]=>c
 | .seq a _,0::p=>cat a p
 | .seq _ b,_::p=>cat b p
 | .cond _ a _,0::p=>cat a p
 | .cond _ _ b,_::p=>cat b p
 | .block _ b,_::p=>cat b p
 | .loop b,_::p=>cat b p
 | .scope b,_::p=>cat b p
 | .rangeFunc _ _ a _,0::p=>cat a p
 | .rangeFunc _ _ _ b,_::p=>cat b p
 |_,_=> .skip
section
variable {P:Program} {w0:World} {F:Env} {n:Nat} {T:aq aa} {H:ai} {Q:Exit->aq aa->ai->Prop} {c x y:Code}
theorem Rg {r:R} (h:zW Q r):∃e aM H',r.out=some (e,aM,H',[])/\Q e aM H':=by
 unfold zW at h;split at h
 .exact⟨_,_,_,rfl,h⟩
 .exact⟨_,_,_,rfl,h⟩
 .exact⟨_,_,_,rfl,h⟩
 .exact h.elim
theorem Goal.mono {X:Ext} {Q':Exit->aq aa->ai->Prop} (h:iM X P w0 F n c T H Q) (hq:∀e T H,Q e T H->Q' e T H):iM X P w0 F n c T H Q':=fun a w hs k=>
 wpIn_mono (h a w hs k) fun _ _ _ hh=>by
  rcases hh with⟨aM,H',h1,h2⟩|hh
  .exact .inl ⟨aM,H',hq _ _ _ h1,h2⟩
  .exact .inr hh
theorem Goal.run {X:Ext} (hK:eW P) (hm:P.follows .mixedOrders=true) {bw:bI} (hS:bD P (bG bw)) (fuel:Nat) (D:List Bool) (h:(lh P bw fuel c n false T H []).path D (zW Q)):iM X P w0 F n c T H Q:=by
 intro a w hs k;obtain⟨r,h1,h2⟩:=aC.tJ _ _ h;obtain⟨e,aM,H',ho,hq⟩:=Rg h2;rw [<-Rf fuel c n X.rd.isSome]at h1;have hr:=pu (P:=P) (bw:=bw) fuel c n X.rd.isSome T H [] r h1 (by rintro rfl;cases ho);have hI:qf P (p8 P (n8 P (bG bw)) fuel):=Jf hK (B6 hK hm hS) fuel;have ho':(p8 P (n8 P (bG bw)) fuel c n X.rd.isSome T H X.m).out=some (e,aM,H',X.m):=by rw [J2,hr];exact Rc ho
 obtain⟨ρ,aQ,hf,hfz,hkp⟩:=hs.ex;refine hI.cy _ _ _ _ _ _ _ _ _ _ ho' w0.heap.size ρ a w X.rd k _ rfl aQ (by rw [hs.defers];exact hkp.xV) (fun i h1 _=>hf i h1) fun ρ' a' w' g1 g2 g3=> ?_
 refine .inl ⟨aM,H',hq,⟨⟨ρ',g1,fun i hi=> ?_,fun b A hb=> ?_,J0 hkp g2⟩,hs.below.trans (g2.below aQ.H),g3.unique (hkp.xV.mono g2.le)⟩⟩
 .rw [g2.ext i (.inr hi)];exact hf i (cX g2.next hi)
 .rcases g2.ng b A hb with h|h|⟨i,k,c,q1,aO,bV⟩
  .exact hfz b A h
  .exact .inr (cX hs.below.size h)
  .obtain⟨b',c',o,e1,_,_,bU⟩:=aQ.H.blk i k q1;rw [bV]at e1;cases e1;exact .inr (bU aO)
theorem mG.oa {X:Ext} {a:Act} {w:World} {σ:Ren} {s:bC} (hs:mG X P w0 F n T H a w) (h:fit P σ n T H s) (hp:pinned σ s.H.next X.pins=true):mG X P w0 F n s.T s.H a w:=by
 obtain⟨ρ,aQ,hf,hfz,hkp⟩:=hs.ex;obtain⟨h1,h2⟩:=abc aQ h;exact⟨⟨ren σ ρ,h1,h2,hfz,hkp.ren aQ h hp⟩,hs.below,hs.defers⟩
theorem Goal.oa {X:Ext} {σ:Ren} {s:bC} (h:fit P σ n T H s) (hg:iM X P w0 F n c s.T s.H Q) (hp:pinned σ s.H.next X.pins=true:=by rfl):iM X P w0 F n c T H Q:=fun a w hs k=>hg a w (hs.oa h hp) k
theorem Goal.seq {X:Ext} (hc:c= .seq x y) (h:iM X P w0 F n x T H (hG (fun T H=>iM X P w0 F n y T H Q) Q)):iM X P w0 F n c T H Q:=by
 subst hc;intro a w hs k;refine wpIn_seq (wpIn_mono (h a w hs k) fun e a' w' hh=> ?_);rcases hh with⟨aM,H',h1,h2⟩|⟨rfl,hh⟩
 .cases e with
  |normal=>exact h1 a' w' h2 k
  |_=>exact .inl ⟨aM,H',h1,h2⟩
 .exact .inr ⟨rfl,hh⟩
theorem Goal.block {X:Ext} {id:Nat} (hc:c= .block id x) (h:iM X P w0 F n x T H (Ce id Q)):iM X P w0 F n c T H Q:=by
 subst hc;intro a w hs k;refine wpIn_block (wpIn_mono (h a w hs k) fun e a' w' hh=> ?_);rcases hh with⟨aM,H',h1,h2⟩|⟨rfl,hh⟩
 .cases e with
  |exit i=>
   show if i=id then _ else _
   have h1:if i=id then Q .normal aM H' else Q (.exit i) aM H':=h1
   by_cases hi:i=id
   .rw [if_pos hi]at h1 ⊢;exact .inl ⟨aM,H',h1,h2⟩
   .rw [if_neg hi]at h1 ⊢;exact .inl ⟨aM,H',h1,h2⟩
  |_=>exact .inl ⟨aM,H',h1,h2⟩
 .exact .inr ⟨rfl,hh⟩
theorem Goal.scope {X:Ext} (hc:c= .scope x) (h:iM X P w0 F n x T H (fun e T H=>(∀l,e≠ .goto l)/\Q e T H)):iM X P w0 F n c T H Q:=by
 subst hc;intro a w hs k;refine I2 (wpIn_mono (h a w hs k) fun e a' w' hh=> ?_);rcases hh with⟨aM,H',h1,h2⟩|⟨rfl,hh⟩
 .cases e with
  |goto l=>exact absurd rfl (h1.1 l)
  |_=>exact .inl ⟨aM,H',h1.2,h2⟩
 .exact .inr ⟨rfl,hh⟩
theorem Goal.loop {X:Ext} {ι:Type} (hc:c= .loop x) (I:ι->bC) (μ:ι->Nat) (abi:Ren) (i0:ι) (h0:fit P abi n T H (I i0))
  (step:∀i,iM X P w0 F n x (I i).T (I i).H (hG (fun T H=>∃σ j,μ j<μ i/\fit P σ n T H (I j)) Q)) (hp:∀σ i,pinned σ (I i).H.next X.pins=true:=by exact fun _ _=>rfl):iM X P w0 F n c T H Q:=by
 subst hc;refine Goal.oa h0 ?_ (hp _ _);have key:∀m i,μ i<m->∀a w,mG X P w0 F n (I i).T (I i).H a w->∀k,Code.roundsIn (dO X.rd) k P x (fun e a' w'=>(∃aM H',Q e aM H'/\mG X P w0 F n aM H' a' w')\/(e= .ret/\X.R a' w')) m a w:=by
  intro m;induction m with
  |zero=>intro i hi;exact absurd hi (Nat.not_lt_zero _)
  |succ m ih=>
   intro i hi a w hs k;rw [roundsIn_succ];refine wpIn_mono (step i a w hs k) fun e a' w' hh=> ?_
   rcases hh with⟨aM,H',h1,h2⟩|⟨rfl,hh⟩
   .cases e with
    |normal=>
     obtain⟨σ,j,g1,g2⟩:=h1;exact ih j (by omega) a' w' (h2.oa g2 (hp _ _)) k
    |_=>exact .inl ⟨aM,H',h1,h2⟩
   .exact .inr ⟨rfl,hh⟩
 intro a w hs k;exact wpIn_loop_rounds (μ i0+1) (key (μ i0+1) i0 (e8 _) a w hs k)
end
def av.lK:av->Bool
 | .list _ _=>false
 | .ptr _=>false
 | .pair a b=>a.lK&&b.lK
 |_=>true
mutual
def cE (fresh:Bool) (H:ai):aa->aa->Prop
 | .raw (.slice none 0 0), .bh _ _ ys=>ys=[]
 | .raw a, .raw b=>m8 a b
 | .bh z t xs, .bh z' u ys=>gZ (!fresh) (xt z z' ys.length (oX t u xs ys))
 | .bR e t i k len _, .bh z u ys=>gZ (decide (t=u)&&(!fresh||t.lK)) (len=ys.length/\ys=((bM u (H.get i)).drop k).take len/\(len=0\/bz e u (H.get i) (k+len-1)=true)/\(z=true->len≠0))
 | .slice i off n _, .bh z u ys=>(match H.get i with
   |some (.cells _ cs _ _ false)=>gZ (!fresh||u.lK) (match u.q8 n (cut cs off (n*u.size))with
    |some ds=>ds=ys/\(Nat.ble (off+n*u.size) cs.length&&(!z||Nat.ble 1 n))=true
    |none=>False)
   |_=>False)
 | .agg l, .agg l'=>tL fresh H l l'
 | .tuple l, .tuple l'=>tL fresh H l l'
 |_,_=>False
def tL (fresh:Bool) (H:ai):List aa->List aa->Prop
 |[],[]=>True
 |v::l,v'::l'=>cE fresh H v v'/\tL fresh H l l'
 |_,_=>False
end
structure tM (w:World) (F:Env):Prop where
 ob:∀i x,F i=some x->i<64
 all:∀g,g<64->∃c,F g=some (g,c)
 fz:∀b A,F.fz b=some A->∃e fr,w.heap[b]? =some (.cells A e fr)
def vK (F:Env):Prop:=∀b p,Ground.g b=some p->∃A,F.fz b=some A/\p A
def Holds (P:Program) (fresh:Bool) (f:FuncId) (args:List aa) (res:aa):Prop:=
 ∀(w:World) (F:Env) (xs:List Value),tM w F->vK F->aF F args xs->Calls P f xs.toArray w fun e w'=>∃x F',e= .returned x/\Den F' res x/\tM w' F'/\(∀b A,F'.fz b=some A->(fresh=false/\F.fz b=some A)\/w.heap.size<=b)/\Below w.heap.size w w'
def H0:ai:=⟨.nil,64⟩
def fy (P:Program) (fresh:Bool) (fn:Func) (res:aa):Exit->aq aa->ai->Prop:=fun e T H=>match e with
 | .normal| .ret=>(match jS P fn T H with | .ok v _=>cE fresh H v res|_=>False)
 |_=>False
section
variable {P:Program}
def ki (w:World) (b:Nat):Option (Array Value):=match w.heap[b]? with
 |some (.cells A _ _)=>some A
 |_=>none
theorem mH {w:World} {b:Nat} {A:Array Value}:ki w b=some A↔ ∃e fr,w.heap[b]? =some (.cells A e fr):=by
 unfold ki;constructor
 .intro h;split at h
  .rename_i A' e fr hb;cases h;exact⟨e,fr,hb⟩
  .cases h
 .rintro⟨e,fr,h⟩;rw [h]
def Cf (fresh:Bool) (n0:Nat) (w:World) (F:Env):Env:=⟨F.at',fun b=>if n0<=b then ki w b else if fresh then none else F.fz b⟩
theorem xW {ρ ρ':Env}:∀(t:av) (d:t.den) ys,t.lK=true->aF ρ (t.cells d) ys->aF ρ' (t.cells d) ys
 | .int _,d,ys,_,h=>by cases h with |cons h1 h2=>cases h2;rw [h1.b8];exact .cons (.raw _) .nil
 | .bool,d,ys,_,h=>by cases h with |cons h1 h2=>cases h2;rw [h1.b8];exact .cons (.raw _) .nil
 | .str,d,ys,_,h=>by cases h with |cons h1 h2=>cases h2;rw [h1.b8];exact .cons (.raw _) .nil
 | .list z t,d,ys,hn,h=>by cases hn
 | .pair a b,d,ys,hn,h=>by
   simp only [av.lK,ae]at hn;obtain⟨y1,y2,rfl,h1,h2⟩:=aF.split (a:=a.cells d.1) (b:=b.cells d.2) h;exact(xW a d.1 y1 hn.1 h1).append (xW b d.2 y2 hn.2 h2)
 | .ptr t,d,ys,hn,h=>by cases hn
 | .unit,d,ys,_,h=>by cases h;exact .nil
variable {w0 w:World} {F ρ:Env} {H:ai} {fresh:Bool}
mutual
theorem E1 (hH:bf P w0.heap.size ρ H w) (hfz:∀b A,ρ.fz b=some A->F.fz b=some A\/w0.heap.size<=b):∀{v v':aa} {x:Value},cE fresh H v v'->Den ρ v x->Den (Cf fresh w0.heap.size w F) v' x:=by
 intro v v' x h hd;have hle':fresh=false->∀b A,ρ.fz b=some A->(Cf fresh w0.heap.size w F).fz b=some A:=fun hf b A hb=>by
  show(if w0.heap.size<=b then ki w b else if fresh then none else F.fz b)=some A;by_cases h0:w0.heap.size<=b
  .rw [if_pos h0];exact mH.2 (hH.fz b A hb).1
  .rw [if_neg h0,hf];rcases hfz b A hb with h|h
   .exact h
   .exact absurd h h0
 unfold cE at h;split at h
 .subst h;rw [hd.b8];exact .dW fun _=>⟨rfl,rfl⟩
 .rw [hd.b8,Q3 h];exact .raw _
 .rename_i z t xs z' u ys;obtain⟨h1,h2⟩:=jc h;obtain⟨h2,h3⟩:=Q2 h2;obtain⟨e,rfl⟩:=px h2;subst e;have hf:fresh=false:=by simpa using h1
  rcases hd.tr with⟨rfl,a,k,rfl,hz⟩|⟨b,off,k,A,g1,g2,g3,g4,rfl,g5⟩
  .exact .dW fun e=>(h3 e).elim hz fun hn=>absurd rfl hn
  .exact .bh (hle' hf _ _ g1) g2 rfl (n9 (fun d ys=>qp (hle' hf) t d ys) _ _ g3) g4 fun e=>(h3 e).elim g5 fun hn hxs=>hn (by subst hxs;rfl)
 .rename_i e t i k len cap z u ys;obtain⟨h1,h2,h3,h4,h5⟩:=jc h;rw [ae]at h1;obtain⟨h1,h6⟩:=h1;have h1:=ap h1;subst h1;rcases hd.jv with⟨hl,a,rfl⟩|⟨b,c,kc,g1,g2,g3,rfl⟩
  .subst hl;have:ys=[]:=List.eq_nil_of_length_eq_zero h2.symm;subst this;exact .dW fun e=>absurd rfl (h5 e)
  .rcases h4 with hl|h4
   .subst hl;have:ys=[]:=List.eq_nil_of_length_eq_zero h2.symm;subst this;exact .dW fun e=>absurd rfl (h5 e)
   .obtain⟨b1,b2⟩:=vp h4;by_cases hl:len=0
    .subst hl;have:ys=[]:=List.eq_nil_of_length_eq_zero h2.symm;subst this;exact .dW fun e=>absurd rfl (h5 e)
    .obtain⟨zs,q1,aO,_⟩:=rA hH b1 g1;generalize bM t (H.get i)=xs at b1 b2 h3 aO;have hB:w0.heap.size<=b:=by
      obtain⟨b',c',o,e1,_,_,bU⟩:=hH.blk i _ b1;rw [g1]at e1;cases e1;exact bU rfl
     have hle2:k+len<=xs.length:=by omega
     have e1:(xs.drop k).take len=(xs.take (k+len)).drop k:=by rw [List.take_drop]
     have gG:=BJ (off:=0) (A:=zs.toList) (l:=k) (h:=k+len) (by simpa using aO) (by omega) hle2;rw [aw,<-e1,<-h3]at gG;rw [h2];refine .bh (A:=zs) ?_ ?_ rfl ?_ (by omega) (fun e hys=>by subst hys;exact hl h2)
     .show(if w0.heap.size<=b then ki w b else _)=some zs;rw [if_pos hB];exact mH.2 ⟨_,_,q1⟩
     .have e2:=gG.length;have:k*t.size+(t.flat ys).length<=zs.toList.length:=by
       have e3:(t.flat xs).length<=zs.toList.length:=by
        have:=aO.length;simp at this ⊢;omega
       rw [t.ig]at e3 ⊢;rw [<-h2,<-Nat.add_mul];exact cX (Nat.mul_le_mul_right _ hle2) e3
      simpa using this
     .cases hf:fresh with
      |true=>
       rw [hf]at h6;have h6:t.lK=true:=by simpa using h6
       exact n9 (fun d ys=>xW t d ys h6) _ _ gG
      |false=>rw [<-hf];exact n9 (fun d ys=>qp (hle' hf) t d ys) _ _ gG
 .rename_i i off n cap z u ys;split at h
  .rename_i e cs x fz hg;obtain⟨h1,h2⟩:=jc h;split at h2
   .rename_i ds hrd;obtain⟨rfl,h3⟩:=h2;rw [ae]at h3;obtain⟨hle,abj⟩:=h3;have hle:=bS hle;obtain⟨b,c,k,g1,_,g3,rfl⟩:=hd.ic;obtain⟨zs,xE,q1,_,bV,_,_,qs⟩:=mq hH hg g1;have hcut:=(bV.drop off).take (n*u.size);obtain⟨mI,hn⟩:=av.BF hrd hcut;subst hn;have hfl:=u.ig ds;have e2:((zs.toList.take cs.length).drop off).take (ds.length*u.size)=(zs.toList.drop off).take (u.flat ds).length:=by
     rw [hfl,List.drop_take,List.take_take,Nat.min_eq_left (by omega)]
    rw [e2]at mI;have hB:w0.heap.size<=b:=by
     obtain⟨b',c',o,e1,_,_,bU⟩:=hH.blk i _ hg;rw [g1]at e1;cases e1;exact bU rfl
    refine .bh (A:=zs) ?_ (by rw [hfl];omega) rfl ?_ g3 fun e hys=> ?_
    .show(if w0.heap.size<=b then ki w b else _)=some zs;rw [if_pos hB];exact mH.2 ⟨_,_,q1⟩
    .cases hf:fresh with
     |true=>
      rw [hf]at h1;have h1:u.lK=true:=by simpa using h1
      exact n9 (fun d ys=>xW u d ys h1) _ _ mI
     |false=>rw [<-hf];exact n9 (fun d ys=>qp (hle' hf) u d ys) _ _ mI
    .subst e;subst hys;cases abj
   .exact h2.elim
  .exact h.elim
 .obtain⟨xs,g1,rfl⟩:=hd.tj;exact .agg (J3 hH hfz h g1)
 .obtain⟨xs,g1,rfl⟩:=hd.BD;exact .tuple (J3 hH hfz h g1)
 .exact h.elim
theorem J3 (hH:bf P w0.heap.size ρ H w) (hfz:∀b A,ρ.fz b=some A->F.fz b=some A\/w0.heap.size<=b):∀{v v':List aa} {x:List Value},tL fresh H v v'->aF ρ v x->aF (Cf fresh w0.heap.size w F) v' x:=by
 intro v v' x h hd;unfold tL at h;split at h
 .cases hd;exact .nil
 .cases hd with
  |cons h1 h2=>exact .cons (E1 hH hfz h.1 h1) (J3 hH hfz h.2 h2)
 .exact h.elim
end
theorem holds_of {f:FuncId} {fn:Func} {c:Code} {args:List aa} {res:aa} (hf:P.funcs[f]? =some fn) (hb:fn.body=some c) (hn:args.length<=fn.ntmps)
  (h:∀w F,Goal P w F fn.ntmps c (de args .nil 0) H0 (fy P fresh fn res)):Holds P fresh f args res:=by
 intro w F xs hF cu hd;have hg:=h w F;have hH:bf P w.heap.size F H0 w:=⟨fun i k h=>(by rw [show H0.get i=none from aq.get_nil i]at h;cases h),fun i j eC eR b ci cj h=>(by rw [show H0.get i=none from aq.get_nil i]at h;cases h),fun i k h=>(by rw [show H0.get i=none from aq.get_nil i]at h;cases h),aG _,
  fun b A h=>⟨hF.fz b A h,fun i k c hi=>(by rw [show H0.get i=none from aq.get_nil i]at hi;cases hi)⟩⟩
 have hs:Sat P w F fn.ntmps (de args .nil 0) H0 {tmps:=xs.toArray++Array.replicate (fn.ntmps-xs.toArray.size) undef,defers:=[]} w:=by
  refine⟨⟨F,⟨BO hd hn,hH,hF.all,cu⟩,fun i hi=> ?_,fun b A h=> .inl h,⟨fun b o h=>(by cases h),fun i hi=>(by cases hi),fun b A h=>(by cases h),Nat.zero_le _,fun b o h=>(by cases h),rfl,fun b o h=>(by cases h)⟩⟩,Below.refl _ _,rfl⟩;have hi:64<=i:=hi;cases Cg:F i with
  |none=>rfl
  |some x=>exact absurd (hF.ob i x Cg) (by omega)
 suffices hc:CallsIn (dO none) 0 P f xs.toArray w (fun e w'=>∃x F',e= .returned x/\Den F' res x/\tM w' F'/\(∀b A,F'.fz b=some A->(fresh=false/\F.fz b=some A)\/w.heap.size<=b)/\Below w.heap.size w w')from callsIn_wide.1 hc
 refine callsIn_of_wp_marks hf hb trivial (wpIn_mono (hg _ _ hs 0) fun e a' w' hh=> ?_);obtain⟨aM,H',h1,h2⟩:=hh.resolve_right fun q=>q.2
 obtain⟨ρ,aQ,hnone,hfz,_⟩:=h2.ex;have hd':=h2.defers;have key:(match jS P fn aM H' with | .ok v _=>cE fresh H' v res|_=>False)->LeavesInM (dO none) 0 P fn a'.tmps (fun e w'=>∃x F',e= .returned x/\Den F' res x/\tM w' F'/\(∀b A,F'.fz b=some A->(fresh=false/\F.fz b=some A)\/w.heap.size<=b)/\Below w.heap.size w w') a'.defers .returning w':=by
  intro hr;split at hr
  .rename_i v H2 hres;have nt:ez ρ [] a'.defers:=hd';refine xI (T:=aM) (H:=H') [] aQ nt (show j9 P fn aM H' []= .ok v H2 from hres) fun y w2 r1 r2 r3=> ?_
   obtain⟨rfl,_⟩:=Ew aQ hres;refine⟨y,Cf fresh w.heap.size w2 F,rfl,E1 r2 hfz hr r1,⟨hF.ob,hF.all,fun b A hb=> ?_⟩,fun b A hb=> ?_,h2.below.trans (r3.below aQ.H)⟩
   .have hb:(if w.heap.size<=b then ki w2 b else if fresh then none else F.fz b)=some A:=hb;by_cases h0:w.heap.size<=b
    .rw [if_pos h0]at hb;exact mH.1 hb
    .rw [if_neg h0]at hb;cases hfr:fresh with
     |true=>rw [hfr]at hb;cases hb
     |false=>
      rw [hfr]at hb;obtain⟨e,fr,h3⟩:=hF.fz b A hb;exact⟨e,fr,((h2.below.trans (r3.below aQ.H)).block b (by omega)).trans h3⟩
   .have hb:(if w.heap.size<=b then ki w2 b else if fresh then none else F.fz b)=some A:=hb;by_cases h0:w.heap.size<=b
    .exact .inr h0
    .rw [if_neg h0]at hb;cases hfr:fresh with
     |true=>rw [hfr]at hb;cases hb
     |false=>rw [hfr]at hb;exact .inl ⟨rfl,hb⟩
  .exact hr.elim
 cases e with
 |normal=>exact key h1
 |ret=>exact key h1
 |_=>exact h1.elim
end
end
end
section
variable [Ground]
noncomputable section
def iu:List av->Type
 |[]=>Unit
 |t::l=>t.den×iu l
def Ch {β:Type} (H:ai) (cF z:Bool) (t:av) (no:aC β) (l:List aa) (f:List t.den->List aa->aC β):aC β:=match l with
 | .bh z' t' xs::r=>if h:t'=t then(match !z||z' with |true=>f (h ▸ xs) r|false=> .must (Nat.ble 1 xs.length) (f (h ▸ xs) r))else no
 | .raw (.slice none 0 0)::r=>f [] r
 | .bR e u i k len _::r=>(match cF&&(decide (u=t)&& !z)with
   |true=> .must (Nat.beq len 0||bz e t (H.get i) (k+len-1)) (f (((bM t (H.get i)).drop k).take len) r)
   |false=>no)
 | .slice i off n _::r=>(match cF&& !z,H.get i with
   |true,some (.cells _ cs _ _ _)=>(match Nat.ble (off+n*t.size) cs.length,t.q8 n (cut cs off (n*t.size))with
    |true,some ds=>f ds r
    |_,_=>no)
   |_,_=>no)
 |_=>no
def av.vL {β:Type} (H:ai) (cF:Bool) (no:aC β):(t:av)->List aa->(t.den->List aa->aC β)->aC β
 | .int k,l,f=>match y9 k l with |some (x,r)=>f x r|none=>no
 | .bool,l,f=>match za l with |some (x,r)=>f x r|none=>no
 | .str,l,f=>match vx l with |some (x,r)=>f x r|none=>no
 | .list z t,l,f=>Ch H cF z t no l f
 | .pair a b,l,f=>a.vL H cF no l fun x r=>b.vL H cF no r fun y r=>f (x,y) r
 | .ptr t,l,f=>match vy t l with |some (x,r)=>f x r|none=>no
 | .unit,l,f=>f () l
def av.isAgg:av->Bool
 | .pair _ _=>true
 | .unit=>true
 |_=>false
def Ci {β:Type} (H:ai) (cF:Bool) (no:aC β) (t:av) (v:aa) (f:t.den->aC β):aC β:=match t.isAgg,v with
 |true, .agg cs=>t.vL H cF no cs fun d r=>match r with |[]=>f d|_=>no
 |true,_=>no
 |false,v=>t.vL H cF no [v] fun d r=>match r with |[]=>f d|_=>no
def tN {β:Type} (H:ai) (cF:Bool) (no:aC β):(ps:List av)->List aa->(iu ps->aC β)->aC β
 |[],[],f=>f ()
 |t::ps,v::vs,f=>Ci H cF no t v fun d=>tN H cF no ps vs fun ds=>f (d,ds)
 |_,_,_=>no
def rN (t:av) (d:t.den):aa:=match t.isAgg with
 |true=> .agg (t.cells d)
 |false=>(t.cells d).headD .bot
def jY:(ts:List av)->iu ts->List aa
 |[],_=>[]
 |t::l,d=>rN t d.1::jY l d.2
def oc (rs:List av) (d:iu rs):aa:=match jY rs d with
 |[v]=>v
 |vs=> .tuple vs
structure bp where
 f:FuncId
 ps:List av
 rs:List av
 fresh:Bool
 pre:iu ps->Bool
 fn:iu ps->iu rs
def bp.Ok (P:Program) (c:bp):Prop:=∀d,c.pre d=true->Holds P c.fresh c.f (jY c.ps d) (oc c.rs (c.fn d))
def xX (c:bp) (args:List aa) (H:ai):aC aK:=tN H c.fresh (.ret .no) c.ps args fun d=> .must (c.pre d) (.ret (.ok (oc c.rs (c.fn d)) H))
def aR:List bp->bI
 |[],_,_,_=> .ret .no
 |c::l,f,args,H=>match Nat.beq f c.f with |true=>xX c args H|false=>aR l f args H
section
variable {P:Program} {B:Nat} {ρ:Env} {H:ai} {w:World}
def jA (cF:Bool) (w:World) (ρ:Env):Env:=⟨fun i=>if i<64 then ρ i else none,fun b=>if cF then ki w b else ρ.fz b⟩
theorem Rh (hH:bf P B ρ H w) (cF:Bool):∀b A,ρ.fz b=some A->(jA cF w ρ).fz b=some A:=fun b A h=>by
 cases cF with
 |true=>exact mH.2 (hH.fz b A h).1
 |false=>exact h
theorem fw (hH:bf P B ρ H w) (cF:Bool) {t:av} {d:t.den} {ys:List Value} (h:aF ρ (t.cells d) ys):aF (jA cF w ρ) (t.cells d) ys:=qp (Rh hH cF) t d ys h
theorem CH {β:Type} (hH:bf P B ρ H w) {cF z:Bool} {t:av} {no:aC β} {b:β} (hno:no.gr≠some b) {l:List aa} {f:List t.den->List aa->aC β} (h:(Ch H cF z t no l f).gr=some b):
  ∃xs r,(f xs r).gr=some b/\∀ys,aF ρ l ys->∃y1 y2,ys=y1++y2/\aF (jA cF w ρ) [.bh z t xs] y1/\aF ρ r y2:=by
 unfold Ch at h;split at h
 .rename_i z' t' xs r;split at h
  .rename_i e;subst e;have key:∀(hz:z=true->z'=true\/xs≠[]) ys,aF ρ (.bh z' t' xs::r) ys->∃y1 y2,ys=y1++y2/\aF (jA cF w ρ) [.bh z t' xs] y1/\aF ρ r y2:=by
    intro hz ys hd;cases hd with
    |cons h1 h2=>
     refine⟨[_],_,rfl, .cons ?_ .nil,h2⟩;rcases h1.tr with⟨rfl,a,k,rfl,oR⟩|⟨b,off,k,A,g1,g2,g3,g4,rfl,g5⟩
     .exact .dW fun e=>(hz e).elim oR fun h=>absurd rfl h
     .exact .bh (Rh hH cF _ _ g1) g2 rfl (n9 (fun d ys=>fw hH cF) _ _ g3) g4 fun e=>(hz e).elim g5 id
   split at h
   .rename_i hz;exact⟨xs,r,h,key fun e=> .inl (by subst e;simpa using hz)⟩
   .cases hb:Nat.ble 1 xs.length with
    |false=>simp only [hb,aC.gr,cond_false]at h;cases h
    |true=>
     simp only [hb,aC.gr,cond_true]at h;exact⟨xs,r,h,key fun e=> .inr fun hx=>by subst hx;cases hb⟩
  .exact absurd h hno
 .rename_i r;refine⟨[],r,h,fun ys hd=> ?_⟩;cases hd with
  |cons h1 h2=>
   refine⟨[_],_,rfl, .cons ?_ .nil,h2⟩;rw [h1.b8];exact .dW fun _=>⟨rfl,rfl⟩
 .rename_i e u i k len cap r;split at h
  .rename_i hc;simp only [ae,bB]at hc;obtain⟨hb,hu,hz⟩:=hc;subst hu;subst hb;have hz:z=false:=by simpa using hz
   subst hz;cases hm:(Nat.beq len 0||bz e u (H.get i) (k+len-1))with
   |false=>rw [hm]at h;cases h
   |true=>
    rw [hm]at h;refine⟨_,r,h,fun ys hd=> ?_⟩;cases hd with
    |cons h1 h2=>
     refine⟨[_],_,rfl, .cons ?_ .nil,h2⟩;rcases h1.jv with⟨rfl,a,rfl⟩|⟨b,c,kc,g1,g2,g3,rfl⟩
     .rw [List.take_zero];exact .dW fun e=>by cases e
     .rw [Bool.or_eq_true]at hm;by_cases hl:len=0
      .subst hl;rw [List.take_zero];exact .dW fun e=>by cases e
      .have hm:=hm.resolve_left fun e=>hl (ac e)
       obtain⟨b1,b2⟩:=vp hm;obtain⟨zs,q1,aO,_⟩:=rA hH b1 g1;generalize bM u (H.get i)=xs at b1 b2 aO ⊢;have hle2:k+len<=xs.length:=by omega
       have e1:(xs.drop k).take len=(xs.take (k+len)).drop k:=by rw [List.take_drop]
       have gG:=BJ (off:=0) (A:=zs.toList) (l:=k) (h:=k+len) (by simpa using aO) (by omega) hle2;rw [aw,<-e1]at gG;have hn:((xs.drop k).take len).length=len:=by simp;omega
       have gJ:=Den.bh (ρ:=jA true w ρ) (z:=false) (t:=u) (xs:=(xs.drop k).take len) (b:=b) (off:=k*u.size) (k:=kc) (A:=zs) (mH.2 ⟨_,_,q1⟩) (by
        have e3:(u.flat xs).length<=zs.toList.length:=by
         have:=aO.length;simp at this ⊢;omega
        rw [u.ig]at e3 ⊢;rw [hn,<-Nat.add_mul];have:=cX (Nat.mul_le_mul_right u.size hle2) e3;simpa using this) rfl (n9 (fun d ys=>fw hH true) _ _ gG) (by omega) (fun e=>by cases e)
       rwa [hn]at gJ
  .exact absurd h hno
 .rename_i i off n cap r;split at h
  .rename_i e cs x fz ro hc hg;rw [ae]at hc;obtain⟨hb,hz⟩:=hc;subst hb;have hz:z=false:=by simpa using hz
   subst hz;split at h
   .rename_i ds hle hrd;have hle:=bS hle;refine⟨ds,r,h,fun ys hd=> ?_⟩;cases hd with
    |cons h1 h2=>
     refine⟨[_],_,rfl, .cons ?_ .nil,h2⟩;obtain⟨b,c,k,g1,_,g3,rfl⟩:=h1.ic;obtain⟨zs,xE,q1,_,bV,_,_,qs⟩:=mq hH hg g1;have hcut:=(bV.drop off).take (n*t.size);obtain⟨mI,hn⟩:=av.BF hrd hcut;subst hn;have hfl:=t.ig ds;have e2:((zs.toList.take cs.length).drop off).take (ds.length*t.size)=(zs.toList.drop off).take (t.flat ds).length:=by
      rw [hfl,List.drop_take,List.take_take,Nat.min_eq_left (by omega)]
     rw [e2]at mI;exact .bh (mH.2 ⟨_,_,q1⟩) (by rw [hfl];omega) rfl (n9 (fun d ys=>fw hH true) _ _ mI) g3 fun e=>by cases e
   .exact absurd h hno
  .exact absurd h hno
 .exact absurd h hno
theorem abk {β:Type} {cF z:Bool} {t:av} {no:aC β} {b:β} (hno:no.gr≠some b) {l:List aa} {f:List t.den->List aa->aC β} (h:(Ch H cF z t no l f).gr=some b):∃xs r,(f xs r).gr=some b:=by
 unfold Ch at h;split at h
 .split at h
  .split at h
   .exact⟨_,_,h⟩
   .rename_i xs r _ _ _;cases hb:Nat.ble 1 xs.length with
    |false=>simp only [hb,aC.gr,cond_false]at h;cases h
    |true=>simp only [hb,aC.gr,cond_true]at h;exact⟨_,_,h⟩
  .exact absurd h hno
 .exact⟨_,_,h⟩
 .rename_i e u i k len cap r;split at h
  .cases hm:(Nat.beq len 0||bz e t (H.get i) (k+len-1))with
   |false=>rw [hm]at h;cases h
   |true=>rw [hm]at h;exact⟨_,_,h⟩
  .exact absurd h hno
 .split at h
  .split at h
   .exact⟨_,_,h⟩
   .exact absurd h hno
  .exact absurd h hno
 .exact absurd h hno
theorem md {β:Type} {cF:Bool} {no:aC β} {b:β} (hno:no.gr≠some b):∀(t:av) {l:List aa} {f:t.den->List aa->aC β},(t.vL H cF no l f).gr=some b->∃d r,(f d r).gr=some b
 | .int k,l,f,h=>by
   have h:(match y9 k l with |some (x,r)=>f x r|none=>no).gr=some b:=h;split at h
   .exact⟨_,_,h⟩
   .exact absurd h hno
 | .bool,l,f,h=>by
   have h:(match za l with |some (x,r)=>f x r|none=>no).gr=some b:=h;split at h
   .exact⟨_,_,h⟩
   .exact absurd h hno
 | .str,l,f,h=>by
   have h:(match vx l with |some (x,r)=>f x r|none=>no).gr=some b:=h;split at h
   .exact⟨_,_,h⟩
   .exact absurd h hno
 | .list z t,l,f,h=>abk hno h
 | .pair a c,l,f,h=>by
   obtain⟨x,r,h1⟩:=md hno a (f:=fun x r=>c.vL H cF no r fun y r=>f (x,y) r) h;obtain⟨y,r',h3⟩:=md hno c h1;exact⟨_,_,h3⟩
 | .ptr t,l,f,h=>by
   have h:(match vy t l with |some (x,r)=>f x r|none=>no).gr=some b:=h;split at h
   .exact⟨_,_,h⟩
   .exact absurd h hno
 | .unit,l,f,h=>⟨(),l,h⟩
theorem Cj {β:Type} {cF:Bool} {no:aC β} {b:β} (hno:no.gr≠some b):∀(ps:List av) {vs:List aa} {f:iu ps->aC β},(tN H cF no ps vs f).gr=some b->∃d,(f d).gr=some b
 |[],[],f,h=>⟨(),h⟩
 |[],_::_,f,h=>absurd h hno
 |_::_,[],f,h=>absurd h hno
 |t::ps,v::vs,f,h=>by
  have h:(Ci H cF no t v fun d=>tN H cF no ps vs fun ds=>f (d,ds)).gr=some b:=h;have:∃d,(tN H cF no ps vs fun ds=>f (d,ds)).gr=some b:=by
   unfold Ci at h;split at h
   .obtain⟨d,r,h1⟩:=md hno t h;cases r with
    |cons _ _=>exact absurd h1 hno
    |nil=>exact⟨d,h1⟩
   .exact absurd h hno
   .obtain⟨d,r,h1⟩:=md hno t h;cases r with
    |cons _ _=>exact absurd h1 hno
    |nil=>exact⟨d,h1⟩
  obtain⟨d,h1⟩:=this;obtain⟨ds,h3⟩:=Cj hno ps h1;exact⟨(d,ds),h3⟩
theorem me {β:Type} (hH:bf P B ρ H w) {cF:Bool} {no:aC β} {b:β} (hno:no.gr≠some b):∀(t:av) {l:List aa} {f:t.den->List aa->aC β},(t.vL H cF no l f).gr=some b->
  ∃d r,(f d r).gr=some b/\∀ys,aF ρ l ys->∃y1 y2,ys=y1++y2/\aF (jA cF w ρ) (t.cells d) y1/\aF ρ r y2
 | .int k,l,f,h=>by
   have h:(match y9 k l with |some (x,r)=>f x r|none=>no).gr=some b:=h;split at h
   .rename_i x r hx;refine⟨x,r,h,fun ys hd=> ?_⟩;obtain⟨y1,y2,e,h1,h2⟩:=av.vo (.int k) hx hd;exact⟨y1,y2,e,fw hH cF h1,h2⟩
   .exact absurd h hno
 | .bool,l,f,h=>by
   have h:(match za l with |some (x,r)=>f x r|none=>no).gr=some b:=h;split at h
   .rename_i x r hx;refine⟨x,r,h,fun ys hd=> ?_⟩;obtain⟨y1,y2,e,h1,h2⟩:=av.vo .bool hx hd;exact⟨y1,y2,e,fw hH cF h1,h2⟩
   .exact absurd h hno
 | .str,l,f,h=>by
   have h:(match vx l with |some (x,r)=>f x r|none=>no).gr=some b:=h;split at h
   .rename_i x r hx;refine⟨x,r,h,fun ys hd=> ?_⟩;obtain⟨y1,y2,e,h1,h2⟩:=av.vo .str hx hd;exact⟨y1,y2,e,fw hH cF h1,h2⟩
   .exact absurd h hno
 | .list z t,l,f,h=>CH hH hno h
 | .pair a c,l,f,h=>by
   obtain⟨x,r,h1,h2⟩:=me hH hno a (f:=fun x r=>c.vL H cF no r fun y r=>f (x,y) r) h;obtain⟨y,r',h3,h4⟩:=me hH hno c h1;refine⟨(x,y),r',h3,fun ys hd=> ?_⟩;obtain⟨y1,y2,rfl,g1,g2⟩:=h2 ys hd;obtain⟨y3,It,rfl,g3,g4⟩:=h4 y2 g2;exact⟨y1++y3,It,by simp,g1.append g3,g4⟩
 | .ptr t,l,f,h=>by
   have h:(match vy t l with |some (x,r)=>f x r|none=>no).gr=some b:=h;split at h
   .rename_i x r hx;refine⟨x,r,h,fun ys hd=> ?_⟩;obtain⟨y1,y2,e,h1,h2⟩:=av.vo (.ptr t) hx hd;exact⟨y1,y2,e,fw hH cF h1,h2⟩
   .exact absurd h hno
 | .unit,l,f,h=>⟨(),l,h,fun ys hd=>⟨[],ys,rfl, .nil,hd⟩⟩
theorem Ck {t:av} (h:t.isAgg=false) (d:t.den):t.cells d=[rN t d]:=by
 cases t<;>first |rfl |cases h
theorem abl {β:Type} (hH:bf P B ρ H w) {cF:Bool} {no:aC β} {b:β} (hno:no.gr≠some b) {t:av} {v:aa} {f:t.den->aC β} (h:(Ci H cF no t v f).gr=some b):
  ∃d,(f d).gr=some b/\∀x,Den ρ v x->Den (jA cF w ρ) (rN t d) x:=by
 unfold Ci at h;split at h
 .rename_i cs ha;obtain⟨d,r,h1,h2⟩:=me hH hno t h;cases r with
  |cons _ _=>exact absurd h1 hno
  |nil=>
   refine⟨d,h1,fun x hx=> ?_⟩;obtain⟨xs,g1,rfl⟩:=hx.tj;obtain⟨y1,y2,rfl,g2,g3⟩:=h2 xs g1;cases g3;unfold rN;rw [ha,List.append_nil];exact .agg g2
 .exact absurd h hno
 .rename_i ha;obtain⟨d,r,h1,h2⟩:=me hH hno t h;cases r with
  |cons _ _=>exact absurd h1 hno
  |nil=>
   refine⟨d,h1,fun x hx=> ?_⟩;obtain⟨y1,y2,e,g2,g3⟩:=h2 [x] (.cons hx .nil);cases g3;rw [List.append_nil]at e;subst e;rw [Ck ha]at g2;cases g2 with |cons g _=>exact g
theorem mf {β:Type} (hH:bf P B ρ H w) {cF:Bool} {no:aC β} {b:β} (hno:no.gr≠some b):∀(ps:List av) {vs:List aa} {f:iu ps->aC β},(tN H cF no ps vs f).gr=some b->
  ∃d,(f d).gr=some b/\∀xs,aF ρ vs xs->aF (jA cF w ρ) (jY ps d) xs
 |[],[],f,h=>⟨(),h,fun xs hd=>by cases hd;exact .nil⟩
 |[],_::_,f,h=>absurd h hno
 |_::_,[],f,h=>absurd h hno
 |t::ps,v::vs,f,h=>by
  obtain⟨d,h1,h2⟩:=abl hH hno (f:=fun d=>tN H cF no ps vs fun ds=>f (d,ds)) h;obtain⟨ds,h3,h4⟩:=mf hH hno ps h1;refine⟨(d,ds),h3,fun xs hd=> ?_⟩;cases hd with
  |cons g1 g2=>exact .cons (h2 _ g1) (h4 _ g2)
theorem abm {F F':Env} (hf:∀b A,F.fz b=some A->F'.fz b=some A) {t:av} {d:t.den} {x:Value} (h:Den F (rN t d) x):Den F' (rN t d) x:=by
 cases ha:t.isAgg with
 |true=>
  unfold rN at h ⊢;rw [ha]at h ⊢;obtain⟨xs,g1,rfl⟩:=h.tj;exact .agg (qp hf t d xs g1)
 |false=>
  have h1:aF F (t.cells d) [x]:=by rw [Ck ha];exact .cons h .nil
  have h2:=qp hf t d _ h1;rw [Ck ha]at h2;cases h2 with |cons g _=>exact g
theorem Ri {F F':Env} (hf:∀b A,F.fz b=some A->F'.fz b=some A):∀(ts:List av) {d:iu ts} {xs:List Value},aF F (jY ts d) xs->aF F' (jY ts d) xs
 |[],_,_,h=>by cases h;exact .nil
 |t::l,d,_,h=>by
  cases h with
  |cons h1 h2=>exact .cons (abm hf h1) (Ri hf l h2)
theorem abn {F F':Env} (hf:∀b A,F.fz b=some A->F'.fz b=some A) {rs:List av} {d:iu rs} {x:Value} (h:Den F (oc rs d) x):Den F' (oc rs d) x:=by
 have key:∀l,jY rs d=l->Den F (match l with |[v]=>v|vs=> .tuple vs) x->Den F' (match l with |[v]=>v|vs=> .tuple vs) x:=by
  intro l hl hd;have hds:∀xs,aF F l xs->aF F' l xs:=fun xs hx=>by rw [<-hl]at hx ⊢;exact Ri hf rs hx
  split at hd
  .rename_i v;have:=hds [x] (.cons hd .nil);cases this with |cons g _=>exact g
  .rename_i hn;obtain⟨xs,g1,rfl⟩:=hd.BD;exact .tuple (hds _ g1)
 exact key _ rfl h
theorem J4 {c:bp} {args:List aa} {v:aa} {H':ai} (h:(xX c args H).gr=some (.ok v H')):H'=H:=by
 obtain⟨d,h1⟩:=Cj (cF:=c.fresh) (no:=aC.ret aK.no) (b:=aK.ok v H') (by simp [aC.gr]) c.ps h;cases hp:c.pre d with
 |false=>rw [hp]at h1;cases h1
 |true=>rw [hp]at h1;cases h1;rfl
theorem Rj {c:bp} (hc:c.Ok P) {args:List aa} {v:aa} {H':ai} (h:(xX c args H).gr=some (.ok v H')) {xs:List Value} (m:Nat) (hH:bf P B ρ H w) (cu:n7 ρ) (hd:aF ρ args xs):CallsIn (dO none) m P c.f xs.toArray w (mC P B ρ H w v H'):=by
 have hsame:=J4 h;obtain⟨d,h1,h2⟩:=mf (w:=w) hH (cF:=c.fresh) (no:=aC.ret aK.no) (b:=aK.ok v H') (by simp [aC.gr]) c.ps h;have hp:c.pre d=true/\v=oc c.rs (c.fn d):=by
  cases hp:c.pre d with
  |false=>rw [hp]at h1;cases h1
  |true=>rw [hp]at h1;cases h1;exact⟨rfl,rfl⟩
 obtain⟨hp,rfl⟩:=hp;subst hsame;have hF:tM w (jA c.fresh w ρ):=by
  refine⟨fun i x hx=> ?_,fun g hg=> ?_,fun b A hb=> ?_⟩
  .have hx:(if i<64 then ρ i else none)=some x:=hx;by_cases h:i<64
   .exact h
   .rw [if_neg h]at hx;cases hx
  .obtain⟨c',tA⟩:=cu.at' g hg;exact⟨c',by show(if g<64 then ρ g else none)=_;rw [if_pos hg];exact tA⟩
  .have hb:(if c.fresh=true then ki w b else ρ.fz b)=some A:=hb;cases hfr:c.fresh with
   |true=>rw [hfr]at hb;exact mH.1 hb
   |false=>rw [hfr]at hb;exact(hH.fz b A hb).1
 have abo:vK (jA c.fresh w ρ):=fun b p hb=>by
  obtain⟨A,h1,h2⟩:=cu.zC b p hb;refine⟨A, ?_,h2⟩;show(if c.fresh=true then ki w b else ρ.fz b)=some A;cases c.fresh with
  |true=>exact mH.2 (hH.fz b A h1).1
  |false=>exact h1
 have J5:=hc d hp w (jA c.fresh w ρ) xs hF abo (h2 xs hd);have hin:CallsIn (dO none) m P c.f xs.toArray w _:=callsIn_wide.2 J5;refine hin.mono ?_;rintro e w' ⟨x,F',rfl,hx,abp,hfz,hb⟩;have abq:∀b A,ρ.fz b=some A->b<w.heap.size:=fun b A h=>by
  obtain⟨⟨e,fr,h⟩,_⟩:=hH.fz b A h;exact(cV.1 h).1
 have hle:cB ρ ⟨ρ.at',fun b=>if w.heap.size<=b then F'.fz b else ρ.fz b⟩:=⟨fun _ _ h=>h,fun b A h=>by
  show(if w.heap.size<=b then F'.fz b else ρ.fz b)=some A;rw [if_neg (by have:=abq b A h;omega)];exact h⟩
 refine⟨x,⟨ρ.at',fun b=>if w.heap.size<=b then F'.fz b else ρ.fz b⟩,rfl,abn (fun b A kj=> ?_) hx,⟨fun i k hi=> ?_,hH.inj,hH.lt,cX hH.base hb.size,fun b A kj=> ?_⟩,
  ⟨hle,fun _ _=>rfl,aG _,hb.size,hb.os,hb.tape,hb.output,fun b hlt _=>hb.block b hlt,fun _ _ h=>h,fun _ _ h=>h,fun b A kj=> ?_⟩⟩
 .show(if w.heap.size<=b then F'.fz b else ρ.fz b)=some A;by_cases h0:w.heap.size<=b
  .rw [if_pos h0];exact kj
  .rw [if_neg h0];rcases hfz b A kj with⟨h3,h4⟩|h3
   .have h4:(if c.fresh then ki w b else ρ.fz b)=some A:=h4;rw [h3]at h4;exact h4
   .exact absurd h3 h0
 .obtain⟨b,c',o,e1,e2,e3,bU⟩:=hH.blk i k hi;have hlt:=(cV.1 e2).1;exact⟨b,c',o,e1,(hb.block b hlt).trans e2,e3.mono hle,bU⟩
 .have kj:(if w.heap.size<=b then F'.fz b else ρ.fz b)=some A:=kj;by_cases h0:w.heap.size<=b
  .rw [if_pos h0]at kj;refine⟨abp.fz b A kj,fun i k c' hi hr=> ?_⟩;obtain⟨b',c2,o,e1,e2,_⟩:=hH.blk i k hi;have hr:ρ i=some (b,c'):=hr;rw [hr]at e1;cases e1;have:=(cV.1 e2).1;omega
  .rw [if_neg h0]at kj;obtain⟨⟨e,fr,h3⟩,h4⟩:=hH.fz b A kj;exact⟨⟨e,fr,(hb.block b (by omega)).trans h3⟩,h4⟩
 .have kj:(if w.heap.size<=b then F'.fz b else ρ.fz b)=some A:=kj;by_cases h0:w.heap.size<=b
  .exact .inr (.inl h0)
  .rw [if_neg h0]at kj;exact .inl kj
theorem J6 {f:FuncId} {args:List aa} {v:aa} {H':ai}:∀{l:List bp},(aR l f args H).gr=some (.ok v H')->∃c∈l,c.f=f/\(xX c args H).gr=some (.ok v H')
 |[],h=>by cases h
 |c::l,h=>by
  unfold aR at h;cases hb:Nat.beq f c.f with
  |true=>rw [hb]at h;exact⟨c,kK,(ac hb).symm,h⟩
  |false=>
   rw [hb]at h;obtain⟨c',h1,h2,h3⟩:=J6 h;exact⟨c',j8 _ h1,h2,h3⟩
theorem rO {bw:bI} {f:FuncId} {args:List aa} {v:aa} {H':ai} (h:bG bw f args H= .ok v H'):(bw f args H).gr=some (.ok v H'):=by
 unfold bG at h;cases hg:(bw f args H).gr with
 |none=>rw [hg]at h;cases h
 |some r=>rw [hg]at h;rw [show r= .ok v H' from h]
theorem cY {l:List bp} (hl:∀c∈l,c.Ok P):bD P (bG (aR l)) where
 mono f args H v H' h:=by
  obtain⟨c,_,_,h3⟩:=J6 (rO h);rw [J4 h3];exact aG _
 cy f args H v H' h B ρ xs w m hH cu hd hf:=by
  obtain⟨c,h1,rfl,h3⟩:=J6 (rO h);exact Rj (hl c h1) h3 m hH cu hd
end
end
end
section
variable [Ground]
noncomputable section
def tO:Code->List Code
 | .seq a b=>tO a++tO b
 |c=>[c]
def fl (c:Code) (p:List Nat):List Code:=tO (cat c p)
def zX:Nat:=400
def iw (P:Program) (bw:bI) (n:Nat):List Code->aq aa->ai->aC R
 |[],T,H=> .ret (.normal T H [])
 |c::l,T,H=>(lh P bw zX c n false T H []).bind fun r=>match r with
  | .normal T H []=>iw P bw n l T H
  |r=> .ret r
def tP (P:Program) (bw:bI) (l:List Code) (k:Nat) (s:bC):aC R:=iw P bw s.n (l.take k) s.T s.H
def od (P:Program) (bw:bI) (l:List Code) (s:bC):aC R:=iw P bw s.n l s.T s.H
def o4 (P:Program) (bw:bI) (l:List Code) (k n:Nat) (args:List aa):aC R:=iw P bw n (l.take k) (de args .nil 0) H0
def dP (P:Program) (n:Nat) (e:Exit) (σ:Ren) (s':bC):R->Prop
 | .normal T H []=>(match e with | .normal=>fit P σ n T H s'|_=>False)
 | .exit id T H []=>(match e with | .exit i=>gZ (Nat.beq i id) (fit P σ n T H s')|_=>False)
 |_=>False
def tQ (P:Program) (fn:Func) (fresh:Bool) (res:aa):R->Prop
 | .normal _ _ _=>False
 | .ret T H []=>(match jS P fn T H with | .ok v _=>cE fresh H v res|_=>False)
 |_=>False
section
variable {P:Program} {w0:World} {F:Env} {n:Nat} {T:aq aa} {H:ai} {Q:Exit->aq aa->ai->Prop}
def bd (X:Ext) (P:Program) (w0:World) (F:Env) (n:Nat):List Code->aq aa->ai->(Exit->aq aa->ai->Prop)->Prop
 |[],T,H,Q=>Q .normal T H
 |c::l,T,H,Q=>iM X P w0 F n c T H (hG (fun T H=>bd X P w0 F n l T H Q) Q)
abbrev aP:=bd oZ
variable {X:Ext}
theorem tc {N N':aq aa->ai->Prop} {Q':Exit->aq aa->ai->Prop} (h1:∀T H,N T H->N' T H) (h2:∀e T H,e≠ .normal->Q e T H->Q' e T H):∀e T H,hG N Q e T H->hG N' Q' e T H:=by
 intro e T H h;cases e with
 |normal=>exact h1 T H h
 |_=>exact h2 _ T H (by simp) h
theorem aP.append:∀{l1 l2:List Code} {T:aq aa} {H:ai},bd X P w0 F n (l1++l2) T H Q->bd X P w0 F n l1 T H (hG (fun T H=>bd X P w0 F n l2 T H Q) Q)
 |[],l2,T,H,h=>h
 |c::l1,l2,T,H,h=>Goal.mono h (tc (fun T H h=>aP.append h) fun e T H hn h=>by cases e<;>first |exact absurd rfl hn|exact h)
theorem aP.split:∀{l1 l2:List Code} {T:aq aa} {H:ai},bd X P w0 F n l1 T H (hG (fun T H=>bd X P w0 F n l2 T H Q) Q)->bd X P w0 F n (l1++l2) T H Q
 |[],l2,T,H,h=>h
 |c::l1,l2,T,H,h=>Goal.mono h (tc (fun T H h=>aP.split h) fun e T H hn h=>by cases e<;>first |exact absurd rfl hn|exact h)
theorem aP.mono {Q':Exit->aq aa->ai->Prop} (hq:∀e T H,Q e T H->Q' e T H):∀{l:List Code} {T:aq aa} {H:ai},bd X P w0 F n l T H Q->bd X P w0 F n l T H Q'
 |[],_,_,h=>hq _ _ _ h
 |_::_,_,_,h=>Goal.mono h (tc (fun _ _ h=>aP.mono hq h) fun e T H _ h=>hq e T H h)
theorem vM:∀{c:Code} {T:aq aa} {H:ai} {Q:Exit->aq aa->ai->Prop},bd X P w0 F n (tO c) T H Q->iM X P w0 F n c T H Q
 | .seq a b,T,H,Q,h=>by
   refine Goal.seq rfl (vM (aP.mono (fun e T H h=> ?_) (aP.append (l1:=tO a) (l2:=tO b) h)));cases e with
   |normal=>exact vM (c:=b) h
   |_=>exact h
 | .skip,T,H,Q,h=>Goal.mono h fun e T H h=>by cases e<;>exact h
 | .region _ _ _,T,H,Q,h=>Goal.mono h fun e T H h=>by cases e<;>exact h
 | .cond _ _ _,T,H,Q,h=>Goal.mono h fun e T H h=>by cases e<;>exact h
 | .block _ _,T,H,Q,h=>Goal.mono h fun e T H h=>by cases e<;>exact h
 | .loop _,T,H,Q,h=>Goal.mono h fun e T H h=>by cases e<;>exact h
 | .rangeFunc _ _ _ _,T,H,Q,h=>Goal.mono h fun e T H h=>by cases e<;>exact h
 | .exit _,T,H,Q,h=>Goal.mono h fun e T H h=>by cases e<;>exact h
 | .scope _,T,H,Q,h=>Goal.mono h fun e T H h=>by cases e<;>exact h
 | .label _,T,H,Q,h=>Goal.mono h fun e T H h=>by cases e<;>exact h
 | .goto _,T,H,Q,h=>Goal.mono h fun e T H h=>by cases e<;>exact h
 | .ret,T,H,Q,h=>Goal.mono h fun e T H h=>by cases e<;>exact h
 | .refuse _,T,H,Q,h=>Goal.mono h fun e T H h=>by cases e<;>exact h
variable {bw:bI}
theorem aP.iw (hK:eW P) (hm:P.follows .mixedOrders=true) (hS:bD P (bG bw)) {oe:R->Prop} (hq:∀r,oe r->zW Q r):∀{l:List Code} {T:aq aa} {H:ai} {r:R},(Sv.iw P bw n l T H).gr=some r->oe r->bd X P w0 F n l T H Q
 |[],T,H,r,h,h1=>by
  cases h;exact hq _ h1
 |c::l,T,H,r,h,h1=>by
  obtain⟨r1,g1,g2⟩:=mF h;have run:∀tR:Exit->aq aa->ai->Prop,zW tR r1->iM X P w0 F n c T H tR:=fun tR h2=>by
   intro a w hs k;obtain⟨e,aM,H',ho,vF⟩:=Rg h2;have g1:=g1;rw [<-Rf zX c n X.rd.isSome]at g1;have hr:=pu (P:=P) (bw:=bw) zX c n X.rd.isSome T H [] r1 g1 (by rintro rfl;cases ho);have hI:qf P (p8 P (n8 P (bG bw)) zX):=Jf hK (B6 hK hm hS) zX;have ho':(p8 P (n8 P (bG bw)) zX c n X.rd.isSome T H X.m).out=some (e,aM,H',X.m):=by rw [J2,hr];exact Rc ho
   obtain⟨ρ,aQ,hf,hfz,hkp⟩:=hs.ex;refine hI.cy _ _ _ _ _ _ _ _ _ _ ho' w0.heap.size ρ a w X.rd k _ rfl aQ (by rw [hs.defers];exact hkp.xV) (fun i h1 _=>hf i h1) fun ρ' a' w' g1 g2 g3=> ?_
   refine .inl ⟨aM,H',vF,⟨⟨ρ',g1,fun i hi=> ?_,fun b A hb=> ?_,J0 hkp g2⟩,hs.below.trans (g2.below aQ.H),g3.unique (hkp.xV.mono g2.le)⟩⟩
   .rw [g2.ext i (.inr hi)];exact hf i (cX g2.next hi)
   .rcases g2.ng b A hb with h|h|⟨i,k,c,q1,aO,bV⟩
    .exact hfz b A h
    .exact .inr (cX hs.below.size h)
    .obtain⟨b',c',o,e1,_,_,bU⟩:=aQ.H.blk i k q1;rw [bV]at e1;cases e1;exact .inr (bU aO)
  refine run _ ?_;have kQ:∀r2,(match r1 with | .normal T H []=>Sv.iw P bw n l T H|r=>aC.ret r).gr=some r2->oe r2->zW (hG (fun T H=>bd X P w0 F n l T H Q) Q) r1:=by
   intro r2 h2 vF;split at h2
   .exact aP.iw hK hm hS hq h2 vF
   .cases h2;have:=hq _ vF;revert this;rename_i hnn;cases r1 with
    |no=>exact id
    |normal T1 H1 m1=>
     cases m1 with
     |nil=>exact absurd rfl (hnn T1 H1)
     |cons _ _=>exact id
    |exit id' T1 H1 m1=>cases m1<;>exact id
    |goto l' T1 H1 m1=>exact id
    |ret T1 H1 m1=>cases m1<;>exact id
  exact kQ r g2 h1
theorem Goal.Rk {c:Code} {Q':Exit->aq aa->ai->Prop} (h:iM X P w0 F n c T H Q) (hq:∀e T H,Q e T H->Q' e T H\/∃σ s,fit P σ n T H s/\pinned σ s.H.next X.pins=true/\Q' e s.T s.H):iM X P w0 F n c T H Q':=fun a w hs k=>
 wpIn_mono (h a w hs k) fun e a' w' hh=>by
  rcases hh with⟨aM,H',h1,h2⟩|hh
  .rcases hq _ _ _ h1 with h3|⟨σ,s,h3,h5,h4⟩
   .exact .inl ⟨aM,H',h3,h2⟩
   .exact .inl ⟨s.T,s.H,h4,h2.oa h3 h5⟩
  .exact .inr hh
theorem aP.J7 {s':bC} {e:Exit} (hq:Q e s'.T s'.H):∀{l:List Code} {T:aq aa} {H:ai},l≠[]->bd X P w0 F n l T H (fun e' aM H'=>e'=e/\∃σ,fit P σ n aM H' s'/\pinned σ s'.H.next X.pins=true)->bd X P w0 F n l T H Q
 |[],_,_,hl,_=>absurd rfl hl
 |[c],T,H,_,h=>Goal.Rk h fun e' aM H' h'=> .inr (by
    cases e' with
    |normal=>obtain⟨rfl,σ,hf,hp⟩:=h';exact⟨σ,s',hf,hp,hq⟩
    |_=>obtain⟨rfl,σ,hf,hp⟩:=h';exact⟨σ,s',hf,hp,hq⟩)
 |c::c2::l,T,H,_,h=>Goal.Rk h fun e' aM H' h'=>by
   cases e' with
   |normal=>exact .inl (aP.J7 hq (by simp) h')
   |_=>obtain⟨rfl,σ,hf,hp⟩:=h';exact .inr ⟨σ,s',hf,hp,hq⟩
theorem aP.to (hK:eW P) (hm:P.follows .mixedOrders=true) (hS:bD P (bG bw)) {l:List Code} {s':bC} {e:Exit} {σ:Ren} (k:Nat) (D:List Bool) (h:(Sv.iw P bw n (l.take k) T H).path D (dP P n e σ s')) (hne:(l.take k).isEmpty=false)
  (hq:hG (fun T H=>bd X P w0 F n (l.drop k) T H Q) Q e s'.T s'.H) (hp:pinned σ s'.H.next X.pins=true:=by rfl):bd X P w0 F n l T H Q:=by
 obtain⟨r,h1,h2⟩:=aC.tJ _ _ h;have key:bd X P w0 F n (l.take k) T H (fun e' aM H'=>e'=e/\∃σ,fit P σ n aM H' s'/\pinned σ s'.H.next X.pins=true):=by
  refine aP.iw hK hm hS (oe:=dP P n e σ s') (fun r hr=> ?_) h1 h2;unfold dP at hr;split at hr
  .split at hr
   .exact⟨rfl,σ,hr,hp⟩
   .exact hr.elim
  .split at hr
   .obtain⟨g1,g2⟩:=jc hr;rw [ac g1];exact⟨rfl,σ,g2,hp⟩
   .exact hr.elim
  .exact hr.elim
 have kT:bd X P w0 F n (l.take k) T H (hG (fun T H=>bd X P w0 F n (l.drop k) T H Q) Q):=aP.J7 (s':=s') (e:=e) hq (fun hh=>by rw [hh]at hne;cases hne) key;have:=aP.split kT;rwa [List.take_append_drop]at this
theorem aP.abr (hK:eW P) (hm:P.follows .mixedOrders=true) (hS:bD P (bG bw)) {l:List Code} {s':bC} {e:Exit} {σ:Ren} (k:Nat) (D:List Bool) (h:(Sv.iw P bw n (l.take k) T H).tI D (dP P n e σ s')) (hne:(l.take k).isEmpty=false)
  (hq:hG (fun T H=>bd X P w0 F n (l.drop k) T H Q) Q e s'.T s'.H) (hp:pinned σ s'.H.next X.pins=true:=by rfl):bd X P w0 F n l T H Q:=by
 obtain⟨r,h1,h2⟩:=aC.B7 _ _ h;have key:bd X P w0 F n (l.take k) T H (fun e' aM H'=>e'=e/\∃σ,fit P σ n aM H' s'/\pinned σ s'.H.next X.pins=true):=by
  refine aP.iw hK hm hS (oe:=dP P n e σ s') (fun r hr=> ?_) h1 h2;unfold dP at hr;split at hr
  .split at hr
   .exact⟨rfl,σ,hr,hp⟩
   .exact hr.elim
  .split at hr
   .obtain⟨g1,g2⟩:=jc hr;rw [ac g1];exact⟨rfl,σ,g2,hp⟩
   .exact hr.elim
  .exact hr.elim
 have kT:bd X P w0 F n (l.take k) T H (hG (fun T H=>bd X P w0 F n (l.drop k) T H Q) Q):=aP.J7 (s':=s') (e:=e) hq (fun hh=>by rw [hh]at hne;cases hne) key;have:=aP.split kT;rwa [List.take_append_drop]at this
theorem aP.st (hK:eW P) (hm:P.follows .mixedOrders=true) (hS:bD P (bG bw)) {l:List Code} {s s':bC} {e:Exit} {σ:Ren} (k:Nat) (D:List Bool) (h:(tP P bw l k s).path D (dP P s.n e σ s')) (hne:(l.take k).isEmpty=false)
  (hq:hG (fun T H=>bd X P w0 F s.n (l.drop k) T H Q) Q e s'.T s'.H) (hp:pinned σ s'.H.next X.pins=true:=by rfl):bd X P w0 F s.n l s.T s.H Q:=aP.to hK hm hS k D h hne hq hp
theorem aP.all (hK:eW P) (hm:P.follows .mixedOrders=true) (hS:bD P (bG bw)) {l:List Code} {s s':bC} {e:Exit} {σ:Ren} (D:List Bool) (h:(od P bw l s).path D (dP P s.n e σ s')) (hne:l.isEmpty=false)
  (hq:Q e s'.T s'.H) (hp:pinned σ s'.H.next X.pins=true:=by rfl):bd X P w0 F s.n l s.T s.H Q:=by
 have hk:l.take l.length=l:=dI;refine aP.to hK hm hS (s':=s') (e:=e) (σ:=σ) l.length D (by rw [hk];exact h) (by rw [hk];exact hne) ?_ hp;rw [List.drop_length];cases e<;>exact hq
theorem cw {N:aq aa->ai->Prop} {i:Nat} {T:aq aa} {H:ai} (h:Q (.exit i) T H):hG N Q (.exit i) T H:=h
theorem aP.ret (hK:eW P) (hm:P.follows .mixedOrders=true) (hS:bD P (bG bw)) {l:List Code} {fn:Func} {fresh:Bool} {res:aa} (k:Nat) (D:List Bool) (h:(Sv.iw P bw n (l.take k) T H).path D (tQ P fn fresh res))
  (hq:∀T H,fy P fresh fn res .ret T H->Q .ret T H):bd X P w0 F n l T H Q:=by
 obtain⟨r,h1,h2⟩:=aC.tJ _ _ h;have key:bd X P w0 F n (l.take k) T H (hG (fun T H=>bd X P w0 F n (l.drop k) T H Q) Q):=by
  refine aP.iw hK hm hS (oe:=tQ P fn fresh res) (fun r hr=> ?_) h1 h2;unfold tQ at hr;split at hr
  .exact hr.elim
  .exact hq _ _ hr
  .exact hr.elim
 have:=aP.split key;rwa [List.take_append_drop]at this
theorem aP.jB (hK:eW P) (hm:P.follows .mixedOrders=true) (hS:bD P (bG bw)) {l:List Code} {s:bC} {fn:Func} {fresh:Bool} {res:aa} (D:List Bool) (h:(od P bw l s).path D (tQ P fn fresh res))
  (hq:∀T H,fy P fresh fn res .ret T H->Q .ret T H):bd X P w0 F s.n l s.T s.H Q:=by
 refine aP.ret hK hm hS (fn:=fn) (fresh:=fresh) (res:=res) l.length D ?_ hq;rw [dI];exact h
theorem aP.loop {ι:Type} {l rest:List Code} {id:Nat} {b:Code} (hl:l= .block id (.loop b)::rest) (I:ι->bC) (μ:ι->Nat) (i0:ι) (_:∀i,(I i).n=n)
  (step:∀i,bd X P w0 F n (tO b) (I i).T (I i).H (hG (fun T H=>∃j,μ j<μ i/\T=(I j).T/\H=(I j).H) (Ce id (hG (fun T H=>bd X P w0 F n rest T H Q) Q)))):bd X P w0 F n l (I i0).T (I i0).H Q:=by
 subst hl;refine Goal.block (x:= .loop b) rfl ?_;have key:∀m i,μ i<m->∀a w,mG X P w0 F n (I i).T (I i).H a w->∀k,Code.roundsIn (dO X.rd) k P b (fun e a' w'=>(∃aM H',Ce id (hG (fun T H=>bd X P w0 F n rest T H Q) Q) e aM H'/\mG X P w0 F n aM H' a' w')\/(e= .ret/\X.R a' w')) m a w:=by
  intro m;induction m with
  |zero=>intro i hi;exact absurd hi (Nat.not_lt_zero _)
  |succ m ih=>
   intro i hi a w hs k;rw [roundsIn_succ];refine wpIn_mono (vM (step i) a w hs k) fun e a' w' hh=> ?_
   rcases hh with⟨aM,H',h1,h2⟩|⟨rfl,hh⟩
   .cases e with
    |normal=>
     obtain⟨j,g1,rfl,rfl⟩:=h1;exact ih j (by omega) a' w' h2 k
    |_=>exact .inl ⟨aM,H',h1,h2⟩
   .exact .inr ⟨rfl,hh⟩
 intro a w hs k;exact wpIn_loop_rounds (μ i0+1) (key (μ i0+1) i0 (e8 _) a w hs k)
theorem cz {id:Nat} {T:aq aa} {H:ai} (h:Q .normal T H):Ce id Q (.exit id) T H:=by
 show if id=id then _ else _
 rw [if_pos rfl];exact h
theorem br {r:Int} (h: -9223372036854775808<=r/\r<=9223372036854775807):fits .i64 r=true:=by
 unfold fits;rw [ae];exact⟨ax h.1,ax h.2⟩
theorem abt {a b:Nat} (h:a=b):Nat.beq a b=true:=by rw [h,Nat.beq_refl]
def J8:Value->Bool
 | .int _ _| .bool _| .string _| .pointer none| .slice none _ _| .map none| .nilFunc| .nilIface=>true
 | .func _ ⟨[]⟩ ⟨[]⟩=>true
 |_=>false
def zY:aa->Bool
 | .raw v=>J8 v
 | .ptr _ _| .slice _ _ _ _| .map _| .func _ [] []| .bh _ _ _| .e9 _ _ _ _| .bR _ _ _ _ _ _| .dA _ _ _ _ _=>true
 |_=>false
def J9:aa->Bool
 | .agg l| .tuple l=>l.all zY
 |v=>zY v
theorem abu {v:Value} (h:J8 v=true):m4 3 v v=true:=by
 unfold J8 at h;split at h<;>first |(simp [m4,BW];done)|cases h
theorem av.beq_refl:∀(t:av) (a:t.den),t.beq a a=true
 | .int _,a=>ax rfl
 | .bool,a=>beq_self_eq_true a
 | .str,a=>ax rfl
 | .list _ t,a=>by
   show(Nat.beq a.length a.length&&(List.zip a a).all fun p=>t.beq p.1 p.2)=true
   rw [Nat.beq_refl,Bool.true_and,List.all_eq_true];intro p hp;obtain⟨i,h1,h2⟩:=List.mem_iff_getElem.1 hp;have B0:p=((a:List t.den)[i]'(by simp at h1;exact h1),(a:List t.den)[i]'(by simp at h1;exact h1)):=by rw [<-h2];simp
   rw [B0];exact t.beq_refl _
 | .pair s t,a=>by
   show(s.beq a.1 a.1&&t.beq a.2 a.2)=true;rw [s.beq_refl,t.beq_refl];rfl
 | .ptr t,a=>t.beq_refl a
 | .unit,_=>rfl
theorem abv (t:av) (xs:List t.den):zH t t xs xs=true:=by
 unfold zH;rw [dif_pos rfl];exact av.beq_refl (.list false t) xs
theorem abw (c:aZ):c.same c=true:=by cases c<;>simp [aZ.same]
theorem J' {v:aa} (h:zY v=true):vE v v=true:=by
 unfold zY at h;split at h
 .simp [vE,abu h]
 all_goals first |(simp [vE,abv,abw];done)|cases h
theorem ne:∀{l:List aa},l.all zY=true->ql l l=true
 |[],_=>rfl
 |v::l,h=>by
  rw [List.all_cons,ae]at h;show(vE v v&&ql l l)=true;rw [J' h.1,ne h.2];rfl
theorem aV {v:aa} (h:J9 v=true:=by kernel_rfl):aa.same v v=true:=by
 unfold J9 at h;split at h
 .exact ne h
 .exact ne h
 .next h1 h2=>
  cases v with
  |func f a b=>
   cases a<;>cases b<;>first |exact J' h|exact absurd h (by simp [zY])
  |_=>first |exact absurd rfl (h1 _)|exact absurd rfl (h2 _)|exact J' h
theorem Ka (c:Code):cat c []=c:=by cases c<;>rfl
theorem bL {fresh:Bool} {f:FuncId} {fn:Func} {c:Code} {args:List aa} {res:aa} (hf:P.funcs[f]? =some fn) (hb:fn.body=some c) (hl:Nat.ble args.length fn.ntmps=true)
  (h:∀w F,aP P w F fn.ntmps (fl c []) (de args .nil 0) H0 (fy P fresh fn res)):Holds P fresh f args res:=
 holds_of hf hb (bS hl) fun w F=>vM (by have:=h w F;rwa [fl,Ka]at this)
end
end
end
end Go.Proofs.YtibikmmdbdlafaaGreatDoor.Sv
