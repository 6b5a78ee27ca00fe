import Derived.Test.YtibikmmdbdlafaaGreatDoorZcSvFit
set_option linter.defProp false
set_option linter.unusedSectionVars false
set_option linter.unusedSimpArgs false
namespace Go.Proofs.YtibikmmdbdlafaaGreatDoor.Sv
open Go.RowKit
section
variable [Ground]
noncomputable section
structure Ext where
 rd:Option Nat
 K:Nat->Option Obj
 R:Act->World->Prop
 pin:List Nat:=[]
 A:Nat->Option (Nat×Nat):=fun _=>none
 Z:Nat->Option (Array Value):=fun _=>none
 sz:Nat:=0
 m:List Nat:=[]
 ds:List Deferred:=[]
 Y:Nat->Option Obj:=fun _=>none
def Ext.pins (X:Ext):List Nat:=X.m++X.pin
def pz:Ext:={rd:=none,K:=fun _=>none,R:=fun _ _=>False}
structure Kept (X:Ext) (ρ:Env) (H:ai) (w:World):Prop where
 k:∀b o,X.K b=some o->w.heap[b]? =some o/\¬Own ρ H b
 pin:∀i,i∈X.pin->i<H.next/\∀x,X.A i=some x->ρ i=some x
 z:∀b A,X.Z b=some A->ρ.fz b=some A
 sz:X.sz<=w.heap.size
 KW:∀b o,X.K b=some o->ρ.fz b=none
 yx:eF ρ X.m X.ds
 y:∀b o,X.Y b=some o->w.heap[b]? =some o/\¬Own ρ H b
structure mJ (X:Ext) (P:Program) (w0:World) (F:Env) (n:Nat) (T:au aa) (H:ai) (a:Act) (w:World):Prop where
 ex:∃ρ,eE P w0.heap.size ρ n T H a w/\(∀i,H.next<=i->ρ i=none)/\(∀b A,ρ.fz b=some A->F.fz b=some A\/w0.heap.size<=b)/\Kept X ρ H w
 below:Below w0.heap.size w0 w
 defers:a.defers=X.ds
abbrev Sat:=mJ pz
def iM (X:Ext) (P:Program) (w0:World) (F:Env) (n:Nat) (c:Code) (T:au aa) (H:ai) (Q:Exit->au aa->ai->Prop):Prop:=
 ∀a w,mJ X P w0 F n T H a w->∀k,c.wpIn (dW X.rd) k P (fun e a' w'=>(∃aO H',Q e aO H'/\mJ X P w0 F n aO H' a' w')\/(e= .ret/\X.R a' w')) a w
abbrev Goal:=iM pz
def KX {X:Ext} {ρ ρ':Env} {H H':ai} {w w':World} (h:Kept X ρ H w) (s:bQ ρ H w ρ' H' w'):Kept X ρ' H' w':=
 ⟨fun b o hb=>by
    obtain⟨h1,h2⟩:=h.k b o hb;have hlt:b<w.heap.size:=(dJ.1 h1).1;exact⟨(s.frame b hlt h2).trans h1,fun hh=>h2 (s.own b hlt hh)⟩,
   fun i hi=>⟨Nat.lt_of_lt_of_le (h.pin i hi).1 s.next,fun x hx=>s.le _ _ ((h.pin i hi).2 x hx)⟩,
   fun b A hb=>s.le.fz _ _ (h.z b A hb),dh h.sz s.size,fun b o hb=>by
    obtain⟨h1,h2⟩:=h.k b o hb;have hlt:b<w.heap.size:=(dJ.1 h1).1;cases hz:ρ'.fz b with
    |none=>rfl
    |some A=>
     rcases s.nv b A hz with g|g|g
     .rw [h.KW b o hb]at g;cases g
     .omega
     .exact absurd g h2,h.yx.mono s.le,fun b o hb=>by
    obtain⟨h1,h2⟩:=h.y b o hb;have hlt:b<w.heap.size:=(dJ.1 h1).1;exact⟨(s.frame b hlt h2).trans h1,fun hh=>h2 (s.own b hlt hh)⟩⟩
def eF.SK {ρ ρ':Env}:∀{m:List Nat} {ds:List Deferred},eF ρ m ds->(∀i∈m,∀x,ρ i=some x->ρ' i=some x)->eF ρ' m ds
 |[],_,h,_=>h
 |i::_,_,⟨b,c,ds',h1,h2,h3⟩,hc=>⟨b,c,ds',hc i kK _ h1,h2,eF.SK h3 fun j hj=>hc j (kJ _ hj)⟩
def eF.unique {ρ:Env}:∀{m:List Nat} {ds ds':List Deferred},eF ρ m ds->eF ρ m ds'->ds=ds'
 |[],_,_,h,h'=>Eq.trans (show _=[]from h) (show _=[]from h').symm
 |i::m,_,_,⟨b,c,at2,h1,h2,h3⟩,⟨b',c',at3,k1,k2,dN⟩=>by
  rw [h1]at k1;cases k1;rw [h2,k2,eF.unique h3 dN]
def Kept.re {X:Ext} {ρ ρ':Env} {H H':ai} {w:World} (h:Kept X ρ H w) (hl:cB ρ ρ') (hn:H.next<=H'.next) (ho:∀b,Own ρ' H' b->Own ρ H b) (hz:∀b A,ρ'.fz b=some A->ρ.fz b=some A\/Own ρ H b):Kept X ρ' H' w:=
 ⟨fun b o hb=>⟨(h.k b o hb).1,fun hh=>(h.k b o hb).2 (ho b hh)⟩,fun i hi=>⟨Nat.lt_of_lt_of_le (h.pin i hi).1 hn,fun x hx=>hl _ _ ((h.pin i hi).2 x hx)⟩,fun b A hb=>hl.fz _ _ (h.z b A hb),h.sz,fun b o hb=>by
   cases o6:ρ'.fz b with
   |none=>rfl
   |some A=>
    rcases hz b A o6 with g|g
    .rw [h.KW b o hb]at g;cases g
    .exact absurd g (h.k b o hb).2,h.yx.mono hl,fun b o hb=>⟨(h.y b o hb).1,fun hh=>(h.y b o hb).2 (ho b hh)⟩⟩
def pinned (σ:Ren) (next:Nat) (l:List Nat):Bool:=l.all fun i=>Nat.ble (i+1) next&&oa σ i i
def Kept.ren {X:Ext} {ρ:Env} {H:ai} {a:Act} {w:World} {P:Program} {B n:Nat} {T:au aa} {σ:Ren} {s:bD} (h:Kept X ρ H w) (aR:eE P B ρ n T H a w) (hf:fit P σ n T H s) (hp:pinned σ s.H.next X.pins=true):Kept X (ren σ ρ) s.H w:=
 ⟨fun b o hb=>⟨(h.k b o hb).1,fun hh=>(h.k b o hb).2 (SJ aR hf hh)⟩,
   fun i hi=>by
    have:=List.all_eq_true.1 hp i (List.mem_append_right _ hi);rw [ae]at this;exact⟨bT this.1,fun x hx=>yu this.2 ((h.pin i hi).2 x hx)⟩,
   h.z,h.sz,h.KW,h.yx.SK fun i hi x hx=>by
    have:=List.all_eq_true.1 hp i (List.mem_append_left _ hi);rw [ae]at this;exact yu this.2 hx,fun b o hb=>⟨(h.y b o hb).1,fun hh=>(h.y b o hb).2 (SJ aR hf hh)⟩⟩
def R.j5 (r:R) (m:List Nat):R:=match r with
 | .no=> .no
 | .normal T H k=> .normal T H (k++m)
 | .exit id T H k=> .exit id T H (k++m)
 | .goto l T H k=> .goto l T H (k++m)
 | .ret T H k=> .ret T H (k++m)
def KY (r:R) (k m:List Nat):(r.j5 k).j5 m=r.j5 (k++m):=by cases r<;>simp [R.j5,qh]
def SL {r:R} {e:Exit} {aO:au aa} {H':ai} {k m:List Nat} (h:r.out=some (e,aO,H',k)):(r.j5 m).out=some (e,aO,H',k++m):=by
 cases r<;>cases h<;>rfl
def KZ {body:au aa->ai->List Nat->R} (hb:∀T H m,body T H m=(body T H []).j5 m):∀(k:Nat) (T:au aa) (H:ai) (m:List Nat),iter body k T H m=(iter body k T H []).j5 m
 |0,_,_,_=>rfl
 |k+1,T,H,m=>by
  show @R.rec (fun _=>R) .no (iter body k) .exit .goto .ret (body T H m)=(@R.rec (fun _=>R) .no (iter body k) .exit .goto .ret (body T H [])).j5 m
  rw [hb T H m];cases body T H []with
  |no=>rfl
  |normal T1 H1 k1=>
   show iter body k T1 H1 (k1++m)=(iter body k T1 H1 k1).j5 m;rw [KZ hb k T1 H1 (k1++m),KZ hb k T1 H1 k1,KY]
  |exit _ _ _ _=>rfl
  |goto _ _ _ _=>rfl
  |ret _ _ _=>rfl
def K0 {P:Program} {draw:oY}:∀(fuel:Nat) (c:Code) (n:Nat) (aN:Bool) (T:au aa) (H:ai) (m:List Nat),qs P draw fuel c n aN T H m=(qs P draw fuel c n aN T H []).j5 m
 |0,_,_,_,_,_,_=>rfl
 |fuel+1,c,n,aN,T,H,m=>by
  have ih:=K0 (P:=P) (draw:=draw) fuel;have e:∀m,qs P draw (fuel+1) c n aN T H m=Aa c P draw (qs P draw fuel) n aN T H m:=fun _=>rfl
  rw [e,e];generalize qs P draw fuel=r at ih;cases c with
  |skip=>rfl
  |region id ops d=>
   show z8 m (draw d (nu P r) (tO r) ops n T H)=(z8 [] (draw d (nu P r) (tO r) ops n T H)).j5 m;cases draw d (nu P r) (tO r) ops n T H<;>rfl
  |seq a b=>
   show @R.rec (fun _=>R) .no (fun T H m=>r b n aN T H m) .exit .goto .ret (r a n aN T H m)=(@R.rec (fun _=>R) .no (fun T H m=>r b n aN T H m) .exit .goto .ret (r a n aN T H [])).j5 m
   rw [ih a n aN T H m];cases r a n aN T H []with
   |no=>rfl
   |normal T1 H1 k1=>
    show r b n aN T1 H1 (k1++m)=(r b n aN T1 H1 k1).j5 m;rw [ih b n aN T1 H1 (k1++m),ih b n aN T1 H1 k1,KY]
   |exit _ _ _ _=>rfl
   |goto _ _ _ _=>rfl
   |ret _ _ _=>rfl
  |cond c x y=>
   show @nr.rec (fun _=>R) .no (fun b=> @Bool.rec (fun _=>R) (r y n aN T H m) (r x n aN T H m) b) (gK (cl T c))=(@nr.rec (fun _=>R) .no (fun b=> @Bool.rec (fun _=>R) (r y n aN T H []) (r x n aN T H []) b) (gK (cl T c))).j5 m
   cases gK (cl T c)with
   |no=>rfl
   |mk b=>cases b<;>exact ih _ _ _ _ _ _
  |block id b=>
   show @R.rec (fun _=>R) .no .normal (fun i T H m=> @Bool.rec (fun _=>R) (.exit i T H m) (.normal T H m) (Nat.beq i id)) .goto .ret (r b n aN T H m)=(@R.rec (fun _=>R) .no .normal (fun i T H m=> @Bool.rec (fun _=>R) (.exit i T H m) (.normal T H m) (Nat.beq i id)) .goto .ret (r b n aN T H [])).j5 m
   rw [ih b n aN T H m];cases r b n aN T H []with
   |no=>rfl
   |normal _ _ _=>rfl
   |exit i T1 H1 k1=>
    show @Bool.rec (fun _=>R) (.exit i T1 H1 (k1++m)) (.normal T1 H1 (k1++m)) (Nat.beq i id)=(@Bool.rec (fun _=>R) (.exit i T1 H1 k1) (.normal T1 H1 k1) (Nat.beq i id)).j5 m
    cases Nat.beq i id<;>rfl
   |goto _ _ _ _=>rfl
   |ret _ _ _=>rfl
  |loop b=>exact KZ (ih b n aN) rounds T H m
  |rangeFunc f ps a b=>
   show @Bool.rec (fun _=>R) (rS P r f ps a b n T H m) .no aN=(@Bool.rec (fun _=>R) (rS P r f ps a b n T H []) .no aN).j5 m
   cases aN with
   |true=>rfl
   |false=>
    show rS P r f ps a b n T H m=(rS P r f ps a b n T H []).j5 m;unfold rS;split
    .rename_i g args H2 _;unfold Cq;split
     .split
      .split
       .rfl
       .split
        .rfl
        .rename_i c _;rw [ih c n false _ _ (H.next::m),ih c n false _ _ [H.next],KY];rfl
      .rfl
     .rfl
    .rfl
  |exit id=>rfl
  |scope b=>
   show @R.rec (fun _=>R) .no .normal .exit (fun _ _ _ _=> .no) .ret (r b n aN T H m)=(@R.rec (fun _=>R) .no .normal .exit (fun _ _ _ _=> .no) .ret (r b n aN T H [])).j5 m
   rw [ih b n aN T H m];cases r b n aN T H []<;>rfl
  |label _=>rfl
  |goto _=>rfl
  |ret=>rfl
  |refuse _=>rfl
def SM {P:Program} {bu:bG}:∀(fuel:Nat) (c:Code) (n:Nat) (T:au aa) (H:ai) (m:List Nat),lP P bu fuel c n true T H m=lP P bu fuel c n false T H m
 |0,_,_,_,_,_=>rfl
 |fuel+1,c,n,T,H,m=>by
  have ih:=SM (P:=P) (bu:=bu) fuel;show AD P (AB bu (ul P (lP P bu fuel))) (lP P bu fuel) c n true T H m=AD P (AB bu (ul P (lP P bu fuel))) (lP P bu fuel) c n false T H m;cases c<;>simp only [AD,ih]
def SN {P:Program} {bu:bG} (fuel:Nat) (c:Code) (n:Nat) (r:Bool) (T:au aa) (H:ai) (m:List Nat):lP P bu fuel c n r T H m=lP P bu fuel c n false T H m:=by
 cases r with
 |false=>rfl
 |true=>exact SM fuel c n T H m
def AK (Q:Exit->au aa->ai->Prop):R->Prop
 | .normal T H []=>Q .normal T H
 | .exit id T H []=>Q (.exit id) T H
 | .ret T H []=>Q .ret T H
 |_=>False
def gZ (N:au aa->ai->Prop) (Q:Exit->au aa->ai->Prop):Exit->au aa->ai->Prop
 | .normal,T,H=>N T H
 |e,T,H=>Q e T H
def C2 (id:Nat) (Q:Exit->au aa->ai->Prop):Exit->au aa->ai->Prop
 | .exit i,T,H=>if i=id then Q .normal T H else Q (.exit i) T H
 |e,T,H=>Q e T H
def cat:Code->List Nat->Code
 |c,[]=>c
 | .seq a _,0::p=>cat a p
 | .seq _ b,_::p=>cat b p
 | .cond _ a _,0::p=>cat a p
 | .cond _ _ b,_::p=>cat b p
 | .block _ b,_::p=>cat b p
 | .loop b,_::p=>cat b p
 | .scope b,_::p=>cat b p
 | .rangeFunc _ _ a _,0::p=>cat a p
 | .rangeFunc _ _ _ b,_::p=>cat b p
 |_,_=> .skip
section
variable {P:Program} {w0:World} {F:Env} {n:Nat} {T:au aa} {H:ai} {Q:Exit->au aa->ai->Prop} {c x y:Code}
def SP {r:R} (h:AK Q r):∃e aO H',r.out=some (e,aO,H',[])/\Q e aO H':=by
 unfold AK at h;split at h
 .exact⟨_,_,_,rfl,h⟩
 .exact⟨_,_,_,rfl,h⟩
 .exact⟨_,_,_,rfl,h⟩
 .exact h.elim
def Goal.mono {X:Ext} {Q':Exit->au aa->ai->Prop} (h:iM X P w0 F n c T H Q) (hq:∀e T H,Q e T H->Q' e T H):iM X P w0 F n c T H Q':=fun a w hs k=>
 wpIn_mono (h a w hs k) fun _ _ _ hh=>by
  rcases hh with⟨aO,H',h1,h2⟩|hh
  .exact .inl ⟨aO,H',hq _ _ _ h1,h2⟩
  .exact .inr hh
def Goal.run {X:Ext} (hK:fe P) (hm:P.follows .mixedOrders=true) {bu:bG} (hS:bC P (bF bu)) (fuel:Nat) (D:List Bool) (h:(lP P bu fuel c n false T H []).path D (AK Q)):iM X P w0 F n c T H Q:=by
 intro a w hs k;obtain⟨r,h1,h2⟩:=aD.uj _ _ h;obtain⟨e,aO,H',ho,hq⟩:=SP h2;rw [<-SN fuel c n X.rd.isSome]at h1;have hr:=KO (P:=P) (bu:=bu) fuel c n X.rd.isSome T H [] r h1 (by rintro rfl;cases ho);have hI:qA P (qs P (n9 P (bF bu)) fuel):=J4 hK (lO hK hm hS) fuel;have ho':(qs P (n9 P (bF bu)) fuel c n X.rd.isSome T H X.m).out=some (e,aO,H',X.m):=by rw [K0,hr];exact SL ho
 obtain⟨ρ,aR,hf,hfz,hkp⟩:=hs.ex;refine hI.cx _ _ _ _ _ _ _ _ _ _ ho' w0.heap.size ρ a w X.rd k _ rfl aR (by rw [hs.defers];exact hkp.yx) (fun i h1 _=>hf i h1) fun ρ' a' w' g1 g2 g3=> ?_
 refine .inl ⟨aO,H',hq,⟨⟨ρ',g1,fun i hi=> ?_,fun b A hb=> ?_,KX hkp g2⟩,hs.below.trans (g2.below aR.H),g3.unique (hkp.yx.mono g2.le)⟩⟩
 .rw [g2.ext i (.inr hi)];exact hf i (dh g2.next hi)
 .rcases g2.nv b A hb with h|h|⟨i,k,c,q1,aQ,b7⟩
  .exact hfz b A h
  .exact .inr (dh hs.below.size h)
  .obtain⟨b',c',o,e1,_,_,bV⟩:=aR.H.blk i k q1;rw [b7]at e1;cases e1;exact .inr (bV aQ)
def mJ.nD {X:Ext} {a:Act} {w:World} {σ:Ren} {s:bD} (hs:mJ X P w0 F n T H a w) (h:fit P σ n T H s) (hp:pinned σ s.H.next X.pins=true):mJ X P w0 F n s.T s.H a w:=by
 obtain⟨ρ,aR,hf,hfz,hkp⟩:=hs.ex;obtain⟨h1,h2⟩:=ac8 aR h;exact⟨⟨ren σ ρ,h1,h2,hfz,hkp.ren aR h hp⟩,hs.below,hs.defers⟩
def Goal.nD {X:Ext} {σ:Ren} {s:bD} (h:fit P σ n T H s) (hg:iM X P w0 F n c s.T s.H Q) (hp:pinned σ s.H.next X.pins=true:=by rfl):iM X P w0 F n c T H Q:=fun a w hs k=>hg a w (hs.nD h hp) k
def Goal.seq {X:Ext} (hc:c= .seq x y) (h:iM X P w0 F n x T H (gZ (fun T H=>iM X P w0 F n y T H Q) Q)):iM X P w0 F n c T H Q:=by
 subst hc;intro a w hs k;refine wpIn_seq (wpIn_mono (h a w hs k) fun e a' w' hh=> ?_);rcases hh with⟨aO,H',h1,h2⟩|⟨rfl,hh⟩
 .cases e with
  |normal=>exact h1 a' w' h2 k
  |_=>exact .inl ⟨aO,H',h1,h2⟩
 .exact .inr ⟨rfl,hh⟩
def Goal.block {X:Ext} {id:Nat} (hc:c= .block id x) (h:iM X P w0 F n x T H (C2 id Q)):iM X P w0 F n c T H Q:=by
 subst hc;intro a w hs k;refine wpIn_block (wpIn_mono (h a w hs k) fun e a' w' hh=> ?_);rcases hh with⟨aO,H',h1,h2⟩|⟨rfl,hh⟩
 .cases e with
  |exit i=>
   show if i=id then _ else _
   have h1:if i=id then Q .normal aO H' else Q (.exit i) aO H':=h1
   by_cases hi:i=id
   .rw [if_pos hi]at h1 ⊢;exact .inl ⟨aO,H',h1,h2⟩
   .rw [if_neg hi]at h1 ⊢;exact .inl ⟨aO,H',h1,h2⟩
  |_=>exact .inl ⟨aO,H',h1,h2⟩
 .exact .inr ⟨rfl,hh⟩
def Goal.scope {X:Ext} (hc:c= .scope x) (h:iM X P w0 F n x T H (fun e T H=>(∀l,e≠ .goto l)/\Q e T H)):iM X P w0 F n c T H Q:=by
 subst hc;intro a w hs k;refine JR (wpIn_mono (h a w hs k) fun e a' w' hh=> ?_);rcases hh with⟨aO,H',h1,h2⟩|⟨rfl,hh⟩
 .cases e with
  |goto l=>exact absurd rfl (h1.1 l)
  |_=>exact .inl ⟨aO,H',h1.2,h2⟩
 .exact .inr ⟨rfl,hh⟩
def Goal.loop {X:Ext} {ι:Type} (hc:c= .loop x) (I:ι->bD) (μ:ι->Nat) (ade:Ren) (i0:ι) (h0:fit P ade n T H (I i0))
  (step:∀i,iM X P w0 F n x (I i).T (I i).H (gZ (fun T H=>∃σ j,μ j<μ i/\fit P σ n T H (I j)) Q)) (hp:∀σ i,pinned σ (I i).H.next X.pins=true:=by exact fun _ _=>rfl):iM X P w0 F n c T H Q:=by
 subst hc;refine Goal.nD h0 ?_ (hp _ _);have key:∀m i,μ i<m->∀a w,mJ X P w0 F n (I i).T (I i).H a w->∀k,Code.roundsIn (dW X.rd) k P x (fun e a' w'=>(∃aO H',Q e aO H'/\mJ X P w0 F n aO H' a' w')\/(e= .ret/\X.R a' w')) m a w:=by
  intro m;induction m with
  |zero=>intro i hi;exact absurd hi (Nat.not_lt_zero _)
  |succ m ih=>
   intro i hi a w hs k;rw [roundsIn_succ];refine wpIn_mono (step i a w hs k) fun e a' w' hh=> ?_
   rcases hh with⟨aO,H',h1,h2⟩|⟨rfl,hh⟩
   .cases e with
    |normal=>
     obtain⟨σ,j,g1,g2⟩:=h1;exact ih j ω a' w' (h2.nD g2 (hp _ _)) k
    |_=>exact .inl ⟨aO,H',h1,h2⟩
   .exact .inr ⟨rfl,hh⟩
 intro a w hs k;exact wpIn_loop_rounds (μ i0+1) (key (μ i0+1) i0 (fG _) a w hs k)
end
def av.lR:av->Bool
 | .list _ _=>false
 | .ptr _=>false
 | .pair a b=>a.lR&&b.lR
 |_=>true
mutual
def cD (fresh:Bool) (H:ai):aa->aa->Prop
 | .raw (.slice none 0 0), .bn _ _ ys=>ys=[]
 | .raw a, .raw b=>yt a b
 | .bn z t xs, .bn z' u ys=>gY (!fresh) (FQ z z' ys.length (pn t u xs ys))
 | .bR e t i k len _, .bn z u ys=>gY (decide (t=u)&&(!fresh||t.lR)) (len=ys.length/\ys=((bN u (H.get i)).drop k).take len/\(len=0\/bz e u (H.get i) (k+len-1)=true)/\(z=true->len≠0))
 | .slice i off n _, .bn z u ys=>(match H.get i with
   |some (.cells _ cs _ _ false)=>gY (!fresh||u.lR) (match u.rM n (cut cs off (n*u.size))with
    |some ds=>ds=ys/\(Nat.ble (off+n*u.size) cs.length&&(!z||Nat.ble 1 n))=true
    |none=>False)
   |_=>False)
 | .agg l, .agg l'=>um fresh H l l'
 | .tuple l, .tuple l'=>um fresh H l l'
 |_,_=>False
def um (fresh:Bool) (H:ai):List aa->List aa->Prop
 |[],[]=>True
 |v::l,v'::l'=>cD fresh H v v'/\um fresh H l l'
 |_,_=>False
end
structure uo (w:World) (F:Env):Prop where
 pE:∀i x,F i=some x->i<64
 all:∀g,g<64->∃c,F g=some (g,c)
 fz:∀b A,F.fz b=some A->∃e fr,w.heap[b]? =some (.cells A e fr)
def wo (F:Env):Prop:=∀b p,Ground.g b=some p->∃A,F.fz b=some A/\p A
def Holds (P:Program) (fresh:Bool) (f:FuncId) (args:List aa) (res:aa):Prop:=
 ∀(w:World) (F:Env) (xs:List Value),uo w F->wo F->aG F args xs->Calls P f xs.toArray w fun e w'=>∃x F',e= .returned x/\Den F' res x/\uo w' F'/\(∀b A,F'.fz b=some A->(fresh=false/\F.fz b=some A)\/w.heap.size<=b)/\Below w.heap.size w w'
def H0:ai:=⟨.nil,64⟩
def hG (P:Program) (fresh:Bool) (fn:Func) (res:aa):Exit->au aa->ai->Prop:=fun e T H=>match e with
 | .normal| .ret=>(match jX P fn T H with | .ok v _=>cD fresh H v res|_=>False)
 |_=>False
section
variable {P:Program}
def ko (w:World) (b:Nat):Option (Array Value):=match w.heap[b]? with
 |some (.cells A _ _)=>some A
 |_=>none
def oc {w:World} {b:Nat} {A:Array Value}:ko w b=some A↔ ∃e fr,w.heap[b]? =some (.cells A e fr):=by
 unfold ko;constructor
 .intro h;split at h
  .rename_i A' e fr hb;cases h;exact⟨e,fr,hb⟩
  .cases h
 .rintro⟨e,fr,h⟩;rw [h]
def C3 (fresh:Bool) (n0:Nat) (w:World) (F:Env):Env:=⟨F.at',fun b=>if n0<=b then ko w b else if fresh then none else F.fz b⟩
def yy {ρ ρ':Env}:∀(t:av) (d:t.den) ys,t.lR=true->aG ρ (t.cells d) ys->aG ρ' (t.cells d) ys
 | .int _,d,ys,_,h=>by cases h with |cons h1 h2=>cases h2;rw [h1.cg];exact .cons (.raw _) .nil
 | .bool,d,ys,_,h=>by cases h with |cons h1 h2=>cases h2;rw [h1.cg];exact .cons (.raw _) .nil
 | .str,d,ys,_,h=>by cases h with |cons h1 h2=>cases h2;rw [h1.cg];exact .cons (.raw _) .nil
 | .list z t,d,ys,hn,h=>by cases hn
 | .pair a b,d,ys,hn,h=>by
   simp only [av.lR,ae]at hn;obtain⟨y1,y2,rfl,h1,h2⟩:=aG.split (a:=a.cells d.1) (b:=b.cells d.2) h;exact(yy a d.1 y1 hn.1 h1).append (yy b d.2 y2 hn.2 h2)
 | .ptr t,d,ys,hn,h=>by cases hn
 | .unit,d,ys,_,h=>by cases h;exact .nil
variable {w0 w:World} {F ρ:Env} {H:ai} {fresh:Bool}
mutual
def FV (hH:aZ P w0.heap.size ρ H w) (hfz:∀b A,ρ.fz b=some A->F.fz b=some A\/w0.heap.size<=b):∀{v v':aa} {x:Value},cD fresh H v v'->Den ρ v x->Den (C3 fresh w0.heap.size w F) v' x:=by
 intro v v' x h hd;have hle':fresh=false->∀b A,ρ.fz b=some A->(C3 fresh w0.heap.size w F).fz b=some A:=fun hf b A hb=>by
  show(if w0.heap.size<=b then ko w b else if fresh then none else F.fz b)=some A;by_cases h0:w0.heap.size<=b
  .rw [if_pos h0];exact oc.2 (hH.fz b A hb).1
  .rw [if_neg h0,hf];rcases hfz b A hb with h|h
   .exact h
   .exact absurd h h0
 unfold cD at h;split at h
 .subst h;rw [hd.cg];exact .fc fun _=>⟨rfl,rfl⟩
 .rw [hd.cg,SC h];exact .raw _
 .rename_i z t xs z' u ys;obtain⟨h1,h2⟩:=je h;obtain⟨h2,h3⟩:=SB h2;obtain⟨e,rfl⟩:=AI h2;subst e;have hf:fresh=false:=by simpa using h1
  rcases hd.tR with⟨rfl,a,k,rfl,hz⟩|⟨b,off,k,A,g1,g2,g3,g4,rfl,g5⟩
  .exact .fc fun e=>(h3 e).elim hz fun hn=>absurd rfl hn
  .exact .bn (hle' hf _ _ g1) g2 rfl (ob (fun d ys=>qK (hle' hf) t d ys) _ _ g3) g4 fun e=>(h3 e).elim g5 fun hn hxs=>hn (by subst hxs;rfl)
 .rename_i e t i k len cap z u ys;obtain⟨h1,h2,h3,h4,h5⟩:=je h;rw [ae]at h1;obtain⟨h1,h6⟩:=h1;have h1:=ap h1;subst h1;rcases hd.jx with⟨hl,a,rfl⟩|⟨b,c,kc,g1,g2,g3,rfl⟩
  .subst hl;have:ys=[]:=List.eq_nil_of_length_eq_zero h2.symm;subst this;exact .fc fun e=>absurd rfl (h5 e)
  .rcases h4 with hl|h4
   .subst hl;have:ys=[]:=List.eq_nil_of_length_eq_zero h2.symm;subst this;exact .fc fun e=>absurd rfl (h5 e)
   .obtain⟨b1,b2⟩:=vN h4;by_cases hl:len=0
    .subst hl;have:ys=[]:=List.eq_nil_of_length_eq_zero h2.symm;subst this;exact .fc fun e=>absurd rfl (h5 e)
    .obtain⟨zs,q1,aQ,_⟩:=rU hH b1 g1;generalize bN t (H.get i)=xs at b1 b2 h3 aQ;have hB:w0.heap.size<=b:=by
      obtain⟨b',c',o,e1,_,_,bV⟩:=hH.blk i _ b1;rw [g1]at e1;cases e1;exact bV rfl
     have hle2:k+len<=xs.length:=by omega
     have e1:(xs.drop k).take len=(xs.take (k+len)).drop k:=by rw [List.take_drop]
     have gN:=lA (off:=0) (A:=zs.toList) (l:=k) (h:=k+len) (by simpa using aQ) ω hle2;rw [aw,<-e1,<-h3]at gN;rw [h2];refine .bn (A:=zs) ?_ ?_ rfl ?_ ω (fun e hys=>by subst hys;exact hl h2)
     .show(if w0.heap.size<=b then ko w b else _)=some zs;rw [if_pos hB];exact oc.2 ⟨_,_,q1⟩
     .have e2:=gN.length;have:k*t.size+(t.flat ys).length<=zs.toList.length:=by
       have e3:(t.flat xs).length<=zs.toList.length:=by
        have:=aQ.length;simp at this ⊢;omega
       rw [t.jb]at e3 ⊢;rw [<-h2,<-Nat.add_mul];exact dh (Nat.mul_le_mul_right _ hle2) e3
      simpa using this
     .cases hf:fresh with
      |true=>
       rw [hf]at h6;have h6:t.lR=true:=by simpa using h6
       exact ob (fun d ys=>yy t d ys h6) _ _ gN
      |false=>rw [<-hf];exact ob (fun d ys=>qK (hle' hf) t d ys) _ _ gN
 .rename_i i off n cap z u ys;split at h
  .rename_i e cs x fz hg;obtain⟨h1,h2⟩:=je h;split at h2
   .rename_i ds hrd;obtain⟨rfl,h3⟩:=h2;rw [ae]at h3;obtain⟨hle,adf⟩:=h3;have hle:=bT hle;obtain⟨b,c,k,g1,_,g3,rfl⟩:=hd.ig;obtain⟨zs,x8,q1,_,b7,_,_,qM⟩:=mA hH hg g1;have hcut:=(b7.drop off).take (n*u.size);obtain⟨mK,hn⟩:=av.Cw hrd hcut;subst hn;have hfl:=u.jb ds;have e2:((zs.toList.take cs.length).drop off).take (ds.length*u.size)=(zs.toList.drop off).take (u.flat ds).length:=by
     rw [hfl,List.drop_take,List.take_take,Nat.min_eq_left ω]
    rw [e2]at mK;have hB:w0.heap.size<=b:=by
     obtain⟨b',c',o,e1,_,_,bV⟩:=hH.blk i _ hg;rw [g1]at e1;cases e1;exact bV rfl
    refine .bn (A:=zs) ?_ (by rw [hfl];omega) rfl ?_ g3 fun e hys=> ?_
    .show(if w0.heap.size<=b then ko w b else _)=some zs;rw [if_pos hB];exact oc.2 ⟨_,_,q1⟩
    .cases hf:fresh with
     |true=>
      rw [hf]at h1;have h1:u.lR=true:=by simpa using h1
      exact ob (fun d ys=>yy u d ys h1) _ _ mK
     |false=>rw [<-hf];exact ob (fun d ys=>qK (hle' hf) u d ys) _ _ mK
    .subst e;subst hys;cases adf
   .exact h2.elim
  .exact h.elim
 .obtain⟨xs,g1,rfl⟩:=hd.tP;exact .agg (K1 hH hfz h g1)
 .obtain⟨xs,g1,rfl⟩:=hd.Cu;exact .tuple (K1 hH hfz h g1)
 .exact h.elim
def K1 (hH:aZ P w0.heap.size ρ H w) (hfz:∀b A,ρ.fz b=some A->F.fz b=some A\/w0.heap.size<=b):∀{v v':List aa} {x:List Value},um fresh H v v'->aG ρ v x->aG (C3 fresh w0.heap.size w F) v' x:=by
 intro v v' x h hd;unfold um at h;split at h
 .cases hd;exact .nil
 .cases hd with
  |cons h1 h2=>exact .cons (FV hH hfz h.1 h1) (K1 hH hfz h.2 h2)
 .exact h.elim
end
def holds_of {f:FuncId} {fn:Func} {c:Code} {args:List aa} {res:aa} (hf:P.funcs[f]? =some fn) (hb:fn.body=some c) (hn:args.length<=fn.ntmps)
  (h:∀w F,Goal P w F fn.ntmps c (dq args .nil 0) H0 (hG P fresh fn res)):Holds P fresh f args res:=by
 intro w F xs hF cv hd;have hg:=h w F;have hH:aZ P w.heap.size F H0 w:=⟨fun i k h=>(by rw [show H0.get i=none from au.get_nil i]at h;cases h),fun i j eL eY b ci ck h=>(by rw [show H0.get i=none from au.get_nil i]at h;cases h),fun i k h=>(by rw [show H0.get i=none from au.get_nil i]at h;cases h),aI _,
  fun b A h=>⟨hF.fz b A h,fun i k c hi=>(by rw [show H0.get i=none from au.get_nil i]at hi;cases hi)⟩⟩
 have hs:Sat P w F fn.ntmps (dq args .nil 0) H0 {tmps:=xs.toArray++Array.replicate (fn.ntmps-xs.toArray.size) undef,defers:=[]} w:=by
  refine⟨⟨F,⟨CE hd hn,hH,hF.all,cv⟩,fun i hi=> ?_,fun b A h=> .inl h,⟨fun b o h=>(by cases h),fun i hi=>(by cases hi),fun b A h=>(by cases h),Nat.zero_le _,fun b o h=>(by cases h),rfl,fun b o h=>(by cases h)⟩⟩,Below.refl _ _,rfl⟩;have hi:64<=i:=hi;cases C4:F i with
  |none=>rfl
  |some x=>exact absurd (hF.pE i x C4) ω
 suffices hc:CallsIn (dW none) 0 P f xs.toArray w (fun e w'=>∃x F',e= .returned x/\Den F' res x/\uo w' F'/\(∀b A,F'.fz b=some A->(fresh=false/\F.fz b=some A)\/w.heap.size<=b)/\Below w.heap.size w w')from callsIn_wide.1 hc
 refine callsIn_of_wp_marks hf hb trivial (wpIn_mono (hg _ _ hs 0) fun e a' w' hh=> ?_);obtain⟨aO,H',h1,h2⟩:=hh.resolve_right fun q=>q.2
 obtain⟨ρ,aR,hnone,hfz,_⟩:=h2.ex;have hd':=h2.defers;have key:(match jX P fn aO H' with | .ok v _=>cD fresh H' v res|_=>False)->LeavesInM (dW none) 0 P fn a'.tmps (fun e w'=>∃x F',e= .returned x/\Den F' res x/\uo w' F'/\(∀b A,F'.fz b=some A->(fresh=false/\F.fz b=some A)\/w.heap.size<=b)/\Below w.heap.size w w') a'.defers .returning w':=by
  intro hr;split at hr
  .rename_i v H2 hres;have nA:eF ρ [] a'.defers:=hd';refine yc (T:=aO) (H:=H') [] aR nA (show kj P fn aO H' []= .ok v H2 from hres) fun y w2 r1 r2 r3=> ?_
   obtain⟨rfl,_⟩:=Fk aR hres;refine⟨y,C3 fresh w.heap.size w2 F,rfl,FV r2 hfz hr r1,⟨hF.pE,hF.all,fun b A hb=> ?_⟩,fun b A hb=> ?_,h2.below.trans (r3.below aR.H)⟩
   .have hb:(if w.heap.size<=b then ko w2 b else if fresh then none else F.fz b)=some A:=hb;by_cases h0:w.heap.size<=b
    .rw [if_pos h0]at hb;exact oc.1 hb
    .rw [if_neg h0]at hb;cases hfr:fresh with
     |true=>rw [hfr]at hb;cases hb
     |false=>
      rw [hfr]at hb;obtain⟨e,fr,h3⟩:=hF.fz b A hb;exact⟨e,fr,((h2.below.trans (r3.below aR.H)).block b ω).trans h3⟩
   .have hb:(if w.heap.size<=b then ko w2 b else if fresh then none else F.fz b)=some A:=hb;by_cases h0:w.heap.size<=b
    .exact .inr h0
    .rw [if_neg h0]at hb;cases hfr:fresh with
     |true=>rw [hfr]at hb;cases hb
     |false=>rw [hfr]at hb;exact .inl ⟨rfl,hb⟩
  .exact hr.elim
 cases e with
 |normal=>exact key h1
 |ret=>exact key h1
 |_=>exact h1.elim
end
end
end
section
variable [Ground]
noncomputable section
def iu:List av->Type
 |[]=>Unit
 |t::l=>t.den×iu l
def C5 {β:Type} (H:ai) (cE z:Bool) (t:av) (no:aD β) (l:List aa) (f:List t.den->List aa->aD β):aD β:=match l with
 | .bn z' t' xs::r=>if h:t'=t then(match !z||z' with |true=>f (h ▸ xs) r|false=> .must (Nat.ble 1 xs.length) (f (h ▸ xs) r))else no
 | .raw (.slice none 0 0)::r=>f [] r
 | .bR e u i k len _::r=>(match cE&&(decide (u=t)&& !z)with
   |true=> .must (Nat.beq len 0||bz e t (H.get i) (k+len-1)) (f (((bN t (H.get i)).drop k).take len) r)
   |false=>no)
 | .slice i off n _::r=>(match cE&& !z,H.get i with
   |true,some (.cells _ cs _ _ _)=>(match Nat.ble (off+n*t.size) cs.length,t.rM n (cut cs off (n*t.size))with
    |true,some ds=>f ds r
    |_,_=>no)
   |_,_=>no)
 |_=>no
def av.wq {β:Type} (H:ai) (cE:Bool) (no:aD β):(t:av)->List aa->(t.den->List aa->aD β)->aD β
 | .int k,l,f=>match zT k l with |some (x,r)=>f x r|none=>no
 | .bool,l,f=>match zU l with |some (x,r)=>f x r|none=>no
 | .str,l,f=>match wv l with |some (x,r)=>f x r|none=>no
 | .list z t,l,f=>C5 H cE z t no l f
 | .pair a b,l,f=>a.wq H cE no l fun x r=>b.wq H cE no r fun y r=>f (x,y) r
 | .ptr t,l,f=>match ww t l with |some (x,r)=>f x r|none=>no
 | .unit,l,f=>f () l
def av.isAgg:av->Bool
 | .pair _ _=>true
 | .unit=>true
 |_=>false
def C6 {β:Type} (H:ai) (cE:Bool) (no:aD β) (t:av) (v:aa) (f:t.den->aD β):aD β:=match t.isAgg,v with
 |true, .agg cs=>t.wq H cE no cs fun d r=>match r with |[]=>f d|_=>no
 |true,_=>no
 |false,v=>t.wq H cE no [v] fun d r=>match r with |[]=>f d|_=>no
def uq {β:Type} (H:ai) (cE:Bool) (no:aD β):(ps:List av)->List aa->(iu ps->aD β)->aD β
 |[],[],f=>f ()
 |t::ps,v::vs,f=>C6 H cE no t v fun d=>uq H cE no ps vs fun ds=>f (d,ds)
 |_,_,_=>no
def wc (t:av) (d:t.den):aa:=match t.isAgg with
 |true=> .agg (t.cells d)
 |false=>(t.cells d).headD .bot
def j6:(ts:List av)->iu ts->List aa
 |[],_=>[]
 |t::l,d=>wc t d.1::j6 l d.2
def od (rs:List av) (d:iu rs):aa:=match j6 rs d with
 |[v]=>v
 |vs=> .tuple vs
structure bp where
 f:FuncId
 ps:List av
 rs:List av
 fresh:Bool
 pre:iu ps->Bool
 fn:iu ps->iu rs
noncomputable def IN (f:FuncId) (ps rs:List av) (h:Bool) (p:iu ps->Bool) (n:iu ps->iu rs):bp:=⟨f,ps,rs,h,p,n⟩
noncomputable def k_a (f:Func):Code:=f.body.getD .skip
def bp.Ok (P:Program) (c:bp):Prop:=∀d,c.pre d=true->Holds P c.fresh c.f (j6 c.ps d) (od c.rs (c.fn d))
def yz (c:bp) (args:List aa) (H:ai):aD aL:=uq H c.fresh (.ret .no) c.ps args fun d=> .must (c.pre d) (.ret (.ok (od c.rs (c.fn d)) H))
def bc:List bp->bG
 |[],_,_,_=> .ret .no
 |c::l,f,args,H=>match Nat.beq f c.f with |true=>yz c args H|false=>bc l f args H
section
variable {P:Program} {B:Nat} {ρ:Env} {H:ai} {w:World}
def jE (cE:Bool) (w:World) (ρ:Env):Env:=⟨fun i=>if i<64 then ρ i else none,fun b=>if cE then ko w b else ρ.fz b⟩
def SQ (hH:aZ P B ρ H w) (cE:Bool):∀b A,ρ.fz b=some A->(jE cE w ρ).fz b=some A:=fun b A h=>by
 cases cE with
 |true=>exact oc.2 (hH.fz b A h).1
 |false=>exact h
def yA (hH:aZ P B ρ H w) (cE:Bool) {t:av} {d:t.den} {ys:List Value} (h:aG ρ (t.cells d) ys):aG (jE cE w ρ) (t.cells d) ys:=qK (SQ hH cE) t d ys h
def adg {β:Type} (hH:aZ P B ρ H w) {cE z:Bool} {t:av} {no:aD β} {b:β} (hno:no.gr≠some b) {l:List aa} {f:List t.den->List aa->aD β} (h:(C5 H cE z t no l f).gr=some b):
  ∃xs r,(f xs r).gr=some b/\∀ys,aG ρ l ys->∃y1 y2,ys=y1++y2/\aG (jE cE w ρ) [.bn z t xs] y1/\aG ρ r y2:=by
 unfold C5 at h;split at h
 .rename_i z' t' xs r;split at h
  .rename_i e;subst e;have key:∀(hz:z=true->z'=true\/xs≠[]) ys,aG ρ (.bn z' t' xs::r) ys->∃y1 y2,ys=y1++y2/\aG (jE cE w ρ) [.bn z t' xs] y1/\aG ρ r y2:=by
    intro hz ys hd;cases hd with
    |cons h1 h2=>
     refine⟨[_],_,rfl, .cons ?_ .nil,h2⟩;rcases h1.tR with⟨rfl,a,k,rfl,o6⟩|⟨b,off,k,A,g1,g2,g3,g4,rfl,g5⟩
     .exact .fc fun e=>(hz e).elim o6 fun h=>absurd rfl h
     .exact .bn (SQ hH cE _ _ g1) g2 rfl (ob (fun d ys=>yA hH cE) _ _ g3) g4 fun e=>(hz e).elim g5 id
   split at h
   .rename_i hz;exact⟨xs,r,h,key fun e=> .inl (by subst e;simpa using hz)⟩
   .cases hb:Nat.ble 1 xs.length with
    |false=>simp only [hb,aD.gr,cond_false]at h;cases h
    |true=>
     simp only [hb,aD.gr,cond_true]at h;exact⟨xs,r,h,key fun e=> .inr fun hx=>by subst hx;cases hb⟩
  .exact absurd h hno
 .rename_i r;refine⟨[],r,h,fun ys hd=> ?_⟩;cases hd with
  |cons h1 h2=>
   refine⟨[_],_,rfl, .cons ?_ .nil,h2⟩;rw [h1.cg];exact .fc fun _=>⟨rfl,rfl⟩
 .rename_i e u i k len cap r;split at h
  .rename_i hc;simp only [ae,bE]at hc;obtain⟨hb,hu,hz⟩:=hc;subst hu;subst hb;have hz:z=false:=by simpa using hz
   subst hz;cases hm:(Nat.beq len 0||bz e u (H.get i) (k+len-1))with
   |false=>rw [hm]at h;cases h
   |true=>
    rw [hm]at h;refine⟨_,r,h,fun ys hd=> ?_⟩;cases hd with
    |cons h1 h2=>
     refine⟨[_],_,rfl, .cons ?_ .nil,h2⟩;rcases h1.jx with⟨rfl,a,rfl⟩|⟨b,c,kc,g1,g2,g3,rfl⟩
     .rw [List.take_zero];exact .fc fun e=>by cases e
     .rw [Bool.or_eq_true]at hm;by_cases hl:len=0
      .subst hl;rw [List.take_zero];exact .fc fun e=>by cases e
      .have hm:=hm.resolve_left fun e=>hl (ac e)
       obtain⟨b1,b2⟩:=vN hm;obtain⟨zs,q1,aQ,_⟩:=rU hH b1 g1;generalize bN u (H.get i)=xs at b1 b2 aQ ⊢;have hle2:k+len<=xs.length:=by omega
       have e1:(xs.drop k).take len=(xs.take (k+len)).drop k:=by rw [List.take_drop]
       have gN:=lA (off:=0) (A:=zs.toList) (l:=k) (h:=k+len) (by simpa using aQ) ω hle2;rw [aw,<-e1]at gN;have hn:((xs.drop k).take len).length=len:=by simp;omega
       have gP:=Den.bn (ρ:=jE true w ρ) (z:=false) (t:=u) (xs:=(xs.drop k).take len) (b:=b) (off:=k*u.size) (k:=kc) (A:=zs) (oc.2 ⟨_,_,q1⟩) (by
        have e3:(u.flat xs).length<=zs.toList.length:=by
         have:=aQ.length;simp at this ⊢;omega
        rw [u.jb]at e3 ⊢;rw [hn,<-Nat.add_mul];have:=dh (Nat.mul_le_mul_right u.size hle2) e3;simpa using this) rfl (ob (fun d ys=>yA hH true) _ _ gN) ω (fun e=>by cases e)
       rwa [hn]at gP
  .exact absurd h hno
 .rename_i i off n cap r;split at h
  .rename_i e cs x fz ro hc hg;rw [ae]at hc;obtain⟨hb,hz⟩:=hc;subst hb;have hz:z=false:=by simpa using hz
   subst hz;split at h
   .rename_i ds hle hrd;have hle:=bT hle;refine⟨ds,r,h,fun ys hd=> ?_⟩;cases hd with
    |cons h1 h2=>
     refine⟨[_],_,rfl, .cons ?_ .nil,h2⟩;obtain⟨b,c,k,g1,_,g3,rfl⟩:=h1.ig;obtain⟨zs,x8,q1,_,b7,_,_,qM⟩:=mA hH hg g1;have hcut:=(b7.drop off).take (n*t.size);obtain⟨mK,hn⟩:=av.Cw hrd hcut;subst hn;have hfl:=t.jb ds;have e2:((zs.toList.take cs.length).drop off).take (ds.length*t.size)=(zs.toList.drop off).take (t.flat ds).length:=by
      rw [hfl,List.drop_take,List.take_take,Nat.min_eq_left ω]
     rw [e2]at mK;exact .bn (oc.2 ⟨_,_,q1⟩) (by rw [hfl];omega) rfl (ob (fun d ys=>yA hH true) _ _ mK) g3 fun e=>by cases e
   .exact absurd h hno
  .exact absurd h hno
 .exact absurd h hno
def adh {β:Type} {cE z:Bool} {t:av} {no:aD β} {b:β} (hno:no.gr≠some b) {l:List aa} {f:List t.den->List aa->aD β} (h:(C5 H cE z t no l f).gr=some b):∃xs r,(f xs r).gr=some b:=by
 unfold C5 at h;split at h
 .split at h
  .split at h
   .exact⟨_,_,h⟩
   .rename_i xs r _ _ _;cases hb:Nat.ble 1 xs.length with
    |false=>simp only [hb,aD.gr,cond_false]at h;cases h
    |true=>simp only [hb,aD.gr,cond_true]at h;exact⟨_,_,h⟩
  .exact absurd h hno
 .exact⟨_,_,h⟩
 .rename_i e u i k len cap r;split at h
  .cases hm:(Nat.beq len 0||bz e t (H.get i) (k+len-1))with
   |false=>rw [hm]at h;cases h
   |true=>rw [hm]at h;exact⟨_,_,h⟩
  .exact absurd h hno
 .split at h
  .split at h
   .exact⟨_,_,h⟩
   .exact absurd h hno
  .exact absurd h hno
 .exact absurd h hno
def FW {β:Type} {cE:Bool} {no:aD β} {b:β} (hno:no.gr≠some b):∀(t:av) {l:List aa} {f:t.den->List aa->aD β},(t.wq H cE no l f).gr=some b->∃d r,(f d r).gr=some b
 | .int k,l,f,h=>by
   have h:(match zT k l with |some (x,r)=>f x r|none=>no).gr=some b:=h;split at h
   .exact⟨_,_,h⟩
   .exact absurd h hno
 | .bool,l,f,h=>by
   have h:(match zU l with |some (x,r)=>f x r|none=>no).gr=some b:=h;split at h
   .exact⟨_,_,h⟩
   .exact absurd h hno
 | .str,l,f,h=>by
   have h:(match wv l with |some (x,r)=>f x r|none=>no).gr=some b:=h;split at h
   .exact⟨_,_,h⟩
   .exact absurd h hno
 | .list z t,l,f,h=>adh hno h
 | .pair a c,l,f,h=>by
   obtain⟨x,r,h1⟩:=FW hno a (f:=fun x r=>c.wq H cE no r fun y r=>f (x,y) r) h;obtain⟨y,r',h3⟩:=FW hno c h1;exact⟨_,_,h3⟩
 | .ptr t,l,f,h=>by
   have h:(match ww t l with |some (x,r)=>f x r|none=>no).gr=some b:=h;split at h
   .exact⟨_,_,h⟩
   .exact absurd h hno
 | .unit,l,f,h=>⟨(),l,h⟩
def C7 {β:Type} {cE:Bool} {no:aD β} {b:β} (hno:no.gr≠some b):∀(ps:List av) {vs:List aa} {f:iu ps->aD β},(uq H cE no ps vs f).gr=some b->∃d,(f d).gr=some b
 |[],[],f,h=>⟨(),h⟩
 |[],_::_,f,h=>absurd h hno
 |_::_,[],f,h=>absurd h hno
 |t::ps,v::vs,f,h=>by
  have h:(C6 H cE no t v fun d=>uq H cE no ps vs fun ds=>f (d,ds)).gr=some b:=h;have:∃d,(uq H cE no ps vs fun ds=>f (d,ds)).gr=some b:=by
   unfold C6 at h;split at h
   .obtain⟨d,r,h1⟩:=FW hno t h;cases r with
    |cons _ _=>exact absurd h1 hno
    |nil=>exact⟨d,h1⟩
   .exact absurd h hno
   .obtain⟨d,r,h1⟩:=FW hno t h;cases r with
    |cons _ _=>exact absurd h1 hno
    |nil=>exact⟨d,h1⟩
  obtain⟨d,h1⟩:=this;obtain⟨ds,h3⟩:=C7 hno ps h1;exact⟨(d,ds),h3⟩
def FX {β:Type} (hH:aZ P B ρ H w) {cE:Bool} {no:aD β} {b:β} (hno:no.gr≠some b):∀(t:av) {l:List aa} {f:t.den->List aa->aD β},(t.wq H cE no l f).gr=some b->
  ∃d r,(f d r).gr=some b/\∀ys,aG ρ l ys->∃y1 y2,ys=y1++y2/\aG (jE cE w ρ) (t.cells d) y1/\aG ρ r y2
 | .int k,l,f,h=>by
   have h:(match zT k l with |some (x,r)=>f x r|none=>no).gr=some b:=h;split at h
   .rename_i x r hx;refine⟨x,r,h,fun ys hd=> ?_⟩;obtain⟨y1,y2,e,h1,h2⟩:=av.vM (.int k) hx hd;exact⟨y1,y2,e,yA hH cE h1,h2⟩
   .exact absurd h hno
 | .bool,l,f,h=>by
   have h:(match zU l with |some (x,r)=>f x r|none=>no).gr=some b:=h;split at h
   .rename_i x r hx;refine⟨x,r,h,fun ys hd=> ?_⟩;obtain⟨y1,y2,e,h1,h2⟩:=av.vM .bool hx hd;exact⟨y1,y2,e,yA hH cE h1,h2⟩
   .exact absurd h hno
 | .str,l,f,h=>by
   have h:(match wv l with |some (x,r)=>f x r|none=>no).gr=some b:=h;split at h
   .rename_i x r hx;refine⟨x,r,h,fun ys hd=> ?_⟩;obtain⟨y1,y2,e,h1,h2⟩:=av.vM .str hx hd;exact⟨y1,y2,e,yA hH cE h1,h2⟩
   .exact absurd h hno
 | .list z t,l,f,h=>adg hH hno h
 | .pair a c,l,f,h=>by
   obtain⟨x,r,h1,h2⟩:=FX hH hno a (f:=fun x r=>c.wq H cE no r fun y r=>f (x,y) r) h;obtain⟨y,r',h3,h4⟩:=FX hH hno c h1;refine⟨(x,y),r',h3,fun ys hd=> ?_⟩;obtain⟨y1,y2,rfl,g1,g2⟩:=h2 ys hd;obtain⟨y3,Jq,rfl,g3,g4⟩:=h4 y2 g2;exact⟨y1++y3,Jq,by simp,g1.append g3,g4⟩
 | .ptr t,l,f,h=>by
   have h:(match ww t l with |some (x,r)=>f x r|none=>no).gr=some b:=h;split at h
   .rename_i x r hx;refine⟨x,r,h,fun ys hd=> ?_⟩;obtain⟨y1,y2,e,h1,h2⟩:=av.vM (.ptr t) hx hd;exact⟨y1,y2,e,yA hH cE h1,h2⟩
   .exact absurd h hno
 | .unit,l,f,h=>⟨(),l,h,fun ys hd=>⟨[],ys,rfl, .nil,hd⟩⟩
def C8 {t:av} (h:t.isAgg=false) (d:t.den):t.cells d=[wc t d]:=by
 cases t<;>first |rfl |cases h
def adi {β:Type} (hH:aZ P B ρ H w) {cE:Bool} {no:aD β} {b:β} (hno:no.gr≠some b) {t:av} {v:aa} {f:t.den->aD β} (h:(C6 H cE no t v f).gr=some b):
  ∃d,(f d).gr=some b/\∀x,Den ρ v x->Den (jE cE w ρ) (wc t d) x:=by
 unfold C6 at h;split at h
 .rename_i cs ha;obtain⟨d,r,h1,h2⟩:=FX hH hno t h;cases r with
  |cons _ _=>exact absurd h1 hno
  |nil=>
   refine⟨d,h1,fun x hx=> ?_⟩;obtain⟨xs,g1,rfl⟩:=hx.tP;obtain⟨y1,y2,rfl,g2,g3⟩:=h2 xs g1;cases g3;unfold wc;rw [ha,List.append_nil];exact .agg g2
 .exact absurd h hno
 .rename_i ha;obtain⟨d,r,h1,h2⟩:=FX hH hno t h;cases r with
  |cons _ _=>exact absurd h1 hno
  |nil=>
   refine⟨d,h1,fun x hx=> ?_⟩;obtain⟨y1,y2,e,g2,g3⟩:=h2 [x] (.cons hx .nil);cases g3;rw [List.append_nil]at e;subst e;rw [C8 ha]at g2;cases g2 with |cons g _=>exact g
def FY {β:Type} (hH:aZ P B ρ H w) {cE:Bool} {no:aD β} {b:β} (hno:no.gr≠some b):∀(ps:List av) {vs:List aa} {f:iu ps->aD β},(uq H cE no ps vs f).gr=some b->
  ∃d,(f d).gr=some b/\∀xs,aG ρ vs xs->aG (jE cE w ρ) (j6 ps d) xs
 |[],[],f,h=>⟨(),h,fun xs hd=>by cases hd;exact .nil⟩
 |[],_::_,f,h=>absurd h hno
 |_::_,[],f,h=>absurd h hno
 |t::ps,v::vs,f,h=>by
  obtain⟨d,h1,h2⟩:=adi hH hno (f:=fun d=>uq H cE no ps vs fun ds=>f (d,ds)) h;obtain⟨ds,h3,h4⟩:=FY hH hno ps h1;refine⟨(d,ds),h3,fun xs hd=> ?_⟩;cases hd with
  |cons g1 g2=>exact .cons (h2 _ g1) (h4 _ g2)
def adj {F F':Env} (hf:∀b A,F.fz b=some A->F'.fz b=some A) {t:av} {d:t.den} {x:Value} (h:Den F (wc t d) x):Den F' (wc t d) x:=by
 cases ha:t.isAgg with
 |true=>
  unfold wc at h ⊢;rw [ha]at h ⊢;obtain⟨xs,g1,rfl⟩:=h.tP;exact .agg (qK hf t d xs g1)
 |false=>
  have h1:aG F (t.cells d) [x]:=by rw [C8 ha];exact .cons h .nil
  have h2:=qK hf t d _ h1;rw [C8 ha]at h2;cases h2 with |cons g _=>exact g
def SR {F F':Env} (hf:∀b A,F.fz b=some A->F'.fz b=some A):∀(ts:List av) {d:iu ts} {xs:List Value},aG F (j6 ts d) xs->aG F' (j6 ts d) xs
 |[],_,_,h=>by cases h;exact .nil
 |t::l,d,_,h=>by
  cases h with
  |cons h1 h2=>exact .cons (adj hf h1) (SR hf l h2)
def adk {F F':Env} (hf:∀b A,F.fz b=some A->F'.fz b=some A) {rs:List av} {d:iu rs} {x:Value} (h:Den F (od rs d) x):Den F' (od rs d) x:=by
 have key:∀l,j6 rs d=l->Den F (match l with |[v]=>v|vs=> .tuple vs) x->Den F' (match l with |[v]=>v|vs=> .tuple vs) x:=by
  intro l hl hd;have hds:∀xs,aG F l xs->aG F' l xs:=fun xs hx=>by rw [<-hl]at hx ⊢;exact SR hf rs hx
  split at hd
  .rename_i v;have:=hds [x] (.cons hd .nil);cases this with |cons g _=>exact g
  .rename_i hn;obtain⟨xs,g1,rfl⟩:=hd.Cu;exact .tuple (hds _ g1)
 exact key _ rfl h
def K2 {c:bp} {args:List aa} {v:aa} {H':ai} (h:(yz c args H).gr=some (.ok v H')):H'=H:=by
 obtain⟨d,h1⟩:=C7 (cE:=c.fresh) (no:=aD.ret aL.no) (b:=aL.ok v H') (by simp [aD.gr]) c.ps h;cases hp:c.pre d with
 |false=>rw [hp]at h1;cases h1
 |true=>rw [hp]at h1;cases h1;rfl
def SS {c:bp} (hc:c.Ok P) {args:List aa} {v:aa} {H':ai} (h:(yz c args H).gr=some (.ok v H')) {xs:List Value} (m:Nat) (hH:aZ P B ρ H w) (cv:n8 ρ) (hd:aG ρ args xs):CallsIn (dW none) m P c.f xs.toArray w (mF P B ρ H w v H'):=by
 have hsame:=K2 h;obtain⟨d,h1,h2⟩:=FY (w:=w) hH (cE:=c.fresh) (no:=aD.ret aL.no) (b:=aL.ok v H') (by simp [aD.gr]) c.ps h;have hp:c.pre d=true/\v=od c.rs (c.fn d):=by
  cases hp:c.pre d with
  |false=>rw [hp]at h1;cases h1
  |true=>rw [hp]at h1;cases h1;exact⟨rfl,rfl⟩
 obtain⟨hp,rfl⟩:=hp;subst hsame;have hF:uo w (jE c.fresh w ρ):=by
  refine⟨fun i x hx=> ?_,fun g hg=> ?_,fun b A hb=> ?_⟩
  .have hx:(if i<64 then ρ i else none)=some x:=hx;by_cases h:i<64
   .exact h
   .rw [if_neg h]at hx;cases hx
  .obtain⟨c',tV⟩:=cv.at' g hg;exact⟨c',by show(if g<64 then ρ g else none)=_;rw [if_pos hg];exact tV⟩
  .have hb:(if c.fresh=true then ko w b else ρ.fz b)=some A:=hb;cases hfr:c.fresh with
   |true=>rw [hfr]at hb;exact oc.1 hb
   |false=>rw [hfr]at hb;exact(hH.fz b A hb).1
 have adl:wo (jE c.fresh w ρ):=fun b p hb=>by
  obtain⟨A,h1,h2⟩:=cv.Al b p hb;refine⟨A, ?_,h2⟩;show(if c.fresh=true then ko w b else ρ.fz b)=some A;cases c.fresh with
  |true=>exact oc.2 (hH.fz b A h1).1
  |false=>exact h1
 have K3:=hc d hp w (jE c.fresh w ρ) xs hF adl (h2 xs hd);have hin:CallsIn (dW none) m P c.f xs.toArray w _:=callsIn_wide.2 K3;refine hin.mono ?_;rintro e w' ⟨x,F',rfl,hx,adm,hfz,hb⟩;have adn:∀b A,ρ.fz b=some A->b<w.heap.size:=fun b A h=>by
  obtain⟨⟨e,fr,h⟩,_⟩:=hH.fz b A h;exact(dJ.1 h).1
 have hle:cB ρ ⟨ρ.at',fun b=>if w.heap.size<=b then F'.fz b else ρ.fz b⟩:=⟨fun _ _ h=>h,fun b A h=>by
  show(if w.heap.size<=b then F'.fz b else ρ.fz b)=some A;rw [if_neg (by have:=adn b A h;omega)];exact h⟩
 refine⟨x,⟨ρ.at',fun b=>if w.heap.size<=b then F'.fz b else ρ.fz b⟩,rfl,adk (fun b A kq=> ?_) hx,⟨fun i k hi=> ?_,hH.inj,hH.lt,dh hH.base hb.size,fun b A kq=> ?_⟩,
  ⟨hle,fun _ _=>rfl,aI _,hb.size,hb.os,hb.tape,hb.output,fun b hlt _=>hb.block b hlt,fun _ _ h=>h,fun _ _ h=>h,fun b A kq=> ?_⟩⟩
 .show(if w.heap.size<=b then F'.fz b else ρ.fz b)=some A;by_cases h0:w.heap.size<=b
  .rw [if_pos h0];exact kq
  .rw [if_neg h0];rcases hfz b A kq with⟨h3,h4⟩|h3
   .have h4:(if c.fresh then ko w b else ρ.fz b)=some A:=h4;rw [h3]at h4;exact h4
   .exact absurd h3 h0
 .obtain⟨b,c',o,e1,e2,e3,bV⟩:=hH.blk i k hi;have hlt:=(dJ.1 e2).1;exact⟨b,c',o,e1,(hb.block b hlt).trans e2,e3.mono hle,bV⟩
 .have kq:(if w.heap.size<=b then F'.fz b else ρ.fz b)=some A:=kq;by_cases h0:w.heap.size<=b
  .rw [if_pos h0]at kq;refine⟨adm.fz b A kq,fun i k c' hi hr=> ?_⟩;obtain⟨b',c2,o,e1,e2,_⟩:=hH.blk i k hi;have hr:ρ i=some (b,c'):=hr;rw [hr]at e1;cases e1;have:=(dJ.1 e2).1;omega
  .rw [if_neg h0]at kq;obtain⟨⟨e,fr,h3⟩,h4⟩:=hH.fz b A kq;exact⟨⟨e,fr,(hb.block b ω).trans h3⟩,h4⟩
 .have kq:(if w.heap.size<=b then F'.fz b else ρ.fz b)=some A:=kq;by_cases h0:w.heap.size<=b
  .exact .inr (.inl h0)
  .rw [if_neg h0]at kq;exact .inl kq
def K4 {f:FuncId} {args:List aa} {v:aa} {H':ai}:∀{l:List bp},(bc l f args H).gr=some (.ok v H')->∃c∈l,c.f=f/\(yz c args H).gr=some (.ok v H')
 |[],h=>by cases h
 |c::l,h=>by
  unfold bc at h;cases hb:Nat.beq f c.f with
  |true=>rw [hb]at h;exact⟨c,kK,(ac hb).symm,h⟩
  |false=>
   rw [hb]at h;obtain⟨c',h1,h2,h3⟩:=K4 h;exact⟨c',kJ _ h1,h2,h3⟩
def r7 {bu:bG} {f:FuncId} {args:List aa} {v:aa} {H':ai} (h:bF bu f args H= .ok v H'):(bu f args H).gr=some (.ok v H'):=by
 unfold bF at h;cases hg:(bu f args H).gr with
 |none=>rw [hg]at h;cases h
 |some r=>rw [hg]at h;rw [show r= .ok v H' from h]
def cK {l:List bp} (hl:∀c∈l,c.Ok P):bC P (bF (bc l)) where
 mono f args H v H' h:=by
  obtain⟨c,_,_,h3⟩:=K4 (r7 h);rw [K2 h3];exact aI _
 cx f args H v H' h B ρ xs w m hH cv hd hf:=by
  obtain⟨c,h1,rfl,h3⟩:=K4 (r7 h);exact SS (hl c h1) h3 m hH cv hd
end
end
end
section
variable [Ground]
noncomputable section
def r8:Code->List Code
 | .seq a b=>r8 a++r8 b
 |c=>[c]
def fl (c:Code) (p:List Nat):List Code:=r8 (cat c p)
def AL:Nat:=400
def iw (P:Program) (bu:bG) (n:Nat):List Code->au aa->ai->aD R
 |[],T,H=> .ret (.normal T H [])
 |c::l,T,H=>(lP P bu AL c n false T H []).bind fun r=>match r with
  | .normal T H []=>iw P bu n l T H
  |r=> .ret r
section
variable (P:Program) (bu:bG) (l:List Code)
def yB (k:Nat) (s:bD):aD R:=iw P bu s.n (l.take k) s.T s.H
def oe (s:bD):aD R:=iw P bu s.n l s.T s.H
def pF (k n:Nat) (args:List aa):aD R:=iw P bu n (l.take k) (dq args .nil 0) H0
end
def ef (P:Program) (n:Nat) (e:Exit) (σ:Ren) (s':bD):R->Prop
 | .normal T H []=>(match e with | .normal=>fit P σ n T H s'|_=>False)
 | .exit id T H []=>(match e with | .exit i=>gY (Nat.beq i id) (fit P σ n T H s')|_=>False)
 |_=>False
def ur (P:Program) (fn:Func) (fresh:Bool) (res:aa):R->Prop
 | .normal _ _ _=>False
 | .ret T H []=>(match jX P fn T H with | .ok v _=>cD fresh H v res|_=>False)
 |_=>False
section
variable {P:Program} {w0:World} {F:Env} {n:Nat} {T:au aa} {H:ai} {Q:Exit->au aa->ai->Prop}
def ba (X:Ext) (P:Program) (w0:World) (F:Env) (n:Nat):List Code->au aa->ai->(Exit->au aa->ai->Prop)->Prop
 |[],T,H,Q=>Q .normal T H
 |c::l,T,H,Q=>iM X P w0 F n c T H (gZ (fun T H=>ba X P w0 F n l T H Q) Q)
abbrev aU:=ba pz
variable {X:Ext}
def K5 {N N':au aa->ai->Prop} {Q':Exit->au aa->ai->Prop} (h1:∀T H,N T H->N' T H) (h2:∀e T H,e≠ .normal->Q e T H->Q' e T H):∀e T H,gZ N Q e T H->gZ N' Q' e T H:=by
 intro e T H h;cases e with
 |normal=>exact h1 T H h
 |_=>exact h2 _ T H τ h
def aU.append:∀{l1 l2:List Code} {T:au aa} {H:ai},ba X P w0 F n (l1++l2) T H Q->ba X P w0 F n l1 T H (gZ (fun T H=>ba X P w0 F n l2 T H Q) Q)
 |[],l2,T,H,h=>h
 |c::l1,l2,T,H,h=>Goal.mono h (K5 (fun T H h=>aU.append h) fun e T H hn h=>by cases e<;>first |exact absurd rfl hn|exact h)
def aU.split:∀{l1 l2:List Code} {T:au aa} {H:ai},ba X P w0 F n l1 T H (gZ (fun T H=>ba X P w0 F n l2 T H Q) Q)->ba X P w0 F n (l1++l2) T H Q
 |[],l2,T,H,h=>h
 |c::l1,l2,T,H,h=>Goal.mono h (K5 (fun T H h=>aU.split h) fun e T H hn h=>by cases e<;>first |exact absurd rfl hn|exact h)
def aU.mono {Q':Exit->au aa->ai->Prop} (hq:∀e T H,Q e T H->Q' e T H):∀{l:List Code} {T:au aa} {H:ai},ba X P w0 F n l T H Q->ba X P w0 F n l T H Q'
 |[],_,_,h=>hq _ _ _ h
 |_::_,_,_,h=>Goal.mono h (K5 (fun _ _ h=>aU.mono hq h) fun e T H _ h=>hq e T H h)
def uu:∀{c:Code} {T:au aa} {H:ai} {Q:Exit->au aa->ai->Prop},ba X P w0 F n (r8 c) T H Q->iM X P w0 F n c T H Q
 | .seq a b,T,H,Q,h=>by
   refine Goal.seq rfl (uu (aU.mono (fun e T H h=> ?_) (aU.append (l1:=r8 a) (l2:=r8 b) h)));cases e with
   |normal=>exact uu (c:=b) h
   |_=>exact h
 | .skip,T,H,Q,h=>Goal.mono h fun e T H h=>by cases e<;>exact h
 | .region _ _ _,T,H,Q,h=>Goal.mono h fun e T H h=>by cases e<;>exact h
 | .cond _ _ _,T,H,Q,h=>Goal.mono h fun e T H h=>by cases e<;>exact h
 | .block _ _,T,H,Q,h=>Goal.mono h fun e T H h=>by cases e<;>exact h
 | .loop _,T,H,Q,h=>Goal.mono h fun e T H h=>by cases e<;>exact h
 | .rangeFunc _ _ _ _,T,H,Q,h=>Goal.mono h fun e T H h=>by cases e<;>exact h
 | .exit _,T,H,Q,h=>Goal.mono h fun e T H h=>by cases e<;>exact h
 | .scope _,T,H,Q,h=>Goal.mono h fun e T H h=>by cases e<;>exact h
 | .label _,T,H,Q,h=>Goal.mono h fun e T H h=>by cases e<;>exact h
 | .goto _,T,H,Q,h=>Goal.mono h fun e T H h=>by cases e<;>exact h
 | .ret,T,H,Q,h=>Goal.mono h fun e T H h=>by cases e<;>exact h
 | .refuse _,T,H,Q,h=>Goal.mono h fun e T H h=>by cases e<;>exact h
variable {bu:bG}
def aU.iw (hK:fe P) (hm:P.follows .mixedOrders=true) (hS:bC P (bF bu)) {fQ:R->Prop} (hq:∀r,fQ r->AK Q r):∀{l:List Code} {T:au aa} {H:ai} {r:R},(Sv.iw P bu n l T H).gr=some r->fQ r->ba X P w0 F n l T H Q
 |[],T,H,r,h,h1=>by
  cases h;exact hq _ h1
 |c::l,T,H,r,h,h1=>by
  obtain⟨r1,g1,g2⟩:=mI h;have run:∀uv:Exit->au aa->ai->Prop,AK uv r1->iM X P w0 F n c T H uv:=fun uv h2=>by
   intro a w hs k;obtain⟨e,aO,H',ho,wg⟩:=SP h2;have g1:=g1;rw [<-SN AL c n X.rd.isSome]at g1;have hr:=KO (P:=P) (bu:=bu) AL c n X.rd.isSome T H [] r1 g1 (by rintro rfl;cases ho);have hI:qA P (qs P (n9 P (bF bu)) AL):=J4 hK (lO hK hm hS) AL;have ho':(qs P (n9 P (bF bu)) AL c n X.rd.isSome T H X.m).out=some (e,aO,H',X.m):=by rw [K0,hr];exact SL ho
   obtain⟨ρ,aR,hf,hfz,hkp⟩:=hs.ex;refine hI.cx _ _ _ _ _ _ _ _ _ _ ho' w0.heap.size ρ a w X.rd k _ rfl aR (by rw [hs.defers];exact hkp.yx) (fun i h1 _=>hf i h1) fun ρ' a' w' g1 g2 g3=> ?_
   refine .inl ⟨aO,H',wg,⟨⟨ρ',g1,fun i hi=> ?_,fun b A hb=> ?_,KX hkp g2⟩,hs.below.trans (g2.below aR.H),g3.unique (hkp.yx.mono g2.le)⟩⟩
   .rw [g2.ext i (.inr hi)];exact hf i (dh g2.next hi)
   .rcases g2.nv b A hb with h|h|⟨i,k,c,q1,aQ,b7⟩
    .exact hfz b A h
    .exact .inr (dh hs.below.size h)
    .obtain⟨b',c',o,e1,_,_,bV⟩:=aR.H.blk i k q1;rw [b7]at e1;cases e1;exact .inr (bV aQ)
  refine run _ ?_;have kS:∀r2,(match r1 with | .normal T H []=>Sv.iw P bu n l T H|r=>aD.ret r).gr=some r2->fQ r2->AK (gZ (fun T H=>ba X P w0 F n l T H Q) Q) r1:=by
   intro r2 h2 wg;split at h2
   .exact aU.iw hK hm hS hq h2 wg
   .cases h2;have:=hq _ wg;revert this;rename_i hnn;cases r1 with
    |no=>exact id
    |normal T1 H1 m1=>
     cases m1 with
     |nil=>exact absurd rfl (hnn T1 H1)
     |cons _ _=>exact id
    |exit id' T1 H1 m1=>cases m1<;>exact id
    |goto l' T1 H1 m1=>exact id
    |ret T1 H1 m1=>cases m1<;>exact id
  exact kS r g2 h1
def Goal.SU {c:Code} {Q':Exit->au aa->ai->Prop} (h:iM X P w0 F n c T H Q) (hq:∀e T H,Q e T H->Q' e T H\/∃σ s,fit P σ n T H s/\pinned σ s.H.next X.pins=true/\Q' e s.T s.H):iM X P w0 F n c T H Q':=fun a w hs k=>
 wpIn_mono (h a w hs k) fun e a' w' hh=>by
  rcases hh with⟨aO,H',h1,h2⟩|hh
  .rcases hq _ _ _ h1 with h3|⟨σ,s,h3,h5,h4⟩
   .exact .inl ⟨aO,H',h3,h2⟩
   .exact .inl ⟨s.T,s.H,h4,h2.nD h3 h5⟩
  .exact .inr hh
def aU.K6 {s':bD} {e:Exit} (hq:Q e s'.T s'.H):∀{l:List Code} {T:au aa} {H:ai},l≠[]->ba X P w0 F n l T H (fun e' aO H'=>e'=e/\∃σ,fit P σ n aO H' s'/\pinned σ s'.H.next X.pins=true)->ba X P w0 F n l T H Q
 |[],_,_,hl,_=>absurd rfl hl
 |[c],T,H,_,h=>Goal.SU h fun e' aO H' h'=> .inr (by
    cases e' with
    |normal=>obtain⟨rfl,σ,hf,hp⟩:=h';exact⟨σ,s',hf,hp,hq⟩
    |_=>obtain⟨rfl,σ,hf,hp⟩:=h';exact⟨σ,s',hf,hp,hq⟩)
 |c::c2::l,T,H,_,h=>Goal.SU h fun e' aO H' h'=>by
   cases e' with
   |normal=>exact .inl (aU.K6 hq τ h')
   |_=>obtain⟨rfl,σ,hf,hp⟩:=h';exact .inr ⟨σ,s',hf,hp,hq⟩
def aU.to (hK:fe P) (hm:P.follows .mixedOrders=true) (hS:bC P (bF bu)) {l:List Code} {s':bD} {e:Exit} {σ:Ren} (k:Nat) (D:List Bool) (h:(Sv.iw P bu n (l.take k) T H).path D (ef P n e σ s')) (hne:(l.take k).isEmpty=false)
  (hq:gZ (fun T H=>ba X P w0 F n (l.drop k) T H Q) Q e s'.T s'.H) (hp:pinned σ s'.H.next X.pins=true:=by rfl):ba X P w0 F n l T H Q:=by
 obtain⟨r,h1,h2⟩:=aD.uj _ _ h;have key:ba X P w0 F n (l.take k) T H (fun e' aO H'=>e'=e/\∃σ,fit P σ n aO H' s'/\pinned σ s'.H.next X.pins=true):=by
  refine aU.iw hK hm hS (fQ:=ef P n e σ s') (fun r hr=> ?_) h1 h2;unfold ef at hr;split at hr
  .split at hr
   .exact⟨rfl,σ,hr,hp⟩
   .exact hr.elim
  .split at hr
   .obtain⟨g1,g2⟩:=je hr;rw [ac g1];exact⟨rfl,σ,g2,hp⟩
   .exact hr.elim
  .exact hr.elim
 have kV:ba X P w0 F n (l.take k) T H (gZ (fun T H=>ba X P w0 F n (l.drop k) T H Q) Q):=aU.K6 (s':=s') (e:=e) hq (fun hh=>by rw [hh]at hne;cases hne) key;have:=aU.split kV;rwa [List.take_append_drop]at this
def aU.ado (hK:fe P) (hm:P.follows .mixedOrders=true) (hS:bC P (bF bu)) {l:List Code} {s':bD} {e:Exit} {σ:Ren} (k:Nat) (D:List Bool) (h:(Sv.iw P bu n (l.take k) T H).uh D (ef P n e σ s')) (hne:(l.take k).isEmpty=false)
  (hq:gZ (fun T H=>ba X P w0 F n (l.drop k) T H Q) Q e s'.T s'.H) (hp:pinned σ s'.H.next X.pins=true:=by rfl):ba X P w0 F n l T H Q:=by
 obtain⟨r,h1,h2⟩:=aD.CV _ _ h;have key:ba X P w0 F n (l.take k) T H (fun e' aO H'=>e'=e/\∃σ,fit P σ n aO H' s'/\pinned σ s'.H.next X.pins=true):=by
  refine aU.iw hK hm hS (fQ:=ef P n e σ s') (fun r hr=> ?_) h1 h2;unfold ef at hr;split at hr
  .split at hr
   .exact⟨rfl,σ,hr,hp⟩
   .exact hr.elim
  .split at hr
   .obtain⟨g1,g2⟩:=je hr;rw [ac g1];exact⟨rfl,σ,g2,hp⟩
   .exact hr.elim
  .exact hr.elim
 have kV:ba X P w0 F n (l.take k) T H (gZ (fun T H=>ba X P w0 F n (l.drop k) T H Q) Q):=aU.K6 (s':=s') (e:=e) hq (fun hh=>by rw [hh]at hne;cases hne) key;have:=aU.split kV;rwa [List.take_append_drop]at this
def aU.st (hK:fe P) (hm:P.follows .mixedOrders=true) (hS:bC P (bF bu)) {l:List Code} {s s':bD} {e:Exit} {σ:Ren} (k:Nat) (D:List Bool) (h:(yB P bu l k s).path D (ef P s.n e σ s')) (hne:(l.take k).isEmpty=false)
  (hq:gZ (fun T H=>ba X P w0 F s.n (l.drop k) T H Q) Q e s'.T s'.H) (hp:pinned σ s'.H.next X.pins=true:=by rfl):ba X P w0 F s.n l s.T s.H Q:=aU.to hK hm hS k D h hne hq hp
def aU.all (hK:fe P) (hm:P.follows .mixedOrders=true) (hS:bC P (bF bu)) {l:List Code} {s s':bD} {e:Exit} {σ:Ren} (D:List Bool) (h:(oe P bu l s).path D (ef P s.n e σ s')) (hne:l.isEmpty=false)
  (hq:Q e s'.T s'.H) (hp:pinned σ s'.H.next X.pins=true:=by rfl):ba X P w0 F s.n l s.T s.H Q:=by
 have hk:l.take l.length=l:=dK;refine aU.to hK hm hS (s':=s') (e:=e) (σ:=σ) l.length D (by rw [hk];exact h) (by rw [hk];exact hne) ?_ hp;rw [List.drop_length];cases e<;>exact hq
def cy {N:au aa->ai->Prop} {i:Nat} {T:au aa} {H:ai} (h:Q (.exit i) T H):gZ N Q (.exit i) T H:=h
def aU.ret (hK:fe P) (hm:P.follows .mixedOrders=true) (hS:bC P (bF bu)) {l:List Code} {fn:Func} {fresh:Bool} {res:aa} (k:Nat) (D:List Bool) (h:(Sv.iw P bu n (l.take k) T H).path D (ur P fn fresh res))
  (hq:∀T H,hG P fresh fn res .ret T H->Q .ret T H):ba X P w0 F n l T H Q:=by
 obtain⟨r,h1,h2⟩:=aD.uj _ _ h;have key:ba X P w0 F n (l.take k) T H (gZ (fun T H=>ba X P w0 F n (l.drop k) T H Q) Q):=by
  refine aU.iw hK hm hS (fQ:=ur P fn fresh res) (fun r hr=> ?_) h1 h2;unfold ur at hr;split at hr
  .exact hr.elim
  .exact hq _ _ hr
  .exact hr.elim
 have:=aU.split key;rwa [List.take_append_drop]at this
def aU.uw (hK:fe P) (hm:P.follows .mixedOrders=true) (hS:bC P (bF bu)) {l:List Code} {s:bD} {fn:Func} {fresh:Bool} {res:aa} (D:List Bool) (h:(oe P bu l s).path D (ur P fn fresh res))
  (hq:∀T H,hG P fresh fn res .ret T H->Q .ret T H):ba X P w0 F s.n l s.T s.H Q:=by
 refine aU.ret hK hm hS (fn:=fn) (fresh:=fresh) (res:=res) l.length D ?_ hq;rw [dK];exact h
def aU.loop {ι:Type} {l rest:List Code} {id:Nat} {b:Code} (hl:l= .block id (.loop b)::rest) (I:ι->bD) (μ:ι->Nat) (i0:ι) (_:∀i,(I i).n=n)
  (step:∀i,ba X P w0 F n (r8 b) (I i).T (I i).H (gZ (fun T H=>∃j,μ j<μ i/\T=(I j).T/\H=(I j).H) (C2 id (gZ (fun T H=>ba X P w0 F n rest T H Q) Q)))):ba X P w0 F n l (I i0).T (I i0).H Q:=by
 subst hl;refine Goal.block (x:= .loop b) rfl ?_;have key:∀m i,μ i<m->∀a w,mJ X P w0 F n (I i).T (I i).H a w->∀k,Code.roundsIn (dW X.rd) k P b (fun e a' w'=>(∃aO H',C2 id (gZ (fun T H=>ba X P w0 F n rest T H Q) Q) e aO H'/\mJ X P w0 F n aO H' a' w')\/(e= .ret/\X.R a' w')) m a w:=by
  intro m;induction m with
  |zero=>intro i hi;exact absurd hi (Nat.not_lt_zero _)
  |succ m ih=>
   intro i hi a w hs k;rw [roundsIn_succ];refine wpIn_mono (uu (step i) a w hs k) fun e a' w' hh=> ?_
   rcases hh with⟨aO,H',h1,h2⟩|⟨rfl,hh⟩
   .cases e with
    |normal=>
     obtain⟨j,g1,rfl,rfl⟩:=h1;exact ih j ω a' w' h2 k
    |_=>exact .inl ⟨aO,H',h1,h2⟩
   .exact .inr ⟨rfl,hh⟩
 intro a w hs k;exact wpIn_loop_rounds (μ i0+1) (key (μ i0+1) i0 (fG _) a w hs k)
def cF {id:Nat} {T:au aa} {H:ai} (h:Q .normal T H):C2 id Q (.exit id) T H:=by
 show if id=id then _ else _
 rw [if_pos rfl];exact h
def eN {r:Int} (h: -9223372036854775808<=r/\r<=9223372036854775807):fits .i64 r=true:=by
 unfold fits;rw [ae];exact⟨az h.1,az h.2⟩
def adp {a b:Nat} (h:a=b):Nat.beq a b=true:=by rw [h,Nat.beq_refl]
def K7:Value->Bool
 | .int _ _| .bool _| .string _| .pointer none| .slice none _ _| .map none| .nilFunc| .nilIface=>true
 | .func _ ⟨[]⟩ ⟨[]⟩=>true
 |_=>false
def AM:aa->Bool
 | .raw v=>K7 v
 | .ptr _ _| .slice _ _ _ _| .map _| .func _ [] []| .bn _ _ _| .fy _ _ _ _| .bR _ _ _ _ _ _| .dL _ _ _ _ _=>true
 |_=>false
def K8:aa->Bool
 | .agg l| .tuple l=>l.all AM
 |v=>AM v
def adq {v:Value} (h:K7 v=true):yh 3 v v=true:=by
 unfold K7 at h;split at h<;>first |(simp [yh,CL];done)|cases h
def av.beq_refl:∀(t:av) (a:t.den),t.beq a a=true
 | .int _,a=>az rfl
 | .bool,a=>beq_self_eq_true a
 | .str,a=>az rfl
 | .list _ t,a=>by
   show(Nat.beq a.length a.length&&(List.zip a a).all fun p=>t.beq p.1 p.2)=true
   rw [Nat.beq_refl,Bool.true_and,List.all_eq_true];intro p hp;obtain⟨i,h1,h2⟩:=List.mem_iff_getElem.1 hp;have CP:p=((a:List t.den)[i]'(by simp at h1;exact h1),(a:List t.den)[i]'(by simp at h1;exact h1)):=by rw [<-h2];simp
   rw [CP];exact t.beq_refl _
 | .pair s t,a=>by
   show(s.beq a.1 a.1&&t.beq a.2 a.2)=true;rw [s.beq_refl,t.beq_refl];rfl
 | .ptr t,a=>t.beq_refl a
 | .unit,_=>rfl
def adr (t:av) (xs:List t.den):Aq t t xs xs=true:=by
 unfold Aq;rw [dif_pos rfl];exact av.beq_refl (.list false t) xs
def ads (c:aX):c.same c=true:=by cases c<;>simp [aX.same]
def K9 {v:aa} (h:AM v=true):we v v=true:=by
 unfold AM at h;split at h
 .simp [we,adq h]
 all_goals first |(simp [we,adr,ads];done)|cases h
def La:∀{l:List aa},l.all AM=true->qG l l=true
 |[],_=>rfl
 |v::l,h=>by
  rw [List.all_cons,ae]at h;show(we v v&&qG l l)=true;rw [K9 h.1,La h.2];rfl
def aF {v:aa} (h:K8 v=true:=by kernel_rfl):aa.same v v=true:=by
 unfold K8 at h;split at h
 .exact La h
 .exact La h
 .next h1 h2=>
  cases v with
  |func f a b=>
   cases a<;>cases b<;>first |exact K9 h|exact absurd h (by simp [AM])
  |_=>first |exact absurd rfl (h1 _)|exact absurd rfl (h2 _)|exact K9 h
def Lb (c:Code):cat c []=c:=by cases c<;>rfl
def bL {fresh:Bool} {f:FuncId} {fn:Func} {c:Code} {args:List aa} {res:aa} (hf:P.funcs[f]? =some fn) (hb:fn.body=some c) (hl:Nat.ble args.length fn.ntmps=true)
  (h:∀w F,aU P w F fn.ntmps (fl c []) (dq args .nil 0) H0 (hG P fresh fn res)):Holds P fresh f args res:=
 holds_of hf hb (bT hl) fun w F=>uu (by have:=h w F;rwa [fl,Lb]at this)
end
end
end
end Go.Proofs.YtibikmmdbdlafaaGreatDoor.Sv
