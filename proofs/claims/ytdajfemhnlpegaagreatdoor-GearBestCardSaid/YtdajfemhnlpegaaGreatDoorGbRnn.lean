import Derived.Test.YtdajfemhnlpegaaGreatDoorGbSvFit
import Derived.Lib.MakeNoZero
import Derived.Lib.LaidTab
import Derived.Lib.ItoaNum
import Derived.Test.YtdajfemhnlpegaaGreatDoorRows
import Derived.WalkKit
import Derived.ProofKit
import Derived.LaidMore
import Derived.OpenShut
import Derived.SevenTiedAt
import Derived.SizedLaws
import Derived.Shelf.Vars
open Array renaming getElem?_eq_getElem->E',getElem?_eq_none->QN
open Bool renaming true->D,rec->jh,false->ao,or_eq_true->qh,true_and->py,toNat->Ë,and_false->Ù
open Eq renaming refl->Hj
open Go renaming Act->Zq,World->du,Deferred->ö,Program->fd,Code->mN,Exit->sC,wpIn_mono->zS,FuncId->ya,Calls->DG,Func->Ö,undef->lk,CallsIn->GC,callsIn_wide->wQ,callsIn_of_wp_marks->Ã,TypeId->ed,DataW->Xs,Addr->wu
open Go.Extern renaming findNext->ā
open Go.Extern.AbiNoEscape renaming same->ĉ
open Go.Extern.BytealgMakeNoZero renaming makeNoZero->ã
open Go.IntKind renaming i64->iz
open Go.OpenSpec renaming ofChange->Ð
open Go.Proofs.Tryz renaming prog->em
open Go.Proofs.YtdajfemhnlpegaaGreatDoor.Rows renaming laid_internal_strconv_uint64pow10->SH
open Go.RowKit.Below renaming refl->qg
open Go.World renaming cell?->Hf
open Int renaming gcd->fo,le_refl->vc,toNat_natCast->kh
open List renaming all_eq_true->ky,mem_append_right->UR,eq_nil_of_length_eq_zero->ix,take_take->KE,take_zero->GD,append_nil->mS,take_append_drop->pa,drop_length->Gv,mem_singleton->kD,drop_eq_getElem_cons->kl,take_succ_cons->uZ,length_eq_zero_iff->ut,count_cons->tY,count_eq_zero->YS,pairwise_cons->lA,foldl_cons->LA,cons_ne_nil->ZZ,mem_flatMap->sp,pairwise_append->Ck,count_append->Pi,count_singleton_self->Ñ,mem_map->rK,mem_filter->xF,getElem_mem->ra,exists_cons_of_ne_nil->Ê,drop_zero->iW,length->jC,take_succ_eq_append_getElem->sF,map_append->B'
open List.Pairwise renaming nil->Nj
open List.Perm renaming eq_of_pairwise->Va
open Nat renaming lt_of_lt_of_le->iy,ble->dK,beq->dd,add_mul->Gz,mul_le_mul_right->Hr,min_eq_left->ns,zero_le->gt,beq_refl->zX,le_of_lt->kt,le_succ->QZ,lt_irrefl->YZ,eq_zero_or_pos->Hi,zero_mul->CB,sub_self->Ru
open Option renaming none->bs,some->O,bind_some->kV,map_some->ta,isNone_iff_eq_none->Ä
open Or renaming inl->Hg,inr->Jn
open Prod renaming fst->ql,snd->rL
open _root_ renaming Option->da,Nat->E,List->I,Array->fh,False->lm,Bool->dF,if_pos->dA,if_neg->db,decide->bP,cond_false->sd,cond_true->ka,Int->N,beq_self_eq_true->Kr,cond->oi,or_false->Xz
set_option linter.defProp false
set_option linter.unusedSectionVars false
set_option linter.unusedSimpArgs false
set_option linter.unusedVariables false
set_option maxRecDepth 100000
namespace Go.Proofs.YtdajfemhnlpegaaGreatDoor.Sv
open Go.RowKit
section
variable[Ground]
noncomputable section
structure Ext where
 rd:da E
 K:E->da Obj
 R:Zq->du->Prop
 pin:I E:=[]
 A:E->da (E×E):=λ_=>bs
 Z:E->da (fh Value):=λ_=>bs
 sz:E:=0
 m:I E:=[]
 ds:I ö:=[]
 Y:E->da Obj:=λ_=>bs
def Ext.pins(X:Ext):I E:=X.m++X.pin
def mQ:Ext:={rd:=bs,K:=λ_=>bs,R:=λ_ _=>lm}
structure Kept(X:Ext)(ρ:Env)(H:ai)(w:du):Prop where
 k:∀b o,X.K b=O o->w.heap[b]? =O o/\¬Own ρ H b
 pin:∀i,i∈X.pin->i<H.next/\∀x,X.A i=O x->ρ i=O x
 z:∀b A,X.Z b=O A->ρ.fz b=O A
 sz:X.sz<=w.heap.size
 OB:∀b o,X.K b=O o->ρ.fz b=bs
 Ak:gj ρ X.m X.ds
 y:∀b o,X.Y b=O o->w.heap[b]? =O o/\¬Own ρ H b
structure mR(X:Ext)(P:fd)(w0:du)(F:Env)(n:E)(T:au af)(H:ai)(a:Zq)(w:du):Prop where
 ex:∃ρ,fS P w0.heap.size ρ n T H a w/\(∀i,H.next<=i->ρ i=bs)/\(∀b A,ρ.fz b=O A->F.fz b=O A\/w0.heap.size<=b)/\Kept X ρ H w
 below:Below w0.heap.size w0 w
 defers:a.defers=X.ds
abbrev Sat:=mR mQ
def fm(X:Ext)(P:fd)(w0:du)(F:Env)(n:E)(c:mN)(T:au af)(H:ai)(Q:sC->au af->ai->Prop):Prop:=
 ∀a w,mR X P w0 F n T H a w->∀k,c.wpIn (eZ X.rd) k P (λe f j=>(∃g d,Q e g d/\mR X P w0 F n g d f j)\/(e=.ret/\X.R f j)) a w
abbrev Goal:=fm mQ
def OC{X:Ext}{ρ ρ':Env}{H H':ai}{w w':du}(h:Kept X ρ H w)(s:bV ρ H w ρ' H' w'):Kept X ρ' H' w':=
 ⟨λb o d=>by
    obtain⟨f,j⟩:=h.k b o d;have m:b<w.heap.size:=(cy.1 f).1;exact⟨(s.frame b m j).trans f,λp=>j (s.own b m p)⟩,
   λi q=>⟨iy (h.pin i q).1 s.next,λx r=>s.le _ _ ((h.pin i q).2 x r)⟩,
   λb A d=>s.le.fz _ _ (h.z b A d),cD h.sz s.size,λb o d=>by
    obtain⟨f,j⟩:=h.k b o d;have m:b<w.heap.size:=(cy.1 f).1;cases u:ρ'.fz b with
    |none=>rfl
    |some A=>
     rcases s.o8 b A u with g|g|g
     .rw[h.OB b o d]at g;cases g
     .omega
     .exact absurd g j,h.Ak.mono s.le,λb o d=>by
    obtain⟨f,j⟩:=h.y b o d;have m:b<w.heap.size:=(cy.1 f).1;exact⟨(s.frame b m j).trans f,λp=>j (s.own b m p)⟩⟩
def gj.Wr{ρ ρ':Env}:∀{m:I E}{d:I ö},gj ρ m d->(∀i∈m,∀x,ρ i=O x->ρ' i=O x)->gj ρ' m d
 |[],_,h,_=>h
 |i::_,_,⟨b,c,g,j,o,p⟩,f=>⟨b,c,g,f i gb _ j,o,gj.Wr p λr q=>f r (gQ _ q)⟩
def gj.unique{ρ:Env}:∀{m:I E}{d f:I ö},gj ρ m d->gj ρ m f->d=f
 |[],_,_,h,o=>Eq.trans (show _=[]from h) (show _=[]from o).symm
 |i::m,_,_,⟨b,c,A,p,q,r⟩,⟨C,G,z,g,u,j⟩=>by
  rw[p]at g;cases g;rw[q,u,gj.unique r j]
def Kept.re{X:Ext}{ρ ρ':Env}{H H':ai}{w:du}(h:Kept X ρ H w)(j:cR ρ ρ')(q:H.next<=H'.next)(p:∀b,Own ρ' H' b->Own ρ H b)(u:∀b A,ρ'.fz b=O A->ρ.fz b=O A\/Own ρ H b):Kept X ρ' H' w:=
 ⟨λb o d=>⟨(h.k b o d).1,λf=>(h.k b o d).2 (p b f)⟩,λi m=>⟨iy (h.pin i m).1 q,λx r=>j _ _ ((h.pin i m).2 x r)⟩,λb A d=>j.fz _ _ (h.z b A d),h.sz,λb o d=>by
   cases z:ρ'.fz b with
   |none=>rfl
   |some A=>
    rcases u b A z with g|g
    .rw[h.OB b o d]at g;cases g
    .exact absurd g (h.k b o d).2,h.Ak.mono j,λb o d=>⟨(h.y b o d).1,λf=>(h.y b o d).2 (p b f)⟩⟩
def pinned(σ:Ren)(next:E)(l:I E):dF:=l.all λi=>dK (i+1) next&&qs σ i i
def Kept.ren{X:Ext}{ρ:Env}{H:ai}{a:Zq}{w:du}{P:fd}{B n:E}{T:au af}{σ:Ren}{s:bD}(h:Kept X ρ H w)(m:fS P B ρ n T H a w)(p:fit P σ n T H s)(q:pinned σ s.H.next X.pins=D):Kept X (ren σ ρ) s.H w:=
 ⟨λb o d=>⟨(h.k b o d).1,λg=>(h.k b o d).2 (Wq m p g)⟩,
   λi f=>by
    have:=ky.1 q i (UR _ f);rw[ae]at this;exact⟨b5 this.1,λx j=>Ai this.2 ((h.pin i f).2 x j)⟩,
   h.z,h.sz,h.OB,h.Ak.Wr λi f x j=>by
    have:=ky.1 q i (I.mem_append_left _ f);rw[ae]at this;exact Ai this.2 j,λb o d=>⟨(h.y b o d).1,λg=>(h.y b o d).2 (Wq m p g)⟩⟩
def R.qt(r:R)(m:I E):R:=match r with
 |.no=>.no
 |.normal T H k=>.normal T H (k++m)
 |.exit id T H k=>.exit id T H (k++m)
 |.goto l T H k=>.goto l T H (k++m)
 |.ret T H k=>.ret T H (k++m)
def aiB(r:R)(k m:I E):(r.qt k).qt m=r.qt (k++m):=by cases r<;>simp[R.qt,ot]
def Ws{r:R}{e:sC}{d:au af}{H':ai}{k m:I E}(h:r.out=O (e,d,H',k)):(r.qt m).out=O (e,d,H',k++m):=by
 cases r<;>cases h<;>rfl
def OD{P:fd}{draw:sw}:∀(fuel:E)(c:mN)(n:E)(d:dF)(T:au af)(H:ai)(m:I E),sx P draw fuel c n d T H m=(sx P draw fuel c n d T H []).qt m
 |0,_,_,_,_,_,_=>rfl
 |fuel+1,c,n,d,T,H,m=>by
  have o:=OD (P:=P) (draw:=draw) fuel;have e:∀m,sx P draw (fuel+1) c n d T H m=IB c P draw (sx P draw fuel) n d T H m:=λ_=>rfl
  rw[e,e];generalize sx P draw fuel=r at o;cases c with
  |skip=>rfl
  |region id q p=>
   show Cd m (draw p (q7 P r) zJ q n T H)=(Cd [] (draw p (q7 P r) zJ q n T H)).qt m;cases draw p (q7 P r) zJ q n T H<;>rfl
  |seq a b=>
   show @R.rec (λ_=>R) .no (λT H m=>r b n d T H m) .exit .goto .ret (r a n d T H m)=(@R.rec (λ_=>R) .no (λT H m=>r b n d T H m) .exit .goto .ret (r a n d T H [])).qt m
   rw[o a n d T H m];cases r a n d T H []with
   |no=>rfl
   |normal g f j=>
    show r b n d g f (j++m)=(r b n d g f j).qt m;rw[o b n d g f (j++m),o b n d g f j,aiB]
   |exit _ _ _ _=>rfl
   |goto _ _ _ _=>rfl
   |ret _ _ _=>rfl
  |cond c x y=>
   show @o5.rec (λ_=>R) .no (λb=>@jh (λ_=>R) (r y n d T H m) (r x n d T H m) b) (iX (cF T c))=(@o5.rec (λ_=>R) .no (λb=>@jh (λ_=>R) (r y n d T H []) (r x n d T H []) b) (iX (cF T c))).qt m
   cases iX (cF T c)with
   |no=>rfl
   |mk b=>cases b<;>exact o _ _ _ _ _ _
  |block id b=>
   show @R.rec (λ_=>R) .no .normal (λi T H m=>@jh (λ_=>R) (.exit i T H m) (.normal T H m) (dd i id)) .goto .ret (r b n d T H m)=(@R.rec (λ_=>R) .no .normal (λi T H m=>@jh (λ_=>R) (.exit i T H m) (.normal T H m) (dd i id)) .goto .ret (r b n d T H [])).qt m
   rw[o b n d T H m];cases r b n d T H []with
   |no=>rfl
   |normal _ _ _=>rfl
   |exit i g f j=>
    show @jh (λ_=>R) (.exit i g f (j++m)) (.normal g f (j++m)) (dd i id)=(@jh (λ_=>R) (.exit i g f j) (.normal g f j) (dd i id)).qt m
    cases dd i id<;>rfl
   |goto _ _ _ _=>rfl
   |ret _ _ _=>rfl
  |loop b=>rfl
  |rangeFunc u ps a b=>rfl
  |exit id=>rfl
  |scope b=>
   show @R.rec (λ_=>R) .no .normal .exit (λ_ _ _ _=>.no) .ret (r b n d T H m)=(@R.rec (λ_=>R) .no .normal .exit (λ_ _ _ _=>.no) .ret (r b n d T H [])).qt m
   rw[o b n d T H m];cases r b n d T H []<;>rfl
  |label _=>rfl
  |goto _=>rfl
  |ret=>rfl
  |refuse _=>rfl
def Wt{P:fd}{bB:bL}:∀(fuel:E)(c:mN)(n:E)(T:au af)(H:ai)(m:I E),sK P bB fuel c n D T H m=sK P bB fuel c n ao T H m
 |0,_,_,_,_,_=>rfl
 |fuel+1,c,n,T,H,m=>by
  have d:=Wt (P:=P) (bB:=bB) fuel;show CK P (CJ bB (Af P (sK P bB fuel))) (sK P bB fuel) c n D T H m=CK P (CJ bB (Af P (sK P bB fuel))) (sK P bB fuel) c n ao T H m;cases c<;>simp only[CK,d]
def Wu{P:fd}{bB:bL}(fuel:E)(c:mN)(n:E)(r:dF)(T:au af)(H:ai)(m:I E):sK P bB fuel c n r T H m=sK P bB fuel c n ao T H m:=by
 cases r with
 |false=>rfl
 |true=>exact Wt fuel c n T H m
def CR(Q:sC->au af->ai->Prop):R->Prop
 |.normal T H []=>Q .normal T H
 |.exit id T H []=>Q (.exit id) T H
 |.ret T H []=>Q .ret T H
 |_=>lm
def iO(d:au af->ai->Prop)(Q:sC->au af->ai->Prop):sC->au af->ai->Prop
 |.normal,T,H=>d T H
 |e,T,H=>Q e T H
def CS(id:E)(Q:sC->au af->ai->Prop):sC->au af->ai->Prop
 |.exit i,T,H=>if i=id then Q .normal T H else Q (.exit i) T H
 |e,T,H=>Q e T H
def cat:mN->I E->mN
 |c,[]=>c
 |.seq a _,0::p=>cat a p
 |.seq _ b,_::p=>cat b p
 |.cond _ a _,0::p=>cat a p
 |.cond _ _ b,_::p=>cat b p
 |.block _ b,_::p=>cat b p
 |.loop b,_::p=>cat b p
 |.scope b,_::p=>cat b p
 |.rangeFunc _ _ a _,0::p=>cat a p
 |.rangeFunc _ _ _ b,_::p=>cat b p
 |_,_=>.skip
section
variable{P:fd}{w0:du}{F:Env}{n:E}{T:au af}{H:ai}{Q:sC->au af->ai->Prop}{c x y:mN}
def Wv{r:R}(h:CR Q r):∃e f d,r.out=O (e,f,d,[])/\Q e f d:=by
 unfold CR at h;split at h
 .exact⟨_,_,_,rfl,h⟩
 .exact⟨_,_,_,rfl,h⟩
 .exact⟨_,_,_,rfl,h⟩
 .exact h.elim
def Goal.mono{X:Ext}{f:sC->au af->ai->Prop}(h:fm X P w0 F n c T H Q)(p:∀e T H,Q e T H->f e T H):fm X P w0 F n c T H f:=λa w q k=>
 zS (h a w q k) λ_ _ _ d=>by
  rcases d with⟨j,g,m,o⟩|d
  .exact .inl ⟨j,g,p _ _ _ m,o⟩
  .exact .inr d
def Goal.run{X:Ext}(r:gi P)(d:P.follows .mixedOrders=D){bB:bL}(W:bI P (bJ bB))(fuel:E)(G:I dF)(h:(sK P bB fuel c n ao T H []).path G (CR Q)):fm X P w0 F n c T H Q:=by
 intro a w g k;obtain⟨m,f,U⟩:=aD.wE _ _ h;obtain⟨e,p,o,C,A⟩:=Wv U;rw[<-Wu fuel c n X.rd.isSome]at f;have j:=rh (P:=P) (bB:=bB) fuel c n X.rd.isSome T H [] m f (by rintro rfl;cases C);have V:Cs P (sx P (qq P (bJ bB)) fuel):=NJ r (FB r d W) fuel;have d:(sx P (qq P (bJ bB)) fuel c n X.rd.isSome T H X.m).out=O (e,p,o,X.m):=by rw[OD,j];exact Ws C
 obtain⟨ρ,j,u,q,m⟩:=g.ex;refine V.dc _ _ _ _ _ _ _ _ _ _ d w0.heap.size ρ a w X.rd k _ rfl j (by rw[g.defers];exact m.Ak) (λi f _=>u i f) λρ' r z M d S=>?_
 refine .inl ⟨p,o,A,⟨⟨ρ',M,λi z=>?_,λb A f=>?_,OC m d⟩,g.below.trans (d.below j.H),S.unique (m.Ak.mono d.le)⟩⟩
 .rw[d.ext i (.inr z)];exact u i (cD d.next z)
 .rcases d.o8 b A f with h|h|⟨i,k,c,m,J,K⟩
  .exact q b A h
  .exact .inr (cD g.below.size h)
  .obtain⟨d,f,o,q,_,_,L⟩:=j.H.blk i k m;rw[K]at q;cases q;exact .inr (L J)
def mR.qu{X:Ext}{a:Zq}{w:du}{σ:Ren}{s:bD}(d:mR X P w0 F n T H a w)(h:fit P σ n T H s)(p:pinned σ s.H.next X.pins=D):mR X P w0 F n s.T s.H a w:=by
 obtain⟨ρ,f,q,m,o⟩:=d.ex;obtain⟨g,j⟩:=aiv f h;exact⟨⟨ren σ ρ,g,j,m,o.ren f h p⟩,d.below,d.defers⟩
def Goal.qu{X:Ext}{σ:Ren}{s:bD}(h:fit P σ n T H s)(d:fm X P w0 F n c s.T s.H Q)(f:pinned σ s.H.next X.pins=D:=by rfl):fm X P w0 F n c T H Q:=λa w g k=>d a w (g.qu h f) k
def Goal.seq{X:Ext}(p:c=.seq x y)(h:fm X P w0 F n x T H (iO (λT H=>fm X P w0 F n y T H Q) Q)):fm X P w0 F n c T H Q:=by
 subst p;intro a w q k;refine wpIn_seq (zS (h a w q k) λe m r d=>?_);rcases d with⟨o,j,f,g⟩|⟨rfl,d⟩
 .cases e with
  |normal=>exact f m r g k
  |_=>exact .inl ⟨o,j,f,g⟩
 .exact .inr ⟨rfl,d⟩
def Goal.block{X:Ext}{id:E}(p:c=.block id x)(h:fm X P w0 F n x T H (CS id Q)):fm X P w0 F n c T H Q:=by
 subst p;intro a w q k;refine wpIn_block (zS (h a w q k) λe r u m=>?_);rcases m with⟨g,f,d,j⟩|⟨rfl,m⟩
 .cases e with
  |exit i=>
   show if i=id then _ else _
   have d:if i=id then Q .normal g f else Q (.exit i) g f:=d
   by_cases o:i=id
   .rw[dA o]at d ⊢;exact .inl ⟨g,f,d,j⟩
   .rw[db o]at d ⊢;exact .inl ⟨g,f,d,j⟩
  |_=>exact .inl ⟨g,f,d,j⟩
 .exact .inr ⟨rfl,m⟩
def Goal.scope{X:Ext}(o:c=.scope x)(h:fm X P w0 F n x T H (λe T H=>(∀l,e≠ .goto l)/\Q e T H)):fm X P w0 F n c T H Q:=by
 subst o;intro a w p k;refine NG (zS (h a w p k) λe q r d=>?_);rcases d with⟨j,g,f,m⟩|⟨rfl,d⟩
 .cases e with
  |goto l=>exact absurd rfl (f.1 l)
  |_=>exact .inl ⟨j,g,f.2,m⟩
 .exact .inr ⟨rfl,d⟩
def Goal.loop{X:Ext}{A:Type}(U:c=.loop x)(d:A->bD)(f:A->E)(L:Ren)(p:A)(S:fit P L n T H (d p))
  (step:∀i,fm X P w0 F n x (d i).T (d i).H (iO (λT H=>∃σ q,f q<f i/\fit P σ n T H (d q)) Q)) (K:∀σ i,pinned σ (d i).H.next X.pins=D:=by exact λ_ _=>rfl):fm X P w0 F n c T H Q:=by
 subst U;refine Goal.qu S ?_ (K _ _);have W:∀m i,f i<m->∀a w,mR X P w0 F n (d i).T (d i).H a w->∀k,mN.roundsIn (eZ X.rd) k P x (λe j r=>(∃o g,Q e o g/\mR X P w0 F n o g j r)\/(e=.ret/\X.R j r)) m a w:=by
  intro m;induction m with
  |zero=>intro i J;exact absurd J (E.not_lt_zero _)
  |succ m V=>
   intro i J a w z k;rw[roundsIn_succ];refine zS (step i a w z k) λe j r u=>?_
   rcases u with⟨o,g,C,G⟩|⟨rfl,u⟩
   .cases e with
    |normal=>
     obtain⟨σ,q,d,M⟩:=C;exact V q ω j r (G.qu M (K _ _)) k
    |_=>exact .inl ⟨o,g,C,G⟩
   .exact .inr ⟨rfl,u⟩
 intro a w z k;exact wpIn_loop_rounds (f p+1) (W (f p+1) p (gR _) a w z k)
end
def aq.nS:aq->dF
 |.list _ _=>ao
 |.ptr _=>ao
 |.pair a b=>a.nS&&b.nS
 |_=>D
mutual
def cV(fresh:dF)(H:ai):af->af->Prop
 |.raw (.slice bs 0 0),.bh _ _ ys=>ys=[]
 |.raw a,.raw b=>Ah a b
 |.bh z t xs,.bh o u ys=>jw (!fresh) (Jl z o ys.length (rz t u xs ys))
 |.bZ e t i k d _,.bh z u ys=>jw (bP (t=u)&&(!fresh||t.nS)) (d=ys.length/\ys=((bu u (H.get i)).drop k).take d/\(d=0\/bx e u (H.get i) (k+d-1)=D)/\(z=D->d≠0))
 |.slice i j n _,.bh z u ys=>(match H.get i with
   |some (.cells _ g _ _ ao)=>jw (!fresh||u.nS) (match u.qY n (cut g j (n*u.size))with
    |some m=>m=ys/\(dK (j+n*u.size) g.length&&(!z||dK 1 n))=D
    |none=>lm)
   |_=>lm)
 |.agg l,.agg f=>wG fresh H l f
 |.tuple l,.tuple f=>wG fresh H l f
 |_,_=>lm
def wG(fresh:dF)(H:ai):I af->I af->Prop
 |[],[]=>True
 |v::l,f::d=>cV fresh H v f/\wG fresh H l d
 |_,_=>lm
end
structure nT(w:du)(F:Env):Prop where
 uv:∀i x,F i=O x->i<64
 all:∀g,g<64->∃c,F g=O (g,c)
 fz:∀b A,F.fz b=O A->∃e fr,w.heap[b]? =O (.cells A e fr)
def sN(F:Env):Prop:=∀b p,Ground.g b=O p->∃A,F.fz b=O A/\p A
def Holds(P:fd)(fresh:dF)(f:ya)(args:I af)(res:af):Prop:=
 ∀(w:du)(F:Env)(xs:I Value),nT w F->sN F->aE F args xs->DG P f xs.toArray w λe g=>∃x d,e=.returned x/\Den d res x/\nT g d/\(∀b A,d.fz b=O A->(fresh=ao/\F.fz b=O A)\/w.heap.size<=b)/\Below w.heap.size w g
def H0:ai:=⟨.nil,64⟩
def ew(P:fd)(fresh:dF)(fn:Ö)(res:af):sC->au af->ai->Prop:=λe T H=>match e with
 |.normal|.ret=>(match lB P fn T H with |.ok v _=>cV fresh H v res|_=>lm)
 |_=>lm
section
variable{P:fd}
def jx(w:du)(b:E):da (fh Value):=match w.heap[b]? with
 |some (.cells A _ _)=>O A
 |_=>bs
def bm{w:du}{b:E}{A:fh Value}:jx w b=O A↔ ∃e d,w.heap[b]? =O (.cells A e d):=by
 unfold jx;constructor
 .intro h;split at h
  .rename_i g e d f;cases h;exact⟨e,d,f⟩
  .cases h
 .rintro⟨e,d,h⟩;rw[h]
def FI(fresh:dF)(d:E)(w:du)(F:Env):Env:=⟨F.at',λb=>if d<=b then jx w b else if fresh then bs else F.fz b⟩
def Al{ρ ρ':Env}:∀(t:aq)(d:t.den) ys,t.nS=D->aE ρ (t.cells d) ys->aE ρ' (t.cells d) ys
 |.int _,d,ys,_,h=>by cases h with |cons f g=>cases g;rw[f.cu];exact .cons (.raw _) .nil
 |.bool,d,ys,_,h=>by cases h with |cons f g=>cases g;rw[f.cu];exact .cons (.raw _) .nil
 |.str,d,ys,_,h=>by cases h with |cons f g=>cases g;rw[f.cu];exact .cons (.raw _) .nil
 |.list z t,d,ys,j,h=>by cases j
 |.pair a b,d,ys,j,h=>by
   simp only[aq.nS,ae]at j;obtain⟨m,o,rfl,f,g⟩:=aE.split (a:=a.cells d.1) (b:=b.cells d.2) h;exact(Al a d.1 m j.1 f).append (Al b d.2 o j.2 g)
 |.ptr t,d,ys,j,h=>by cases j
 |.unit,d,ys,_,h=>by cases h;exact .nil
variable{w0 w:du}{F ρ:Env}{H:ai}{fresh:dF}
mutual
def Jo(r:bl P w0.heap.size ρ H w)(a0:∀b A,ρ.fz b=O A->F.fz b=O A\/w0.heap.size<=b):∀{v v':af}{x:Value},cV fresh H v v'->Den ρ v x->Den (FI fresh w0.heap.size w F) v' x:=by
 intro v v' x h z;have M:fresh=ao->∀b A,ρ.fz b=O A->(FI fresh w0.heap.size w F).fz b=O A:=λg b A f=>by
  show(if w0.heap.size<=b then jx w b else if fresh then bs else F.fz b)=O A;by_cases d:w0.heap.size<=b
  .rw[dA d];exact bm.2 (r.fz b A f).1
  .rw[db d,g];rcases a0 b A f with h|h
   .exact h
   .exact absurd h d
 unfold cV at h;split at h
 .subst h;rw[z.cu];exact .ff λ_=>⟨rfl,rfl⟩
 .rw[z.cu,Wk h];exact .raw _
 .rename_i a2 t xs d u ys;obtain⟨f,d⟩:=kA h;obtain⟨d,p⟩:=Wj d;obtain⟨e,rfl⟩:=rx d;subst e;have g:fresh=ao:=by simpa using f
  rcases z.wj with⟨rfl,a,k,rfl,o⟩|⟨b,off,k,A,j,S,K,m,rfl,q⟩
  .exact .ff λe=>(p e).elim o λG=>absurd rfl G
  .exact .bh (M g _ _ j) S rfl (pz (λo ys=>oH (M g) t o ys) _ _ K) m λe=>(p e).elim q λG m=>G (by subst m;rfl)
 .rename_i e t i k J a3 a2 u ys;obtain⟨f,d,p,m,q⟩:=kA h;rw[ae]at f;obtain⟨f,L⟩:=f;have f:=cC f;subst f;rcases z.kW with⟨C,a,rfl⟩|⟨b,c,U,j,S,K,rfl⟩
  .subst C;have:ys=[]:=ix d.symm;subst this;exact .ff λe=>absurd rfl (q e)
  .rcases m with C|m
   .subst C;have:ys=[]:=ix d.symm;subst this;exact .ff λe=>absurd rfl (q e)
   .obtain⟨V,S⟩:=xZ m;by_cases C:J=0
    .subst C;have:ys=[]:=ix d.symm;subst this;exact .ff λe=>absurd rfl (q e)
    .obtain⟨m,q1,U,_⟩:=ug r V j;generalize bu t (H.get i)=xs at V S p U;have a':w0.heap.size<=b:=by
      obtain⟨b',c',a6,q,_,_,W⟩:=r.blk i _ V;rw[j]at q;cases q;exact W rfl
     have a1:k+J<=xs.length:=by omega
     have q:(xs.drop k).take J=(xs.take (k+J)).drop k:=by rw[I.take_drop]
     have S:=Fk (off:=0) (A:=m.toList) (l:=k) (h:=k+J) (by simpa using U) ω a1;rw[bC,<-q,<-p]at S;rw[d];refine .bh (A:=m) ?_ ?_ rfl ?_ ω (λe J=>by subst J;exact C d)
     .show(if w0.heap.size<=b then jx w b else _)=O m;rw[dA a'];exact bm.2 ⟨_,_,q1⟩
     .have V:=S.length;have:k*t.size+(t.flat ys).length<=m.toList.length:=by
       have C:(t.flat xs).length<=m.toList.length:=by
        have:=U.length;simp at this ⊢;omega
       rw[t.jF]at C ⊢;rw[<-d,<-Gz];exact cD (Hr _ a1) C
      simpa using this
     .cases g:fresh with
      |true=>
       rw[g]at L;have L:t.nS=D:=by simpa using L
       exact pz (λo ys=>Al t o ys L) _ _ S
      |false=>rw[<-g];exact pz (λo ys=>oH (M g) t o ys) _ _ S
 .rename_i i off n a3 a2 u ys;split at h
  .rename_i e a4 x C L;obtain⟨f,d⟩:=kA h;split at d
   .rename_i C a5;obtain⟨rfl,p⟩:=d;rw[ae]at p;obtain⟨S,U⟩:=p;have S:=b5 S;obtain⟨b,c,k,j,_,K,rfl⟩:=z.jv;obtain⟨m,a9,q1,_,p,_,_,S⟩:=nO r L j;have S:=(p.drop off).take (n*u.size);obtain⟨p,G⟩:=aq.Ci a5 S;subst G;have G:=u.jF C;have V:((m.toList.take a4.length).drop off).take (C.length*u.size)=(m.toList.drop off).take (u.flat C).length:=by
     rw[G,I.drop_take,KE,ns ω]
    rw[V]at p;have a':w0.heap.size<=b:=by
     obtain⟨b',c',a6,q,_,_,W⟩:=r.blk i _ L;rw[j]at q;cases q;exact W rfl
    refine .bh (A:=m) ?_ (by rw[G];omega) rfl ?_ K λe J=>?_
    .show(if w0.heap.size<=b then jx w b else _)=O m;rw[dA a'];exact bm.2 ⟨_,_,q1⟩
    .cases g:fresh with
     |true=>
      rw[g]at f;have f:u.nS=D:=by simpa using f
      exact pz (λo ys=>Al u o ys f) _ _ p
     |false=>rw[<-g];exact pz (λo ys=>oH (M g) u o ys) _ _ p
    .subst e;subst J;cases U
   .exact d.elim
  .exact h.elim
 .obtain⟨xs,j,rfl⟩:=z.uf;exact .agg (OE r a0 h j)
 .obtain⟨xs,j,rfl⟩:=z.Fg;exact .tuple (OE r a0 h j)
 .exact h.elim
def OE(d:bl P w0.heap.size ρ H w)(g:∀b A,ρ.fz b=O A->F.fz b=O A\/w0.heap.size<=b):∀{v v':I af}{x:I Value},wG fresh H v v'->aE ρ v x->aE (FI fresh w0.heap.size w F) v' x:=by
 intro v v' x h f;unfold wG at h;split at h
 .cases f;exact .nil
 .cases f with
  |cons j m=>exact .cons (Jo d g h.1 j) (OE d g h.2 m)
 .exact h.elim
end
def holds_of{f:ya}{fn:Ö}{c:mN}{args:I af}{res:af}(a6:P.funcs[f]? =O fn)(d:fn.body=O c)(b2:args.length<=fn.ntmps)
  (h:∀w F,Goal P w F fn.ntmps c (gI args .nil 0) H0 (ew P fresh fn res)):Holds P fresh f args res:=by
 intro w F xs o a0 a4;have b':=h w F;have a2:bl P w.heap.size F H0 w:=⟨λi k h=>(by rw[show H0.get i=bs from au.get_nil i]at h;cases h),λi c5 c3 c2 b c0 c1 h=>(by rw[show H0.get i=bs from au.get_nil i]at h;cases h),λi k h=>(by rw[show H0.get i=bs from au.get_nil i]at h;cases h),aC _,
  λb A h=>⟨o.fz b A h,λi k c j=>(by rw[show H0.get i=bs from au.get_nil i]at j;cases j)⟩⟩
 have b3:Sat P w F fn.ntmps (gI args .nil 0) H0 {tmps:=xs.toArray++fh.replicate (fn.ntmps-xs.toArray.size) lk,defers:=[]} w:=by
  refine⟨⟨F,⟨Fo a4 b2,a2,o.all,a0⟩,λi j=>?_,λb A h=>.inl h,⟨λb U h=>(by cases h),λi j=>(by cases j),λb A h=>(by cases h),gt _,λb U h=>(by cases h),rfl,λb U h=>(by cases h)⟩⟩,qg _ _,rfl⟩;have j:64<=i:=j;cases W:F i with
  |none=>rfl
  |some x=>exact absurd (o.uv i x W) ω
 suffices a3:GC (eZ bs) 0 P f xs.toArray w (λe m=>∃x g,e=.returned x/\Den g res x/\nT m g/\(∀b A,g.fz b=O A->(fresh=ao/\F.fz b=O A)\/w.heap.size<=b)/\Below w.heap.size w m)from wQ.1 a3
 refine Ã a6 d trivial (zS (b' _ _ b3 0) λe C m b1=>?_);obtain⟨G,r,J,z⟩:=b1.resolve_right λb4=>b4.2
 obtain⟨ρ,u,c4,a9,_⟩:=z.ex;have a5:=z.defers;have S:(match lB P fn G r with |.ok v _=>cV fresh r v res|_=>lm)->LeavesInM (eZ bs) 0 P fn C.tmps (λe m=>∃x g,e=.returned x/\Den g res x/\nT m g/\(∀b A,g.fz b=O A->(fresh=ao/\F.fz b=O A)\/w.heap.size<=b)/\Below w.heap.size w m) C.defers .returning m:=by
  intro K;split at K
  .rename_i v H2 M;have c':gj ρ [] C.defers:=a5;refine gE (T:=G) (H:=r) [] u c' (show lW P fn G r []=.ok v H2 from M) λy L r1 r2 V=>?_
   obtain⟨rfl,_⟩:=IY u M;refine⟨y,FI fresh w.heap.size L F,rfl,Jo r2 a9 K r1,⟨o.uv,o.all,λb A d=>?_⟩,λb A d=>?_,z.below.trans (V.below u.H)⟩
   .have d:(if w.heap.size<=b then jx L b else if fresh then bs else F.fz b)=O A:=d;by_cases p:w.heap.size<=b
    .rw[dA p]at d;exact bm.1 d
    .rw[db p]at d;cases q:fresh with
     |true=>rw[q]at d;cases d
     |false=>
      rw[q]at d;obtain⟨e,a1,h3⟩:=o.fz b A d;exact⟨e,a1,((z.below.trans (V.below u.H)).block b ω).trans h3⟩
   .have d:(if w.heap.size<=b then jx L b else if fresh then bs else F.fz b)=O A:=d;by_cases p:w.heap.size<=b
    .exact .inr p
    .rw[db p]at d;cases q:fresh with
     |true=>rw[q]at d;cases d
     |false=>rw[q]at d;exact .inl ⟨rfl,d⟩
  .exact K.elim
 cases e with
 |normal=>exact S J
 |ret=>exact S J
 |_=>exact J.elim
end
end
end
section
variable[Ground]
noncomputable section
def jI:I aq->Type
 |[]=>Unit
 |t::l=>t.den×jI l
def FJ{g:Type}(H:ai)(cX z:dF)(t:aq)(no:aD g)(l:I af)(f:I t.den->I af->aD g):aD g:=match l with
 |.bh q p xs::r=>if h:p=t then(match !z||q with |true=>f (h ▸ xs) r|false=>.must (dK 1 xs.length) (f (h ▸ xs) r))else no
 |.raw (.slice bs 0 0)::r=>f [] r
 |.bZ e u i k d _::r=>(match cX&&(bP (u=t)&& !z)with
   |true=>.must (dd d 0||bx e t (H.get i) (k+d-1)) (f (((bu t (H.get i)).drop k).take d) r)
   |false=>no)
 |.slice i m n _::r=>(match cX&& !z,H.get i with
   |true,O (.cells _ j _ _ _)=>(match dK (m+n*t.size) j.length,t.qY n (cut j m (n*t.size))with
    |true,O o=>f o r
    |_,_=>no)
   |_,_=>no)
 |_=>no
def aq.ye{d:Type}(H:ai)(cX:dF)(no:aD d):(t:aq)->I af->(t.den->I af->aD d)->aD d
 |.int k,l,f=>match BW k l with |some (x,r)=>f x r|none=>no
 |.bool,l,f=>match BX l with |some (x,r)=>f x r|none=>no
 |.str,l,f=>match BZ l with |some (x,r)=>f x r|none=>no
 |.list z t,l,f=>FJ H cX z t no l f
 |.pair a b,l,f=>a.ye H cX no l λx r=>b.ye H cX no r λy r=>f (x,y) r
 |.ptr t,l,f=>match B0 t l with |some (x,r)=>f x r|none=>no
 |.unit,l,f=>f () l
def aq.isAgg:aq->dF
 |.pair _ _=>D
 |.unit=>D
 |_=>ao
def FK{g:Type}(H:ai)(cX:dF)(no:aD g)(t:aq)(v:af)(f:t.den->aD g):aD g:=match t.isAgg,v with
 |true,.agg j=>t.ye H cX no j λd r=>match r with |[]=>f d|_=>no
 |true,_=>no
 |false,v=>t.ye H cX no [v] λd r=>match r with |[]=>f d|_=>no
def pC{d:Type}(H:ai)(cX:dF)(no:aD d):(ps:I aq)->I af->(jI ps->aD d)->aD d
 |[],[],f=>f ()
 |t::ps,v::m,f=>FK H cX no t v λg=>pC H cX no ps m λj=>f (g,j)
 |_,_,_=>no
def uw(t:aq)(d:t.den):af:=match t.isAgg with
 |true=>.agg (t.cells d)
 |false=>(t.cells d).headD .bot
def lI:(f:I aq)->jI f->I af
 |[],_=>[]
 |t::l,d=>uw t d.1::lI l d.2
def qv(f:I aq)(d:jI f):af:=match lI f d with
 |[v]=>v
 |g=>.tuple g
structure bq where
 f:ya
 ps:I aq
 rs:I aq
 fresh:dF
 pre:jI ps->dF
 fn:jI ps->jI rs
noncomputable def IN(f:ya)(ps d:I aq)(h:dF)(p:jI ps->dF)(n:jI ps->jI d):bq:=⟨f,ps,d,h,p,n⟩
noncomputable def NO(f:Ö):mN:=f.body.getD .skip
def bq.Ok(P:fd)(c:bq):Prop:=∀d,c.pre d=D->Holds P c.fresh c.f (lI c.ps d) (qv c.rs (c.fn d))
def Am(c:bq)(args:I af)(H:ai):aD aM:=pC H c.fresh (.ret .no) c.ps args λd=>.must (c.pre d) (.ret (.ok (qv c.rs (c.fn d)) H))
def aA:I bq->bL
 |[],_,_,_=>.ret .no
 |c::l,f,d,H=>match dd f c.f with |true=>Am c d H|false=>aA l f d H
section
variable{P:fd}{B:E}{ρ:Env}{H:ai}{w:du}
def k4(cX:dF)(w:du)(ρ:Env):Env:=⟨λi=>if i<64 then ρ i else bs,λb=>if cX then jx w b else ρ.fz b⟩
def Ww(d:bl P B ρ H w)(cX:dF):∀b A,ρ.fz b=O A->(k4 cX w ρ).fz b=O A:=λb A h=>by
 cases cX with
 |true=>exact bm.2 (d.fz b A h).1
 |false=>exact h
def An(f:bl P B ρ H w)(cX:dF){t:aq}{d:t.den}{ys:I Value}(h:aE ρ (t.cells d) ys):aE (k4 cX w ρ) (t.cells d) ys:=oH (Ww f cX) t d ys h
def aiE{d:Type}(q:bl P B ρ H w){cX z:dF}{t:aq}{no:aD d}{b:d}(L:no.gr≠O b){l:I af}{f:I t.den->I af->aD d}(h:(FJ H cX z t no l f).gr=O b):
  ∃xs r,(f xs r).gr=O b/\∀ys,aE ρ l ys->∃M S,ys=M++S/\aE (k4 cX w ρ) [.bh z t xs] M/\aE ρ r S:=by
 unfold FJ at h;split at h
 .rename_i m j xs r;split at h
  .rename_i e;subst e;have g:∀(d:z=D->m=D\/xs≠[]) ys,aE ρ (.bh m j xs::r) ys->∃M S,ys=M++S/\aE (k4 cX w ρ) [.bh z j xs] M/\aE ρ r S:=by
    intro d ys p;cases p with
    |cons j m=>
     refine⟨[_],_,rfl,.cons ?_ .nil,m⟩;rcases j.wj with⟨rfl,a,k,rfl,C⟩|⟨b,off,k,A,J,G,V,o,rfl,u⟩
     .exact .ff λe=>(d e).elim C λh=>absurd rfl h
     .exact .bh (Ww q cX _ _ J) G rfl (pz (λa' ys=>An q cX) _ _ V) o λe=>(d e).elim u id
   split at h
   .rename_i d;exact⟨xs,r,h,g λe=>.inl (by subst e;simpa using d)⟩
   .cases o:dK 1 xs.length with
    |false=>simp only[o,aD.gr,sd]at h;cases h
    |true=>
     simp only[o,aD.gr,ka]at h;exact⟨xs,r,h,g λe=>.inr λg=>by subst g;cases o⟩
  .exact absurd h L
 .rename_i r;refine⟨[],r,h,λys p=>?_⟩;cases p with
  |cons j m=>
   refine⟨[_],_,rfl,.cons ?_ .nil,m⟩;rw[j.cu];exact .ff λ_=>⟨rfl,rfl⟩
 .rename_i e u i k g a0 r;split at h
  .rename_i K;simp only[ae,aN]at K;obtain⟨o,C,d⟩:=K;subst C;subst o;have d:z=ao:=by simpa using d
   subst d;cases C:(dd g 0||bx e u (H.get i) (k+g-1))with
   |false=>rw[C]at h;cases h
   |true=>
    rw[C]at h;refine⟨_,r,h,λys p=>?_⟩;cases p with
    |cons j m=>
     refine⟨[_],_,rfl,.cons ?_ .nil,m⟩;rcases j.kW with⟨rfl,a,rfl⟩|⟨b,c,a2,J,G,V,rfl⟩
     .rw[GD];exact .ff λe=>by cases e
     .rw[qh]at C;by_cases G:g=0
      .subst G;rw[GD];exact .ff λe=>by cases e
      .have C:=C.resolve_left λe=>G (ac e)
       obtain⟨S,U⟩:=xZ C;obtain⟨G,M,C,_⟩:=ug q S J;generalize bu u (H.get i)=xs at S U C ⊢;have S:k+g<=xs.length:=by omega
       have W:(xs.drop k).take g=(xs.take (k+g)).drop k:=by rw[I.take_drop]
       have U:=Fk (off:=0) (A:=G.toList) (l:=k) (h:=k+g) (by simpa using C) ω S;rw[bC,<-W]at U;have W:((xs.drop k).take g).length=g:=by simp;omega
       have a1:=Den.bh (ρ:=k4 D w ρ) (z:=ao) (t:=u) (xs:=(xs.drop k).take g) (b:=b) (off:=k*u.size) (k:=a2) (A:=G) (bm.2 ⟨_,_,M⟩) (by
        have g:(u.flat xs).length<=G.toList.length:=by
         have:=C.length;simp at this ⊢;omega
        rw[u.jF]at g ⊢;rw[W,<-Gz];have:=cD (Hr u.size S) g;simpa using this) rfl (pz (λa' ys=>An q D) _ _ U) ω (λe=>by cases e)
       rwa[W]at a1
  .exact absurd h L
 .rename_i i off n a0 r;split at h
  .rename_i e u x C S K g;rw[ae]at K;obtain⟨o,d⟩:=K;subst o;have d:z=ao:=by simpa using d
   subst d;split at h
   .rename_i U d o;have d:=b5 d;refine⟨U,r,h,λys p=>?_⟩;cases p with
    |cons j m=>
     refine⟨[_],_,rfl,.cons ?_ .nil,m⟩;obtain⟨b,c,k,J,_,V,rfl⟩:=j.jv;obtain⟨G,m,M,_,d,_,_,j⟩:=nO q g J;have j:=(d.drop off).take (n*t.size);obtain⟨g,W⟩:=aq.Ci o j;subst W;have d:=t.jF U;have j:((G.toList.take u.length).drop off).take (U.length*t.size)=(G.toList.drop off).take (t.flat U).length:=by
      rw[d,I.drop_take,KE,ns ω]
     rw[j]at g;exact .bh (bm.2 ⟨_,_,M⟩) (by rw[d];omega) rfl (pz (λa' ys=>An q D) _ _ g) V λe=>by cases e
   .exact absurd h L
  .exact absurd h L
 .exact absurd h L
def aiF{g:Type}{cX z:dF}{t:aq}{no:aD g}{b:g}(d:no.gr≠O b){l:I af}{f:I t.den->I af->aD g}(h:(FJ H cX z t no l f).gr=O b):∃xs r,(f xs r).gr=O b:=by
 unfold FJ at h;split at h
 .split at h
  .split at h
   .exact⟨_,_,h⟩
   .rename_i xs r _ _ _;cases j:dK 1 xs.length with
    |false=>simp only[j,aD.gr,sd]at h;cases h
    |true=>simp only[j,aD.gr,ka]at h;exact⟨_,_,h⟩
  .exact absurd h d
 .exact⟨_,_,h⟩
 .rename_i e u i k o p r;split at h
  .cases m:(dd o 0||bx e t (H.get i) (k+o-1))with
   |false=>rw[m]at h;cases h
   |true=>rw[m]at h;exact⟨_,_,h⟩
  .exact absurd h d
 .split at h
  .split at h
   .exact⟨_,_,h⟩
   .exact absurd h d
  .exact absurd h d
 .exact absurd h d
def m5{g:Type}{cX:dF}{no:aD g}{b:g}(d:no.gr≠O b):∀(t:aq){l:I af}{f:t.den->I af->aD g},(t.ye H cX no l f).gr=O b->∃j r,(f j r).gr=O b
 |.int k,l,f,h=>by
   have h:(match BW k l with |some (x,r)=>f x r|none=>no).gr=O b:=h;split at h
   .exact⟨_,_,h⟩
   .exact absurd h d
 |.bool,l,f,h=>by
   have h:(match BX l with |some (x,r)=>f x r|none=>no).gr=O b:=h;split at h
   .exact⟨_,_,h⟩
   .exact absurd h d
 |.str,l,f,h=>by
   have h:(match BZ l with |some (x,r)=>f x r|none=>no).gr=O b:=h;split at h
   .exact⟨_,_,h⟩
   .exact absurd h d
 |.list z t,l,f,h=>aiF d h
 |.pair a c,l,f,h=>by
   obtain⟨x,r,m⟩:=m5 d a (f:=λx r=>c.ye H cX no r λy r=>f (x,y) r) h;obtain⟨y,p,o⟩:=m5 d c m;exact⟨_,_,o⟩
 |.ptr t,l,f,h=>by
   have h:(match B0 t l with |some (x,r)=>f x r|none=>no).gr=O b:=h;split at h
   .exact⟨_,_,h⟩
   .exact absurd h d
 |.unit,l,f,h=>⟨(),l,h⟩
def FL{o:Type}{cX:dF}{no:aD o}{b:o}(g:no.gr≠O b):∀(ps:I aq){vs:I af}{f:jI ps->aD o},(pC H cX no ps vs f).gr=O b->∃d,(f d).gr=O b
 |[],[],f,h=>⟨(),h⟩
 |[],_::_,f,h=>absurd h g
 |_::_,[],f,h=>absurd h g
 |t::ps,v::vs,f,h=>by
  have h:(FK H cX no t v λd=>pC H cX no ps vs λm=>f (d,m)).gr=O b:=h;have:∃d,(pC H cX no ps vs λm=>f (d,m)).gr=O b:=by
   unfold FK at h;split at h
   .obtain⟨d,r,j⟩:=m5 g t h;cases r with
    |cons _ _=>exact absurd j g
    |nil=>exact⟨d,j⟩
   .exact absurd h g
   .obtain⟨d,r,j⟩:=m5 g t h;cases r with
    |cons _ _=>exact absurd j g
    |nil=>exact⟨d,j⟩
  obtain⟨d,j⟩:=this;obtain⟨m,p⟩:=FL g ps j;exact⟨(d,m),p⟩
def m6{z:Type}(p:bl P B ρ H w){cX:dF}{no:aD z}{b:z}(q:no.gr≠O b):∀(t:aq){l:I af}{f:t.den->I af->aD z},(t.ye H cX no l f).gr=O b->
  ∃A r,(f A r).gr=O b/\∀ys,aE ρ l ys->∃d g,ys=d++g/\aE (k4 cX w ρ) (t.cells A) d/\aE ρ r g
 |.int k,l,f,h=>by
   have h:(match BW k l with |some (x,r)=>f x r|none=>no).gr=O b:=h;split at h
   .rename_i x r u;refine⟨x,r,h,λys j=>?_⟩;obtain⟨d,g,e,m,o⟩:=aq.xY (.int k) u j;exact⟨d,g,e,An p cX m,o⟩
   .exact absurd h q
 |.bool,l,f,h=>by
   have h:(match BX l with |some (x,r)=>f x r|none=>no).gr=O b:=h;split at h
   .rename_i x r u;refine⟨x,r,h,λys j=>?_⟩;obtain⟨d,g,e,m,o⟩:=aq.xY .bool u j;exact⟨d,g,e,An p cX m,o⟩
   .exact absurd h q
 |.str,l,f,h=>by
   have h:(match BZ l with |some (x,r)=>f x r|none=>no).gr=O b:=h;split at h
   .rename_i x r u;refine⟨x,r,h,λys j=>?_⟩;obtain⟨d,g,e,m,o⟩:=aq.xY .str u j;exact⟨d,g,e,An p cX m,o⟩
   .exact absurd h q
 |.list W t,l,f,h=>aiE p q h
 |.pair a c,l,f,h=>by
   obtain⟨x,r,m,o⟩:=m6 p q a (f:=λx r=>c.ye H cX no r λy r=>f (x,y) r) h;obtain⟨y,U,M,S⟩:=m6 p q c m;refine⟨(x,y),U,M,λys j=>?_⟩;obtain⟨d,g,rfl,G,J⟩:=o ys j;obtain⟨V,C,rfl,K,L⟩:=S g J;exact⟨d++V,C,by simp,G.append K,L⟩
 |.ptr t,l,f,h=>by
   have h:(match B0 t l with |some (x,r)=>f x r|none=>no).gr=O b:=h;split at h
   .rename_i x r u;refine⟨x,r,h,λys j=>?_⟩;obtain⟨d,g,e,m,o⟩:=aq.xY (.ptr t) u j;exact⟨d,g,e,An p cX m,o⟩
   .exact absurd h q
 |.unit,l,f,h=>⟨(),l,h,λys j=>⟨[],ys,rfl,.nil,j⟩⟩
def ii{t:aq}(h:t.isAgg=ao)(d:t.den):t.cells d=[uw t d]:=by
 cases t<;>first |rfl |cases h
def aiG{z:Type}(A:bl P B ρ H w){cX:dF}{no:aD z}{b:z}(j:no.gr≠O b){t:aq}{v:af}{f:t.den->aD z}(h:(FK H cX no t v f).gr=O b):
  ∃d,(f d).gr=O b/\∀x,Den ρ v x->Den (k4 cX w ρ) (uw t d) x:=by
 unfold FK at h;split at h
 .rename_i L q;obtain⟨d,u,g,p⟩:=m6 A j t h;cases u with
  |cons _ _=>exact absurd g j
  |nil=>
   refine⟨d,g,λx r=>?_⟩;obtain⟨xs,G,rfl⟩:=r.uf;obtain⟨J,K,rfl,m,o⟩:=p xs G;cases o;unfold uw;rw[q,mS];exact .agg m
 .exact absurd h j
 .rename_i q;obtain⟨d,u,g,p⟩:=m6 A j t h;cases u with
  |cons _ _=>exact absurd g j
  |nil=>
   refine⟨d,g,λx r=>?_⟩;obtain⟨J,K,e,m,o⟩:=p [x] (.cons r .nil);cases o;rw[mS]at e;subst e;rw[ii q]at m;cases m with |cons C _=>exact C
def m7{o:Type}(p:bl P B ρ H w){cX:dF}{no:aD o}{b:o}(g:no.gr≠O b):∀(ps:I aq){vs:I af}{f:jI ps->aD o},(pC H cX no ps vs f).gr=O b->
  ∃d,(f d).gr=O b/\∀xs,aE ρ vs xs->aE (k4 cX w ρ) (lI ps d) xs
 |[],[],f,h=>⟨(),h,λxs m=>by cases m;exact .nil⟩
 |[],_::_,f,h=>absurd h g
 |_::_,[],f,h=>absurd h g
 |t::ps,v::vs,f,h=>by
  obtain⟨d,u,z⟩:=aiG p g (f:=λd=>pC H cX no ps vs λj=>f (d,j)) h;obtain⟨j,A,C⟩:=m7 p g ps u;refine⟨(d,j),A,λxs m=>?_⟩;cases m with
  |cons q r=>exact .cons (z _ q) (C _ r)
def aiH{F g:Env}(m:∀b A,F.fz b=O A->g.fz b=O A){t:aq}{d:t.den}{x:Value}(h:Den F (uw t d) x):Den g (uw t d) x:=by
 cases f:t.isAgg with
 |true=>
  unfold uw at h ⊢;rw[f]at h ⊢;obtain⟨xs,p,rfl⟩:=h.uf;exact .agg (oH m t d xs p)
 |false=>
  have q:aE F (t.cells d) [x]:=by rw[ii f];exact .cons h .nil
  have j:=oH m t d _ q;rw[ii f]at j;cases j with |cons o _=>exact o
def Wx{F g:Env}(j:∀b A,F.fz b=O A->g.fz b=O A):∀(f:I aq){d:jI f}{xs:I Value},aE F (lI f d) xs->aE g (lI f d) xs
 |[],_,_,h=>by cases h;exact .nil
 |t::l,d,_,h=>by
  cases h with
  |cons m o=>exact .cons (aiH j m) (Wx j l o)
def aiI{F g:Env}(u:∀b A,F.fz b=O A->g.fz b=O A){f:I aq}{d:jI f}{x:Value}(h:Den F (qv f d) x):Den g (qv f d) x:=by
 have C:∀l,lI f d=l->Den F (match l with |[v]=>v|m=>.tuple m) x->Den g (match l with |[v]=>v|m=>.tuple m) x:=by
  intro l z j;have o:∀xs,aE F l xs->aE g l xs:=λxs p=>by rw[<-z]at p ⊢;exact Wx u f p
  split at j
  .rename_i v;have:=o [x] (.cons j .nil);cases this with |cons q _=>exact q
  .rename_i G;obtain⟨xs,r,rfl⟩:=j.Fg;exact .tuple (o _ r)
 exact C _ rfl h
def OG{c:bq}{args:I af}{v:af}{H':ai}(h:(Am c args H).gr=O (.ok v H')):H'=H:=by
 obtain⟨g,d⟩:=FL (cX:=c.fresh) (no:=aD.ret aM.no) (b:=aM.ok v H') (by simp[aD.gr]) c.ps h;cases f:c.pre g with
 |false=>rw[f]at d;cases d
 |true=>rw[f]at d;cases d;rfl
def Hk{c:bq}(q:c.Ok P){args:I af}{v:af}{H':ai}(h:(Am c args H).gr=O (.ok v H')){xs:I Value}(m:E)(g:bl P B ρ H w)(W:qp ρ)(C:aE ρ args xs):GC (eZ bs) m P c.f xs.toArray w (pn P B ρ H w v H'):=by
 have d:=OG h;obtain⟨G,o,M⟩:=m7 (w:=w) g (cX:=c.fresh) (no:=aD.ret aM.no) (b:=aM.ok v H') (by simp[aD.gr]) c.ps h;have r:c.pre G=D/\v=qv c.rs (c.fn G):=by
  cases r:c.pre G with
  |false=>rw[r]at o;cases o
  |true=>rw[r]at o;cases o;exact⟨rfl,rfl⟩
 obtain⟨r,rfl⟩:=r;subst d;have p:nT w (k4 c.fresh w ρ):=by
  refine⟨λi x u=>?_,λL f=>?_,λb A d=>?_⟩
  .have u:(if i<64 then ρ i else bs)=O x:=u;by_cases h:i<64
   .exact h
   .rw[db h]at u;cases u
  .obtain⟨z,j⟩:=W.at' L f;exact⟨z,by show(if L<64 then ρ L else bs)=_;rw[dA f];exact j⟩
  .have d:(if c.fresh=D then jx w b else ρ.fz b)=O A:=d;cases f:c.fresh with
   |true=>rw[f]at d;exact bm.1 d
   |false=>rw[f]at d;exact(g.fz b A d).1
 have j:sN (k4 c.fresh w ρ):=λb f d=>by
  obtain⟨A,o,M⟩:=W.Cq b f d;refine⟨A,?_,M⟩;show(if c.fresh=D then jx w b else ρ.fz b)=O A;cases c.fresh with
  |true=>exact bm.2 (g.fz b A o).1
  |false=>exact o
 have f:=q G r w (k4 c.fresh w ρ) xs p j (M xs C);have j:GC (eZ bs) m P c.f xs.toArray w _:=wQ.2 f;refine j.mono ?_;rintro e f ⟨x,p,rfl,u,G,J,d⟩;have f:∀b A,ρ.fz b=O A->b<w.heap.size:=λb A h=>by
  obtain⟨⟨e,o,h⟩,_⟩:=g.fz b A h;exact(cy.1 h).1
 have r:cR ρ ⟨ρ.at',λb=>if w.heap.size<=b then p.fz b else ρ.fz b⟩:=⟨λ_ _ h=>h,λb A h=>by
  show(if w.heap.size<=b then p.fz b else ρ.fz b)=O A;rw[db (by have:=f b A h;omega)];exact h⟩
 refine⟨x,⟨ρ.at',λb=>if w.heap.size<=b then p.fz b else ρ.fz b⟩,rfl,aiI (λb A f=>?_) u,⟨λi k S=>?_,g.inj,g.lt,cD g.base d.size,λb A f=>?_⟩,
  ⟨r,λ_ _=>rfl,aC _,d.size,d.os,d.tape,d.output,λb U _=>d.block b U,λ_ _ h=>h,λ_ _ h=>h,λb A f=>?_⟩⟩
 .show(if w.heap.size<=b then p.fz b else ρ.fz b)=O A;by_cases j:w.heap.size<=b
  .rw[dA j];exact f
  .rw[db j];rcases J b A f with⟨C,q⟩|C
   .have q:(if c.fresh then jx w b else ρ.fz b)=O A:=q;rw[C]at q;exact q
   .exact absurd C j
 .obtain⟨b,z,u,J,K,M,L⟩:=g.blk i k S;have U:=(cy.1 K).1;exact⟨b,z,u,J,(d.block b U).trans K,M.mono r,L⟩
 .have f:(if w.heap.size<=b then p.fz b else ρ.fz b)=O A:=f;by_cases j:w.heap.size<=b
  .rw[dA j]at f;refine⟨G.fz b A f,λi k z S V=>?_⟩;obtain⟨r,G,u,J,K,_⟩:=g.blk i k S;have V:ρ i=O (b,z):=V;rw[V]at J;cases J;have:=(cy.1 K).1;omega
  .rw[db j]at f;obtain⟨⟨e,o,C⟩,q⟩:=g.fz b A f;exact⟨⟨e,o,(d.block b ω).trans C⟩,q⟩
 .have f:(if w.heap.size<=b then p.fz b else ρ.fz b)=O A:=f;by_cases j:w.heap.size<=b
  .exact .inr (.inl j)
  .rw[db j]at f;exact .inl f
def OI{f:ya}{args:I af}{v:af}{H':ai}:∀{l:I bq},(aA l f args H).gr=O (.ok v H')->∃c∈l,c.f=f/\(Am c args H).gr=O (.ok v H')
 |[],h=>by cases h
 |c::l,h=>by
  unfold aA at h;cases d:dd f c.f with
  |true=>rw[d]at h;exact⟨c,gb,(ac d).symm,h⟩
  |false=>
   rw[d]at h;obtain⟨g,j,m,o⟩:=OI h;exact⟨g,gQ _ j,m,o⟩
def ux{bB:bL}{f:ya}{args:I af}{v:af}{H':ai}(h:bJ bB f args H=.ok v H'):(bB f args H).gr=O (.ok v H'):=by
 unfold bJ at h;cases d:(bB f args H).gr with
 |none=>rw[d]at h;cases h
 |some r=>rw[d]at h;rw[show r=.ok v H' from h]
def dw{l:I bq}(r:∀c∈l,c.Ok P):bI P (bJ (aA l)) where
 mono m g H v f h:=by
  obtain⟨c,_,_,d⟩:=OI (ux h);rw[OG d];exact aC _
 dc m g H v f h B ρ xs w u p j q z:=by
  obtain⟨c,o,rfl,d⟩:=OI (ux h);exact Hk (r c o) d u p j q
end
end
end
section
variable[Ground]
noncomputable section
def uy:mN->I mN
 |.seq a b=>uy a++uy b
 |c=>[c]
def fl(c:mN)(p:I E):I mN:=uy (cat c p)
def CU:E:=400
def jJ(P:fd)(bB:bL)(n:E):I mN->au af->ai->aD R
 |[],T,H=>.ret (.normal T H [])
 |c::l,T,H=>(sK P bB CU c n ao T H []).bind λr=>match r with
  |.normal T H []=>jJ P bB n l T H
  |r=>.ret r
section
variable(P:fd)(bB:bL)(l:I mN)
def CV(k:E)(s:bD):aD R:=jJ P bB s.n (l.take k) s.T s.H
def pD(s:bD):aD R:=jJ P bB s.n l s.T s.H
def sP(k n:E)(args:I af):aD R:=jJ P bB n (l.take k) (gI args .nil 0) H0
end
def fy(P:fd)(n:E)(e:sC)(σ:Ren)(s':bD):R->Prop
 |.normal T H []=>(match e with |.normal=>fit P σ n T H s'|_=>lm)
 |.exit id T H []=>(match e with |.exit i=>jw (dd i id) (fit P σ n T H s')|_=>lm)
 |_=>lm
def wH(P:fd)(fn:Ö)(fresh:dF)(res:af):R->Prop
 |.normal _ _ _=>lm
 |.ret T H []=>(match lB P fn T H with |.ok v _=>cV fresh H v res|_=>lm)
 |_=>lm
section
variable{P:fd}{w0:du}{F:Env}{n:E}{T:au af}{H:ai}{Q:sC->au af->ai->Prop}
def bc(X:Ext)(P:fd)(w0:du)(F:Env)(n:E):I mN->au af->ai->(sC->au af->ai->Prop)->Prop
 |[],T,H,Q=>Q .normal T H
 |c::l,T,H,Q=>fm X P w0 F n c T H (iO (λT H=>bc X P w0 F n l T H Q) Q)
abbrev bp:=bc mQ
variable{X:Ext}
def OJ{f d:au af->ai->Prop}{g:sC->au af->ai->Prop}(j:∀T H,f T H->d T H)(m:∀e T H,e≠ .normal->Q e T H->g e T H):∀e T H,iO f Q e T H->iO d g e T H:=by
 intro e T H h;cases e with
 |normal=>exact j T H h
 |_=>exact m _ T H τ h
def bp.append:∀{l1 l2:I mN}{T:au af}{H:ai},bc X P w0 F n (l1++l2) T H Q->bc X P w0 F n l1 T H (iO (λT H=>bc X P w0 F n l2 T H Q) Q)
 |[],l2,T,H,h=>h
 |c::l1,l2,T,H,h=>Goal.mono h (OJ (λT H h=>bp.append h) λe T H d h=>by cases e<;>first |exact absurd rfl d|exact h)
def bp.split:∀{l1 l2:I mN}{T:au af}{H:ai},bc X P w0 F n l1 T H (iO (λT H=>bc X P w0 F n l2 T H Q) Q)->bc X P w0 F n (l1++l2) T H Q
 |[],l2,T,H,h=>h
 |c::l1,l2,T,H,h=>Goal.mono h (OJ (λT H h=>bp.split h) λe T H d h=>by cases e<;>first |exact absurd rfl d|exact h)
def bp.mono{f:sC->au af->ai->Prop}(d:∀e T H,Q e T H->f e T H):∀{l:I mN}{T:au af}{H:ai},bc X P w0 F n l T H Q->bc X P w0 F n l T H f
 |[],_,_,h=>d _ _ _ h
 |_::_,_,_,h=>Goal.mono h (OJ (λ_ _ h=>bp.mono d h) λe T H _ h=>d e T H h)
def yf:∀{c:mN}{T:au af}{H:ai}{Q:sC->au af->ai->Prop},bc X P w0 F n (uy c) T H Q->fm X P w0 F n c T H Q
 |.seq a b,T,H,Q,h=>by
   refine Goal.seq rfl (yf (bp.mono (λe T H h=>?_) (bp.append (l1:=uy a) (l2:=uy b) h)));cases e with
   |normal=>exact yf (c:=b) h
   |_=>exact h
 |.skip,T,H,Q,h=>Goal.mono h λe T H h=>by cases e<;>exact h
 |.region _ _ _,T,H,Q,h=>Goal.mono h λe T H h=>by cases e<;>exact h
 |.cond _ _ _,T,H,Q,h=>Goal.mono h λe T H h=>by cases e<;>exact h
 |.block _ _,T,H,Q,h=>Goal.mono h λe T H h=>by cases e<;>exact h
 |.loop _,T,H,Q,h=>Goal.mono h λe T H h=>by cases e<;>exact h
 |.rangeFunc _ _ _ _,T,H,Q,h=>Goal.mono h λe T H h=>by cases e<;>exact h
 |.exit _,T,H,Q,h=>Goal.mono h λe T H h=>by cases e<;>exact h
 |.scope _,T,H,Q,h=>Goal.mono h λe T H h=>by cases e<;>exact h
 |.label _,T,H,Q,h=>Goal.mono h λe T H h=>by cases e<;>exact h
 |.goto _,T,H,Q,h=>Goal.mono h λe T H h=>by cases e<;>exact h
 |.ret,T,H,Q,h=>Goal.mono h λe T H h=>by cases e<;>exact h
 |.refuse _,T,H,Q,h=>Goal.mono h λe T H h=>by cases e<;>exact h
variable{bB:bL}
def bp.jJ(C:gi P)(p:P.follows .mixedOrders=D)(V:bI P (bJ bB)){qw:R->Prop}(J:∀r,qw r->CR Q r):∀{l:I mN}{T:au af}{H:ai}{r:R},(Sv.jJ P bB n l T H).gr=O r->qw r->bc X P w0 F n l T H Q
 |[],T,H,r,h,j=>by
  cases h;exact J _ j
 |c::l,T,H,r,h,j=>by
  obtain⟨o,f,d⟩:=oG h;have a0:∀K:sC->au af->ai->Prop,CR K o->fm X P w0 F n c T H K:=λK m=>by
   intro a w u k;obtain⟨e,S,M,g,z⟩:=Wv m;have f:=f;rw[<-Wu CU c n X.rd.isSome]at f;have A:=rh (P:=P) (bB:=bB) CU c n X.rd.isSome T H [] o f (by rintro rfl;cases g);have q:Cs P (sx P (qq P (bJ bB)) CU):=NJ C (FB C p V) CU;have K:(sx P (qq P (bJ bB)) CU c n X.rd.isSome T H X.m).out=O (e,S,M,X.m):=by rw[OD,A];exact Ws g
   obtain⟨ρ,A,W,U,G⟩:=u.ex;refine q.dc _ _ _ _ _ _ _ _ _ _ K w0.heap.size ρ a w X.rd k _ rfl A (by rw[u.defers];exact G.Ak) (λi j _=>W i j) λρ' g K f d q=>?_
   refine .inl ⟨S,M,z,⟨⟨ρ',f,λi g=>?_,λb L K=>?_,OC G d⟩,u.below.trans (d.below A.H),q.unique (G.Ak.mono d.le)⟩⟩
   .rw[d.ext i (.inr g)];exact W i (cD d.next g)
   .rcases d.o8 b L K with h|h|⟨i,k,c,G,f,g⟩
    .exact U b L h
    .exact .inr (cD u.below.size h)
    .obtain⟨u,K,L,U,_,_,q⟩:=A.H.blk i k G;rw[g]at U;cases U;exact .inr (q f)
  refine a0 _ ?_;have u:∀r2,(match o with |.normal T H []=>Sv.jJ P bB n l T H|r=>aD.ret r).gr=O r2->qw r2->CR (iO (λT H=>bc X P w0 F n l T H Q) Q) o:=by
   intro r2 m z;split at m
   .exact bp.jJ C p V J m z
   .cases m;have:=J _ z;revert this;rename_i f;cases o with
    |no=>exact id
    |normal q p g=>
     cases g with
     |nil=>exact absurd rfl (f q p)
     |cons _ _=>exact id
    |exit f q p g=>cases g<;>exact id
    |goto f q p g=>exact id
    |ret q p g=>cases g<;>exact id
  exact u r d j
def Goal.Wy{c:mN}{d:sC->au af->ai->Prop}(h:fm X P w0 F n c T H Q)(u:∀e T H,Q e T H->d e T H\/∃σ s,fit P σ n T H s/\pinned σ s.H.next X.pins=D/\d e s.T s.H):fm X P w0 F n c T H d:=λa w z k=>
 zS (h a w z k) λe A C g=>by
  rcases g with⟨o,m,p,j⟩|g
  .rcases u _ _ _ p with f|⟨σ,s,f,r,q⟩
   .exact .inl ⟨o,m,f,j⟩
   .exact .inl ⟨s.T,s.H,q,j.qu f r⟩
  .exact .inr g
def bp.OK{s':bD}{e:sC}(m:Q e s'.T s'.H):∀{l:I mN}{T:au af}{H:ai},l≠[]->bc X P w0 F n l T H (λd p o=>d=e/\∃σ,fit P σ n p o s'/\pinned σ s'.H.next X.pins=D)->bc X P w0 F n l T H Q
 |[],_,_,q,_=>absurd rfl q
 |[c],T,H,_,h=>Goal.Wy h λd p o f=>.inr (by
    cases d with
    |normal=>obtain⟨rfl,σ,g,j⟩:=f;exact⟨σ,s',g,j,m⟩
    |_=>obtain⟨rfl,σ,g,j⟩:=f;exact⟨σ,s',g,j,m⟩)
 |c::r::l,T,H,_,h=>Goal.Wy h λd p o f=>by
   cases d with
   |normal=>exact .inl (bp.OK m τ f)
   |_=>obtain⟨rfl,σ,g,j⟩:=f;exact .inr ⟨σ,s',g,j,m⟩
def bp.to(A:gi P)(J:P.follows .mixedOrders=D)(C:bI P (bJ bB)){l:I mN}{s':bD}{e:sC}{σ:Ren}(k:E)(j:I dF)(h:(Sv.jJ P bB n (l.take k) T H).path j (fy P n e σ s'))(f:(l.take k).isEmpty=ao)
  (K:iO (λT H=>bc X P w0 F n (l.drop k) T H Q) Q e s'.T s'.H) (g:pinned σ s'.H.next X.pins=D:=by rfl):bc X P w0 F n l T H Q:=by
 obtain⟨S,u,z⟩:=aD.wE _ _ h;have L:bc X P w0 F n (l.take k) T H (λp o m=>p=e/\∃σ,fit P σ n o m s'/\pinned σ s'.H.next X.pins=D):=by
  refine bp.jJ A J C (qw:=fy P n e σ s') (λS d=>?_) u z;unfold fy at d;split at d
  .split at d
   .exact⟨rfl,σ,d,g⟩
   .exact d.elim
  .split at d
   .obtain⟨q,r⟩:=kA d;rw[ac q];exact⟨rfl,σ,r,g⟩
   .exact d.elim
  .exact d.elim
 have M:bc X P w0 F n (l.take k) T H (iO (λT H=>bc X P w0 F n (l.drop k) T H Q) Q):=bp.OK (s':=s') (e:=e) K (λG=>by rw[G]at f;cases f) L;have:=bp.split M;rwa[pa]at this
def bp.aiM(A:gi P)(J:P.follows .mixedOrders=D)(C:bI P (bJ bB)){l:I mN}{s':bD}{e:sC}{σ:Ren}(k:E)(j:I dF)(h:(Sv.jJ P bB n (l.take k) T H).wD j (fy P n e σ s'))(f:(l.take k).isEmpty=ao)
  (K:iO (λT H=>bc X P w0 F n (l.drop k) T H Q) Q e s'.T s'.H) (g:pinned σ s'.H.next X.pins=D:=by rfl):bc X P w0 F n l T H Q:=by
 obtain⟨S,u,z⟩:=aD.FC _ _ h;have L:bc X P w0 F n (l.take k) T H (λp o m=>p=e/\∃σ,fit P σ n o m s'/\pinned σ s'.H.next X.pins=D):=by
  refine bp.jJ A J C (qw:=fy P n e σ s') (λS d=>?_) u z;unfold fy at d;split at d
  .split at d
   .exact⟨rfl,σ,d,g⟩
   .exact d.elim
  .split at d
   .obtain⟨q,r⟩:=kA d;rw[ac q];exact⟨rfl,σ,r,g⟩
   .exact d.elim
  .exact d.elim
 have M:bc X P w0 F n (l.take k) T H (iO (λT H=>bc X P w0 F n (l.drop k) T H Q) Q):=bp.OK (s':=s') (e:=e) K (λG=>by rw[G]at f;cases f) L;have:=bp.split M;rwa[pa]at this
def bp.st(f:gi P)(j:P.follows .mixedOrders=D)(g:bI P (bJ bB)){l:I mN}{s s':bD}{e:sC}{σ:Ren}(k:E)(d:I dF)(h:(CV P bB l k s).path d (fy P s.n e σ s'))(m:(l.take k).isEmpty=ao)
  (p:iO (λT H=>bc X P w0 F s.n (l.drop k) T H Q) Q e s'.T s'.H) (o:pinned σ s'.H.next X.pins=D:=by rfl):bc X P w0 F s.n l s.T s.H Q:=bp.to f j g k d h m p o
def bp.all(g:gi P)(m:P.follows .mixedOrders=D)(j:bI P (bJ bB)){l:I mN}{s s':bD}{e:sC}{σ:Ren}(d:I dF)(h:(pD P bB l s).path d (fy P s.n e σ s'))(o:l.isEmpty=ao)
  (q:Q e s'.T s'.H) (p:pinned σ s'.H.next X.pins=D:=by rfl):bc X P w0 F s.n l s.T s.H Q:=by
 have f:l.take l.length=l:=dx;refine bp.to g m j (s':=s') (e:=e) (σ:=σ) l.length d (by rw[f];exact h) (by rw[f];exact o) ?_ p;rw[Gv];cases e<;>exact q
def bY{d:au af->ai->Prop}{i:E}{T:au af}{H:ai}(h:Q (.exit i) T H):iO d Q (.exit i) T H:=h
def bp.ret(m:gi P)(p:P.follows .mixedOrders=D)(o:bI P (bJ bB)){l:I mN}{fn:Ö}{fresh:dF}{res:af}(k:E)(f:I dF)(h:(Sv.jJ P bB n (l.take k) T H).path f (wH P fn fresh res))
  (q:∀T H,ew P fresh fn res .ret T H->Q .ret T H):bc X P w0 F n l T H Q:=by
 obtain⟨u,g,j⟩:=aD.wE _ _ h;have r:bc X P w0 F n (l.take k) T H (iO (λT H=>bc X P w0 F n (l.drop k) T H Q) Q):=by
  refine bp.jJ m p o (qw:=wH P fn fresh res) (λu d=>?_) g j;unfold wH at d;split at d
  .exact d.elim
  .exact q _ _ d
  .exact d.elim
 have:=bp.split r;rwa[pa]at this
def bp.iC(f:gi P)(j:P.follows .mixedOrders=D)(g:bI P (bJ bB)){l:I mN}{s:bD}{fn:Ö}{fresh:dF}{res:af}(d:I dF)(h:(pD P bB l s).path d (wH P fn fresh res))
  (m:∀T H,ew P fresh fn res .ret T H->Q .ret T H):bc X P w0 F s.n l s.T s.H Q:=by
 refine bp.ret f j g (fn:=fn) (fresh:=fresh) (res:=res) l.length d ?_ m;rw[dx];exact h
def bp.loop{A:Type}{l rest:I mN}{id:E}{b:mN}(K:l=.block id (.loop b)::rest)(d:A->bD)(g:A->E)(f:A)(_:∀i,(d i).n=n)
  (step:∀i,bc X P w0 F n (uy b) (d i).T (d i).H (iO (λT H=>∃j,g j<g i/\T=(d j).T/\H=(d j).H) (CS id (iO (λT H=>bc X P w0 F n rest T H Q) Q)))):bc X P w0 F n l (d f).T (d f).H Q:=by
 subst K;refine Goal.block (x:= .loop b) rfl ?_;have M:∀m i,g i<m->∀a w,mR X P w0 F n (d i).T (d i).H a w->∀k,mN.roundsIn (eZ X.rd) k P b (λe p r=>(∃q o,CS id (iO (λT H=>bc X P w0 F n rest T H Q) Q) e q o/\mR X P w0 F n q o p r)\/(e=.ret/\X.R p r)) m a w:=by
  intro m;induction m with
  |zero=>intro i J;exact absurd J (E.not_lt_zero _)
  |succ m L=>
   intro i J a w z k;rw[roundsIn_succ];refine zS (yf (step i) a w z k) λe p r u=>?_
   rcases u with⟨q,o,C,G⟩|⟨rfl,u⟩
   .cases e with
    |normal=>
     obtain⟨j,S,rfl,rfl⟩:=C;exact L j ω p r G k
    |_=>exact .inl ⟨q,o,C,G⟩
   .exact .inr ⟨rfl,u⟩
 intro a w z k;exact wpIn_loop_rounds (g f+1) (M (g f+1) f (gR _) a w z k)
def cg{id:E}{T:au af}{H:ai}(h:Q .normal T H):CS id Q (.exit id) T H:=by
 show if id=id then _ else _
 rw[dA rfl];exact h
def fA{r:N}(h: -9223372036854775808<=r/\r<=9223372036854775807):fits .i64 r=D:=by
 unfold fits;rw[ae];exact⟨ay h.1,ay h.2⟩
def yg{a b:E}(h:a=b):dd a b=D:=by rw[h,zX]
def OL:Value->dF
 |.int _ _|.bool _|.string _|.pointer bs|.slice bs _ _|.map bs|.nilFunc|.nilIface=>D
 |.func _ ⟨[]⟩ ⟨[]⟩=>D
 |_=>ao
def CW:af->dF
 |.raw v=>OL v
 |.ptr _ _|.slice _ _ _ _|.map _|.func _ [] []|.bh _ _ _|.e9 _ _ _ _|.bZ _ _ _ _ _ _|.en _ _ _ _ _=>D
 |_=>ao
def OM:af->dF
 |.agg l|.tuple l=>l.all CW
 |v=>CW v
def aiN{v:Value}(h:OL v=D):z7 3 v v=D:=by
 unfold OL at h;split at h<;>first |(simp[z7,Fp];done)|cases h
def aq.beq_refl:∀(t:aq)(a:t.den),t.beq a a=D
 |.int _,a=>ay rfl
 |.bool,a=>Kr a
 |.str,a=>ay rfl
 |.list _ t,a=>by
   show(dd a.length a.length&&(I.zip a a).all λp=>t.beq p.1 p.2)=D
   rw[zX,py,ky];intro p j;obtain⟨i,d,g⟩:=I.mem_iff_getElem.1 j;have f:p=((a:I t.den)[i]'(by simp at d;exact d),(a:I t.den)[i]'(by simp at d;exact d)):=by rw[<-g];simp
   rw[f];exact t.beq_refl _
 |.pair s t,a=>by
   show(s.beq a.1 a.1&&t.beq a.2 a.2)=D;rw[s.beq_refl,t.beq_refl];rfl
 |.ptr t,a=>t.beq_refl a
 |.unit,_=>rfl
def aiO(t:aq)(xs:I t.den):Cy t t xs xs=D:=by
 unfold Cy;rw[dif_pos rfl];exact aq.beq_refl (.list ao t) xs
def aiP(c:aY):c.same c=D:=by cases c<;>simp[aY.same]
def OO{v:af}(h:CW v=D):x9 v v=D:=by
 unfold CW at h;split at h
 .simp[x9,aiN h]
 all_goals first |(simp[x9,aiO,aiP];done)|cases h
def OP:∀{l:I af},l.all CW=D->lP l l=D
 |[],_=>rfl
 |v::l,h=>by
  rw[I.all_cons,ae]at h;show(x9 v v&&lP l l)=D;rw[OO h.1,OP h.2];rfl
def aI{v:af}(h:OM v=D:=by kernel_rfl):af.same v v=D:=by
 unfold OM at h;split at h
 .exact OP h
 .exact OP h
 .next d f=>
  cases v with
  |func g a b=>
   cases a<;>cases b<;>first |exact OO h|exact absurd h (by simp[CW])
  |_=>first |exact absurd rfl (d _)|exact absurd rfl (f _)|exact OO h
def OQ(c:mN):cat c []=c:=by cases c<;>rfl
def aiQ{fresh:dF}{f:ya}{fn:Ö}{c:mN}{args:I af}{res:af}(g:P.funcs[f]? =O fn)(d:fn.body=O c)(j:dK args.length fn.ntmps=D)
  (h:∀w F,bp P w F fn.ntmps (fl c []) (gI args .nil 0) H0 (ew P fresh fn res)):Holds P fresh f args res:=
 holds_of g d (b5 j) λw F=>yf (by have:=h w F;rwa[fl,OQ]at this)
end
end
end
section
variable[Ground]
noncomputable section
inductive cK:Type 1 where
 |b (x c:dF)
 |e {α:Type} (x y:α)
 |o (P:fd) (m:da E) (b:da bn) (e:ed) (t:aq) (xs:I t.den)
 |p (q:Prop)
def cK.ok:cK->Prop
 |.b x c=>x=c
 |.e x y=>x=y
 |.o P m k f t xs=>CO P m k f t xs
 |.p q=>q
def fM:I cK->Prop
 |[]=>True
 |o::l=>o.ok/\fM l
abbrev jZ:={o:cK//o.ok}
def aa{x c:dF}(h:x=c):jZ:=⟨.b x c,h⟩
def av{α:Type}{x y:α}(h:x=y):jZ:=⟨.e x y,h⟩
def nU{q:Prop}(h:q):jZ:=⟨.p q,h⟩
def pF(P:fd)(e:ed)(t:aq){ys xs:I t.den}(h:ys=xs):jZ:=⟨.o P bs (O (.own e t ys)) e t xs,by subst h;simp[cK.ok,CO,uu,jw,rz]⟩
def ag{p:Prop}[Decidable p](h:p):jZ:=aa (ay h)
def az{p:Prop}[Decidable p](h:¬p):jZ:=aa (ab h)
def cT{α:Type}[BEq α][LawfulBEq α]{a b:α}(h:a=b):jZ:=aa (gw.mpr h)
def yn{α:Type}[BEq α][LawfulBEq α]{a b:α}(h:¬a=b):jZ:=aa (fB.mpr h)
def yi{r:N}(h: -9223372036854775808<=r/\r<=9223372036854775807):jZ:=aa (fA h)
def Wz:E->E->I dF
 |0,_=>[]
 |k+1,n=>oi (dK n 1) [] (dd (n%2) 1::Wz k (n/2))
def dl(n:E):I dF:=Wz n n
def cK.fix:cK->cK
 |.b _ c=>.b c c
 |.e x _=>.e x x
 |.o P _ _ f t xs=>.o P bs (a8 f t xs) f t xs
 |.p _=>.p True
def cK.WA:cK->cK
 |.o P _ _ f t xs=>.o P bs (O (.own f t xs)) f t xs
 |q=>q.fix
def Jp:I jZ->E->cK->cK
 |[],_,o=>o.fix
 |f::F,k,o=>oi (dd k 0) f.1 (Jp F (k-1) o)
def Jq(F:I jZ):I cK->E->I cK
 |[],_=>[]
 |o::l,n=>oi (dd (n%64) 0) o.fix (oi (dd (n%64) 63) o.WA (Jp F (n%64-1) o))::Jq F l (n/64)
def cK.WB:∀o:cK,o.fix.ok
 |.b _ _=>rfl
 |.e _ _=>rfl
 |.o _ _ _ _ _ _=>air _ _ _ _
 |.p _=>trivial
def cK.aiR:∀o:cK,o.WA.ok
 |.b _ _=>rfl
 |.e _ _=>rfl
 |.o P _ _ f t _=>(pF P f t rfl).2
 |.p _=>trivial
def M1:∀(F:I jZ)(k:E)(o:cK),(Jp F k o).ok
 |[],_,o=>o.WB
 |f::F,k,o=>by unfold Jp;cases dd k 0<;>first |exact M1 F _ o|exact f.2
def OS(F:I jZ):∀(l:I cK)(n:E),fM (Jq F l n)
 |[],_=>trivial
 |o::l,n=>⟨by cases dd (n%64) 0<;>cases dd (n%64) 63<;>first |exact o.WB|exact o.aiR|exact M1 F _ o,OS F l _⟩
def aD.obs{α:Type}(w:dF):aD α->I dF->(α->I cK)->I cK
 |.ret a,_,q=>q a
 |.must b k,d,q=>.b b D::k.obs w d q
 |.ask b k,[],q=>(k b).obs w [] q
 |.ask b k,c::d,q=>.b b c::(k c).obs w d q
 |.opt b k l,d,q=>.b b (!w)::match w with |false=>k.obs w d q|true=>l.obs w d q
class FM {α:Type} (Q:α->Prop) where
 Ao:α->I cK
 ok:∀a,fM (Ao a)->Q a
instance(priority:=low){α:Type}(Q:α->Prop):FM Q:=⟨λa=>[.p (Q a)],λ_ h=>h.1⟩
def aD.FN{α:Type}{Q:α->Prop}{q:α->I cK}(hq:∀a,fM (q a)->Q a):∀(x:aD α)(D_q:I dF),fM (x.obs ao D_q q)->x.path D_q Q
 |.ret a,_,h=>hq a h
 |.must _ k,D_q,h=>⟨h.1,FN hq k D_q h.2⟩
 |.ask b k,[],h=>FN hq (k b) [] h
 |.ask _ k,c::D_q,h=>⟨h.1,FN hq (k c) D_q h.2⟩
 |.opt _ k _,D_q,h=>⟨h.1,FN hq k D_q h.2⟩
def aD.FO{α:Type}{Q:α->Prop}{q:α->I cK}(hq:∀a,fM (q a)->Q a):∀(x:aD α)(D_q:I dF),fM (x.obs D D_q q)->x.wD D_q Q
 |.ret a,_,h=>hq a h
 |.must _ k,D_q,h=>⟨h.1,FO hq k D_q h.2⟩
 |.ask b k,[],h=>FO hq (k b) [] h
 |.ask _ k,c::D_q,h=>⟨h.1,FO hq (k c) D_q h.2⟩
 |.opt _ _ l,D_q,h=>⟨h.1,FO hq l D_q h.2⟩
def wy{α:Type}{r:aD α}{d:I dF}{Q:α->Prop}[f:FM Q](F:I jZ)(n:E)(h:r.obs ao d f.Ao=Jq F (r.obs ao d f.Ao) n:=by kernel_rfl):r.path d Q:=aD.FN f.ok r d (by rw[h];exact OS F _ n)
def aiS{α:Type}{r:aD α}{d:I dF}{Q:α->Prop}[f:FM Q](F:I jZ)(n:E)(h:r.obs D d f.Ao=Jq F (r.obs D d f.Ao) n:=by kernel_rfl):r.wD d Q:=aD.FO f.ok r d (by rw[h];exact OS F _ n)
def oJ(b:dF)(l:I cK):I cK:=match b with |true=>l|false=>[.p lm]
def CX(t u:aq)(xs:I t.den)(ys:I u.den)(K:I cK):I cK:=if h:t=u then .e (h ▸ xs) ys::K else [.p lm]
def OT(z d:dF)(n:E)(l:I cK):I cK:=match d,z with
 |true,ao=>.b (dK 1 n) D::l
 |_,_=>l
def Jr:Value->Value->I cK->I cK
 |.int k a,.int d b,K=>oJ (bP (k=d)) (.e a b::K)
 |.bool a,.bool b,K=>.e a b::K
 |.string a,.string b,K=>.e a b::K
 |a,b,K=>.e a b::K
def aiT(m:da E)(c d:aY)(K:I cK):I cK:=match m with
 |none=>.e c d::K
 |some m=>.e c (.known m):: .e d (bO m)::K
def OU(σ:Ren)(i n:E)(c:aY)(j n':E)(d:aY)(K:I cK):I cK:=match look σ j with
 |some (f,m)=>oJ (dd i f) (.e n n'::aiT m c d K)
 |none=>[.p lm]
mutual
def FP(σ:Ren):af->af->I cK->I cK
 |_,.bot,K=>K
 |.raw (.slice bs 0 0),.bZ _ _ _ _ n _,K=>.e n 0::K
 |.raw (.slice bs 0 0),.bh _ _ ys,K=>.e ys []::K
 |.raw a,.raw b,K=>Jr a b K
 |.ptr i d,.ptr j f,K=>oJ (qs σ j i) (.e d f::K)
 |.slice i d n c,.slice j f o g,K=>oJ (qs σ j i) (.e d f:: .e n o:: .e c g::K)
 |.slice i 0 n c,.bZ _ _ j 0 o g,K=>OU σ i n c j o g K
 |.func A a b,.func C r z,K=>oJ (bP (A=C)) (yh σ a r (yh σ b z K))
 |.map i,.map j,K=>oJ (qs σ j i) K
 |.iface t v,.iface G J,K=>oJ (dd t G) (FP σ v J K)
 |.agg l,.agg q,K=>yh σ l q K
 |.tuple l,.tuple q,K=>yh σ l q K
 |.bh L t xs,.bh M u ys,K=>CX t u xs ys (OT L M ys.length K)
 |.e9 t xs k d,.e9 u ys m f,K=>CX t u xs ys (.e k m:: .e d f::K)
 |.bZ e t i k n c,.bZ p u j m o g,K=>oJ (dd e p&&(bP (t=u)&&qs σ j i)) (.e k m:: .e n o:: .e c g::K)
 |.en e t i k d,.en p u j m f,K=>oJ (dd e p&&(bP (t=u)&&qs σ j i)) (.e k m:: .e d f::K)
 |_,_,_=>[.p lm]
def yh(σ:Ren):I af->I af->I cK->I cK
 |[],[],K=>K
 |v::l,f::d,K=>FP σ v f (yh σ l d K)
 |_,_,_=>[.p lm]
end
def pG{b:dF}{l:I cK}{p:Prop}{K:I cK}(h:fM (oJ b l))(g:fM l->p/\fM K):jw b p/\fM K:=by
 cases b with
 |true=>exact g h
 |false=>exact h.1.elim
def CY{t u:aq}{xs:I t.den}{ys:I u.den}{K:I cK}(h:fM (CX t u xs ys K)):rz t u xs ys/\fM K:=by
 unfold CX at h;unfold rz;split at h
 .rename_i e;rw[dif_pos e];exact h
 .exact h.1.elim
def WC{z d:dF}{n:E}{K:I cK}{p:Prop}(g:p)(h:fM (OT z d n K)):Jl z d n p/\fM K:=by
 cases d<;>cases z
 .exact⟨g,h⟩
 .exact⟨g,h⟩
 .exact⟨⟨g,h.1⟩,h.2⟩
 .exact⟨g,h⟩
def OV{a b:Value}{K:I cK}(h:fM (Jr a b K)):Ah a b/\fM K:=by
 unfold Jr at h;unfold Ah;split at h
 .exact pG h λh=>h
 .exact h
 .exact h
 .rename_i d f g;refine⟨?_,h.2⟩;split
  .exact(d _ _ _ _ rfl rfl).elim
  .exact(f _ _ rfl rfl).elim
  .exact(g _ _ rfl rfl).elim
  .exact h.1
def aiU{σ:Ren}{i n:E}{c:aY}{j n':E}{d:aY}{K:I cK}(h:fM (OU σ i n c j n' d K)):CN σ i n c j n' d/\fM K:=by
 unfold OU at h;unfold CN;cases f:look σ j with
 |none=>simp only[f]at h;exact h.1.elim
 |some q=>
  simp only[f]at h ⊢;refine pG h λh=>?_
  obtain⟨o,g⟩:=q;cases g with
  |none=>exact⟨⟨h.1,h.2.1⟩,h.2.2⟩
  |some m=>exact⟨⟨h.1,h.2.1,h.2.2.1⟩,h.2.2.2⟩
mutual
def Js{σ:Ren}:∀{v v':af}{K:I cK},fM (FP σ v v' K)->yc σ v v'/\fM K:=by
 intro v v' K h;unfold FP at h;unfold yc;split at h
 .exact⟨trivial,h⟩
 .exact h
 .exact h
 .exact OV h
 .exact pG h λh=>h
 .exact pG h λh=>⟨⟨h.1,h.2.1,h.2.2.1⟩,h.2.2.2⟩
 .exact aiU h
 .exact pG h λh=>by
   obtain⟨f,d⟩:=CZ h;obtain⟨d,g⟩:=CZ d;exact⟨⟨f,d⟩,g⟩
 .exact pG h λh=>⟨trivial,h⟩
 .exact pG h λh=>Js h
 .exact CZ h
 .exact CZ h
 .exact WC (CY h).1 (CY h).2
 .obtain⟨f,d⟩:=CY h;exact⟨⟨f,d.1,d.2.1⟩,d.2.2⟩
 .exact pG h λh=>⟨⟨h.1,h.2.1,h.2.2.1⟩,h.2.2.2⟩
 .exact pG h λh=>⟨⟨h.1,h.2.1⟩,h.2.2⟩
 .exact h.1.elim
def CZ{σ:Ren}:∀{v v':I af}{K:I cK},fM (yh σ v v' K)->ur σ v v'/\fM K:=by
 intro v v' K h;unfold yh at h;unfold ur;split at h
 .exact⟨trivial,h⟩
 .obtain⟨f,d⟩:=Js h;obtain⟨d,g⟩:=CZ d;exact⟨⟨f,d⟩,g⟩
 .exact h.1.elim
end
def OW(P:fd)(m:da E)(b:da bn)(e:ed)(t:aq)(xs:I t.den)(K:I cK):I cK:=match b,m with
 |some (.own d u ys),bs=>oJ (dd e d) (CX u t ys xs K)
 |b,m=>.p (uu P m b e t xs)::K
def OX(P:fd)(σ:Ren)(H:ai)(p:E×gB)(K:I cK):I cK:=match look σ p.1 with
 |none=>(match p.2 with |.opt _ _ xs=>.e xs []::K|.blk _=>[.p lm])
 |some (i,m)=>match p.2 with
  |.opt e t xs=>.o P m (H.get i) e t xs::K
  |.blk (.own e t xs)=>OW P m (H.get i) e t xs K
  |.blk (.cells e d x j r)=>(match H.get i,m with
    |some (.cells g f u o q),bs=>oJ (dd e g&&(x==u&&(j==o&&r==q))) (yh σ f d K)
    |_,_=>[.p lm])
  |.blk _=>[.p lm]
def OY(σ:Ren)(T:au af)(K:I cK):I (E×af)->I cK
 |[]=>K
 |p::l=>FP σ ((T.get p.1).getD (.raw lk)) p.2 (OY σ T K l)
def Jt(P:fd)(σ:Ren)(H:ai):I (E×gB)->I cK
 |[]=>[]
 |p::l=>OX P σ H p (Jt P σ H l)
def OZ(P:fd)(σ:Ren)(n:E)(T:au af)(H:ai)(s:bD):I cK:=
 oJ (dd s.n n&&(yd σ s.next&&(Wh s.next s.bF&&(Wi n s.sl&&dK 64 s.next)))) (OY σ T (Jt P σ H s.bF) s.sl)
def aiV{P:fd}{m:da E}{b:da bn}{e:ed}{t:aq}{xs:I t.den}{K:I cK}(h:fM (OW P m b e t xs K)):uu P m b e t xs/\fM K:=by
 unfold OW at h;split at h
 .unfold uu;exact pG h λh=>CY h
 .exact h
def Hm{P:fd}{σ:Ren}{H:ai}{p:E×gB}{K:I cK}(h:fM (OX P σ H p K)):CP P σ H p/\fM K:=by
 obtain⟨m,d⟩:=p;unfold OX at h;unfold CP;cases f:look σ m with
 |none=>
  simp only[f]at h ⊢;cases d with
  |opt e t xs=>exact h
  |blk k=>exact h.1.elim
 |some r=>
  simp only[f]at h ⊢;cases d with
  |opt e t xs=>exact h
  |blk k=>cases k with
   |own e t xs=>exact aiV h
   |cells e o x q u=>
    simp only at h ⊢;split at h
    .rename_i g j;rw[g,j];exact pG h λh=>CZ h
    .exact h.1.elim
   |_=>exact h.1.elim
def Hn{P:fd}{σ:Ren}{n:E}{T:au af}{H:ai}{s:bD}(h:fM (OZ P σ n T H s)):fit P σ n T H s:=by
 have f:∀(l:I (E×gB)),fM (Jt P σ H l)->px P σ H True l:=λl=>by
  induction l with
  |nil=>exact λh=>h
  |cons p l d=>exact λh=>⟨(Hm h).1,d (Hm h).2⟩
 have g:∀(l:I (E×af)),fM (OY σ T (Jt P σ H s.bF) l)->pw σ T (px P σ H True s.bF) l:=λl=>by
  induction l with
  |nil=>exact f _
  |cons p l d=>exact λh=>⟨(Js h).1,d (Js h).2⟩
 unfold fit;exact(pG (K:=[]) h λh=>⟨g _ h,trivial⟩).1
instance(P:fd)(n:E)(e:sC)(σ:Ren)(s':bD):FM (fy P n e σ s') where
 Ao:=λr=>match r with
  |.normal T H []=>(match e with |.normal=>OZ P σ n T H s'|_=>[.p lm])
  |.exit id T H []=>(match e with |.exit i=>oJ (dd i id) (OZ P σ n T H s')|_=>[.p lm])
  |_=>[.p lm]
 ok:=λr h=>by
  unfold fy;split at h
  .split at h
   .exact Hn h
   .exact h.1.elim
  .split at h
   .exact(pG (K:=[]) h λh=>⟨Hn h,trivial⟩).1
   .exact h.1.elim
  .exact h.1.elim
mutual
def Ju(fr:dF)(H:ai):af->af->I cK->I cK
 |.raw (.slice bs 0 0),.bh _ _ ys,K=>.e ys []::K
 |.raw a,.raw b,K=>Jr a b K
 |.bh z t xs,.bh j u ys,K=>oJ (!fr) (CX t u xs ys (OT z j ys.length K))
 |.bZ e t i k f c,.bh z u ys,K=>.p (cV fr H (.bZ e t i k f c) (.bh z u ys))::K
 |.slice i g n c,.bh z u ys,K=>.p (cV fr H (.slice i g n c) (.bh z u ys))::K
 |.agg l,.agg d,K=>FQ fr H l d K
 |.tuple l,.tuple d,K=>FQ fr H l d K
 |_,_,_=>[.p lm]
def FQ(fr:dF)(H:ai):I af->I af->I cK->I cK
 |[],[],K=>K
 |v::l,f::d,K=>Ju fr H v f (FQ fr H l d K)
 |_,_,_=>[.p lm]
end
def aiW{fr:dF}{H:ai}{a b:Value}(h:Ah a b):cV fr H (.raw a) (.raw b):=by
 unfold cV;split
 .rename_i e;cases e
 .rename_i d f;cases d;cases f;exact h
 all_goals first
  |(rename_i e _;cases e;done)
  |(rename_i g _ _ _ _ _;exact(g _ _ rfl rfl).elim)
mutual
def WD{fr:dF}{H:ai}:∀{v v':af}{K:I cK},fM (Ju fr H v v' K)->cV fr H v v'/\fM K:=by
 intro v v' K h;unfold Ju at h;split at h
 .unfold cV;exact h
 .exact⟨aiW (OV h).1,(OV h).2⟩
 .unfold cV;exact pG h λh=>WC (CY h).1 (CY h).2
 .exact h
 .exact h
 .unfold cV;exact O0 h
 .unfold cV;exact O0 h
 .exact h.1.elim
def O0{fr:dF}{H:ai}:∀{v v':I af}{K:I cK},fM (FQ fr H v v' K)->wG fr H v v'/\fM K:=by
 intro v v' K h;unfold FQ at h;unfold wG;split at h
 .exact⟨trivial,h⟩
 .obtain⟨f,d⟩:=WD h;obtain⟨d,g⟩:=O0 d;exact⟨⟨f,d⟩,g⟩
 .exact h.1.elim
end
instance(P:fd)(fn:Ö)(fresh:dF)(res:af):FM (wH P fn fresh res) where
 Ao:=λr=>match r with
  |.ret T H []=>(match lB P fn T H with |.ok v _=>Ju fresh H v res []|_=>[.p lm])
  |_=>[.p lm]
 ok:=λr h=>by
  split at h
  .show(match lB P fn _ _ with |.ok v _=>cV fresh _ v res|_=>lm)
   split at h
   .exact(WD h).1
   .exact h.1.elim
  .exact h.1.elim
end
end
section
variable[Ground]
noncomputable section
structure je where
 f:ya
 e:ed
 t:aq
 ps:I aq
 rs:I aq
 pre:I t.den->E->E->jI ps->dF
 out:I t.den->E->E->jI ps->I t.den
 fn:I t.den->E->E->jI ps->jI rs
def sQ(A:E->da (E×E))(Y:E->da Obj):Ext:={rd:=bs,K:=λ_=>bs,R:=λ_ _=>lm,pin:=[64],A:=A,Y:=Y}
def sR(e:ed)(t:aq)(xs:I t.den):ai:=⟨CL .nil [(64,.blk (.own e t xs))],65⟩
def M2(P:fd)(fn:Ö)(e:ed)(t:aq)(xs:I t.den)(res:af):sC->au af->ai->Prop:=λd T H=>match d with
 |.normal|.ret=>(match lB P fn T H with |.ok v _=>cV D H v res/\H.get 64=O (.own e t xs)|_=>lm)
 |_=>lm
def FR:I aq->dF
 |[]=>D
 |t::l=>t.nS&&FR l
def je.Ok(P:fd)(c:je):Prop:=c.t.nS=D/\FR c.rs=D/\∃fn g,P.funcs[c.f]? =O fn/\fn.body=O g/\c.ps.length+1<=fn.ntmps/\
 ∀(xs:I c.t.den)(k d:E)(j:aY)(f:jI c.ps),c.pre xs k d f=D->1<=d->k+d<=xs.length->∀A Y w F,
  bc (sQ A Y) P w F fn.ntmps (fl g []) (gI (.bZ c.e c.t 64 k d j::lI c.ps f) .nil 0) (sR c.e c.t xs) (M2 P fn c.e c.t (c.out xs k d f) (qv c.rs (c.fn xs k d f)))
def Ap(c:je)(args:I af)(H:ai):aD aM:=match args with
 |.bZ e t i k d _::g=>(match dd e c.e&&bP (t=c.t)with
   |true=>pC H ao (.ret .no) c.ps g λf=>.must (bx c.e c.t (H.get i) (k+d-1)&&dK 1 d) (.must (c.pre (bu c.t (H.get i)) k d f)
     (.ret (.ok (qv c.rs (c.fn (bu c.t (H.get i)) k d f)) (H.set i (.own c.e c.t (c.out (bu c.t (H.get i)) k d f))))))
   |false=>.ret .no)
 |_=>.ret .no
def C0(l:I je)(bB:bL):bL:=λf d H=>match l with
 |[]=>bB f d H
 |c::l=>match dd f c.f with |true=>Ap c d H|false=>C0 l bB f d H
section
variable{P:fd}{B:E}{ρ:Env}{H:ai}{w:du}
def O1:∀(f:I aq)(d:jI f),(lI f d).length=f.length
 |[],_=>rfl
 |_::l,d=>by simp[lI,O1 l d.2]
def aiX{F g:Env}{t:aq}(m:t.nS=D){d:t.den}{x:Value}(h:Den F (uw t d) x):Den g (uw t d) x:=by
 cases f:t.isAgg with
 |true=>
  unfold uw at h ⊢;rw[f]at h ⊢;obtain⟨xs,p,rfl⟩:=h.uf;exact .agg (Al t d xs m p)
 |false=>
  have q:aE F (t.cells d) [x]:=by rw[ii f];exact .cons h .nil
  have j:=Al (ρ':=g) t d _ m q;rw[ii f]at j;cases j with |cons o _=>exact o
def WE{F j:Env}:∀(g:I aq),FR g=D->∀{d:jI g}{xs:I Value},aE F (lI g d) xs->aE j (lI g d) xs
 |[],_,_,_,h=>by cases h;exact .nil
 |t::l,f,d,_,h=>by
  have f:(t.nS&&FR l)=D:=f;rw[ae]at f;cases h with
  |cons m o=>exact .cons (aiX f.1 m) (WE l f.2 o)
def aiY{F g:Env}{f:I aq}(z:FR f=D){d:jI f}{x:Value}(h:Den F (qv f d) x):Den g (qv f d) x:=by
 have A:∀l,lI f d=l->Den F (match l with |[v]=>v|m=>.tuple m) x->Den g (match l with |[v]=>v|m=>.tuple m) x:=by
  intro l u j;have o:∀xs,aE F l xs->aE g l xs:=λxs p=>by rw[<-u]at p ⊢;exact WE f z p
  split at j
  .rename_i v;have:=o [x] (.cons j .nil);cases this with |cons q _=>exact q
  .obtain⟨xs,r,rfl⟩:=j.Fg;exact .tuple (o _ r)
 exact A _ rfl h
def O2{ρ ρ':Env}{t:aq}(f:t.nS=D){xs:I t.den}{ys:I Value}(h:aE ρ (t.flat xs) ys):aE ρ' (t.flat xs) ys:=pz (λd ys=>Al t d ys f) xs ys h
def C1{e:ed}{t:aq}{xs:I t.den}{i:E}{k:bn}(h:(sR e t xs).get i=O k):i=64/\k=.own e t xs:=by
 have h:(CL .nil [(64,.blk (.own e t xs))]).get i=O k:=h;rw[Ov]at h;by_cases f:i=64
 .subst f;cases h;exact⟨rfl,rfl⟩
 .have d:dd 64 i=ao:=by
   cases d:dd 64 i with
   |false=>rfl
   |true=>exact absurd (ac d).symm f
  simp only[I.find?,d]at h;rw[au.get_nil]at h;cases h
def aiZ{c:je}{args:I af}{v:af}{H':ai}(h:(Ap c args H).gr=O (.ok v H')):∃i k f p o xs d,args=.bZ c.e c.t i k f p::o/\H.get i=O (.own c.e c.t xs)/\1<=f/\k+f<=xs.length/\c.pre xs k f d=D/\
  v=qv c.rs (c.fn xs k f d)/\H'=H.set i (.own c.e c.t (c.out xs k f d))/\(∀F j,bl P B ρ H w->F=k4 ao w ρ->aE ρ o j->aE F (lI c.ps d) j):=by
 unfold Ap at h;split at h
 .rename_i e t i k f p o;split at h
  .rename_i r;rw[ae]at r;have G:=ac r.1;have J:=cC r.2;subst G;subst J;have S:∃d:jI c.ps,(aD.must (bx c.e c.t (H.get i) (k+f-1)&&dK 1 f) (.must (c.pre (bu c.t (H.get i)) k f d)
    (.ret (aM.ok (qv c.rs (c.fn (bu c.t (H.get i)) k f d)) (H.set i (.own c.e c.t (c.out (bu c.t (H.get i)) k f d))))))).gr=O (.ok v H')/\(∀F j,bl P B ρ H w->F=k4 ao w ρ->aE ρ o j->aE F (lI c.ps d) j):=by
    by_cases z:bl P B ρ H w
    .obtain⟨d,g,q⟩:=m7 (w:=w) z (cX:=ao) (no:=aD.ret aM.no) (b:=aM.ok v H') (by simp[aD.gr]) c.ps h;exact⟨d,g,λF j _ K M=>by subst K;exact q j M⟩
    .obtain⟨d,g⟩:=FL (cX:=ao) (no:=aD.ret aM.no) (b:=aM.ok v H') (by simp[aD.gr]) c.ps h;exact⟨d,g,λF j L=>absurd L z⟩
   obtain⟨d,g,q⟩:=S;cases m:(bx c.e c.t (H.get i) (k+f-1)&&dK 1 f)with
   |false=>rw[m]at g;cases g
   |true=>
    rw[m]at g;rw[ae]at m;obtain⟨A,U⟩:=xZ m.1;have C:=b5 m.2;cases u:c.pre (bu c.t (H.get i)) k f d with
    |false=>rw[u]at g;cases g
    |true=>
     rw[u]at g;simp only[aD.gr,ka,vV,aM.ok.injEq]at g;obtain⟨rfl,rfl⟩:=g;exact⟨i,k,f,p,o,bu c.t (H.get i),d,rfl,A,C,by omega,u,rfl,rfl,q⟩
  .cases h
 .cases h
def ai0{c:je}(hc:c.Ok P){args:I af}{v:af}{H':ai}(h:(Ap c args H).gr=O (.ok v H')){xs:I Value}(m:E)(hH:bl P B ρ H w)(bR:qp ρ)(hd:aE ρ args xs):GC (eZ bs) m P c.f xs.toArray w (pn P B ρ H w v H'):=by
 obtain⟨i,k,len,cap,vs,us,d,rfl,hi,hlen,hk,hp,rfl,rfl,hvs⟩:=aiZ (P:=P) (B:=B) (ρ:=ρ) (w:=w) h;obtain⟨htl,hrl,fn,code,hf,hb,hn,hbody⟩:=hc;cases hd with
 |cons FT hds=>
  rename_i x0 xr;rcases FT.kW with⟨h0,_⟩|⟨b,c0,kc,hr,hcap,hlk,rfl⟩
  .omega
  obtain⟨b',c',o,e1,e2,e3,bX⟩:=hH.blk i _ hi;rw[hr]at e1;cases e1;have nP:b<w.heap.size:=(cy.1 e2).1
  let Aq:Env:=⟨λj=>if j<64 then ρ j else if j=64 then O (b,c0)else bs,ρ.fz⟩
  let A:E->da (E×E):=λj=>if j=64 then O (b,c0)else bs
  let Y:E->da Obj:=λq=>if q=b then bs else w.heap[q]?
  let w0:du:={w with heap:=w.heap.extract 0 b}
  have hw0:w0.heap.size=b:=by show(w.heap.extract 0 b).size=b;simp;omega
  have k3:Aq 64=O (b,c0):=rfl;have hown:∀gT:Env,gT 64=O (b,c0)->∀o,iZ P ρ i (.own c.e c.t us) o->iZ P gT 64 (.own c.e c.t us) o:=by
   rintro gT h2 o ⟨⟨zs,fz,g1,g2,g3,g4,g5⟩,g6⟩;refine⟨⟨zs,fz,g1,g2,O2 htl g3,g4,λhx=>?_⟩,g6⟩;obtain⟨b1,c1,q1,aO⟩:=g5 hx;rw[hr]at q1;cases q1;exact⟨b,c0,h2,aO⟩
  have O3:bl P b Aq (sR c.e c.t us) w:=by
   refine⟨λj q hj=>?_,λj j' q q' bb cz Jv hj hj' _ _=>?_,λj q hj=>?_,kt nP,λbb lJ hz=>?_⟩
   .obtain⟨rfl,rfl⟩:=C1 hj;exact⟨b,c0,o,rfl,e2,hown _ rfl _ e3,λ_=>aC _⟩
   .rw[(C1 hj).1,(C1 hj').1]
   .rw[(C1 hj).1];exact gR _
   .refine⟨(hH.fz bb lJ hz).1,λj q cz hj hr'=>?_⟩;obtain⟨rfl,rfl⟩:=C1 hj;rw[k3]at hr';cases hr';exact(hH.fz _ lJ hz).2 i _ c0 hi hr
  have ai1:aE Aq (.bZ c.e c.t 64 k len cap::lI c.ps d) (.slice (O ⟨b,k*c.t.size,bs⟩) len kc::xr):=by
   refine .cons (.bZ k3 hcap hlk) (aE.mono (ρ:=k4 ao w ρ) (ρ':=Aq) ⟨λj x hj=>?_,λ_ _ h=>h⟩ (hvs _ xr hH rfl hds));have hj:(if j<64 then ρ j else bs)=O x:=hj;by_cases h6:j<64
   .rw[dA h6]at hj;show(if j<64 then ρ j else _)=O x;rw[dA h6];exact hj
   .rw[db h6]at hj;cases hj
  have hs:mR (sQ A Y) P w0 Aq fn.ntmps (gI (.bZ c.e c.t 64 k len cap::lI c.ps d) .nil 0) (sR c.e c.t us) {tmps:=(Value.slice (O ⟨b,k*c.t.size,bs⟩) len kc::xr).toArray++fh.replicate (fn.ntmps-(Value.slice (O ⟨b,k*c.t.size,bs⟩) len kc::xr).toArray.size) lk,defers:=[]} w:=by
   refine⟨⟨Aq,⟨Fo ai1 (by simp[O1];omega),by rw[hw0];exact O3,λg hg=>?_,bR.Cq⟩,λj hj=>?_,λbb lJ hz=>.inl hz,⟨λbb l7 h=>(by cases h),λj hj=>?_,λbb lJ h=>(by cases h),gt _,λbb l7 h=>(by cases h),rfl,λbb l7 hy=>?_⟩⟩,⟨rfl,rfl,rfl,by rw[hw0];exact kt nP,λq hq=>?_⟩,rfl⟩
   .obtain⟨O4,O5⟩:=bR.at' g hg;exact⟨O4,by show(if g<64 then ρ g else _)=_;rw[dA hg];exact O5⟩
   .have hj:65<=j:=hj;show(if j<64 then ρ j else if j=64 then O (b,c0)else bs)=bs;rw[db ω,db ω]
   .have hj:j∈[64]:=hj;rw[kD]at hj;subst hj;exact⟨gR _,λx hx=>hx⟩
   .have hy:(if bb=b then bs else w.heap[bb]?)=O l7:=hy;by_cases hbb:bb=b
    .rw[dA hbb]at hy;cases hy
    .rw[db hbb]at hy;refine⟨hy,λ⟨j,q,cz,hj,_,hr'⟩=>?_⟩;obtain⟨rfl,rfl⟩:=C1 hj;rw[k3]at hr';cases hr';exact hbb rfl
   .have hq:q<b:=by rw[<-hw0];exact hq
    show w.heap[q]? =(w.heap.extract 0 b)[q]?;rw[fh.getElem?_extract];rw[dA ω];simp
  refine Ã hf hb trivial (zS (yf (by have:=hbody us k len cap d hp hlen hk A Y w0 Aq;rwa[fl,OQ]at this) _ _ hs m) λe a' w' hh=>?_);obtain⟨aZ,H1,h1,h2⟩:=hh.resolve_right λq=>q.2
  obtain⟨gT,aQ,hnone,hfz,hkp⟩:=h2.ex;have hd':=h2.defers;have key:(match lB P fn aZ H1 with |.ok v _=>cV D H1 v (qv c.rs (c.fn us k len d))/\H1.get 64=O (.own c.e c.t (c.out us k len d))|_=>lm)->LeavesInM (eZ bs) m P fn a'.tmps (pn P B ρ H w (qv c.rs (c.fn us k len d)) (H.set i (.own c.e c.t (c.out us k len d)))) a'.defers .returning w':=by
   intro rA;split at rA
   .rename_i v1 H2 hres;obtain⟨qx,hr2⟩:=rA;have sO:gj gT [] a'.defers:=hd';refine gE (T:=aZ) (H:=H1) [] aQ sO (show lW P fn aZ H1 []=.ok v1 H2 from hres) λy w2 r1 r2 r3=>?_
    obtain⟨rfl,_⟩:=IY aQ hres;have hk2:=OC hkp r3;have WG:gT 64=O (b,c0):=(hk2.pin 64 (kD.2 rfl)).2 (b,c0) rfl;have gK:=h2.below.trans (r3.below aQ.H);have hsz:w.heap.size<=w2.heap.size:=by
     by_cases hz:w.heap.size=b+1
     .obtain⟨b1,c1,o1,q1,aO,_⟩:=r2.blk 64 _ hr2;rw[WG]at q1;cases q1;have:=(cy.1 aO).1;omega
     .have hy:=hk2.y (w.heap.size-1) _ (show(if w.heap.size-1=b then bs else w.heap[w.heap.size-1]?)=O (w.heap[w.heap.size-1]'ω) by rw[db ω];simp);have:=(cy.1 hy.1).1;omega
    have hkeep:∀q,q<w.heap.size->q≠b->w2.heap[q]? =w.heap[q]? :=λq hq gW=>by
     have hy:=hk2.y q _ (show(if q=b then bs else w.heap[q]?)=O (w.heap[q]'hq) by rw[db gW];simp[hq]);rw[hy.1];simp[hq]
    have hnf:∀bb lJ,ρ.fz bb=O lJ->bb≠b/\bb<w.heap.size:=λbb lJ hz=>by
     obtain⟨⟨ee,fr,q1⟩,aO⟩:=hH.fz bb lJ hz;refine⟨λhbb=>?_,(cy.1 q1).1⟩;subst hbb;have:=aO i _ c0 hi hr;cases this
    have qy:∀j q,(H.set i (.own c.e c.t (c.out us k len d))).get j=O q->∃q',H.get j=O q'/\q'.fq=q.fq:=λj q hj=>by
     rw[ai.gS]at hj;by_cases hij:i=j
     .subst hij;rw[dA rfl]at hj;cases hj;exact⟨_,hi,rfl⟩
     .rw[db hij]at hj;exact⟨q,hj,rfl⟩
    refine⟨y,ρ,rfl,aiY hrl (Jo r2 hfz qx r1),⟨λj q hj=>?_,λj j' q q' bb cz Jv hj hj' jd ai2=>?_,λj q hj=>?_,cD hH.base hsz,λbb lJ hz=>?_⟩,
     ⟨cR.refl _,λ_ _=>rfl,aC _,hsz,gK.os,gK.tape,gK.output,λq hq hno=>?_,λq hq ⟨j,aO,cz,hj,hro,jd⟩=>?_,λq hq ⟨j,aO,cz,hj,jd⟩=>?_,λ_ _ h=>.inl h⟩⟩
    .rw[ai.gS]at hj;by_cases hij:i=j
     .subst hij;rw[dA rfl]at hj;cases hj;obtain⟨b1,c1,o1,q1,aO,⟨⟨zs,fz,g1,g2,g3,g4,g5⟩,g6⟩,_⟩:=r2.blk 64 _ hr2;have g5:=g5 rfl;rw[WG]at q1 g5;cases q1;refine⟨b,c0,o1,hr,aO,⟨⟨zs,fz,g1,g2,O2 htl g3,g4,λ_=>?_⟩,g6⟩,λ_=>bX rfl⟩;obtain⟨b3,c3,k1,k2⟩:=g5;cases k1;exact⟨b,c0,hr,k2⟩
     .rw[db hij]at hj;obtain⟨bj,cz,oj,p1,p2,p3,fL⟩:=hH.blk j q hj;have hne:bj≠b:=λhbb=>hij (hH.inj i j _ _ b c0 cz hi hj hr (by rw[<-hbb];exact p1))
      exact⟨bj,cz,oj,p1,(hkeep bj (cy.1 p2).1 hne).trans p2,p3,fL⟩
    .obtain⟨q1,g1,_⟩:=qy j q hj;obtain⟨aO,g2,_⟩:=qy j' q' hj';exact hH.inj j j' _ _ bb cz Jv g1 g2 jd ai2
    .obtain⟨q1,g1,_⟩:=qy j q hj;exact hH.lt j _ g1
    .obtain⟨hnb,hlt⟩:=hnf bb lJ hz;obtain⟨⟨ee,fr,q1⟩,aO⟩:=hH.fz bb lJ hz;refine⟨⟨ee,fr,(hkeep bb hlt hnb).trans q1⟩,λj q cz hj jd=>?_⟩;obtain⟨q',g1,g2⟩:=qy j q hj;rw[<-g2];exact aO j q' cz g1 jd
    .exact hkeep q hq λgW=>hno ⟨i,_,c0,hi,rfl,by rw[gW];exact hr⟩
    .obtain⟨q',g1,g2⟩:=qy j aO hj;exact⟨j,q',cz,g1,g2.trans hro,jd⟩
    .obtain⟨q',g1,_⟩:=qy j aO hj;exact⟨j,q',cz,g1,jd⟩
   .exact rA.elim
  cases e with
  |normal=>exact key h1
  |ret=>exact key h1
  |_=>exact h1.elim
def O6{bB:bL}{f:ya}{args:I af}{v:af}{H':ai}:∀{l:I je},(C0 l bB f args H).gr=O (.ok v H')->(∃c∈l,c.f=f/\(Ap c args H).gr=O (.ok v H'))\/(bB f args H).gr=O (.ok v H')
 |[],h=>.inr h
 |c::l,h=>by
  unfold C0 at h;cases g:dd f c.f with
  |true=>simp only[g]at h;exact .inl ⟨c,gb,(ac g).symm,h⟩
  |false=>
   simp only[g]at h;rcases O6 h with⟨j,d,m⟩|d
   .exact .inl ⟨j,gQ _ d,m⟩
   .exact .inr d
def ai3{c:je}{args:I af}{v:af}{H':ai}(h:(Ap c args H).gr=O (.ok v H')):H'.next=H.next:=by
 unfold Ap at h;split at h
 .rename_i e t i k f o p;split at h
  .obtain⟨m,d⟩:=FL (cX:=ao) (no:=aD.ret aM.no) (b:=aM.ok v H') (by simp[aD.gr]) c.ps h;cases g:(bx c.e c.t (H.get i) (k+f-1)&&dK 1 f)with
   |false=>rw[g]at d;cases d
   |true=>
    rw[g]at d;cases j:c.pre (bu c.t (H.get i)) k f m with
    |false=>rw[j]at d;cases d
    |true=>
     rw[j]at d;simp only[aD.gr,ka,vV,aM.ok.injEq]at d;obtain⟨_,rfl⟩:=d;rfl
  .cases h
 .cases h
def WH{l:I je}{bB:bL}(A:∀c∈l,c.Ok P)(p:bI P (bJ bB)):bI P (bJ (C0 l bB)) where
 mono j g H v f h:=by
  rcases O6 (ux h)with⟨c,_,_,d⟩|d
  .rw[ai3 d];exact aC _
  .exact p.mono j g H v f (by unfold bJ;rw[d];rfl)
 dc j g H v f h B ρ xs w r o m q z:=by
  rcases O6 (ux h)with⟨c,u,rfl,d⟩|d
  .exact ai0 (A c u) d r o m q
  .exact p.dc j g H v f (by unfold bJ;rw[d];rfl) B ρ xs w r o m q z
structure uz where
 f:ya
 res:I af->aD (da af)
def uz.Ok(P:fd)(c:uz):Prop:=∀d v,(c.res d).gr=O (O v)->∀(w:du)(F:Env)(xs:I Value),(∀b A,F.fz b=O A->∃e f,w.heap[b]? =O (.cells A e f))->sN F->aE F d xs->
 DG P c.f xs.toArray w λe g=>∃x,e=.returned x/\Den F v x/\Below w.heap.size w g
def FU(c:uz)(args:I af)(H:ai):aD aM:=(c.res args).bind λr=>match r with |some v=>.ret (.ok v H)|none=>.ret .no
def C2(l:I uz)(bB:bL):bL:=λf d H=>match l with
 |[]=>bB f d H
 |c::l=>match dd f c.f with |true=>FU c d H|false=>C2 l bB f d H
def WI{c:uz}{args:I af}{v:af}{H':ai}(h:(FU c args H).gr=O (.ok v H')):H'=H/\(c.res args).gr=O (O v):=by
 unfold FU at h;rw[aD.sJ]at h;cases d:(c.res args).gr with
 |none=>rw[d]at h;cases h
 |some r=>
  rw[d]at h;cases r with
  |none=>cases h
  |some f=>cases h;exact⟨rfl,rfl⟩
def ai4{c:uz}(U:c.Ok P){args:I af}{v:af}{H':ai}(h:(FU c args H).gr=O (.ok v H')){xs:I Value}(m:E)(f:bl P B ρ H w)(r:qp ρ)(V:aE ρ args xs):GC (eZ bs) m P c.f xs.toArray w (pn P B ρ H w v H'):=by
 obtain⟨rfl,L⟩:=WI h;have q:=U args v L w ρ xs (λb A d=>(f.fz b A d).1) r.Cq V;have g:GC (eZ bs) m P c.f xs.toArray w _:=wQ.2 q;refine g.mono ?_;rintro e p ⟨x,rfl,g,d⟩;have j:∀b o,w.heap[b]? =O o->p.heap[b]? =O o:=λb o p=>(d.block b (cy.1 p).1).trans p
 refine⟨x,ρ,rfl,g,⟨λi k W=>?_,f.inj,f.lt,cD f.base d.size,λb A g=>?_⟩,⟨cR.refl _,λ_ _=>rfl,aC _,d.size,d.os,d.tape,d.output,λb p _=>d.block b p,λ_ _ h=>h,λ_ _ h=>h,λb A g=>.inl g⟩⟩
 .obtain⟨b,z,o,C,G,J,u⟩:=f.blk i k W;exact⟨b,z,o,C,j b o G,J,u⟩
 .obtain⟨⟨e,K,M⟩,S⟩:=f.fz b A g;exact⟨⟨e,K,j b _ M⟩,S⟩
def O7{bB:bL}{f:ya}{args:I af}{v:af}{H':ai}:∀{l:I uz},(C2 l bB f args H).gr=O (.ok v H')->(∃c∈l,c.f=f/\(FU c args H).gr=O (.ok v H'))\/(bB f args H).gr=O (.ok v H')
 |[],h=>.inr h
 |c::l,h=>by
  unfold C2 at h;cases g:dd f c.f with
  |true=>simp only[g]at h;exact .inl ⟨c,gb,(ac g).symm,h⟩
  |false=>
   simp only[g]at h;rcases O7 h with⟨j,d,m⟩|d
   .exact .inl ⟨j,gQ _ d,m⟩
   .exact .inr d
def WJ{l:I uz}{bB:bL}(A:∀c∈l,c.Ok P)(p:bI P (bJ bB)):bI P (bJ (C2 l bB)) where
 mono j g H v f h:=by
  rcases O7 (ux h)with⟨c,_,_,d⟩|d
  .rw[(WI d).1];exact aC _
  .exact p.mono j g H v f (by unfold bJ;rw[d];rfl)
 dc j g H v f h B ρ xs w r o m q z:=by
  rcases O7 (ux h)with⟨c,u,rfl,d⟩|d
  .exact ai4 (A c u) d r o m q
  .exact p.dc j g H v f (by unfold bJ;rw[d];rfl) B ρ xs w r o m q z
end
end
end
section
variable[Ground]
noncomputable section
structure sS where
 f:ya
 e:ed
 t:aq
 ps:I aq
 pre:jI ps->dF
 out:jI ps->I t.den
def O8(P:fd)(fn:Ö)(e:ed)(t:aq)(xs:I t.den):sC->au af->ai->Prop:=λg T H=>match g with
 |.normal|.ret=>(match lB P fn T H with
   |.ok (.bZ f j i k n d) _=>f=e/\k=0/\n=xs.length/\d=.full/\j=t/\H.get i=O (.own e t xs)
   |_=>lm)
 |_=>lm
def sS.Ok(P:fd)(c:sS):Prop:=c.t.nS=D/\∃fn f,P.funcs[c.f]? =O fn/\fn.body=O f/\c.ps.length<=fn.ntmps/\
 ∀d:jI c.ps,c.pre d=D->1<=(c.out d).length/\∀w F,bp P w F fn.ntmps (fl f []) (gI (lI c.ps d) .nil 0) H0 (O8 P fn c.e c.t (c.out d))
def Jw(c:sS)(args:I af)(H:ai):aD aM:=pC H ao (.ret .no) c.ps args λd=>.must (c.pre d) (.ret (.ok (.bZ c.e c.t H.next 0 (c.out d).length .full) (H.new (.own c.e c.t (c.out d)))))
def FV(l:I sS)(bB:bL):bL:=λf d H=>match l with
 |[]=>bB f d H
 |c::l=>match dd f c.f with |true=>Jw c d H|false=>FV l bB f d H
section
variable{P:fd}{B:E}{ρ:Env}{H:ai}{w:du}
def ai5{c:sS}{args:I af}{v:af}{H':ai}(h:(Jw c args H).gr=O (.ok v H')):H'.next=H.next+1:=by
 obtain⟨g,d⟩:=FL (cX:=ao) (no:=aD.ret aM.no) (b:=aM.ok v H') (by simp[aD.gr]) c.ps h;cases f:c.pre g with
 |false=>rw[f]at d;cases d
 |true=>rw[f]at d;cases d;rfl
def ai6{c:sS}(i3:c.Ok P){args:I af}{v:af}{H':ai}(h:(Jw c args H).gr=O (.ok v H')){xs:I Value}(m:E)(q:bl P B ρ H w)(c7:qp ρ)(i4:aE ρ args xs)(j7:Fr ρ H.next H'.next):GC (eZ bs) m P c.f xs.toArray w (pn P B ρ H w v H'):=by
 obtain⟨l2,fn,m',j6,i1,k6,i2⟩:=i3;obtain⟨p,h1,h2⟩:=m7 (w:=w) q (cX:=ao) (no:=aD.ret aM.no) (b:=aM.ok v H') (by simp[aD.gr]) c.ps h;have S:c.pre p=D/\v=.bZ c.e c.t H.next 0 (c.out p).length .full/\H'=H.new (.own c.e c.t (c.out p)):=by
  cases S:c.pre p with
  |false=>rw[S]at h1;cases h1
  |true=>rw[S]at h1;cases h1;exact⟨rfl,rfl,rfl⟩
 obtain⟨S,rfl,rfl⟩:=S;obtain⟨n',k0⟩:=i2 p S;have j2:=h2 xs i4;have C3:∀i x,(k4 ao w ρ) i=O x->i<64:=λi x U=>by
  have U:(if i<64 then ρ i else bs)=O x:=U;by_cases h:i<64
  .exact h
  .rw[db h]at U;cases U
 have g8:bl P w.heap.size (k4 ao w ρ) H0 w:=⟨λi k h=>(by rw[show H0.get i=bs from au.get_nil i]at h;cases h),λi j m2 m1 b l7 o h=>(by rw[show H0.get i=bs from au.get_nil i]at h;cases h),λi k h=>(by rw[show H0.get i=bs from au.get_nil i]at h;cases h),aC _,
  λb a6 h=>⟨(q.fz b a6 h).1,λi k c J=>(by rw[show H0.get i=bs from au.get_nil i]at J;cases J)⟩⟩
 have l1:Sat P w (k4 ao w ρ) fn.ntmps (gI (lI c.ps p) .nil 0) H0 {tmps:=xs.toArray++fh.replicate (fn.ntmps-xs.toArray.size) lk,defers:=[]} w:=by
  refine⟨⟨k4 ao w ρ,⟨Fo j2 (by rw[O1];exact k6),g8,λb3 a0=>?_,c7.Cq⟩,λi J=>?_,λb a6 h=>.inl h,⟨λb a5 h=>(by cases h),λi J=>(by cases J),λb a6 h=>(by cases h),gt _,λb a5 h=>(by cases h),rfl,λb a5 h=>(by cases h)⟩⟩,qg _ _,rfl⟩
  .obtain⟨g9,h'⟩:=c7.at' b3 a0;exact⟨g9,by show(if b3<64 then ρ b3 else bs)=_;rw[dA a0];exact h'⟩
  .have J:64<=i:=J;cases g':(k4 ao w ρ) i with
   |none=>rfl
   |some x=>exact absurd (C3 i x g') ω
 refine Ã j6 i1 trivial (zS (yf (by have:=k0 w (k4 ao w ρ);rwa[fl,OQ]at this) _ _ l1 m) λe a' w' k3=>?_);obtain⟨b2,H1,W,g2⟩:=k3.resolve_right λr=>r.2
 obtain⟨i',a9,n0,m3,_⟩:=g2.ex;have j1:=g2.defers;have f':(match lB P fn b2 H1 with |.ok (.bZ e' t' i k n c9) _=>e'=c.e/\k=0/\n=(c.out p).length/\c9=.full/\t'=c.t/\H1.get i=O (.own c.e c.t (c.out p))|_=>lm)->LeavesInM (eZ bs) m P fn a'.tmps (pn P B ρ H w (.bZ c.e c.t H.next 0 (c.out p).length .full) (H.new (.own c.e c.t (c.out p)))) a'.defers .returning w':=by
  intro c3;split at c3
  .rename_i e' t' i k n c9 H2 e9;obtain⟨rfl,rfl,rfl,rfl,rfl,l3⟩:=c3;have l4:gj i' [] a'.defers:=j1;refine gE (T:=b2) (H:=H1) [] a9 l4 (show lW P fn b2 H1 []=.ok _ H2 from e9) λy w2 C r2 r3=>?_
   obtain⟨rfl,_⟩:=IY a9 e9;have M:=g2.below.trans (r3.below a9.H);rcases C.kW with⟨h0,_⟩|⟨b,c0,n1,q1,h5,h6,rfl⟩
   .omega
   obtain⟨b',c',a5,e1,e2,e3,h7⟩:=r2.blk i _ l3;rw[q1]at e1;cases e1;have i0:w.heap.size<=b:=h7 rfl;have b4:∀r,r<w.heap.size->w2.heap[r]? =w.heap[r]? :=λr a1=>M.block r a1
   have l':ρ H.next=bs:=j7 H.next (aC _) (gR _)
   let ρ':Env:=⟨λj=>if j=H.next then O (b,c0)else ρ j,ρ.fz⟩
   have A:ρ' H.next=O (b,c0):=dA rfl;have z:∀j,j≠H.next->ρ' j=ρ j:=λj d=>db d
   have c2:cR ρ ρ':=⟨λj x d=>by
    by_cases f:j=H.next
    .rw[f,l']at d;cases d
    .rw[z j f];exact d,λ_ _ h=>h⟩
   have l6:∀j,H.get j≠bs->j≠H.next:=λj d f=>by
    cases a0:H.get j with
    |none=>exact d a0
    |some k=>have:=q.lt j k a0;omega
   have e7:∀u K,ρ.fz u=O K->u<w.heap.size:=λu K a2=>by
    obtain⟨⟨d',e0,h3⟩,_⟩:=q.fz u K a2;exact(cy.1 h3).1
   have G:∀j k,(H.new (.own c.e c.t (c.out p))).get j=O k->(j=H.next/\k=.own c.e c.t (c.out p))\/(j≠H.next/\H.get j=O k):=λj k d=>by
    rw[ai.iM]at d;by_cases f:H.next=j
    .rw[dA f]at d;cases d;exact .inl ⟨f.symm,rfl⟩
    .rw[db f]at d;exact .inr ⟨λh=>f h.symm,d⟩
   refine⟨_,ρ',rfl,.bZ A h5 h6,⟨λj k d=>?_,λj j' k k' u o g7 d a4 C r2=>?_,λj k d=>?_,cD q.base M.size,λu K a2=>?_⟩,⟨c2,λj d=>?_,QZ _,M.size,M.os,M.tape,M.output,λr a1 _=>b4 r a1,λr a1 ⟨j,k,o,d,l0,g⟩=>?_,λr a1 ⟨j,k,o,d,g⟩=>?_,λ_ _ h=>.inl h⟩⟩
   .rcases G j k d with⟨rfl,rfl⟩|⟨f,d⟩
    .obtain⟨⟨l5,h9,W,g2,g3,g4,g5⟩,g6⟩:=e3;refine⟨b,c0,a5,A,e2,⟨⟨l5,h9,W,g2,O2 l2 g3,g4,λU=>?_⟩,g6⟩,λ_=>cD q.base i0⟩;obtain⟨b1,c1,k1,k2⟩:=g5 U;rw[q1]at k1;cases k1;exact⟨b,c0,A,k2⟩
    .obtain⟨a3,o,c4,L,V,p3,h8⟩:=q.blk j k d;exact⟨a3,o,c4,c2 _ _ L,(b4 a3 (cy.1 V).1).trans V,p3.mono c2,h8⟩
   .rcases G j k d with⟨rfl,rfl⟩|⟨f,d⟩<;>rcases G j' k' a4 with⟨rfl,rfl⟩|⟨c5,a4⟩
    .rfl
    .rw[A]at C;cases C;rw[z j' c5]at r2;obtain⟨a3,o,c4,L,V,_⟩:=q.blk j' k' a4;rw[r2]at L;cases L;have:=(cy.1 V).1;omega
    .rw[A]at r2;cases r2;rw[z j f]at C;obtain⟨a3,o,c4,L,V,_⟩:=q.blk j k d;rw[C]at L;cases L;have:=(cy.1 V).1;omega
    .rw[z j f]at C;rw[z j' c5]at r2;exact q.inj j j' k k' u o g7 d a4 C r2
   .rcases G j k d with⟨rfl,rfl⟩|⟨f,d⟩
    .exact gR _
    .exact E.lt_succ_of_lt (q.lt j k d)
   .obtain⟨⟨d',e0,h3⟩,h4⟩:=q.fz u K a2;refine⟨⟨d',e0,(b4 u (e7 u K a2)).trans h3⟩,λj k o d g=>?_⟩;rcases G j k d with⟨rfl,rfl⟩|⟨f,d⟩
    .rw[A]at g;cases g;have:=e7 _ K a2;omega
    .rw[z j f]at g;exact h4 j k o d g
   .refine z j λf=>?_
    subst f;rcases d with h|h
    .exact absurd h (YZ _)
    .exact absurd h (E.not_succ_le_self _)
   .rcases G j k d with⟨rfl,rfl⟩|⟨f,d⟩
    .rw[A]at g;cases g;omega
    .rw[z j f]at g;exact⟨j,k,o,d,l0,g⟩
   .rcases G j k d with⟨rfl,rfl⟩|⟨f,d⟩
    .rw[A]at g;cases g;omega
    .rw[z j f]at g;exact⟨j,k,o,d,g⟩
  .exact c3.elim
 cases e with
 |normal=>exact f' W
 |ret=>exact f' W
 |_=>exact W.elim
def O9{bB:bL}{f:ya}{args:I af}{v:af}{H':ai}:∀{l:I sS},(FV l bB f args H).gr=O (.ok v H')->(∃c∈l,c.f=f/\(Jw c args H).gr=O (.ok v H'))\/(bB f args H).gr=O (.ok v H')
 |[],h=>.inr h
 |c::l,h=>by
  unfold FV at h;cases g:dd f c.f with
  |true=>simp only[g]at h;exact .inl ⟨c,gb,(ac g).symm,h⟩
  |false=>
   simp only[g]at h;rcases O9 h with⟨j,d,m⟩|d
   .exact .inl ⟨j,gQ _ d,m⟩
   .exact .inr d
def ai7{l:I sS}{bB:bL}(A:∀c∈l,c.Ok P)(p:bI P (bJ bB)):bI P (bJ (FV l bB)) where
 mono j g H v f h:=by
  rcases O9 (ux h)with⟨c,_,_,d⟩|d
  .rw[ai5 d];exact QZ _
  .exact p.mono j g H v f (by unfold bJ;rw[d];rfl)
 dc j g H v f h B ρ xs w u o m q r:=by
  rcases O9 (ux h)with⟨c,z,rfl,d⟩|d
  .exact ai6 (A c z) d u o m q r
  .exact p.dc j g H v f (by unfold bJ;rw[d];rfl) B ρ xs w u o m q r
end
def Jx(P:fd)(fn:Ö)(e:ed)(t:aq)(xs:I t.den):R->Prop
 |.ret T H []=>(match lB P fn T H with
   |.ok (.bZ f j i k n d) _=>(match H.get i with
     |some (.own g t2 ys)=>jw (dd f e&&(dd g e&&(dd k 0&&bP (j=t)))) (n=xs.length/\d=.full/\rz t2 t ys xs)
     |_=>lm)
   |_=>lm)
 |_=>lm
def bp.ai8{P:fd}{w0:du}{F:Env}{n:E}{T:au af}{H:ai}{Q:sC->au af->ai->Prop}(C:gi P)(K:P.follows .mixedOrders=D){bB:bL}(G:bI P (bJ bB)){l:I mN}{fn:Ö}{e:ed}{t:aq}{xs:I t.den}(k:E)(j:I dF)(h:(Sv.jJ P bB n (l.take k) T H).path j (Jx P fn e t xs))
  (L:∀T H,O8 P fn e t xs .ret T H->Q .ret T H):bc mQ P w0 F n l T H Q:=by
 obtain⟨U,z,A⟩:=aD.wE _ _ h;have S:bc mQ P w0 F n (l.take k) T H (iO (λT H=>bc mQ P w0 F n (l.drop k) T H Q) Q):=by
  refine bp.jJ C K G (qw:=Jx P fn e t xs) (λU d=>?_) z A;unfold Jx at d;split at d
  .refine L _ _ ?_;rename_i m g;show(match lB P fn m g with |.ok (.bZ q V i k n p) _=>q=e/\k=0/\n=xs.length/\p=.full/\V=t/\g.get i=O (.own e t xs)|_=>lm)
   split at d
   .split at d
    .rename_i J;obtain⟨f,M,o,u⟩:=kA d;simp only[ae,aN]at f;obtain⟨r,rfl⟩:=rx u;subst r;exact⟨ac f.1,ac f.2.2.1,M,o,f.2.2.2,by rw[J,ac f.2.1]⟩
    .exact d.elim
   .exact d.elim
  .exact d.elim
 have:=bp.split S;rwa[pa]at this
end
end
end Go.Proofs.YtdajfemhnlpegaaGreatDoor.Sv
namespace Go.Proofs.YtdajfemhnlpegaaGreatDoor
open Go.RowKit Sv Go.Proofs.Tryz
def ai9{P:fd}{p:Ö->dF}(h:P.funcs.toList.all p=D){f:ya}{fn:Ö}(d:P.funcs[f]? =O fn):p fn=D:=
 ky.1 h fn (I.mem_of_getElem? (by simpa using d))
def CH{P:fd}{p:Ö->dF}{k:E}(h:(P.funcs.toList.zipIdx.all λq=> !p q.1||dd q.2 k)=D){f:ya}{fn:Ö}(d:P.funcs[f]? =O fn)(g:p fn=D):f=k:=by
 have:=ky.1 h (fn,f) (I.mk_mem_zipIdx_iff_getElem?.2 (by simpa using d));simp only[g,dF.not_true,dF.false_or]at this;exact ac this
def IU:(prog.funcs.toList.all λfn=> !(fn.body.isSome&&fn.name== "runtime.NumGoroutine"))=D:=by kernel_rfl
def aja:(prog.funcs.toList.zipIdx.all λq=> !(q.1.body.isNone&&q.1.name== "internal/abi.NoEscape")||dd q.2 267)=D:=by kernel_rfl
def ajb:(prog.funcs.toList.zipIdx.all λq=> !(q.1.body.isNone&&q.1.name== "internal/bytealg.MakeNoZero")||dd q.2 281)=D:=by kernel_rfl
def ajc:(prog.funcs[267]?).bind (λfn=>Extern.find fn)=O ĉ:=by kernel_rfl
def ajd:(prog.funcs[267]?).map (λfn=>(ā fn).isNone)=O D:=by kernel_rfl
def va:(prog.funcs[281]?).bind (λfn=>Extern.find fn)=(prog.funcs[281]?).map (λfn=>ã fn.params fn.resultTypes):=by kernel_rfl
def vd:(prog.funcs[281]?).map (λfn=>(ā fn).isNone)=O D:=by kernel_rfl
def xf:(prog.funcs[281]?).map (λfn=>fn.resultTypes.size)=O 1:=by kernel_rfl
def mixed:prog.follows .mixedOrders=D:=by kernel_rfl
def known:gi em where
 IU r fn d j:=by
  have:=ai9 IU d;simpa[j]using this
 U' r fn d j m x w:=by
  have e:=CH (p:=λfn=>fn.body.isNone&&fn.name== "internal/abi.NoEscape") aja d (by simp only[j,m];rfl);subst e;have f:=ajc;have g:=ajd;rw[d]at f g;simp only[kV,ta,vV,Ä]at f g;have q:(fn.name== "runtime.NumGoroutine")=ao:=by
   rw[eq_of_beq m];rfl
  rw[run_callFunc_extern d q (by rw[j];rfl) g f];rfl
 makeNoZero r fn t el d j m G J n w M:=by
  have e:=CH (p:=λfn=>fn.body.isNone&&fn.name== "internal/bytealg.MakeNoZero") ajb d (by simp only[j,m];rfl);subst e;have f:=va;have g:=vd;have o:=xf;rw[d]at f g o;simp only[kV,ta,vV,Ä]at f g o;have q:(fn.name== "runtime.NumGoroutine")=ao:=by
   rw[eq_of_beq m];rfl
  have C:fn.resultTypes= #[t]:=by
   apply fh.ext
   .exact o
   .intro i A u;have:i=0:=by simp at u;exact u
    subst this;simpa[E' A]using G
  rw[C]at f;obtain⟨z,K,L,_⟩:=Lib.run_makeNoZero (P:=em) w fn.params t el J n ω;refine⟨z,L,?_⟩;rw[run_callFunc_extern d q (by rw[j];rfl) g f,K];rfl
noncomputable section
instance aDN:Sv.Ground:=⟨λb=>if b=0 then O (λA=>∃m,A= #[.int .i64 m])else if b=5 then O (λA=>A=(Lib.pow10Tab.map λz=>Value.int .u64 z).toArray)else bs⟩
def mp{a b:Prop}(p:b)(h:a=b:=by kernel_rfl):a:=h.mpr p
def aDO(v:af)(h:OM v=D:=by kernel_rfl):af.same v v=D:=aI h
def an{a b:Prop}(x:a)(y:b):a/\b:=⟨x,y⟩
def aje{d f g:Prop}(j:d)(m:f)(y:g):d/\f/\g:=⟨j,⟨m,y⟩⟩
def Jy{d f g j:Prop}(m:d)(o:f)(p:g)(y:j):d/\f/\g/\j:=⟨m,⟨o,⟨p,y⟩⟩⟩
def ajf{f g j m d:Prop}(o:f)(p:g)(q:j)(r:m)(y:d):f/\g/\j/\m/\d:=⟨o,⟨p,⟨q,⟨r,y⟩⟩⟩⟩
def Pa{f j m o d g:Prop}(q:f)(r:j)(u:m)(z:o)(p:d)(y:g):f/\j/\m/\o/\d/\g:=⟨q,⟨r,⟨u,⟨z,⟨p,y⟩⟩⟩⟩⟩
def aDP{f j m o d g p:Prop}(u:f)(z:j)(A:m)(C:o)(q:d)(r:g)(y:p):f/\j/\m/\o/\d/\g/\p:=⟨u,⟨z,⟨A,⟨C,⟨q,⟨r,y⟩⟩⟩⟩⟩⟩
def ajg{g m o p f j q d:Prop}(A:g)(C:m)(G:o)(J:p)(u:f)(z:j)(r:q)(y:d):g/\m/\o/\p/\f/\j/\q/\d:=⟨A,⟨C,⟨G,⟨J,⟨u,⟨z,⟨r,y⟩⟩⟩⟩⟩⟩⟩
def rB{g m o p f j q d yj:Prop}(C:g)(G:m)(J:o)(K:p)(z:f)(A:j)(r:q)(u:d)(y:yj):g/\m/\o/\p/\f/\j/\q/\d/\yj:=⟨C,⟨G,⟨J,⟨K,⟨z,⟨A,⟨r,⟨u,y⟩⟩⟩⟩⟩⟩⟩⟩
def rr{α:Type}(x:α):x=x:=rfl
def rt:D=D:=rfl
section
variable{a b:dF}(h:a=b)
def aK:(a==D)=(b==D):=by rw[h]
def aL:(a==ao)=(b==ao):=by rw[h]
def b8:(!a)=(!b):=by rw[h]
end
abbrev iv(x:N):af:= .raw (.int .i64 x)
abbrev bv(x:dF):af:= .raw (.bool x)
abbrev C4:I N:=[]
abbrev lv(l:I N):af:= .bh ao (.int .i64) l
def getD_lt{l:I N}{k:E}(h:k<l.length):l.getD k 0=l[k]:=by simp[ap,h]
def kB{n b:E}(h:n<=1000000)(d:b<=1000000):bounded n b=D:=by
 unfold bounded;have:=E.mul_le_mul h d;rw[aw ω,aw ω];rfl
abbrev i6(x:N):Prop:= -9223372036854775808<=x/\x<=9223372036854775807
def yk(e:ed)(t:aq)(xs:I t.den):jZ:=aa (ph e t xs)
section
variable(e:ed)(t:aq){xs:I t.den}{i:E}(h:i<xs.length)
def yv:jZ:=aa (x:=bx e t (a8 e t xs) i) (c:=D) (by rw[eK];exact ay h)
def jf:jZ:=aa (x:=bx e t (a8 e t xs) (0+i)) (c:=D) (by rw[bC,eK];exact ay h)
end
def l8(b:E){n:E}(h:n<=1000000)(d:b<=1000000:=by decide):jZ:=aa (kB h d)
noncomputable def pH(e:ed)(t:aq){xs ys d:I t.den}(h:xs++ys=d):jZ:=pF em e t (ys:=bu t (a8 e t xs)++ys) (xs:=d) (by rw[a7];exact h)
noncomputable def oK(e:ed)(t:aq){xs d:I t.den}{i:E}{v:t.den}(h:xs.set i v=d):jZ:=pF em e t (ys:=(bu t (a8 e t xs)).set (0+i) v) (xs:=d) (by rw[a7,bC];exact h)
def ys(v:af)(h:af.same v v=D):jZ:=aa h
section
variable(c:bL)(l:I mN)
abbrev aR(s:bD)(d:E)(e:sC)(r:Sv.Ren)(s':bD):Prop:=aD.path (pD em c l s) (dl d) (fy em s.n e r s')
abbrev di(k:E)(s:bD)(d:E)(e:sC)(r:Sv.Ren)(s':bD):Prop:=aD.path (CV em c l k s) (dl d) (fy em s.n e r s')
abbrev bw(s:bD)(d:E)(f:Ö)(b:dF)(v:af):Prop:=aD.path (pD em c l s) (dl d) (wH em f b v)
abbrev cL(k n:E)(a:I af)(d:E)(e:sC)(r:Sv.Ren)(s':bD):Prop:=aD.path (sP em c l k n a) (dl d) (fy em n e r s')
end
abbrev bG(n d:N):N:= ↑(fo (if 0-n>n then 0-n else n) d)
def eH{P:fd}:∀c∈([]:I bq),c.Ok P:=λc h=>absurd h iL
def aV{P:fd}{c:bq}{l:I bq}(h:c.Ok P)(t:∀x∈l,x.Ok P):∀x∈c::l,x.Ok P:=λx d=>(cQ.1 d).elim (λe=>e ▸ h) (t x)
section
variable{X:Ext}{w0:du}{F:Sv.Env}{n:E}{T:au af}{H:ai}{Q:sC->au af->ai->Prop}{bB:bL}{l:I mN}{s s':bD}{e:sC}{σ:Sv.Ren}{Z:I dF}{fn:Ö}{fresh:dF}{res:af}
section
variable(Y:bI em (bJ bB))
def cE(k:E)(h:(Sv.jJ em bB n (l.take k) T H).path Z (fy em n e σ s'))(g:iO (λT H=>bc X em w0 F n (l.drop k) T H Q) Q e s'.T s'.H)(d:(l.take k).isEmpty=ao:=by kernel_rfl)(f:pinned σ s'.H.next X.pins=D:=by rfl):bc X em w0 F n l T H Q:=bp.to known mixed Y k Z h d g f
def dH(k:E)(h:(CV em bB l k s).path Z (fy em s.n e σ s'))(g:iO (λT H=>bc X em w0 F s.n (l.drop k) T H Q) Q e s'.T s'.H)(d:(l.take k).isEmpty=ao:=by kernel_rfl)(f:pinned σ s'.H.next X.pins=D:=by rfl):bc X em w0 F s.n l s.T s.H Q:=bp.st known mixed Y k Z h d g f
def aT(h:(pD em bB l s).path Z (fy em s.n e σ s'))(g:Q e s'.T s'.H)(d:l.isEmpty=ao:=by kernel_rfl)(f:pinned σ s'.H.next X.pins=D:=by rfl):bc X em w0 F s.n l s.T s.H Q:=bp.all known mixed Y Z h d g f
def bt(k:E)(h:(Sv.jJ em bB n (l.take k) T H).path Z (wH em fn fresh res))(d:∀T H,ew em fresh fn res .ret T H->Q .ret T H:=by exact λT H h=>h):bc X em w0 F n l T H Q:=bp.ret known mixed Y k Z h d
def bM(h:(pD em bB l s).path Z (wH em fn fresh res))(d:∀T H,ew em fresh fn res .ret T H->Q .ret T H:=by exact λT H h=>h):bc X em w0 F s.n l s.T s.H Q:=bp.iC known mixed Y Z h d
end
def c_q(g:Type)(id:E)(b:mN)(rest:I mN)(d:g->bD)(m:g->E)(f:g)
  (step:∀i,bc X em w0 F n (uy b) (d i).T (d i).H (iO (λT H=>∃j,m j<m i/\T=(d j).T/\H=(d j).H) (CS id (iO (λT H=>bc X em w0 F n rest T H Q) Q))))
  (p:∀i,(d i).n=n:=by exact λ_=>rfl) (o:l=.block id (.loop b)::rest:=by kernel_rfl):bc X em w0 F n l (d f).T (d f).H Q:=bp.loop o d m f p step
def bK(c:mN){f:ya}{fn:Ö}{args:I af}{res:af}{fresh:dF}(g:prog.funcs[f]? =O fn)(h:∀w F,bp em w F fn.ntmps (fl c []) (gI args .nil 0) H0 (ew em fresh fn res))
  (d:fn.body=O c:=by rfl) (j:dK args.length fn.ntmps=D:=by rfl):Holds em fresh f args res:=aiQ g d j h
end
abbrev bk(c:bL)(l:I mN)(k n:E)(a:I af)(d:E)(f:Ö)(b:dF)(v:af):Prop:=aD.path (sP em c l k n a) (dl d) (wH em f b v)
def ba:bI em (bJ (aA [])):=dw (l:=[]) λc h=>by cases h
def uA{c:bq}(h:c.Ok em):bI em (bJ (aA [c])):=dw λf d=>by rw[kD.1 d];exact h
def ga{X:Ext}{P:fd}{w0:du}{F:Env}{n:E}{T:au af}{H:ai}{Q:sC->au af->ai->Prop}{l rest:I mN}{id:E}{c:mN}(d:l=.block id c::rest)
  (h:bc X P w0 F n (uy c) T H (CS id (iO (λT H=>bc X P w0 F n rest T H Q) Q))):bc X P w0 F n l T H Q:=by
 subst d;exact Goal.block (x:=c) rfl (yf h)
abbrev sv(s:AT):af:= .raw (.string s)
end
end Go.Proofs.YtdajfemhnlpegaaGreatDoor
namespace Go.Proofs.YtdajfemhnlpegaaGreatDoor
open Go.ChangeShapes Go.WideShapes Go.ChangeAt Go.RowKit Sv
def WL:Tryz.prog.globalNamed "internal/strconv.uint64pow10" =O 5:=by kernel_rfl
def ajh:ownKnob Tryz.prog.godebug=bs:=by kernel_rfl
def aji:laidOutB Tryz.prog=D:=by kernel_rfl
abbrev C5:I (String×Xs Unit):=[("math/bits.deBruijn32tab",Rows.laid_math_bits_deBruijn32tab),("math/bits.deBruijn64tab",Rows.laid_math_bits_deBruijn64tab),("internal/strconv.uint64pow10",SH),("strconv.ErrRange",Rows.laid_strconv_ErrRange),("strconv.ErrSyntax",Rows.laid_strconv_ErrSyntax)]
def ajj(os:Os)(args:fh Value):laidMetH Tryz.prog C5 ((du.doorLaid Tryz.prog 400 os).forCall (λ_ _=>0) ⟨#[],args,[]⟩).memory:=
 laidMetH_of_parts3 (fuel:=8) (laidMet_of_run' 8 (by kernel_rfl) (by kernel_rfl)) (by kernel_rfl) (by kernel_rfl)
def ajk:(SH:Xs Unit)=Lib.tabData .u64 Lib.pow10Tab:=by rfl
def ajl:(Tryz.prog.globals[5]?).map (·.type)=O 296:=by kernel_rfl
def ajm{W:du}(h:laidMetH Tryz.prog C5 W):Lib.TabIs Tryz.prog W "internal/strconv.uint64pow10" .u64 Lib.pow10Tab:=by
 rw[MakeChecks.laidMetH_plain _ _ _ (by kernel_rfl)]at h;obtain⟨ps,⟨g0,t0,q,f0,z,G,_,_,_,_,⟨r,t1,o,f1,A,J,_,_,_,_,⟨u,t2,m,f2,C,p,g,j,f,d,_,_⟩,_⟩,_⟩,_⟩:=h;obtain rfl:=kT (WL.symm.trans g);obtain rfl:=kT (ajl.symm.trans j);rw[ajk]at d;unfold Lib.TabIs;rw[f,<-Lib.cells_of_tab Tryz.underlying296 Tryz.underlying178 (by kernel_rfl) (by kernel_rfl) d]
def tc{H:Type}{enc:ed×Value->H}{a:Assume}{C:Checked}{os:Os}{f:ya}{fn:Ö}{s:ChangeSpec}{p:I PathCond}{apart fresh u r:dF}{X:du->fh Value->Prop}
  (L:∀(w w':du)(args:fh Value),w.heap=w'.heap->X w args->X w' args)
  (A:ownKnob C.prog.godebug=bs) (K:os.Started) (z:C.prog.inits.idxOf? f=bs) (U:C.prog.funcs[f]? =O fn)
  (M:∃(w:du)(d:Tape)(i:Input),w.os=os/\(w.forCall d i).Shaped C.prog/\i.vars=[]/\Input.okWide C.prog (w.forCall d i) .any w.heap.size f i/\
    ((s.pre enc C.prog fn p apart (w.forCall d i).memory i.args/\X (w.forCall d i).memory i.args)/\sizedMet enc C.prog fn (Ð s) apart (w.forCall d i).memory i.args)/\a.holds C.prog (lone (Frame.enter C.prog f i.args .normal) [] (w.forCall d i)))
  (J:∀(W:du)(G:E)(args:fh Value)(g m:I (Xs H))(o:I MemPlace),
    (∀(j:E) t v,fn.params[j]? =O t->args[j]? =O v->Value.okWide C.prog W .any G t v)->
    Xs.Whole enc C.prog fn.params.toList s.vars apart W args.toList g m o->
    p.all (PathCond.test C.prog ⟨fn.params.toList,g,s.plain.varTypes C.prog,m⟩)=D->
    (Xs.weightsEach C.prog (fn.params.toList++s.plain.varTypes C.prog) (g++m)).all (· <=reachBytes)=D->X W args->W.ShapedOpen C.prog->
    a.holds C.prog (lone (Frame.enter C.prog f args .normal) [] W)->
    DG C.prog f args W λe q=>∃v,e=.returned v/\s.post enc C.prog fn apart fresh u r W args v q):
  ReturnsInHanded a C os f .any (λw args=>(s.pre enc C.prog fn p apart w args/\X w args)/\sizedMet enc C.prog fn (Ð s) apart w args) (s.post enc C.prog fn apart fresh u r):=by
 refine returnsInHanded_of_calls A K z M ?_;intro w d i _ u _ p r V;obtain⟨_,_,_,K,A,_,_,_,_,G⟩:=p;have e:K=fn:=kT (A.symm.trans U);subst e;obtain⟨⟨⟨g,m,o,z,M⟩,A⟩,K⟩:=r;have r:=Xs.Whole.of_heap (w':=w.forCall d i) (by rfl) z;refine(J (w.forCall d i) w.heap.size i.args g m o G r M (K.weights z) (L _ _ _ (by rfl) A) u V).mono λe q ⟨v,S,p⟩=>?_
 subst S;exact ChangeSpec.post_blind p
def l9(w:du):Env:=⟨λi=>if i<64 then O (i,0)else bs,λb=>if 0<=b then jx w b else bs⟩
def JA(w:du):nT w (l9 w):=by
 refine⟨λi x h=>?_,λg d=>⟨0,dA d⟩,λb A h=>?_⟩
 .have h:(if i<64 then O (i,0)else bs)=O x:=h;split at h
  .assumption
  .cases h
 .have h:(if 0<=b then jx w b else bs)=O A:=h;rw[dA (gt _)]at h;exact bm.1 h
def WM{α:Type}{p:E->α->Prop}:∀{n:E},(∀i,i<n->∃x,p i x)->∃l:I α,l.length=n/\∀i x,l[i]? =O x->p i x
 |0,_=>⟨[],rfl,λi x h=>by simp at h⟩
 |n+1,h=>by
  obtain⟨x,m⟩:=h 0 (E.succ_pos n);obtain⟨l,f,g⟩:=WM (p:=λi=>p (i+1)) (n:=n) λi j=>h (i+1) (E.succ_lt_succ j)
  refine⟨x::l,by simp[f],λi y d=>?_⟩;cases i with
  |zero=>simp at d;subst d;exact m
  |succ i=>exact g i y (by simpa using d)
def kq(b off i:E):(⟨b,off,bs⟩:wu).add i=⟨b,off+i,bs⟩:=by
 rcases Hi i with rfl |hp
 .rfl
 .simp[wu.add];omega
def wK{w:du}{b:E}{A:fh Value}(h:jx w b=O A):(l9 w).fz b=O A:=by
 show(if 0<=b then jx w b else bs)=O A;rw[dA (gt _)];exact h
def ajo{W:du}(h:laidMetH Tryz.prog C5 W)(p:W.ShapedOpen Tryz.prog):Sv.sN (l9 W):=by
 intro b u d;have d:(if b=0 then O (λA=>∃m,A= #[.int .i64 m])else if b=5 then O (λA=>A=(Lib.pow10Tab.map λz=>Value.int .u64 z).toArray)else bs)=O u:=d;split at d
 .rename_i e;subst e;cases d;obtain⟨g,j,r,_⟩:=p.1 0 #[.int .i64 0] 3 (cC (by kernel_rfl)) (by kernel_rfl);obtain⟨m,o⟩:=Go.Proofs.cell_of_shapedOpen_int (zero:= #[.int .i64 0]) (t:=3) p (cC (by kernel_rfl)) (by kernel_rfl) rfl (by kernel_rfl) (by kernel_rfl) Tryz.underlying3;refine⟨g,wK (bm.2 ⟨_,_,j⟩),m,?_⟩;have G:g.size=1:=r;have q:g[0]? =O (.int .i64 m):=by
   unfold Hf at o;rw[j]at o;simpa using o
  apply fh.ext_getElem?;intro i;cases i with
  |zero=>rw[q];rfl
  |succ i=>rw[QN ω,QN τ]
 .split at d
  .rename_i e;subst e;cases d;have f:=ajm h;unfold Lib.TabIs du.var? at f;rw[WL]at f;simp only[kV]at f;split at f
   .rename_i g e C j;refine⟨g,wK (bm.2 ⟨_,_,j⟩),?_⟩;exact kT f
   .cases f
  .cases d
def ajp{f:ya}{args:I af}(h:Holds Tryz.prog D f args (bv D)){w:du}(j:Sv.sN (l9 w)){vs:I Value}(p:aE (l9 w) args vs):DG Tryz.prog f vs.toArray w λe g=>e=.returned (.bool D)/\Below w.heap.size w g:=
 (h w (l9 w) vs (JA w) j p).mono λe g ⟨x,q,d,m,_,_,o⟩=>by
   rw[m.cu]at d;exact⟨d,o⟩
abbrev FW:aq:= .pair (.int .i64) (.int .i64)
def ajq{w:du}{b off c:E}:∀(l:I (N×N)),0<l.length->(∀i p,l[i]? =O p->w.cell? ⟨b,off+i*2,bs⟩=O (.int .i64 p.1)/\w.cell? ⟨b,off+i*2+1,bs⟩=O (.int .i64 p.2))->l.length<=c->Den (l9 w) (.bh ao FW l) (.slice (O ⟨b,off,bs⟩) l.length c):=by
 intro l r h a';have S:∃d e j,w.heap[b]? =O (.cells d e j):=by
  have f:=(h 0 l[0] (iw r)).1;cases g:w.heap[b]? with
  |none=>simp[Hf,g]at f
  |some o=>
   cases o with
   |cells d e j=>exact⟨_,_,_,rfl⟩
   |_=>simp[Hf,g]at f
 obtain⟨d,e,j,g⟩:=S;have rd:∀o v,w.cell? ⟨b,o,bs⟩=O v->d[o]? =O v:=λo v u=>by
  unfold Hf at u;rw[g]at u;simpa using u
 have W:∀(l:I (N×N))(o:E),(∀i p,l[i]? =O p->d[o+i*2]? =O (.int .i64 p.1)/\d[o+i*2+1]? =O (.int .i64 p.2))->aE (l9 w) (FW.flat l) ((d.toList.drop o).take (2*l.length))/\(l≠[]->o+2*l.length<=d.size):=by
  intro l;induction l with
  |nil=>intro o _;exact⟨by rw[show(d.toList.drop o).take (2*([]:I (N×N)).length)=[] by simp];exact .nil,λh=>absurd rfl h⟩
  |cons p z C=>
   intro o G;obtain⟨m,q⟩:=G 0 p rfl;simp only[CB,E.add_zero]at m q;have L:=C (o+2) λi J u=>by
    have:=G (i+1) J (by simpa using u);rw[show o+(i+1)*2=o+2+i*2 by omega]at this;exact this
   have M:=(cy.1 m).1;have s2:=(cy.1 q).1;have d1:d.toList.drop o=.int .i64 p.1:: .int .i64 p.2::d.toList.drop (o+2):=by
    rw[kl (by simpa using M),kl (by simpa using s2)];have U:d.toList[o]'(by simpa using M)=.int .i64 p.1:=by
     have:=(cy.1 m).2;simpa using this
    have V:d.toList[o+1]'(by simpa using s2)=.int .i64 p.2:=by
     have:=(cy.1 q).2;simpa using this
    rw[U,V]
   refine⟨?_,λ_=>?_⟩
   .rw[d1,show 2*(p::z).length=2*z.length+1+1 by simp;omega,uZ,uZ];exact .cons (.raw _) (.cons (.raw _) L.1)
   .by_cases f:z=[]
    .subst f;simp;omega
    .have:=L.2 f;simp;omega
 have C:=W l off λi p K=>⟨rd _ _ (h i p K).1,rd _ _ (h i p K).2⟩
 have J:(FW.flat l).length=2*l.length:=by rw[FW.jF];show l.length*2=_;omega
 refine .bh (A:=d) (b:=b) (off:=off) (wK (bm.2 ⟨e,j,g⟩)) ?_ rfl ?_ a' λe=>by cases e
 .rw[J];exact C.2 λe=>by rw[e]at r;cases r
 .rw[J];exact C.1
set_option maxRecDepth 100000 in
def ajs{H:Type}{enc:ed×Value->H}{W:du}{S:E}{v:Value}{d:Xs H}{p:I MemPlace}(a9:Value.okWide Tryz.prog W .any S 22 v)
  (h:Xs.Trod enc Tryz.prog W 0 (λ_=>D) D 22 v d p):∃l:I (N×N),Den (l9 W) (.bh ao FW l) v:=by
 obtain⟨a,G,b4,rfl⟩:=okWide_slice Tryz.underlying22 a9;obtain⟨c0,a3⟩:=h;have U:Tryz.prog.cellsOf 64=2:=by kernel_rfl
 have j:Tryz.prog.cellsOf 3=1:=by kernel_rfl
 rcases Xs.trod_slice Tryz.underlying22 a3 with⟨f,b'⟩|⟨g,d',c',r,e2,n,_,f,b',c3,c5,_,c7,A,_,_⟩
 .simp[Value.cells]at f;obtain⟨rfl,rfl,rfl⟩:=f;exact⟨[],.ff λe=>by cases e⟩
 .simp[Value.cells]at f;obtain⟨rfl,rfl,rfl⟩:=f;rw[U]at A;have a1:∀i,i<G->∃q:N×N,W.cell? (g.add (i*2))=O (.int .i64 q.1)/\W.cell? ((g.add (i*2)).add 1)=O (.int .i64 q.2):=by
   intro i a4;have b1:r[i]? =O (r[i]'ω):=iw ω;have z:=A i a4;rw[b1,ep]at z;obtain⟨V,g1,g2⟩:=z;obtain⟨_,a2,u⟩:=du.cells?_some g1;obtain⟨y0,y1,J,c4,c9,t0,t1⟩:=trod_struct2 Tryz.underlying64 g2
   match V,a2 with
   |[L,u1],_=>
    obtain⟨b3,m,_,w0⟩:=Xs.trod_int Tryz.underlying3 (show Xs.trod enc Tryz.prog W 0 _ D J 3 [L]=O y0 by simpa[j]using t0);obtain⟨a0,o,_,w1⟩:=Xs.trod_int Tryz.underlying3 (show Xs.trod enc Tryz.prog W 0 _ D J 3 [u1]=O y1 by simpa[j]using t1);simp at m o;subst m;subst o;exact⟨⟨b3,a0⟩,by simpa[wu.add]using u 0 ω,by simpa using u 1 ω⟩
  obtain⟨l,K,C⟩:=WM a1;by_cases h0:G=0
  .subst h0;obtain rfl:=ut.1 K;exact⟨[],.ff λe=>by cases e⟩
  .obtain⟨b,e',b2⟩:=g;obtain⟨q,a6⟩:∃q,l[0]? =O q:=⟨_,iw ω⟩;have M:b2=bs:=by simpa[wu.add]using World.cell?_spot (C 0 q a6).1
   subst M;refine⟨l,?_⟩;rw[<-K];refine ajq l ω (λi p a5=>?_) ω;have:=C i p a5;rw[kq,kq]at this;exact this
end Go.Proofs.YtdajfemhnlpegaaGreatDoor
namespace Go.Proofs.YtdajfemhnlpegaaGreatDoor
def ic:I N->I N->I N×I N
 |[],f=>([],f)
 |d::r,f=>if d∈f then ic r (f.erase d)else(d::(ic r f).1,(ic r f).2)
def JB:∀g f:I N,(ic g f).1.length+f.length=(ic g f).2.length+g.length
 |[],f=>by simp[ic]
 |d::r,f=>by
  unfold ic;split
  .rename_i h;have:=JB r (f.erase d);have:=I.length_erase_of_mem h;have:=I.length_pos_of_mem h;simp;omega
  .have:=JB r f;simp;omega
def Pc:∀(j f:I N)(x:N),(ic j f).1.count x=j.count x-f.count x/\(ic j f).2.count x=f.count x-j.count x
 |[],f,x=>by simp[ic]
 |d::r,f,x=>by
  unfold ic;split
  .rename_i h;obtain⟨m,o⟩:=Pc r (f.erase d) x;have p:0<f.count d:=I.count_pos_iff.2 h;rw[m,o,I.count_erase,tY];by_cases g:d=x
   .subst g;simp;omega
   .have:(d==x)=ao:=by simpa using g
    simp[this]
  .rename_i h;obtain⟨m,o⟩:=Pc r f x;have q:f.count d=0:=YS.2 h;show I.count x (d::(ic r f).1)=_/\_;rw[tY,tY,m,o];by_cases g:d=x
   .subst g;simp;omega
   .have:(d==x)=ao:=by simpa using g
    simp[this]
def ig:I N->N->I N
 |[],x=>[x]
 |a::r,x=>if x<a then x::a::r else a::ig r x
def WN(y:N):∀(l:I N)(x:N),(ig l x).count y=l.count y+if x=y then 1 else 0
 |[],x=>by unfold ig;rw[tY];simp
 |a::r,x=>by
  unfold ig;split
  .rw[tY];simp
  .rw[tY,WN y r x,tY];omega
def WO:∀{l:I N}{x y:N},y∈ig l x->y=x\/y∈l
 |[],x,y,h=>by unfold ig at h;simpa using h
 |a::r,x,y,h=>by
  unfold ig at h;split at h
  .simpa using h
  .rcases cQ.1 h with h|h
   .exact .inr (cQ.2 (.inl h))
   .rcases WO h with h|h
    .exact .inl h
    .exact .inr (cQ.2 (.inr h))
def WQ:∀{l:I N}{x:N},l.Pairwise (· <= ·)->(ig l x).Pairwise (· <= ·)
 |[],x,_=>by unfold ig;simp
 |a::r,x,h=>by
  rw[lA]at h;unfold ig;split
  .rename_i f;rw[lA];refine⟨λy d=>?_,lA.2 h⟩;rcases cQ.1 d with rfl |d
   .omega
   .have:=h.1 y d;omega
  .rename_i f;rw[lA];refine⟨λy d=>?_,WQ h.2⟩;rcases WO d with rfl |d
   .omega
   .exact h.1 y d
def fk(l:I N):I N:=l.foldl ig []
def WR(y:N):∀(l s:I N),(l.foldl ig s).count y=s.count y+l.count y
 |[],s=>by simp
 |a::r,s=>by
  rw[LA,WR y r,WN,tY];by_cases h:a=y
  .subst h;simp;omega
  .have:(a==y)=ao:=by simpa using h
   simp[this,h]
def WS:∀(l s:I N),s.Pairwise (· <= ·)->(l.foldl ig s).Pairwise (· <= ·)
 |[],_,h=>h
 |_::r,_,h=>WS r _ (WQ h)
def aju{a b:I N}(d:a.Pairwise (· <= ·))(f:b.Pairwise (· <= ·))(h:∀x,a.count x=b.count x):a=b:=
 Va (λa b _ _ g j=>by omega) d f (I.perm_iff_count.2 h)
--PLAIN
def FX:I N->I (I N)
 |[]=>[]
 |k::r=>(k::r)::FX r
def vf:∀{l t:I N},t∈FX l↔t≠[]/\∃p,l=p++t
 |[],t=>by
  unfold FX;constructor
  .intro h;cases h
  .rintro⟨h,p,e⟩;exact absurd (I.append_eq_nil_iff.1 e.symm).2 h
 |k::r,t=>by
  unfold FX;rw[cQ,vf];constructor
  .rintro(rfl |⟨h,p,rfl⟩)
   .exact⟨ZZ _ _,[],rfl⟩
   .exact⟨h,k::p,rfl⟩
  .rintro⟨h,p,e⟩;cases p with
   |nil=>exact Hg e.symm
   |cons a p=>
    injection e with f d
    exact Jn ⟨h,p,d⟩
def dQ(left:N->N):E->I N->I N->I (I N)
 |0,_,d=>[d]
 |n+1,f,d=>(FX f).flatMap λt=>match t with
  |[]=>[]
  |k::r=>if((d.count k:E):N)<left k then dQ left n (k::r) (d++[k])else []
def Av(l:I N):Prop:=l.Pairwise (· <= ·)
def i5{left:N->N}:∀(n:E)(j d x:I N),j.Pairwise (· < ·)->(x∈dQ left n j d↔ ∃y,x=d++y/\y.length=n/\Av y/\(∀t∈y,t∈j)/\∀t∈y,(((d++y).count t:E):N)<=left t)
 |0,j,d,x,A=>by
  unfold dQ;rw[kD];constructor
  .rintro rfl;exact⟨[],by simp,rfl,Nj,λt h=>(iL h).elim,λt h=>(iL h).elim⟩
  .rintro⟨y,rfl,h,_⟩;rw[ix h,mS]
 |n+1,j,d,x,A=>by
  unfold dQ;rw[sp];constructor
  .rintro⟨t,M,g⟩;obtain⟨K,G,rfl⟩:=vf.1 M;cases t with
   |nil=>exact absurd rfl K
   |cons k r=>
    have g:x∈if((d.count k:E):N)<left k then dQ left n (k::r) (d++[k])else []:=g
    by_cases q:((d.count k:E):N)<left k
    .rw[dA q]at g;have u:=(Ck.1 A).2.1;obtain⟨y,rfl,z,p,m,o⟩:=(i5 n (k::r) (d++[k]) x u).1 g;have J:=(lA.1 u).1;refine⟨k::y,by simp,by simp[z],lA.2 ⟨λa h=>?_,p⟩,λt h=>?_,λt h=>?_⟩
     .rcases cQ.1 (m a h)with rfl |f
      .exact vc _
      .have:=J a f;omega
     .rcases cQ.1 h with rfl |f
      .simp
      .exact UR _ (m t f)
     .have e:d++k::y=d++[k]++y:=by simp
      rw[e];by_cases C:t∈y
      .exact o t C
      .rcases cQ.1 h with rfl |f
       .rw[Pi,YS.2 C,Pi,Ñ];omega
       .exact absurd f C
    .rw[db q]at g;cases g
  .rintro⟨y,rfl,z,p,m,o⟩;cases y with
   |nil=>cases z
   |cons k y=>
    obtain⟨G,r,rfl⟩:=I.append_of_mem (m k (gb ..));refine⟨k::r,vf.2 ⟨ZZ _ _,G,rfl⟩,?_⟩;have u:=(Ck.1 A).2.1;have L:=(Ck.1 A).2.2;have S:=o k (gb ..);have e:d++k::y=d++[k]++y:=by simp
    have q:((d.count k:E):N)<left k:=by
     rw[e,Pi,Pi,Ñ]at S;omega
    show d++k::y∈if((d.count k:E):N)<left k then dQ left n (k::r) (d++[k])else []
    rw[dA q];refine(i5 n (k::r) (d++[k]) _ u).2 ⟨y,e,by simpa using z,(lA.1 p).2,λt h=>?_,λt h=>?_⟩
    .have U:=(lA.1 p).1 t h;rcases I.mem_append.1 (m t (gQ _ h))with f|f
     .have:=L t f k (gb ..);omega
     .exact f
    .rw[<-e];exact o t (gQ _ h)
def cw(S:I N):E->I (I N)
 |0=>[[]]
 |n+1=>(cw S n).flatMap λl=>(S.filter λt=>decide (n=0)||decide (l.getD (n-1) 0<=t)).map λt=>l++[t]
def JD{S:I N}:∀(n:E)(x:I N),x∈cw S n↔x.length=n/\Av x/\∀t∈x,t∈S
 |0,x=>by
  unfold cw;rw[kD];constructor
  .rintro rfl;exact⟨rfl,Nj,λt h=>(iL h).elim⟩
  .rintro⟨h,_⟩;exact ix h
 |n+1,x=>by
  unfold cw;simp only[sp,rK,xF,JD n];constructor
  .rintro⟨l,⟨g,f,j⟩,t,⟨C,p⟩,rfl⟩;refine⟨by simp[g],Ck.2 ⟨f,I.pairwise_singleton ..,λa h b u=>?_⟩,λG h=>?_⟩
   .rw[kD.1 u];rw[qh,aN,aN]at p;rcases p with d|d
    .subst d;rw[ix g]at h;cases h
    .obtain⟨i,A,rfl⟩:=I.getElem_of_mem h;rw[ap,iw (show n-1<l.length by omega)]at d;have d:l[n-1]<=t:=d;by_cases e:i=n-1
     .subst e;exact d
     .have:=I.pairwise_iff_getElem.1 f i (n-1) A ω ω;omega
   .rcases I.mem_append.1 h with m|m
    .exact j G m
    .rw[kD.1 m];exact C
  .rintro⟨g,f,j⟩;have o:x≠[]:=λe=>by rw[e]at g;cases g
   have e:=I.dropLast_concat_getLast o;have z:x.dropLast.length=n:=by rw[I.length_dropLast];omega
   rw[<-e]at f;obtain⟨q,J,r⟩:=Ck.1 f;refine⟨x.dropLast,⟨z,q,λt h=>j t ((I.dropLast_sublist x).mem h)⟩,x.getLast o,⟨j _ (I.getLast_mem o),?_⟩,e⟩;rw[qh,aN,aN];by_cases d:n=0
   .exact Hg d
   .refine Jn (r _ ?_ _ (kD.2 rfl));rw[ap,iw (show n-1<x.dropLast.length by omega)];exact ra _
--END
section
open Go.RowKit Sv Go.Proofs.Tryz
section
variable[Sv.Ground]{X:Ext}{P:fd}{w0:du}{F:Env}{n:E}{T:au af}{H:ai}{a:Zq}{w:du}{B:E}{ρ ρ':Env}
def Pd{i:E}{ρ':Env}(j:∀i,ρ' i=ρ i){b:E}(h:Sv.Own ρ' (H.drop i) b):Sv.Own ρ H b:=by
 obtain⟨k,kk,c,d,g,f⟩:=h;rw[j]at f;rw[ai.qd]at d;split at d
 .cases d
 .exact⟨k,kk,c,d,g,f⟩
def Sat.freeze{i j m:E}{e e2:ed}{cs:I af}{x f r:dF}{t:aq}{xs:I t.den}{cap:aY}(G:H.get j=O (.cells e cs x f r))(a':cs[m]? =O (.bZ e2 t i 0 xs.length cap))(hi:H.get i=a8 e2 t xs)(W:i≠j)
  (g:mR X P w0 F n T H a w):mR X P w0 F n T ((H.drop i).set j (.cells e (cs.set m (.bh ao t xs)) x f r)) a w:=by
 obtain⟨⟨ρ,d,a0,V,M⟩,S,U⟩:=g;by_cases K:xs=[]
 .subst K;have hi:H.get i=bs:=hi;refine⟨⟨ρ,⟨d.T,Nv d.H (cR.refl _) (λ_=>rfl) G W a' (λy L=>?_) (λb A h=>⟨(d.H.fz b A h).1,λk kk c _ o u=>(d.H.fz b A h).2 k kk c o u⟩),d.G⟩,a0,V,M.re (cR.refl _) (aC _) (λ_ J=>Nw (λ_=>rfl) G J) λ_ _ h=>.inl h⟩,S,U⟩;rcases L.kW with⟨_,a,rfl⟩|⟨b,c,a4,_,_,_,rfl⟩
  .exact .ff λe=>by cases e
  .exact .ff λe=>by cases e
 .obtain⟨p,g,rfl⟩:=Ê K;have hi:H.get i=O (.own e2 t (p::g)):=hi;generalize q:p::g=xs at*;obtain⟨b,c,g,z,_,_,a2⟩:=d.H.blk i _ hi;obtain⟨p,a1,z2,q,z4,C,g⟩:=ug d.H hi z;have a3:ρ.fz b=bs:=by
   cases g:ρ.fz b with
   |none=>rfl
   |some A=>
    have:=(d.H.fz b A g).2 i _ c hi z;cases this
  have C:cR ρ ⟨ρ.at',λq=>if q=b then O p else ρ.fz q⟩:=⟨λ_ _ h=>h,λq A h=>by
   show(if q=b then O p else ρ.fz q)=O A;by_cases g:q=b
   .subst g;rw[a3]at h;cases h
   .rw[db g];exact h⟩
  refine⟨⟨⟨ρ.at',λq=>if q=b then O p else ρ.fz q⟩,⟨d.T.mono C,Nv d.H C (λ_=>rfl) G W a' (λy L=>?_) (λq A h=>?_),d.G.mono C⟩,a0,λq A h=>?_,M.re C (aC _) (λ_ J=>Nw (λ_=>rfl) G J) λq A h=>by
   have h:(if q=b then O p else ρ.fz q)=O A:=h;by_cases g:q=b
   .exact .inr ⟨i,_,c,hi,rfl,g ▸ z⟩
   .rw[db g]at h;exact .inl h⟩,S,U⟩
  .rcases L.kW with⟨J,_⟩|⟨S,M,a4,o,_,G,rfl⟩
   .exact absurd (ut.1 J) K
   .rw[z]at o;cases o;refine .bh (A:=p) (b:=b) (off:=0*t.size) (by show(if b=b then O p else _)=_;rw[dA rfl]) (by rw[CB,bC];exact z4) rfl ?_ G (λe=>by cases e);rw[CB,iW];exact z2.mono C
  .have h:(if q=b then O p else ρ.fz q)=O A:=h;by_cases g:q=b
   .subst g;rw[dA rfl]at h;cases h;exact⟨⟨_,_,a1⟩,λk kk M C o u=>absurd (d.H.inj k i kk _ q M c o hi u z) C⟩
   .rw[db g]at h;exact⟨(d.H.fz q A h).1,λk kk c _ o u=>(d.H.fz q A h).2 k kk c o u⟩
  .have h:(if q=b then O p else ρ.fz q)=O A:=h;by_cases g:q=b
   .subst g;exact .inr (a2 rfl)
   .rw[db g]at h;exact V q A h
def Sat.Aw{i s:E}{e2:ed}{t:aq}{xs:I t.den}{cap:aY}(r:T.get s=O (.bZ e2 t i 0 xs.length cap))(hi:H.get i=a8 e2 t xs)(f:mR X P w0 F n T H a w):mR X P w0 F n (T.set s (O (.bh ao t xs))) (H.drop i) a w:=by
 obtain⟨⟨ρ,d,a0,a',M⟩,U,V⟩:=f;have a1:∀{ρ':Env},cR ρ ρ'->(∀i,ρ' i=ρ i)->(∀b A,ρ'.fz b=O A->(∃e f,w.heap[b]? =O (.cells A e f))/\∀k kk c,k≠i->H.get k=O kk->ρ k=O (b,c)->kk.fq=D)->bl P w0.heap.size ρ' (H.drop i) w:=λ{ρ'} J z W=>by
  have o:∀k kk,(H.drop i).get k=O kk->k≠i/\H.get k=O kk:=λk kk h=>by
   rw[ai.qd]at h;split at h
   .cases h
   .rename_i f;exact⟨λh=>f h.symm,h⟩
  refine⟨λk kk h=>?_,λp q C G b g m f j u S=>?_,λk kk h=>d.H.lt k kk (o k kk h).2,d.H.base,λb A h=>⟨(W b A h).1,λk kk c f j=>?_⟩⟩
  .obtain⟨b,c,m,p,e2,q,g⟩:=d.H.blk k kk (o k kk h).2;exact⟨b,c,m,by rw[z];exact p,e2,q.mono J,g⟩
  .rw[z]at u S;exact d.H.inj _ _ _ _ _ _ _ (o _ _ f).2 (o _ _ j).2 u S
  .rw[z]at j;exact(W b A h).2 k kk c (o k kk f).1 (o k kk f).2 j
 have o:∀{ρ':Env},cR ρ ρ'->(∀y,Den ρ (.bZ e2 t i 0 xs.length cap) y->Den ρ' (.bh ao t xs) y)->lC ρ' (T.set s (O (.bh ao t xs))) n a.tmps:=λ{ρ'} J p=>⟨d.T.size,λk=>by
  rw[au.gS];have G:=d.T.get k;by_cases g:s=k
  .subst g;rw[dA rfl];rw[r]at G;exact p _ G
  .rw[db g];exact G.mono J⟩
 by_cases K:xs=[]
 .subst K;refine⟨⟨ρ,⟨o (cR.refl _) λy L=>?_,a1 (cR.refl _) (λ_=>rfl) (λb A h=>⟨(d.H.fz b A h).1,λk kk c _ f j=>(d.H.fz b A h).2 k kk c f j⟩),d.G⟩,a0,a',M.re (cR.refl _) (aC _) (λ_ C=>Pd (λ_=>rfl) C) λ_ _ h=>.inl h⟩,U,V⟩;rcases L.kW with⟨_,a,rfl⟩|⟨b,c,S,_,_,_,rfl⟩
  .exact .ff λe=>by cases e
  .exact .ff λe=>by cases e
 .obtain⟨p,g,rfl⟩:=Ê K;have hi:H.get i=O (.own e2 t (p::g)):=hi;generalize q:p::g=xs at*;obtain⟨b,c,m,p,_,_,G⟩:=d.H.blk i _ hi;obtain⟨m,z,W,q,z4,r,g⟩:=ug d.H hi p;have J:ρ.fz b=bs:=by
   cases g:ρ.fz b with
   |none=>rfl
   |some A=>
    have:=(d.H.fz b A g).2 i _ c hi p;cases this
  have r:cR ρ ⟨ρ.at',λq=>if q=b then O m else ρ.fz q⟩:=⟨λ_ _ h=>h,λq A h=>by
   show(if q=b then O m else ρ.fz q)=O A;by_cases g:q=b
   .subst g;rw[J]at h;cases h
   .rw[db g];exact h⟩
  refine⟨⟨⟨ρ.at',λq=>if q=b then O m else ρ.fz q⟩,⟨o r λy L=>?_,a1 r (λ_=>rfl) (λq A h=>?_),d.G.mono r⟩,a0,λq A h=>?_,M.re r (aC _) (λ_ C=>Pd (λ_=>rfl) C) λq A h=>by
   have h:(if q=b then O m else ρ.fz q)=O A:=h;by_cases g:q=b
   .exact .inr ⟨i,_,c,hi,rfl,g ▸ p⟩
   .rw[db g]at h;exact .inl h⟩,U,V⟩
  .rcases L.kW with⟨o,_⟩|⟨C,M,S,f,_,u,rfl⟩
   .exact absurd (ut.1 o) K
   .rw[p]at f;cases f;refine .bh (A:=m) (b:=b) (off:=0*t.size) (by show(if b=b then O m else _)=_;rw[dA rfl]) (by rw[CB,bC];exact z4) rfl ?_ u (λe=>by cases e);rw[CB,iW];exact W.mono r
  .have h:(if q=b then O m else ρ.fz q)=O A:=h;by_cases g:q=b
   .subst g;rw[dA rfl]at h;cases h;exact⟨⟨_,_,z⟩,λk kk M o f j=>absurd (d.H.inj k i kk _ q M c f hi j p) o⟩
   .rw[db g]at h;exact⟨(d.H.fz q A h).1,λk kk c _ f j=>(d.H.fz q A h).2 k kk c f j⟩
  .have h:(if q=b then O m else ρ.fz q)=O A:=h;by_cases g:q=b
   .subst g;exact .inr (G rfl)
   .rw[db g]at h;exact a' q A h
def bp.Aw{Q:sC->au af->ai->Prop}{l:I mN}(f:l≠[]){i s:E}{e2:ed}{t:aq}{xs:I t.den}{cap:aY}(j:T.get s=O (.bZ e2 t i 0 xs.length cap))(hi:H.get i=a8 e2 t xs)
  (d:bc X P w0 F n l (T.set s (O (.bh ao t xs))) (H.drop i) Q):bc X P w0 F n l T H Q:=by
 cases l with
 |nil=>exact absurd rfl f
 |cons c l=>exact λa w g k=>d a w (Sat.Aw j hi g) k
def Goal.freeze{Q:sC->au af->ai->Prop}{c:mN}{i j m:E}{e e2:ed}{cs:I af}{x f r:dF}{t:aq}{xs:I t.den}{cap:aY}(o:H.get j=O (.cells e cs x f r))(p:cs[m]? =O (.bZ e2 t i 0 xs.length cap))(hi:H.get i=a8 e2 t xs)(g:i≠j)
  (d:fm X P w0 F n c T ((H.drop i).set j (.cells e (cs.set m (.bh ao t xs)) x f r)) Q):fm X P w0 F n c T H Q:=λa w q k=>d a w (Sat.freeze o p hi g q) k
def bp.freeze{Q:sC->au af->ai->Prop}{l:I mN}(p:l≠[]){i j m:E}{e e2:ed}{cs:I af}{x f r:dF}{t:aq}{xs:I t.den}{cap:aY}(o:H.get j=O (.cells e cs x f r))(q:cs[m]? =O (.bZ e2 t i 0 xs.length cap))(hi:H.get i=a8 e2 t xs)(g:i≠j)
  (d:bc X P w0 F n l T ((H.drop i).set j (.cells e (cs.set m (.bh ao t xs)) x f r)) Q):bc X P w0 F n l T H Q:=by
 cases l with
 |nil=>exact absurd rfl p
 |cons c l=>exact Goal.freeze o q hi g d
def bp.qu{Q:sC->au af->ai->Prop}{l:I mN}(f:l≠[]){σ:Ren}{s:bD}(h:fit P σ n T H s)(d:bc X P w0 F n l s.T s.H Q)(g:pinned σ s.H.next X.pins=D:=by rfl):bc X P w0 F n l T H Q:=by
 cases l with
 |nil=>exact absurd rfl f
 |cons c l=>exact Goal.qu h d g
end
end
end Go.Proofs.YtdajfemhnlpegaaGreatDoor
namespace Go.Proofs.YtdajfemhnlpegaaGreatDoor
open Go.RowKit Sv Go.Proofs.Tryz
noncomputable section
abbrev cY:aq:= .pair (.int .i64) (.int .i64)
abbrev pl(l:I (N×N)):af:= .bh ao cY l
abbrev g0(s:I (N×N))(k:E):N×N:=s.getD k (0,0)
def oL:=NO f11
def oM:=NO f43
def j0(p:N×N):dF:=bP (p.1<6)||(bP (p.1>400)||(bP (p.2<1)||decide (p.2>999999999)))
def gm(s:I (N×N))(k:E):N:=if j0 (g0 s k)=D then 3 else if 0<k/\(g0 s k).1<=(g0 s (k-1)).1 then 11 else 0
def nV(s:I (N×N)):E->E->N
 |0,_=>0
 |n+1,k=>if gm s k≠0 then gm s k else nV s n (k+1)
def cJ(s:I (N×N)):N:=if s.length=0 then 12 else if 32<s.length then 5 else nV s s.length 0
def JE(p:N×N):dF:=bP (p.1<1)||(bP (p.1>400)||(bP (p.2<1)||decide (p.2>400)))
def m8(s:I (N×N)):E->E->N
 |0,_=>0
 |n+1,k=>if JE (g0 s k)=D then 3 else m8 s n (k+1)
section
variable(s:I (N×N))
def ij:N:=if 4<s.length then 5 else m8 s s.length 0
def iE(k:E):bD:={n:=62,sl:=[(0,pl s),(3,iv k)],bF:=[],next:=64}
def ajH:Holds em D 11 [pl s] (iv (cJ s)):=by
 have m:=ba;refine bK oL func11 λw F=>?_
 by_cases C:s.length=0
 .have e:cJ s=12:=by unfold cJ;rw[dA C]
  rw[e];exact bt m 3 (wy [cT (ω:(s.length:N)=0)] 1:bk (aA []) (fl oL []) 3 62 [pl s] 3 f11 D (iv 12))
 .by_cases S:32<s.length
  .have e:cJ s=5:=by unfold cJ;rw[db C,dA S]
   rw[e];exact bt m 5 (wy [yn (ω:¬(s.length:N)=0),ag (ω:(s.length:N)>32)] 129:bk (aA []) (fl oL []) 5 62 [pl s] 6 f11 D (iv 5))
  .obtain⟨r,U⟩:∃r,nV s s.length 0=r:=⟨_,rfl⟩;have e:cJ s=r:=by unfold cJ;rw[db C,db S,U]
   rw[e];refine cE m 6 (wy [yn (ω:¬(s.length:N)=0),az (ω:¬(s.length:N)>32)] 129:cL (aA []) (fl oL []) 6 62 [pl s] 4 .normal [] (iE s 0)) ?_;refine c_q {k:E//k<=s.length/\nV s (s.length-k) k=r} 0 (cat oL [1,1,1,0,1,0,0]) ((fl oL []).drop 7) (λk=>iE s k.1) (λk=>s.length-k.1) ⟨0,gt _,U⟩ ?_;rintro⟨k,d,q⟩;have q:nV s (s.length-k) k=r:=q;by_cases W:k<s.length
   .obtain⟨K,d⟩:∃K,s.length-k=K+1:=⟨s.length-k-1,by omega⟩;have f:s.length-(k+1)=K:=by omega
    rw[d,nV]at q;have L:gm s k=0->∃J:{k:E//k<=s.length/\nV s (s.length-k) k=r},s.length-J.1<s.length-k/\(iE s (k+1)).T=(iE s J.1).T/\(iE s (k+1)).H=(iE s J.1).H:=λg=>
     ⟨⟨k+1,W,by rw[f,<-q,db (by rw[g];simp)]⟩,by simp;omega,rfl,rfl⟩
    have hit:∀A,gm s k=A->A≠0->r=A:=λA g d=>by rw[<-q,dA (by rw[g];exact d),g]
    by_cases d:(g0 s k).1<6
    .have g:gm s k=3:=by unfold gm;rw[dA (show j0 (g0 s k)=D by unfold j0;rw[ay d];rfl)]
     have p:=hit 3 g δ;exact bp.iC (s:=iE s k) known mixed m _ (wy [ag (ω:(k:N)<(s.length:N)),ag (ω:k<s.length),aa (aL (ay d)),ag d] 72915422538375169:bw (aA []) (fl oL [1,1,1,0,1,0,0]) (iE s k) 14696577 f11 D (iv 3)) λT H h=>by
      have o:ew em D f11 (iv r) .ret T H:=by rw[p];exact h
      exact o
    .by_cases f:(g0 s k).1>400
     .have g:gm s k=3:=by unfold gm;rw[dA (show j0 (g0 s k)=D by unfold j0;rw[ab d,ay f];rfl)]
      have p:=hit 3 g δ;exact bp.iC (s:=iE s k) known mixed m _ (wy [ag (ω:(k:N)<(s.length:N)),ag (ω:k<s.length),aa (aL (ab d)),az d,aa (aL (ay f)),ag f] 1972866762717026034987294071201793:bw (aA []) (fl oL [1,1,1,0,1,0,0]) (iE s k) 14696575 f11 D (iv 3)) λT H h=>by
       have o:ew em D f11 (iv r) .ret T H:=by rw[p];exact h
       exact o
     .by_cases j:(g0 s k).2<1
      .have g:gm s k=3:=by unfold gm;rw[dA (show j0 (g0 s k)=D by unfold j0;rw[ab d,ab f,ay j];rfl)]
       have p:=hit 3 g δ;exact bp.iC (s:=iE s k) known mixed m _ (wy [ag (ω:(k:N)<(s.length:N)),ag (ω:k<s.length),aa (aL (ab d)),az d,aa (aL (ab f)),az f,aa (aL (ay j)),ag j] 47417608677845701031321296900126614863123896344577:bw (aA []) (fl oL [1,1,1,0,1,0,0]) (iE s k) 14696319 f11 D (iv 3)) λT H h=>by
        have o:ew em D f11 (iv r) .ret T H:=by rw[p];exact h
        exact o
      .by_cases u:(g0 s k).2>999999999
       .have g:gm s k=3:=by unfold gm;rw[dA (show j0 (g0 s k)=D by unfold j0;rw[ab d,ab f,ab j,ay u];rfl)]
        have p:=hit 3 g δ;exact bp.iC (s:=iE s k) known mixed m _ (wy [ag (ω:(k:N)<(s.length:N)),ag (ω:k<s.length),aa (aL (ab d)),az d,aa (aL (ab f)),az f,aa (aL (ab j)),az j,ag u] 13986682385645117652719182365242188266018988208752959489:bw (aA []) (fl oL [1,1,1,0,1,0,0]) (iE s k) 14663551 f11 D (iv 3)) λT H h=>by
         have o:ew em D f11 (iv r) .ret T H:=by rw[p];exact h
         exact o
       .have G:¬j0 (g0 s k)=D:=by unfold j0;rw[ab d,ab f,ab j,ab u];decide
        by_cases M:0<k
        .have V:((k:N)-1).toNat=k-1:=by omega
         by_cases z:(g0 s k).1<=(g0 s (k-1)).1
         .have g:gm s k=11:=by unfold gm;rw[db G,dA ⟨M,z⟩]
          have p:=hit 11 g δ;exact bp.iC (s:=iE s k) known mixed m _ (wy [ag (ω:(k:N)<(s.length:N)),ag (ω:k<s.length),aa (aL (ab d)),az d,aa (aL (ab f)),az f,aa (aL (ab j)),az j,az u,aa (aK (ay (ω:(k:N)>0))),aa (aI (v:=iv ((s.getD k ((0:N),(0:N))).1))),yi (ω:i6 ((k:N)-1)),ag (ω:0<=(k:N)-1),ag (ω:((k:N)-1).toNat<s.length),aa (aI (v:=iv ((s.getD ((k:N)-(1:N)).toNat ((0:N),(0:N))).1))),ag (ω:(k:N)>0),ag (show(s.getD k (0,0)).1<=(s.getD ((k:N)-1).toNat (0,0)).1 from by rw[V];exact z)] 2249213543540994798171467645421159325250613525400457923990942167996049185361026867930887626753:bw (aA []) (fl oL [1,1,1,0,1,0,0]) (iE s k) 274871598975 f11 D (iv 11)) λT H h=>by
           have o:ew em D f11 (iv r) .ret T H:=by rw[p];exact h
           exact o
         .refine aT (s:=iE s k) m (wy [ag (ω:(k:N)<(s.length:N)),ag (ω:k<s.length),aa (aL (ab d)),az d,aa (aL (ab f)),az f,aa (aL (ab j)),az j,az u,aa (aK (ay (ω:(k:N)>0))),aa (aI (v:=iv ((s.getD k ((0:N),(0:N))).1))),yi (ω:i6 ((k:N)-1)),ag (ω:0<=(k:N)-1),ag (ω:((k:N)-1).toNat<s.length),aa (aI (v:=iv ((s.getD ((k:N)-(1:N)).toNat ((0:N),(0:N))).1))),ag (ω:(k:N)>0),az (show ¬(s.getD k (0,0)).1<=(s.getD ((k:N)-1).toNat (0,0)).1 from by rw[V];exact z),yi (ω:i6 ((k:N)+1))] 152435802006729984966571431360467792383253275253602605810892305217995873654312315541420409364481:aR (aA []) (fl oL [1,1,1,0,1,0,0]) (iE s k) 206152122239 .normal [] (iE s (k+1))) (L ?_);unfold gm;rw[db G,db λh=>z h.2]
        .refine aT (s:=iE s k) m (wy [ag (ω:(k:N)<(s.length:N)),ag (ω:k<s.length),aa (aL (ab d)),az d,aa (aL (ab f)),az f,aa (aL (ab j)),az j,az u,aa (aK (ab (ω:¬(k:N)>0))),az (ω:¬(k:N)>0),yi (ω:i6 ((k:N)+1))] 22770819451483521806052223292178719719570577176393786568640136009475934920414863361:aR (aA []) (fl oL [1,1,1,0,1,0,0]) (iE s k) 137441034111 .normal [] (iE s (k+1))) (L ?_);unfold gm;rw[db G,db λh=>M h.1]
   .refine aT (s:=iE s k) m (wy [az (ω:¬(k:N)<(s.length:N))] 1:aR (aA []) (fl oL [1,1,1,0,1,0,0]) (iE s k) 2 (.exit 0) [] (iE s k)) ?_;refine bY (cg ?_);obtain rfl:k=s.length:=by omega
    rw[Ru,nV]at q;exact bp.iC (s:=iE s s.length) known mixed m _ (wy [] 0:bw (aA []) ((fl oL []).drop 7) (iE s s.length) 1 f11 D (iv 0)) λT H h=>by
     have o:ew em D f11 (iv r) .ret T H:=by rw[<-q];exact h
     exact o
end
def Pe:=IN 11 [.list ao cY] [.int .i64] D (λd=>D) λd=>(cJ d.1,())
def WT:Pe.Ok em:=λ⟨s,_⟩ _=>ajH s
def iF(s:I (N×N))(k:E):bD:={n:=54,sl:=[(0,pl s),(13,pl s),(14,iv s.length),(15,iv k)],bF:=[],next:=64}
def CM(s:I (N×N)):Holds em D 43 [pl s] (iv (cJ s)):=by
 have m:=ba;refine bK oM func43 λw F=>?_
 by_cases C:s.length=0
 .have e:cJ s=12:=by unfold cJ;rw[dA C]
  rw[e];exact bt m 2 (wy [cT (ω:(s.length:N)=0)] 1:bk (aA []) (fl oM []) 2 54 [pl s] 3 f43 D (iv 12))
 .by_cases S:32<s.length
  .have e:cJ s=5:=by unfold cJ;rw[db C,dA S]
   rw[e];exact bt m 2 (wy [yn (ω:¬(s.length:N)=0),ag (ω:(s.length:N)>32)] 129:bk (aA []) (fl oM []) 2 54 [pl s] 6 f43 D (iv 5))
  .obtain⟨r,U⟩:∃r,nV s s.length 0=r:=⟨_,rfl⟩;have e:cJ s=r:=by unfold cJ;rw[db C,db S,U]
   rw[e];refine cE m 3 (wy [yn (ω:¬(s.length:N)=0),az (ω:¬(s.length:N)>32)] 129:cL (aA []) (fl oM []) 3 54 [pl s] 4 .normal [] (iF s 0)) ?_;refine c_q {k:E//k<=s.length/\nV s (s.length-k) k=r} 1 (cat oM [1,1,0,1,0,0]) ((fl oM []).drop 4) (λk=>iF s k.1) (λk=>s.length-k.1) ⟨0,gt _,U⟩ ?_;rintro⟨k,d,q⟩;have q:nV s (s.length-k) k=r:=q;by_cases W:k<s.length
   .obtain⟨K,d⟩:∃K,s.length-k=K+1:=⟨s.length-k-1,by omega⟩;have f:s.length-(k+1)=K:=by omega
    rw[d,nV]at q;have L:gm s k=0->∃J:{k:E//k<=s.length/\nV s (s.length-k) k=r},s.length-J.1<s.length-k/\(iF s (k+1)).T=(iF s J.1).T/\(iF s (k+1)).H=(iF s J.1).H:=λg=>
     ⟨⟨k+1,W,by rw[f,<-q,db (by rw[g];simp)]⟩,by simp;omega,rfl,rfl⟩
    have hit:∀A,gm s k=A->A≠0->r=A:=λA g d=>by rw[<-q,dA (by rw[g];exact d),g]
    by_cases d:(g0 s k).1<6
    .have g:gm s k=3:=by unfold gm;rw[dA (show j0 (g0 s k)=D by unfold j0;rw[ay d];rfl)]
     have p:=hit 3 g δ;exact bp.iC (s:=iF s k) known mixed m _ (wy [ag (ω:(k:N)<(s.length:N)),ag (ω:k<s.length),aa (aL (ay d)),ag d] 278150258689:bw (aA []) (fl oM [1,1,0,1,0,0]) (iF s k) 28945 f43 D (iv 3)) λT H h=>by
      have o:ew em D f43 (iv r) .ret T H:=by rw[p];exact h
      exact o
    .by_cases f:(g0 s k).1>400
     .have g:gm s k=3:=by unfold gm;rw[dA (show j0 (g0 s k)=D by unfold j0;rw[ab d,ay f];rfl)]
      have p:=hit 3 g δ;exact bp.iC (s:=iF s k) known mixed m _ (wy [ag (ω:(k:N)<(s.length:N)),ag (ω:k<s.length),aa (aL (ab d)),az d,aa (aL (ay f)),ag f] 7009030663454859265:bw (aA []) (fl oM [1,1,0,1,0,0]) (iF s k) 28943 f43 D (iv 3)) λT H h=>by
       have o:ew em D f43 (iv r) .ret T H:=by rw[p];exact h
       exact o
     .by_cases j:(g0 s k).2<1
      .have g:gm s k=3:=by unfold gm;rw[dA (show j0 (g0 s k)=D by unfold j0;rw[ab d,ab f,ay j];rfl)]
       have p:=hit 3 g δ;exact bp.iC (s:=iF s k) known mixed m _ (wy [ag (ω:(k:N)<(s.length:N)),ag (ω:k<s.length),aa (aL (ab d)),az d,aa (aL (ab f)),az f,aa (aL (ay j)),ag j] 156891705178242950256926721:bw (aA []) (fl oM [1,1,0,1,0,0]) (iF s k) 28911 f43 D (iv 3)) λT H h=>by
        have o:ew em D f43 (iv r) .ret T H:=by rw[p];exact h
        exact o
      .by_cases u:(g0 s k).2>999999999
       .have g:gm s k=3:=by unfold gm;rw[dA (show j0 (g0 s k)=D by unfold j0;rw[ab d,ab f,ab j,ay u];rfl)]
        have p:=hit 3 g δ;exact bp.iC (s:=iF s k) known mixed m _ (wy [ag (ω:(k:N)<(s.length:N)),ag (ω:k<s.length),aa (aL (ab d)),az d,aa (aL (ab f)),az f,aa (aL (ab j)),az j,ag u] 11298352058746665424349044737:bw (aA []) (fl oM [1,1,0,1,0,0]) (iF s k) 28399 f43 D (iv 3)) λT H h=>by
         have o:ew em D f43 (iv r) .ret T H:=by rw[p];exact h
         exact o
       .have G:¬j0 (g0 s k)=D:=by unfold j0;rw[ab d,ab f,ab j,ab u];decide
        by_cases M:0<k
        .have V:((k:N)-1).toNat=k-1:=by omega
         by_cases z:(g0 s k).1<=(g0 s (k-1)).1
         .have g:gm s k=11:=by unfold gm;rw[db G,dA ⟨M,z⟩]
          have p:=hit 11 g δ;exact bp.iC (s:=iF s k) known mixed m _ (wy [ag (ω:(k:N)<(s.length:N)),ag (ω:k<s.length),aa (aL (ab d)),az d,aa (aL (ab f)),az f,aa (aL (ab j)),az j,az u,aa (aK (ay (ω:(k:N)>0))),aa (aI (v:=iv ((s.getD k ((0:N),(0:N))).1))),yi (ω:i6 ((k:N)-1)),ag (ω:0<=(k:N)-1),ag (ω:((k:N)-1).toNat<s.length),aa (aI (v:=iv ((s.getD ((k:N)-(1:N)).toNat ((0:N),(0:N))).1))),ag (ω:(k:N)>0),ag (show(s.getD k (0,0)).1<=(s.getD ((k:N)-1).toNat (0,0)).1 from by rw[V];exact z)] 1692120201104267890072196129885325291501740184976216563713:bw (aA []) (fl oM [1,1,0,1,0,0]) (iF s k) 67096303 f43 D (iv 11)) λT H h=>by
           have o:ew em D f43 (iv r) .ret T H:=by rw[p];exact h
           exact o
         .refine aT (s:=iF s k) m (wy [ag (ω:(k:N)<(s.length:N)),ag (ω:k<s.length),aa (aL (ab d)),az d,aa (aL (ab f)),az f,aa (aL (ab j)),az j,az u,aa (aK (ay (ω:(k:N)>0))),aa (aI (v:=iv ((s.getD k ((0:N),(0:N))).1))),yi (ω:i6 ((k:N)-1)),ag (ω:0<=(k:N)-1),ag (ω:((k:N)-1).toNat<s.length),aa (aI (v:=iv ((s.getD ((k:N)-(1:N)).toNat ((0:N),(0:N))).1))),ag (ω:(k:N)>0),az (show ¬(s.getD k (0,0)).1<=(s.getD ((k:N)-1).toNat (0,0)).1 from by rw[V];exact z),yi (ω:i6 ((k:N)+1))] 114679951438064521639116405747623320781344138185328837795841:aR (aA []) (fl oM [1,1,0,1,0,0]) (iF s k) 50319087 .normal [] (iF s (k+1))) (L ?_);unfold gm;rw[db G,db λh=>z h.2]
        .refine aT (s:=iF s k) m (wy [ag (ω:(k:N)<(s.length:N)),ag (ω:k<s.length),aa (aL (ab d)),az d,aa (aL (ab f)),az f,aa (aL (ab j)),az j,az u,aa (aK (ab (ω:¬(k:N)>0))),az (ω:¬(k:N)>0),yi (ω:i6 ((k:N)+1))] 70168004863755916102289625773414622905812946526209:aR (aA []) (fl oM [1,1,0,1,0,0]) (iF s k) 33558255 .normal [] (iF s (k+1))) (L ?_);unfold gm;rw[db G,db λh=>M h.1]
   .refine aT (s:=iF s k) m (wy [az (ω:¬(k:N)<(s.length:N))] 1:aR (aA []) (fl oM [1,1,0,1,0,0]) (iF s k) 2 (.exit 1) [] (iF s k)) ?_;refine bY (cg ?_);obtain rfl:k=s.length:=by omega
    rw[Ru,nV]at q;exact bp.iC (s:=iF s s.length) known mixed m _ (wy [] 0:bw (aA []) ((fl oM []).drop 4) (iF s s.length) 1 f43 D (iv 0)) λT H h=>by
     have o:ew em D f43 (iv r) .ret T H:=by rw[<-q];exact h
     exact o
def WU:=IN 43 [.list ao cY] [.int .i64] D (λd=>D) λd=>(cJ d.1,())
def ajU:WU.Ok em:=λ⟨s,_⟩ _=>CM s
abbrev Pf(j:E)(l:I N):af:= .bZ 3 (.int .i64) j 0 l.length (bO l.length)
abbrev Pg(l:I N):gB:= .opt 3 (.int .i64) l
abbrev ajV(j:E)(l:I (N×N)):af:= .bZ 67 cY j 0 l.length (bO l.length)
abbrev JF:I (N×N):=[]
abbrev ajW(l:I (N×N)):gB:= .opt 67 cY l
def sU:=NO f162
def sV:=NO f163
def Ay:=NO f109
abbrev C6:I E:=[1,1,1,0,1,0,0]
def kC(l:I N)(x:N)(d:I N)(done:dF)(k:E):bD:={n:=42,sl:=[(0,lv l),(1,iv x),(5,Pf 64 d),(6,bv done),(7,iv k)],bF:=[(64,Pg d)],next:=65}
abbrev Az:I E:=[1,0,1,0,0]
section
variable(l:I N)(x:N)(k:E)
def mg:bD:={n:=30,sl:=[(0,lv l),(1,iv x),(6,iv k)],bF:=[],next:=64}
def aj6(g:(k:N)<(l.length:N))(p:k<l.length)(q:l.getD k 0=x)(r:k<=l.length)(u:(dd ((l.take k).drop 0).length 0)=ao)(z:((l.take k).drop 0).length<=1000000)(A:i6 ((k:N)+1))(C:((k:N)+1).toNat<=l.length)(G:(dd ((l.take l.length).drop ((k:N)+1).toNat).length 0)=ao)(j:(mI 3 (.int .i64) (O (bn.own 3 (.int .i64) (bu (.int .i64) bs++(l.take k).drop 0))) ((l.take k).drop 0).length aY.full)=D)(m:((l.take k).drop 0).length+((l.take l.length).drop ((k:N)+1).toNat).length<=1000000)(o:(((l.take k).drop 0).length+((l.take l.length).drop ((k:N)+1).toNat).length)=(l.take k++l.drop (k+1)).length)(d:(l.take k++l.drop (k+1))=(((bu (.int .i64) bs++(l.take k).drop 0++(l.take l.length).drop ((k:N)+1).toNat).drop 0).take (((l.take k).drop 0).length+((l.take l.length).drop ((k:N)+1).toNat).length)))(f:0+((l.take k).drop 0).length+((l.take l.length).drop ((k:N)+1).toNat).length=0\/bx 3 (.int .i64) (O (bn.own 3 (.int .i64) (bu (.int .i64) bs++(l.take k).drop 0++(l.take l.length).drop ((k:N)+1).toNat))) (0+(0+((l.take k).drop 0).length+((l.take l.length).drop ((k:N)+1).toNat).length)-1)=D)(J:ao=D->0+((l.take (k:N).toNat).drop 0).length+((l.take l.length).drop ((k:N)+1).toNat).length≠0):
  bw (aA []) (fl sV Az) (mg l x k) 19 f163 ao (.tuple [lv (l.take k++l.drop (k+1)),bv D]):=
 wy [ag g,ag p,cT q,ag r,aa u,aa (show(bounded ((0:E)+((l.take k).drop (0:E)).length) (8:E))=D from(by simp only[bC]<;>exact kB z ω)),yi A,ag C,ag (by omega:l.length<=l.length),aa G,aa (show(mI (3:E) (.int .i64) (O (bn.own (3:E) (.int .i64) (bu (.int .i64) bs++(l.take k).drop (0:E)))) ((0:E)+((l.take k).drop (0:E)).length) aY.full)=D from(by simp only[bC]<;>exact j)),aa (show(bounded ((0:E)+((l.take k).drop (0:E)).length+((l.take l.length).drop ((k:N)+(1:N)).toNat).length) (8:E))=D from(by simp only[bC]<;>exact kB m ω)),nU (an (show((0:E)+((l.take k).drop (0:E)).length+((l.take l.length).drop ((k:N)+(1:N)).toNat).length)=((l.take k++l.drop (k+(1:E))).length)from(by simp only[bC]<;>exact o)) (an (show(l.take k++l.drop (k+(1:E)))=(((bu (.int .i64) bs++(l.take k).drop (0:E)++(l.take l.length).drop ((k:N)+(1:N)).toNat).drop (0:E)).take ((0:E)+((l.take k).drop (0:E)).length+((l.take l.length).drop ((k:N)+(1:N)).toNat).length))from(by simp only[bC]<;>exact d)) (an f J)))] 273950228372251035233532072524783617
def aj7(f:(k:N)<(l.length:N))(o:k<l.length)(p:l.getD k 0=x)(q:k<=l.length)(r:(dd ((l.take k).drop 0).length 0)=ao)(u:((l.take k).drop 0).length<=1000000)(z:i6 ((k:N)+1))(A:((k:N)+1).toNat<=l.length)(C:((l.take l.length).drop ((k:N)+1).toNat).length=0)(g:((l.take k).drop 0).length=(l.take k++l.drop (k+1)).length)(j:(l.take k++l.drop (k+1))=(((bu (.int .i64) bs++(l.take k).drop 0).drop 0).take ((l.take k).drop 0).length))(m:0+((l.take k).drop 0).length=0\/bx 3 (.int .i64) (O (bn.own 3 (.int .i64) (bu (.int .i64) bs++(l.take k).drop 0))) (0+(0+((l.take k).drop 0).length)-1)=D)(d:ao=D->0+((l.take (k:N).toNat).drop 0).length≠0):
  bw (aA []) (fl sV Az) (mg l x k) 27 f163 ao (.tuple [lv (l.take k++l.drop (k+1)),bv D]):=
 wy [ag f,ag o,cT p,ag q,aa r,aa (show(bounded ((0:E)+((l.take k).drop (0:E)).length) (8:E))=D from(by simp only[bC]<;>exact kB u ω)),yi z,ag A,ag (by omega:l.length<=l.length),aa (yg C),nU (an (show((0:E)+((l.take k).drop (0:E)).length)=((l.take k++l.drop (k+(1:E))).length)from(by simp only[bC]<;>exact g)) (an (show(l.take k++l.drop (k+(1:E)))=(((bu (.int .i64) bs++(l.take k).drop (0:E)).drop (0:E)).take ((0:E)+((l.take k).drop (0:E)).length))from(by simp only[bC]<;>exact j)) (an m d)))] 56569084538877828548391158423553
def aj8(f:(k:N)<(l.length:N))(o:k<l.length)(p:l.getD k 0=x)(q:k<=l.length)(r:((l.take k).drop 0).length=0)(u:i6 ((k:N)+1))(z:((k:N)+1).toNat<=l.length)(A:(dd ((l.take l.length).drop ((k:N)+1).toNat).length 0)=ao)(C:((l.take l.length).drop ((k:N)+1).toNat).length<=1000000)(g:((l.take l.length).drop ((k:N)+1).toNat).length=(l.take k++l.drop (k+1)).length)(j:(l.take k++l.drop (k+1))=(((bu (.int .i64) bs++(l.take l.length).drop ((k:N)+1).toNat).drop 0).take ((l.take l.length).drop ((k:N)+1).toNat).length))(m:0+((l.take l.length).drop ((k:N)+1).toNat).length=0\/bx 3 (.int .i64) (O (bn.own 3 (.int .i64) (bu (.int .i64) bs++(l.take l.length).drop ((k:N)+1).toNat))) (0+(0+((l.take l.length).drop ((k:N)+1).toNat).length)-1)=D)(d:ao=D->0+((l.take l.length).drop ((k:N)+1).toNat).length≠0):
  bw (aA []) (fl sV Az) (mg l x k) 23 f163 ao (.tuple [lv (l.take k++l.drop (k+1)),bv D]):=
 wy [ag f,ag o,cT p,ag q,aa (yg r),yi u,ag z,ag (by omega:l.length<=l.length),aa A,aa (show(bounded ((0:E)+((l.take l.length).drop ((k:N)+(1:N)).toNat).length) (8:E))=D from(by simp only[bC]<;>exact kB C ω)),nU (an (show((0:E)+((l.take l.length).drop ((k:N)+(1:N)).toNat).length)=((l.take k++l.drop (k+(1:E))).length)from(by simp only[bC]<;>exact g)) (an (show(l.take k++l.drop (k+(1:E)))=(((bu (.int .i64) bs++(l.take l.length).drop ((k:N)+(1:N)).toNat).drop (0:E)).take ((0:E)+((l.take l.length).drop ((k:N)+(1:N)).toNat).length))from(by simp only[bC]<;>exact j)) (an m d)))] 56569082158798311739453386530817
def aj9(d:(k:N)<(l.length:N))(m:k<l.length)(o:l.getD k 0=x)(p:k<=l.length)(q:((l.take k).drop 0).length=0)(r:i6 ((k:N)+1))(u:((k:N)+1).toNat<=l.length)(z:((l.take l.length).drop ((k:N)+1).toNat).length=0)(A:(0)=(l.take k++l.drop (k+1)).length)(f:(l.take k++l.drop (k+1))=(((bu (.int .i64) bs).drop 0).take 0))(g:0=0\/ao=D)(j:ao=D->0≠0):
  bw (aA []) (fl sV Az) (mg l x k) 31 f163 ao (.tuple [lv (l.take k++l.drop (k+1)),bv D]):=
 wy [ag d,ag m,cT o,ag p,aa (yg q),yi r,ag u,ag (by omega:l.length<=l.length),aa (yg z),nU (an A (an f (an g j)))] 12553524006428500411997233153
end
abbrev Ph:I E:=[1,1,0,1,0,0]
def uC(a b:I N)(d:I (N×N))(k:E):bD:={n:=26,sl:=[(0,lv a),(1,lv b),(5,ajV 64 d),(6,iv k)],bF:=[(64,ajW d)],next:=65}
def JG{α:Type}(l:I α)(x:α):aY.full=bO (l++[x]).length:=by simp[bO]
def AA{α:Type}(l:I α)(x:α):l.length+1=(l++[x]).length:=by simp
def Pj{α:Type}(l:I α):l=(l.drop 0).take l.length:=by simp
section
variable(e:ed)(t:aq)(l:I t.den)
def Pk:l.length=0\/bx e t (a8 e t l) (0+l.length-1)=D:=by
 by_cases h:l.length=0
 .exact .inl h
 .exact .inr (by rw[eK];exact ay (show 0+l.length-1<l.length by omega))
def JH{n:E}(h:n<l.length):bx e t (O (.own e t l)) n=D:=by
 unfold bx;simp only[zX,decide_true,py];exact aw h
def WV{n:E}(h:l.length=n):mI e t (O (.own e t l)) n .full=D:=by
 subst h;unfold mI;simp[aY.isFull]
end
def JI{n:E}(h:n≠0):dd n 0=ao:=by
 cases d:dd n 0 with
 |false=>rfl
 |true=>exact absurd (ac d) h
def JJ{α:Type}(l:I α){n:E}(h:l.length<=n):l=(l.drop 0).take n:=by rw[iW,eG h]
def Pm{l:I N}{k:E}(h:k<l.length):l.drop k=l.getD k 0::l.drop (k+1):=by
 rw[kl h];simp[ap,h]
def AB(l:I N)(x:N)(done:dF):I N:=match done with |true=>l|false=>ig l x
def akh(l:I N)(x:N)(u:l.length<=1000):Holds em D 162 [lv l,iv x] (lv (ig l x)):=by
 have j:=ba;obtain⟨r,q⟩:∃r,ig l x=r:=⟨_,rfl⟩;rw[q];refine bK sU func162 λw F=>?_
 refine cE j 4 (wy [] 0:cL (aA []) (fl sU []) 4 42 [lv l,iv x] 1 .normal [] (kC l x [] ao 0)) ?_;refine c_q {s:I N×dF×E//s.2.2<=l.length/\s.1.length<=s.2.2+s.2.1.toNat/\s.1++AB (l.drop s.2.2) x s.2.1=r} 0 (cat sU C6) ((fl sU []).drop 5) (λs=>kC l x s.1.1 s.1.2.1 s.1.2.2) (λs=>l.length-s.1.2.2) ⟨([],ao,0),gt _,gt _,q⟩ ?_;rintro⟨⟨d,done,k⟩,p,g,f⟩;have p:k<=l.length:=p;have g:d.length<=k+done.toNat:=g;have f:d++AB (l.drop k) x done=r:=f;by_cases m:k<l.length
 .rw[Pm m]at f;cases done with
  |true=>
   refine aT (s:=kC l x d D k) j (wy [ag (ω:(k:N)<(l.length:N)),ag m,yk 3 (.int .i64) d,l8 8 (show d.length+1<=1000000 from by have:d.length<=k+1:=cD g (by simp[Ë]);omega),yi (ω:i6 ((k:N)+1)),av (AA _ _:(d.length+1)=(d++[l.getD k 0]).length),av (JG _ _:(aY.full)=(bO (d++[l.getD k 0]).length)),pH 3 (.int .i64) (Hj (d++[l.getD k (0:N)]))] 2787602579027429259917083748254001823481857:aR (aA []) (fl sU C6) (kC l x d D k) 1025 .normal [(64,66,bs)] (kC l x (d++[l.getD k 0]) D (k+1))) ?_;refine⟨⟨(d++[l.getD k 0],D,k+1),m,by have:d.length<=k+1:=g;show(d++[l.getD k 0]).length<=k+1+1;simp;omega,?_⟩,by show l.length-(k+1)<l.length-k;omega,rfl,rfl⟩;rw[<-f];simp[AB]
  |false=>
   by_cases o:x<l.getD k 0
   .refine aT (s:=kC l x d ao k) j (wy [ag (ω:(k:N)<(l.length:N)),ag m,ag o,aa (show(mI (3:ed) (aq.int iz) (a8 (nat_lit 3) (aq.int iz) d) d.length (bO d.length))=D from(ph _ _ _)),aa (show(bounded (d.length+(1:E)) (8:E))=D from kB (show d.length+(1:E)<=1000000 from by have:d.length<=k+1:=cD g (by simp[Ë]);omega) ω),aa (show(mI (3:ed) (aq.int iz) (O (bn.own (3:ed) (aq.int iz) (bu (aq.int iz) (a8 (nat_lit 3) (aq.int iz) d)++[x]))) (d.length+(1:E)) aY.full)=D from(by simp only[a7]<;>exact(show(mI (3:ed) (aq.int iz) (O (bn.own (3:ed) (aq.int iz) (d++[x]))) (d.length+(1:E)) aY.full)=D from(WV _ (.int .i64) _ τ:(mI 3 (.int .i64) (O (bn.own 3 (.int .i64) (d++[x]))) (d.length+(1:E)) aY.full)=D)))),aa (show(bounded (d.length+(1:E)+(1:E)) (8:E))=D from kB (show d.length+(1:E)+(1:E)<=1000000 from by have:d.length<=k+1:=cD g (by simp[Ë]);omega) ω),yi (ω: -9223372036854775808<=(k:N)+1/\(k:N)+1<=9223372036854775807),av (τ:(d.length+(1:E)+(1:E))=(d++[x]++[l.getD k (0:N)]).length),av (show(aY.full)=(bO (d++[x]++[l.getD k (0:N)]).length) from by simp[bO]),pF em (nat_lit 3) (aq.int iz) (show(bu (aq.int iz) (a8 (nat_lit 3) (aq.int iz) d)++[x]++[l.getD k (0:N)])=(d++[x]++[l.getD k (0:N)])from(by simp only[a7]<;>rfl))] 263398597370077903692248797649475487193635297926578177:aD.path (pD em (aA []) (fl sU C6) (kC l x d ao k)) (dl 2559) (fy em 42 .normal [(64,68,bs)] (kC l x (d++[x]++[l.getD k 0]) D (k+1)))) ?_;refine⟨⟨(d++[x]++[l.getD k 0],D,k+1),m,by have:d.length<=k+0:=g;show(d++[x]++[l.getD k 0]).length<=k+1+1;simp;omega,?_⟩,by show l.length-(k+1)<l.length-k;omega,rfl,rfl⟩;rw[<-f];simp only[AB,ig];rw[dA o];simp
   .refine aT (s:=kC l x d ao k) j (wy [ag (ω:(k:N)<(l.length:N)),ag m,az o,yk 3 (.int .i64) d,l8 8 (show d.length+1<=1000000 from by have:d.length<=k+1:=cD g (by simp[Ë]);omega),yi (ω:i6 ((k:N)+1)),av (AA _ _:(d.length+1)=(d++[l.getD k 0]).length),av (JG _ _:(aY.full)=(bO (d++[l.getD k 0]).length)),pH 3 (.int .i64) (Hj (d++[l.getD k (0:N)]))] 12845273385990777745997195752061345878113255425:aR (aA []) (fl sU C6) (kC l x d ao k) 1279 .normal [(64,66,bs)] (kC l x (d++[l.getD k 0]) ao (k+1))) ?_;refine⟨⟨(d++[l.getD k 0],ao,k+1),m,by have:d.length<=k+0:=g;show(d++[l.getD k 0]).length<=k+1+0;simp;omega,?_⟩,by show l.length-(k+1)<l.length-k;omega,rfl,rfl⟩;rw[<-f];simp only[AB,ig];rw[db o];simp
 .obtain rfl:k=l.length:=by omega
  rw[Gv]at f;cases done with
  |true=>
   refine aT (s:=kC l x d D l.length) j (wy [az (ω:¬(l.length:N)<(l.length:N))] 1:aR (aA []) (fl sU C6) (kC l x d D l.length) 2 (.exit 0) [(64,64,bs)] (kC l x d D l.length)) ?_;refine bY (cg ?_);simp only[AB,mS]at f;subst f;exact bM (s:=kC l x d D l.length) j (wy [nU (an (rr d.length) (an (show(d)=(((bu (.int .i64) (a8 3 (.int .i64) d)).drop (0:E)).take d.length)from(by simp only[a7]<;>exact(Pj _:(d)=((d.drop 0).take d.length)))) (an (Pk _ (.int .i64) _:d.length=0\/bx 3 (.int .i64) (a8 3 (.int .i64) d) (0+d.length-1)=D) ((λh=>by cases h):ao=D->d.length≠0))))] 64:bw (aA []) ((fl sU []).drop 5) (kC l x d D l.length) 2 f162 D (lv d))
  |false=>
   refine aT (s:=kC l x d ao l.length) j (wy [az (ω:¬(l.length:N)<(l.length:N))] 1:aR (aA []) (fl sU C6) (kC l x d ao l.length) 2 (.exit 0) [(64,64,bs)] (kC l x d ao l.length)) ?_;refine bY (cg ?_);simp only[AB,ig]at f;subst f;exact bM (s:=kC l x d ao l.length) j (wy [yk 3 (.int .i64) d,l8 8 (show d.length+1<=1000000 from by have:d.length<=l.length+0:=g;omega),nU (an (AA _ _:(d.length+1)=(d++[x]).length) (an (show(d++[x])=(((bu (.int .i64) (a8 3 (.int .i64) d)++[x]).drop (0:E)).take (d.length+(1:E)))from(by simp only[a7]<;>exact(JJ _ τ:(d++[x])=(((d++[x]).drop 0).take (d.length+1))))) (an (.inr (by rw[a7];exact JH _ (.int .i64) _ τ):d.length+1=0\/bx 3 (.int .i64) (O (bn.own 3 (.int .i64) (bu (.int .i64) (a8 3 (.int .i64) d)++[x]))) (0+(d.length+1)-1)=D) ((λh=>by cases h):ao=D->d.length+1≠0))))] 3255042048:bw (aA []) ((fl sU []).drop 5) (kC l x d ao l.length) 5 f162 D (lv (d++[x])))
def WW:=IN 162 [.list ao (.int .i64),.int .i64] [.list ao (.int .i64)] D (λd=>decide (jC (α:=N) d.1<=1000)) λd=>(ig d.1 d.2.1,())
def aki:WW.Ok em:=λ⟨l,x,_⟩ h=>akh l x (cC h)
def wM(l:I N)(x:N):I N:=if x∈l then l.erase x else l
def C7(l:I N)(x:N):dF:=bP (x∈l)
def Nm{l:I N}{x:N}{k:E}(f:k<l.length)(h:l.getD k 0=x)(g:x∉l.take k):x∈l/\l.erase x=l.take k++l.drop (k+1):=by
 have e:l=l.take k++x::l.drop (k+1):=by
  have:=Pm f;rw[h]at this;rw[<-this,pa]
 refine⟨by rw[e];simp,?_⟩;have d:l.erase x=(l.take k++x::l.drop (k+1)).erase x:=by rw[<-e]
 rw[d,I.erase_append_right _ g,I.erase_cons_head]
def akj(l:I N)(x:N)(d:l.length<=1000):Holds em ao 163 [lv l,iv x] (.tuple [lv (wM l x),bv (C7 l x)]):=by
 have d:=ba;refine bK sV func163 λw F=>?_
 refine cE d 2 (wy [] 0:cL (aA []) (fl sV []) 2 30 [lv l,iv x] 1 .normal [] (mg l x 0)) ?_;refine c_q {k:E//k<=l.length/\x∉l.take k} 0 (cat sV Az) ((fl sV []).drop 3) (λk=>mg l x k.1) (λk=>l.length-k.1) ⟨0,gt _,by simp⟩ ?_;rintro⟨k,C,j⟩;have C:k<=l.length:=C;have j:x∉l.take k:=j;by_cases f:k<l.length
 .by_cases g:l.getD k 0=x
  .obtain⟨J,S⟩:=Nm f g j;have p:wM l x=l.take k++l.drop (k+1):=by unfold wM;rw[dA J,S]
   have q:C7 l x=D:=ay J;rw[p,q];have t1:((k:N)+1).toNat=k+1:=by omega
   have U:l.take l.length=l:=dx;have m:(l.take k).length=k:=by simp;omega
   have V:(l.drop (k+1)).length=l.length-(k+1):=by simp
   have K:=aj6 l x k;have L:=aj7 l x k;have z:=aj8 l x k;have A:=aj9 l x k;simp only[iW,t1,U,kh,bC]at K L z A;have r:(l.take k)=[]->(l.drop (k+1))=(l.take k)++(l.drop (k+1)):=λh=>by rw[h];rfl
   have u:(l.drop (k+1))=[]->(l.take k)=(l.take k)++(l.drop (k+1)):=λh=>by rw[h,mS]
   by_cases W:k=0
   .have o:(l.take k)=[]:=ut.1 ω;by_cases M:l.length=k+1
    .have m:(l.drop (k+1))=[]:=ut.1 ω;exact bM (s:=mg l x k) d (A ω f g ω ω ω ω ω (by rw[o,m];rfl) (by rw[o,m];rfl) (.inl trivial) (λh=>by cases h))
    .exact bM (s:=mg l x k) d (z ω f g ω ω ω ω (JI ω) ω (by rw[<-r o]) (by rw[<-r o];exact JJ (l.drop (k+1)) (aC _)) (.inr (JH _ (.int .i64) (l.drop (k+1)) ω)) (λh=>by cases h))
   .by_cases M:l.length=k+1
    .have m:(l.drop (k+1))=[]:=ut.1 ω;exact bM (s:=mg l x k) d (L ω f g ω (JI ω) ω ω ω ω (by rw[<-u m]) (by rw[<-u m];exact JJ (l.take k) (aC _)) (.inr (JH _ (.int .i64) (l.take k) ω)) (λh=>by cases h))
    .exact bM (s:=mg l x k) d (K ω f g ω (JI ω) ω ω ω (JI ω) (WV _ (.int .i64) (l.take k) rfl) ω τ (JJ ((l.take k)++(l.drop (k+1))) τ) (.inr (JH _ (.int .i64) ((l.take k)++(l.drop (k+1))) (by simp;omega))) (λh=>by cases h))
  .refine aT (s:=mg l x k) d (wy [ag (ω:(k:N)<(l.length:N)),ag f,yn g,yi (ω:i6 ((k:N)+1))] 67903489:aR (aA []) (fl sV Az) (mg l x k) 5 .normal [] (mg l x (k+1))) ?_;refine⟨⟨k+1,f,λG=>?_⟩,by simp;omega,rfl,rfl⟩;have e:l.take (k+1)=l.take k++[l.getD k 0]:=by simp[ap,f]
   rw[e,I.mem_append,kD]at G;exact G.elim j λh=>g h.symm
 .refine aT (s:=mg l x k) d (wy [az (ω:¬(k:N)<(l.length:N))] 1:aR (aA []) (fl sV Az) (mg l x k) 2 (.exit 0) [] (mg l x k)) ?_;refine bY (cg ?_);obtain rfl:k=l.length:=by omega
  rw[dx]at j;have p:wM l x=l:=db j;have q:C7 l x=ao:=ab j;rw[p,q];exact bM (s:=mg l x l.length) d (wy [] 0:bw (aA []) ((fl sV []).drop 3) (mg l x l.length) 1 f163 ao (.tuple [lv l,bv ao]))
def WZ:=IN 163 [.list ao (.int .i64),.int .i64] [.list ao (.int .i64),.bool] ao (λd=>decide (jC (α:=N) d.1<=1000)) λd=>(wM d.1 d.2.1,C7 d.1 d.2.1,())
def akk:WZ.Ok em:=λ⟨l,x,_⟩ h=>akj l x (cC h)
def bQ(a b:I N):I (N×N):=I.zip a b
def ym(a b:I N):dF:=bP (a.length<=b.length)&&bP (a.length<=1000)
def W0{a b:I N}{k:E}(h:k<a.length)(f:a.length<=b.length):(bQ a b).take (k+1)=(bQ a b).take k++[(a.getD k 0,b.getD k 0)]:=by
 unfold bQ;have d:k<(I.zip a b).length:=by simp;omega
 rw[sF d];simp[ap,h,show k<b.length by omega]
def Pn{a b:I N}(d:a.length<=b.length):(bQ a b).length=a.length:=by unfold bQ;simp;omega
def No(a b:I N)(g:a.length<=b.length)(m:a.length<=1000):Holds em D 109 [lv a,lv b] (pl (bQ a b)):=by
 have d:=ba;have o:=Pn g;refine bK Ay func109 λw F=>?_
 refine cE d 3 (wy [] 0:cL (aA []) (fl Ay []) 3 26 [lv a,lv b] 1 .normal [] (uC a b [] 0)) ?_;refine c_q {k:E//k<=a.length} 0 (cat Ay Ph) ((fl Ay []).drop 4) (λk=>uC a b ((bQ a b).take k.1) k.1) (λk=>a.length-k.1) ⟨0,gt _⟩ ?_;rintro⟨k,j⟩;have j:k<=a.length:=j;by_cases f:k<a.length
 .refine aT (s:=uC a b ((bQ a b).take k) k) d (wy [ag (ω:(k:N)<(a.length:N)),ag f,aa (aI (v:=iv (a.getD k (0:N)))),ag (ω:k<b.length),aa (aI (v:=iv (b.getD k (0:N)))),yk 67 cY ((bQ a b).take k),l8 16 (show((bQ a b).take k).length+1<=1000000 from by simp;omega),yi (ω:i6 ((k:N)+1)),av (AA _ _:(((bQ a b).take k).length+1)=(((bQ a b).take k)++[(a.getD k 0,b.getD k 0)]).length),av (JG _ _:(aY.full)=(bO (((bQ a b).take k)++[(a.getD k 0,b.getD k 0)]).length)),pH 67 (aq.pair (.int .i64) (.int .i64)) (Hj (((bQ a b).take k)++[(a.getD k (0:N),b.getD k (0:N))]))] 59903175780739889075487783243767509426177:aR (aA []) (fl Ay Ph) (uC a b ((bQ a b).take k) k) 5 .normal [(64,66,bs)] (uC a b (((bQ a b).take k)++[(a.getD k 0,b.getD k 0)]) (k+1))) ?_;rw[<-W0 f g];exact⟨⟨k+1,f⟩,by simp;omega,rfl,rfl⟩
 .refine aT (s:=uC a b ((bQ a b).take k) k) d (wy [az (ω:¬(k:N)<(a.length:N))] 1:aR (aA []) (fl Ay Ph) (uC a b ((bQ a b).take k) k) 2 (.exit 0) [(64,64,bs)] (uC a b ((bQ a b).take k) k)) ?_;refine bY (cg ?_);obtain rfl:k=a.length:=by omega
  rw[eG ω];exact bM (s:=uC a b (bQ a b) a.length) d (wy [nU (an (rr (bQ a b).length) (an (show((bQ a b))=(((bu cY (a8 67 cY (bQ a b))).drop (0:E)).take (bQ a b).length)from(by simp only[a7]<;>exact(Pj _:((bQ a b))=(((bQ a b).drop 0).take (bQ a b).length)))) (an (Pk _ cY _:(bQ a b).length=0\/bx 67 cY (a8 67 cY (bQ a b)) (0+(bQ a b).length-1)=D) ((λh=>by cases h):ao=D->(bQ a b).length≠0))))] 1:bw (aA []) ((fl Ay []).drop 4) (uC a b (bQ a b) a.length) 1 f109 D (pl (bQ a b)))
def Po:=IN 109 [.list ao (.int .i64),.list ao (.int .i64)] [.list ao cY] D (λd=>ym d.1 d.2.1) λd=>(bQ d.1 d.2.1,())
def W1:Po.Ok em:=λ⟨a,b,_⟩ h=>by
 have h:(bP (a.length<=b.length)&&bP (a.length<=1000))=D:=h;simp only[ae,aN]at h;exact No a b h.1 h.2
end
end Go.Proofs.YtdajfemhnlpegaaGreatDoor
namespace Go.Proofs.YtdajfemhnlpegaaGreatDoor.Sv
open Go.RowKit
variable[Ground]
noncomputable section
def AD(ty:aq)(v:af)(H:ai):aD (da (af×ai)):=match ty,v with
 |.list ao t,.bZ e u i k d _=>(match bP (u=t)with
   |true=>.must (dd d 0||bx e t (H.get i) (k+d-1)) (.ret (O (.bh ao t (((bu t (H.get i)).drop k).take d),H.drop i)))
   |false=>.ret bs)
 |.list ao t,.slice i g n _=>(match H.get i with
   |some (.cells _ f _ ao ao)=>(match t.qY n (cut f g (n*t.size))with
    |some j=>.must (dK (g+n*t.size) f.length) (.ret (O (.bh ao t j,H.drop i)))
    |none=>.ret bs)
   |_=>.ret bs)
 |_,v=>.ret (O (v,H))
def uD:I aq->I af->ai->aD (da (I af×ai))
 |t::m,v::d,H=>(AD t v H).bind λr=>match r with
  |some (o,f)=>(uD m d f).bind λr2=>match r2 with
   |some (j,g)=>.ret (O (o::j,g))
   |none=>.ret bs
  |none=>.ret bs
 |_,d,H=>.ret (O (d,H))
def JK(c:bq)(args:I af)(H:ai):aD aM:=(uD c.ps args H).bind λr=>match r with
 |some (f,d)=>Am c f d
 |none=>.ret .no
def pJ(l:I bq)(bB:bL):bL:=λf d H=>match l with
 |[]=>bB f d H
 |c::l=>match dd f c.f with |true=>JK c d H|false=>pJ l bB f d H
section
variable{P:fd}{B:E}{ρ:Env}{H:ai}{w:du}
def JL(g:bl P B ρ H w){i b c:E}{k:bn}{o:fh Value}{e:ed}{fr:E×E}(hi:H.get i=O k)(S:k.fq=ao)(M:ρ i=O (b,c))(a0:w.heap[b]? =O (.cells o e fr)):
  ∃u:Env,u.fz b=O o/\(∀j,u j=ρ j)/\cR ρ u/\bl P B u (H.drop i) w/\bV ρ H w u (H.drop i) w:=by
 have a':ρ.fz b=bs:=by
  cases q9:ρ.fz b with
  |none=>rfl
  |some A=>
   have:=(g.fz b A q9).2 i k c hi M;rw[S]at this;cases this
 have L:cR ρ ⟨ρ.at',λq=>if q=b then O o else ρ.fz q⟩:=⟨λ_ _ h=>h,λq A h=>by
  show(if q=b then O o else ρ.fz q)=O A;by_cases m:q=b
  .subst m;rw[a']at h;cases h
  .rw[db m];exact h⟩
 have f:∀j kk,(H.drop i).get j=O kk->j≠i/\H.get j=O kk:=λj kk h=>by
  rw[ai.qd]at h;split at h
  .cases h
  .rename_i J;exact⟨λh=>J h.symm,h⟩
 refine⟨⟨ρ.at',λq=>if q=b then O o else ρ.fz q⟩,dA rfl,λ_=>rfl,L,⟨λj kk h=>?_,λi1 i2 k1 k2 d W c2 p z g3 g4=>g.inj i1 i2 k1 k2 d W c2 (f _ _ p).2 (f _ _ z).2 g3 g4,λj kk h=>g.lt j kk (f j kk h).2,g.base,λd A h=>?_⟩,
  ⟨L,λ_ _=>rfl,aC _,aC _,rfl,rfl,rfl,λ_ _ _=>rfl,λq _ ⟨j,kk,r,G,J,K⟩=>⟨j,kk,r,(f j kk G).2,J,K⟩,λq _ ⟨j,kk,r,G,K⟩=>⟨j,kk,r,(f j kk G).2,K⟩,λd A h=>?_⟩⟩
 .obtain⟨V,r,a1,e1,e2,e3,U⟩:=g.blk j kk (f j kk h).2;exact⟨V,r,a1,e1,e2,e3.mono L,U⟩
 .have h:(if d=b then O o else ρ.fz d)=O A:=h;by_cases m:d=b
  .subst m;rw[dA rfl]at h;cases h;exact⟨⟨_,_,a0⟩,λj kk C p z=>absurd (g.inj j i kk k d C c (f j kk p).2 hi z M) (f j kk p).1⟩
  .rw[db m]at h;exact⟨(g.fz d A h).1,λj kk C p z=>(g.fz d A h).2 j kk C (f j kk p).2 z⟩
 .have h:(if d=b then O o else ρ.fz d)=O A:=h;by_cases m:d=b
  .subst m;exact .inr (.inr ⟨i,k,c,hi,S,M⟩)
  .rw[db m]at h;exact .inl h
def akl(d:bl P B ρ H w){ty:aq}{v j:af}{f:ai}{x:Value}(h:(AD ty v H).gr=O (O (j,f)))(a3:Den ρ v x):∃g:Env,cR ρ g/\bl P B g f w/\bV ρ H w g f w/\Den g j x:=by
 unfold AD at h;split at h
 .rename_i t e V i k r a6;split at h
  .rename_i f;have f:=cC f;subst f;cases q:(dd r 0||bx e V (H.get i) (k+r-1))with
   |false=>rw[q]at h;cases h
   |true=>
    rw[q]at h;cases h;rcases a3.kW with⟨rfl,a,rfl⟩|⟨b,c,a9,m,C,W,rfl⟩
    .rw[GD];by_cases a':∃kk,H.get i=O kk/\kk.fq=ao/\∃b c o e a1,ρ i=O (b,c)/\w.heap[b]? =O (.cells o e a1)
     .obtain⟨kk,S,G,b,c,o,e',a1,a0,a2⟩:=a';obtain⟨g,_,_,u,r2,U⟩:=JL d S G a0 a2;exact⟨g,u,r2,U,.ff λe=>by cases e⟩
     . -- the block is given up without being frozen
       have f:∀j kk,(H.drop i).get j=O kk->j≠i/\H.get j=O kk:=λj kk h=>by
        rw[ai.qd]at h;split at h
        .cases h
        .rename_i L;exact⟨λh=>L h.symm,h⟩
       exact⟨ρ,cR.refl _,⟨λj kk h=>d.blk j kk (f j kk h).2,λi1 i2 k1 k2 p c1 c2 m C W g4=>d.inj i1 i2 k1 k2 p c1 c2 (f _ _ m).2 (f _ _ C).2 W g4,λj kk h=>d.lt j kk (f j kk h).2,d.base,λp A h=>⟨(d.fz p A h).1,λj kk c' m C=>(d.fz p A h).2 j kk c' (f j kk m).2 C⟩⟩,
        ⟨cR.refl _,λ_ _=>rfl,aC _,aC _,rfl,rfl,rfl,λ_ _ _=>rfl,λa4 _ ⟨j,kk,J,K,L,M⟩=>⟨j,kk,J,(f j kk K).2,L,M⟩,λa4 _ ⟨j,kk,J,K,M⟩=>⟨j,kk,J,(f j kk K).2,M⟩,λp A h=>.inl h⟩,.ff λe=>by cases e⟩
    .by_cases a5:r=0
     .subst a5;rw[GD];by_cases a':∃kk,H.get i=O kk/\kk.fq=ao/\∃b c o e a1,ρ i=O (b,c)/\w.heap[b]? =O (.cells o e a1)
      .obtain⟨kk,S,G,b,c,o,e',a1,a0,a2⟩:=a';obtain⟨g,_,_,u,r2,U⟩:=JL d S G a0 a2;exact⟨g,u,r2,U,.ff λe=>by cases e⟩
      .have f:∀j kk,(H.drop i).get j=O kk->j≠i/\H.get j=O kk:=λj kk h=>by
        rw[ai.qd]at h;split at h
        .cases h
        .rename_i L;exact⟨λh=>L h.symm,h⟩
       exact⟨ρ,cR.refl _,⟨λj kk h=>d.blk j kk (f j kk h).2,λi1 i2 k1 k2 p c1 c2 m C W g4=>d.inj i1 i2 k1 k2 p c1 c2 (f _ _ m).2 (f _ _ C).2 W g4,λj kk h=>d.lt j kk (f j kk h).2,d.base,λp A h=>⟨(d.fz p A h).1,λj kk c' m C=>(d.fz p A h).2 j kk c' (f j kk m).2 C⟩⟩,
        ⟨cR.refl _,λ_ _=>rfl,aC _,aC _,rfl,rfl,rfl,λ_ _ _=>rfl,λa4 _ ⟨j,kk,J,K,L,M⟩=>⟨j,kk,J,(f j kk K).2,L,M⟩,λa4 _ ⟨j,kk,J,K,M⟩=>⟨j,kk,J,(f j kk K).2,M⟩,λp A h=>.inl h⟩,.ff λe=>by cases e⟩
     .rw[qh]at q;have q:=q.resolve_left λe=>a5 (ac e)
      obtain⟨f,j⟩:=xZ q;obtain⟨o,S,G,_⟩:=ug d f m;obtain⟨g,f1,_,u,r2,U⟩:=JL d f rfl m S;refine⟨g,u,r2,U,?_⟩;generalize bu V (H.get i)=xs at f j G ⊢;have p:k+r<=xs.length:=by omega
      have f:(xs.drop k).take r=(xs.take (k+r)).drop k:=by rw[I.take_drop]
      have C:=Fk (off:=0) (A:=o.toList) (l:=k) (h:=k+r) (by simpa using G) ω p;rw[bC,<-f]at C;have f:((xs.drop k).take r).length=r:=by simp;omega
      have J:=Den.bh (ρ:=g) (z:=ao) (t:=V) (xs:=(xs.drop k).take r) (b:=b) (off:=k*V.size) (k:=a9) (A:=o) f1 (by
       have j:(V.flat xs).length<=o.toList.length:=by
        have:=G.length;simp at this ⊢;omega
       rw[V.jF]at j ⊢;rw[f,<-Gz];have:=cD (Hr V.size p) j;simpa using this) rfl (C.mono u) ω (λe=>by cases e)
      rwa[f]at J
  .cases h
 .rename_i t i off n a6;split at h
  .rename_i e p x a';split at h
   .rename_i j r;cases q:dK (off+n*t.size) p.length with
    |false=>rw[q]at h;cases h
    |true=>
     rw[q]at h;cases h;have C:=b5 q;obtain⟨b,c,k,m,_,W,rfl⟩:=a3.jv;obtain⟨o,C,S,_,a0,_,_,q⟩:=nO d a' m;obtain⟨g,f1,_,u,r2,U⟩:=JL d a' rfl m S;refine⟨g,u,r2,U,?_⟩;have m:=(a0.drop off).take (n*t.size);obtain⟨g,f⟩:=aq.Ci r m;subst f;have f:=t.jF j;have m:((o.toList.take p.length).drop off).take (j.length*t.size)=(o.toList.drop off).take (t.flat j).length:=by
      rw[f,I.drop_take,KE,ns ω]
     rw[m]at g;exact .bh f1 (by rw[f];omega) rfl (g.mono u) W λe=>by cases e
   .cases h
  .cases h
 .cases h;exact⟨ρ,cR.refl _,d,bV.refl _ _ _,a3⟩
def W2:∀{m:I aq}{vs j:I af}{ρ:Env}{H d:ai}{xs:I Value},bl P B ρ H w->(uD m vs H).gr=O (O (j,d))->aE ρ vs xs->∃f:Env,cR ρ f/\bl P B f d w/\bV ρ H w f d w/\aE f j xs
 |[],vs,j,ρ,H,d,xs,g,h,q=>by
  cases h;exact⟨ρ,cR.refl _,g,bV.refl _ _ _,q⟩
 |t::m,[],j,ρ,H,d,xs,g,h,q=>by
  cases h;exact⟨ρ,cR.refl _,g,bV.refl _ _ _,q⟩
 |t::m,v::vs,j,ρ,H,d,_,g,h,.cons d1 d2=>by
  unfold uD at h;rw[aD.sJ]at h;cases o:(AD t v H).gr with
  |none=>rw[o]at h;cases h
  |some r=>
   rw[o]at h;cases r with
   |none=>cases h
   |some r=>
    obtain⟨V,A⟩:=r;simp only[kV]at h;rw[aD.sJ]at h;cases p:(uD m vs A).gr with
    |none=>rw[p]at h;cases h
    |some r2=>
     rw[p]at h;cases r2 with
     |none=>cases h
     |some r2=>
      obtain⟨U,S⟩:=r2;cases h;obtain⟨f,u,C,M,J⟩:=akl g o d1;obtain⟨L,z,G,s2,K⟩:=W2 C p (d2.mono u);exact⟨L,u.trans z,G,M.trans s2,.cons (J.mono z) K⟩
def akm{ty:aq}{v m:af}{d:ai}(h:(AD ty v H).gr=O (O (m,d))):d.next=H.next:=by
 unfold AD at h;split at h
 .split at h
  .rename_i e u i k g _ _ _;cases f:(dd g 0||bx e _ (H.get i) (k+g-1))with
   |false=>rw[f]at h;cases h
   |true=>rw[f]at h;cases h;rfl
  .cases h
 .split at h
  .split at h
   .unfold aD.gr at h;generalize dK _ _=j at h;cases j with
    |false=>cases h
    |true=>cases h;rfl
   .cases h
  .cases h
 .cases h;rfl
def W4:∀{g:I aq}{vs f:I af}{H d:ai},(uD g vs H).gr=O (O (f,d))->d.next=H.next
 |[],vs,f,H,d,h=>by cases h;rfl
 |t::g,[],f,H,d,h=>by cases h;rfl
 |t::g,v::vs,f,H,d,h=>by
  unfold uD at h;rw[aD.sJ]at h;cases j:(AD t v H).gr with
  |none=>rw[j]at h;cases h
  |some r=>
   rw[j]at h;cases r with
   |none=>cases h
   |some r=>
    obtain⟨u,o⟩:=r;simp only[kV]at h;rw[aD.sJ]at h;cases m:(uD g vs o).gr with
    |none=>rw[m]at h;cases h
    |some r2=>
     rw[m]at h;cases r2 with
     |none=>cases h
     |some r2=>
      obtain⟨q,p⟩:=r2;cases h;rw[W4 m,akm j]
def W5{c:bq}{args:I af}{v:af}{H':ai}(h:(JK c args H).gr=O (.ok v H')):∃f,(uD c.ps args H).gr=O (O (f,H'))/\(Am c f H').gr=O (.ok v H'):=by
 unfold JK at h;rw[aD.sJ]at h;cases g:(uD c.ps args H).gr with
 |none=>rw[g]at h;cases h
 |some r=>
  rw[g]at h;cases r with
  |none=>cases h
  |some r=>
   obtain⟨d,j⟩:=r;have h:(Am c d j).gr=O (.ok v H'):=h;have e:=OG h;subst e;exact⟨d,rfl,h⟩
def Pp{bB:bL}{f:ya}{args:I af}{v:af}{H':ai}:∀{l:I bq},(pJ l bB f args H).gr=O (.ok v H')->(∃c∈l,c.f=f/\(JK c args H).gr=O (.ok v H'))\/(bB f args H).gr=O (.ok v H')
 |[],h=>.inr h
 |c::l,h=>by
  unfold pJ at h;cases g:dd f c.f with
  |true=>simp only[g]at h;exact .inl ⟨c,gb,(ac g).symm,h⟩
  |false=>
   simp only[g]at h;rcases Pp h with⟨j,d,m⟩|d
   .exact .inl ⟨j,gQ _ d,m⟩
   .exact .inr d
def uE{l:I bq}{bB:bL}(S:∀c∈l,c.Ok P)(q:bI P (bJ bB)):bI P (bJ (pJ l bB)) where
 mono j g H v f h:=by
  rcases Pp (ux h)with⟨c,_,_,d⟩|d
  .obtain⟨z,m,_⟩:=W5 d;rw[W4 m];exact aC _
  .exact q.mono j g H v f (by unfold bJ;rw[d];rfl)
 dc j g H v f h B ρ xs w u p o r M:=by
  rcases Pp (ux h)with⟨c,L,rfl,d⟩|d
  .obtain⟨z,m,K⟩:=W5 d;obtain⟨z,U,A,W,J⟩:=W2 p m r;refine(Hk (S c L) K u A (o.mono U) J).mono ?_;rintro e m ⟨x,ρ',rfl,V,C,G⟩;exact⟨x,ρ',rfl,V,C,W.trans G⟩
  .exact q.dc j g H v f (by unfold bJ;rw[d];rfl) B ρ xs w u p o r M
end
end
end Go.Proofs.YtdajfemhnlpegaaGreatDoor.Sv
namespace Go.Proofs.YtdajfemhnlpegaaGreatDoor
open Go.RowKit Sv Go.Proofs.Tryz
noncomputable section
def uF:=NO f74
def yo:=NO f75
def wN:=NO f28
def te(p:N×N)(x:N):N:=(if p.1=x then 1 else 0)+(if p.2=x then 1 else 0)
def dC(t:I (N×N))(x:N):E->N
 |0=>0
 |k+1=>dC t x k+te (g0 t k) x
def li(t:I (N×N))(x:N):N:=dC t x t.length
def gC:I (N×N)->N->N
 |[],_=>0
 |p::r,x=>if p.1=x then p.2 else gC r x
def wO(s t:I (N×N))(k:E):dF:=bP (li t (g0 t k).1<=gC s (g0 t k).1)&&bP (li t (g0 t k).2<=gC s (g0 t k).2)
def uG(s t:I (N×N)):E->dF
 |0=>D
 |k+1=>uG s t k&&wO s t k
def qC(s t:I (N×N)):dF:=uG s t t.length
section
variable(t:I (N×N))(x c:N)(k:E)
def jK:bD:={n:=32,sl:=[(0,pl t),(1,iv x),(5,iv c),(6,iv k)],bF:=[],next:=64}
def akt:
  bw (aA []) ((fl uF []).drop 4) (jK t x c k) 1 f74 D (iv c):=
 wy [] 0
end
def W6(t:I (N×N))(x:N):∀k,0<=dC t x k/\dC t x k<=2*k
 |0=>by unfold dC;omega
 |k+1=>by
  have:=W6 t x k;unfold dC te;split<;>split<;>omega
def aku(t:I (N×N))(x:N)(u:t.length<=1000000):Holds em D 74 [pl t,iv x] (iv (li t x)):=by
 have g:=ba;refine bK uF func74 λw F=>?_
 refine cE g 3 (wy [] 0:cL (aA []) (fl uF []) 3 32 [pl t,iv x] 1 .normal [] (jK t x 0 0)) ?_;refine c_q {k:E//k<=t.length} 0 (cat uF [1,1,0,1,0,0]) ((fl uF []).drop 4) (λk=>jK t x (dC t x k.1) k.1) (λk=>t.length-k.1) ⟨0,gt _⟩ ?_;rintro⟨k,r⟩;have q:=W6 t x k;have o:∀c,dC t x (k+1)=c->k<t.length->∃m:{k:E//k<=t.length},t.length-m.1<t.length-k/\(jK t x c (k+1)).T=(jK t x (dC t x m.1) m.1).T/\(jK t x c (k+1)).H=(jK t x (dC t x m.1) m.1).H:=λc p j=>
  ⟨⟨k+1,j⟩,by simp;omega,by subst p;rfl,by subst p;rfl⟩
 by_cases j:k<t.length
 .by_cases f:(g0 t k).1=x
  .by_cases d:(g0 t k).2=x
   .exact aT (s:=jK t x (dC t x k) k) g (wy [ag (ω:(k:N)<(t.length:N)),ag (ω:k<t.length),cT f,yi (ω:i6 ((dC t x k)+1)),cT d,yi (ω:i6 ((dC t x k)+1+1)),yi (ω:i6 ((k:N)+1))] 127811767166050305:aR (aA []) (fl uF [1,1,0,1,0,0]) (jK t x (dC t x k) k) 15 .normal [] (jK t x ((dC t x k)+1+1) (k+1))) (o (dC t x k+1+1) (by show dC t x k+te (g0 t k) x=_;unfold te;rw[dA f,dA d];omega) j)
   .exact aT (s:=jK t x (dC t x k) k) g (wy [ag (ω:(k:N)<(t.length:N)),ag (ω:k<t.length),cT f,yi (ω:i6 ((dC t x k)+1)),yn d,yi (ω:i6 ((k:N)+1))] 1710977599676417:aR (aA []) (fl uF [1,1,0,1,0,0]) (jK t x (dC t x k) k) 11 .normal [] (jK t x ((dC t x k)+1) (k+1))) (o (dC t x k+1) (by show dC t x k+te (g0 t k) x=_;unfold te;rw[dA f,db d];omega) j)
  .by_cases d:(g0 t k).2=x
   .exact aT (s:=jK t x (dC t x k) k) g (wy [ag (ω:(k:N)<(t.length:N)),ag (ω:k<t.length),yn f,cT d,yi (ω:i6 ((dC t x k)+1)),yi (ω:i6 ((k:N)+1))] 1711117119004673:aR (aA []) (fl uF [1,1,0,1,0,0]) (jK t x (dC t x k) k) 13 .normal [] (jK t x ((dC t x k)+1) (k+1))) (o (dC t x k+1) (by show dC t x k+te (g0 t k) x=_;unfold te;rw[db f,dA d];omega) j)
   .exact aT (s:=jK t x (dC t x k) k) g (wy [ag (ω:(k:N)<(t.length:N)),ag (ω:k<t.length),yn f,yn d,yi (ω:i6 ((k:N)+1))] 22267258740737:aR (aA []) (fl uF [1,1,0,1,0,0]) (jK t x (dC t x k) k) 9 .normal [] (jK t x (dC t x k) (k+1))) (o (dC t x k) (by show dC t x k+te (g0 t k) x=_;unfold te;rw[db f,db d];omega) j)
 .refine aT (s:=jK t x (dC t x k) k) g (wy [az (ω:¬(k:N)<(t.length:N))] 1:aR (aA []) (fl uF [1,1,0,1,0,0]) (jK t x (dC t x k) k) 2 (.exit 0) [] (jK t x (dC t x k) k)) ?_;refine bY (cg ?_);obtain rfl:k=t.length:=by omega
  exact bM (s:=jK t x _ t.length) g (akt t x _ _)
def W7:=IN 74 [.list ao cY,.int .i64] [.int .i64] D (λd=>decide (jC (α:=N×N) d.1<=1000000)) λd=>(li d.1 d.2.1,())
def akv:W7.Ok em:=λ⟨t,x,_⟩ h=>aku t x (cC h)
def rC(s:I (N×N))(x:N)(k:E):bD:={n:=24,sl:=[(0,pl s),(1,iv x),(5,iv k)],bF:=[],next:=64}
def j3{l:I (N×N)}{k:E}(h:k<l.length):g0 l k=l[k]:=by simp[ap,h]
def akB(s:I (N×N))(x:N)(p:s.length<=1000000):Holds em D 75 [pl s,iv x] (iv (gC s x)):=by
 have f:=ba;refine bK yo func75 λw F=>?_
 refine cE f 2 (wy [] 0:cL (aA []) (fl yo []) 2 24 [pl s,iv x] 1 .normal [] (rC s x 0)) ?_;refine c_q {k:E//k<=s.length/\gC (s.drop k) x=gC s x} 0 (cat yo [1,0,1,0,0]) ((fl yo []).drop 3) (λk=>rC s x k.1) (λk=>s.length-k.1) ⟨0,gt _,by simp⟩ ?_;rintro⟨k,o,d⟩;have d:gC (s.drop k) x=gC s x:=d;by_cases m:k<s.length
 .rw[kl m,gC,<-j3 m]at d;by_cases g:(g0 s k).1=x
  .rw[dA g]at d;refine bp.iC (s:=rC s x k) known mixed f _ (wy [ag (ω:(k:N)<(s.length:N)),ag (ω:k<s.length),cT g] 2148278273:bw (aA []) (fl yo [1,0,1,0,0]) (rC s x k) 7 f75 D (iv (g0 s k).2)) λT H h=>?_
   have j:ew em D f75 (iv (gC s x)) .ret T H:=by rw[<-d];exact h
   exact j
  .rw[db g]at d;refine aT (s:=rC s x k) f (wy [ag (ω:(k:N)<(s.length:N)),ag (ω:k<s.length),yn g,yi (ω:i6 ((k:N)+1))] 67903489:aR (aA []) (fl yo [1,0,1,0,0]) (rC s x k) 5 .normal [] (rC s x (k+1))) ?_;exact⟨⟨k+1,m,d⟩,by simp;omega,rfl,rfl⟩
 .refine aT (s:=rC s x k) f (wy [az (ω:¬(k:N)<(s.length:N))] 1:aR (aA []) (fl yo [1,0,1,0,0]) (rC s x k) 2 (.exit 0) [] (rC s x k)) ?_;refine bY (cg ?_);obtain rfl:k=s.length:=by omega
  rw[Gv,gC]at d;refine bp.iC (s:=rC s x s.length) known mixed f _ (wy [] 0:bw (aA []) ((fl yo []).drop 3) (rC s x s.length) 1 f75 D (iv 0)) λT H h=>?_
  have j:ew em D f75 (iv (gC s x)) .ret T H:=by rw[<-d];exact h
  exact j
def W8:=IN 75 [.list ao cY,.int .i64] [.int .i64] D (λd=>decide (jC (α:=N×N) d.1<=1000000)) λd=>(gC d.1 d.2.1,())
def akC:W8.Ok em:=λ⟨t,x,_⟩ h=>akB t x (cC h)
def AE:=aA [W7,W8]
def pK(s t:I (N×N))(k:E):bD:={n:=44,sl:=[(0,pl s),(1,pl t),(5,iv k)],bF:=[],next:=64}
def akJ:bI em (bJ AE):=dw (aV akv (aV akC eH))
def W9{s t:I (N×N)}:∀{n k:E},k<n->wO s t k=ao->uG s t n=ao
 |n+1,k,h,d=>by
  unfold uG;by_cases f:k=n
  .subst f;rw[d,Ù]
  .rw[W9 ω d,dF.false_and]
def akK(s t:I (N×N))(j:s.length<=1000000)(m:t.length<=1000000):Holds em D 28 [pl s,pl t] (bv (qC s t)):=by
 have f:=akJ;refine bK wN func28 λw F=>?_
 refine cE f 2 (wy [] 0:cL AE (fl wN []) 2 44 [pl s,pl t] 1 .normal [] (pK s t 0)) ?_;refine c_q {k:E//k<=t.length/\uG s t k=D} 0 (cat wN [1,0,1,0,0]) ((fl wN []).drop 3) (λk=>pK s t k.1) (λk=>t.length-k.1) ⟨0,gt _,rfl⟩ ?_;rintro⟨k,A,g⟩;have g:uG s t k=D:=g;by_cases r:k<t.length
 .have o:wO s t k=ao->∀T H,ew em D f28 (bv ao) .ret T H->ew em D f28 (bv (qC s t)) .ret T H:=λz T H h=>by
   have e:qC s t=ao:=W9 r z;rw[e];exact h
  by_cases d:li t (g0 t k).1>gC s (g0 t k).1
  .exact bp.iC (s:=pK s t k) known mixed f _ (wy [ag (ω:(k:N)<(t.length:N)),ag (ω:k<t.length),aa (aI (v:=iv ((t.getD k ((0:N),(0:N))).1))),ag m,ag j,aa (aL (ay d)),ag d] 10126662200628001060842124259408497954448482305:bw AE (fl wN [1,0,1,0,0]) (pK s t k) 458753 f28 D (bv ao)) λT H h=>o (by unfold wO;rw[ab ω];rfl) T H h
  .by_cases q:li t (g0 t k).2>gC s (g0 t k).2
   .exact bp.iC (s:=pK s t k) known mixed f _ (wy [ag (ω:(k:N)<(t.length:N)),ag (ω:k<t.length),aa (aI (v:=iv ((t.getD k ((0:N),(0:N))).1))),ag m,ag j,aa (aL (ab d)),aa (aI (v:=iv ((t.getD k ((0:N),(0:N))).2))),az d,ag q] 15017671477506723857203845348861495901218558061462325374378319873:bw AE (fl wN [1,0,1,0,0]) (pK s t k) 458751 f28 D (bv ao)) λT H h=>o (by unfold wO;rw[ab (p:=li t (g0 t k).2<=gC s (g0 t k).2) ω,Ù]) T H h
   .refine aT (s:=pK s t k) f (wy [ag (ω:(k:N)<(t.length:N)),ag (ω:k<t.length),aa (aI (v:=iv ((t.getD k ((0:N),(0:N))).1))),ag m,ag j,aa (aL (ab d)),aa (aI (v:=iv ((t.getD k ((0:N),(0:N))).2))),az d,az q,yi (ω:i6 ((k:N)+1))] 1068140588163078590836384122185565819090169512066953437917488095233:aR AE (fl wN [1,0,1,0,0]) (pK s t k) 327679 .normal [] (pK s t (k+1))) ?_;exact⟨⟨k+1,r,by unfold uG wO;rw[g,ay (show li t (g0 t k).1<=gC s (g0 t k).1 by omega),ay (show li t (g0 t k).2<=gC s (g0 t k).2 by omega)];rfl⟩,by simp;omega,rfl,rfl⟩
 .refine aT (s:=pK s t k) f (wy [az (ω:¬(k:N)<(t.length:N))] 1:aR AE (fl wN [1,0,1,0,0]) (pK s t k) 2 (.exit 0) [] (pK s t k)) ?_;refine bY (cg ?_);obtain rfl:k=t.length:=by omega
  refine bp.iC (s:=pK s t t.length) known mixed f _ (wy [] 0:bw AE ((fl wN []).drop 3) (pK s t t.length) 1 f28 D (bv D)) λT H h=>?_
  have u:ew em D f28 (bv (qC s t)) .ret T H:=by unfold qC;rw[g];exact h
  exact u
def Xa:=IN 28 [.list ao cY,.list ao cY] [.bool] D (λd=>decide (jC (α:=N×N) d.1<=1000000)&&bP (jC (α:=N×N) d.2.1<=1000000)) λd=>(qC d.1 d.2.1,())
def akL:Xa.Ok em:=λ⟨s,t,_⟩ h=>by
 have h:(bP (jC (α:=N×N) s<=1000000)&&bP (jC (α:=N×N) t<=1000000))=D:=h;rw[ae,aN,aN]at h;exact akK s t h.1 h.2
def dL:I N->N
 |[]=>0
 |x::l=>if x≠0 then x else dL l
def yp:=NO f10
def rD(l:I N)(k:E):bD:={n:=19,sl:=[(0,lv l),(3,iv k)],bF:=[],next:=64}
def akR(l:I N)(p:l.length<=1000000):Holds em D 10 [lv l] (iv (dL l)):=by
 have f:=ba;refine bK yp func10 λw F=>?_
 refine cE f 2 (wy [] 0:cL (aA []) (fl yp []) 2 19 [lv l] 1 .normal [] (rD l 0)) ?_;refine c_q {k:E//k<=l.length/\dL (l.drop k)=dL l} 0 (cat yp [1,0,1,0,0]) ((fl yp []).drop 3) (λk=>rD l k.1) (λk=>l.length-k.1) ⟨0,gt _,by simp⟩ ?_;rintro⟨k,o,d⟩;have d:dL (l.drop k)=dL l:=d;by_cases m:k<l.length
 .rw[kl m,dL,<-getD_lt m]at d;by_cases g:l.getD k 0=0
  .rw[db (by simpa using g)]at d;refine aT (s:=rD l k) f (wy [ag (ω:(k:N)<(l.length:N)),ag (ω:k<l.length),aa (cS.mpr g),yi (ω:i6 ((k:N)+1))] 67903489:aR (aA []) (fl yp [1,0,1,0,0]) (rD l k) 5 .normal [] (rD l (k+1))) ?_;exact⟨⟨k+1,m,d⟩,by simp;omega,rfl,rfl⟩
  .rw[dA g]at d;refine bp.iC (s:=rD l k) known mixed f _ (wy [ag (ω:(k:N)<(l.length:N)),ag (ω:k<l.length),aa (eX.mpr g)] 2148278273:bw (aA []) (fl yp [1,0,1,0,0]) (rD l k) 7 f10 D (iv (l.getD k 0))) λT H h=>?_
   have j:ew em D f10 (iv (dL l)) .ret T H:=by rw[<-d];exact h
   exact j
 .refine aT (s:=rD l k) f (wy [az (ω:¬(k:N)<(l.length:N))] 1:aR (aA []) (fl yp [1,0,1,0,0]) (rD l k) 2 (.exit 0) [] (rD l k)) ?_;refine bY (cg ?_);obtain rfl:k=l.length:=by omega
  rw[Gv,dL]at d;refine bp.iC (s:=rD l l.length) known mixed f _ (wy [] 0:bw (aA []) ((fl yp []).drop 3) (rD l l.length) 1 f10 D (iv 0)) λT H h=>?_
  have j:ew em D f10 (iv (dL l)) .ret T H:=by rw[<-d];exact h
  exact j
def Pq:=IN 10 [.list ao (.int .i64)] [.int .i64] D (λd=>decide (jC (α:=N) d.1<=1000000)) λd=>(dL d.1,())
def Xb:Pq.Ok em:=λ⟨l,_⟩ h=>akR l (cC h)
def qD:=NO f110
def wP:=pJ [Po] (aA [WW,WZ])
def rE(t:I (N×N))(a b:I N)(k:E):bD:={n:=57,sl:=[(0,pl t),(3,lv a),(4,lv b),(5,Pf 64 []),(6,iv k)],bF:=[(64,Pg [])],next:=65}
def pL(a b left:I N)(k:E):bD:={n:=57,sl:=[(3,lv a),(4,lv b),(5,Pf 64 left),(7,iv k)],bF:=[(64,Pg left)],next:=65}
abbrev Pr:I E:=[1,1,0,1,0,0]
abbrev JM:I E:=[1,1,1,0,1,0,0]
section
variable(t:I (N×N))(a b:I N)(k:E)
def akT(d:(k:N)<(t.length:N))(f:k<t.length)(g:a.length<=1000)(j:b.length<=1000)(m:i6 ((k:N)+1)):
  aR wP (fl qD Pr) (rE t a b k) 3 .normal [(64,64,bs)] (rE t (ig a (g0 t k).1) (ig b (g0 t k).2) (k+1)):=
 wy [ag d,ag f,ag g,ag j,yi m] 22267258740737
def akU(d:¬(k:N)<(t.length:N)):
  aR wP (fl qD Pr) (rE t a b k) 2 (.exit 0) [(64,64,bs)] (rE t a b k):=
 wy [az d] 1
end
def akZ(a b left:I N)(k:E)(d:(dd left.length 0||bx 3 (.int .i64) (a8 3 (.int .i64) left) (left.length-1))=D)(f:(ym ((left.drop 0).take left.length) b)=D):
  bw wP ((fl qD []).drop 6) (pL a b left k) 1 f110 ao (pl (bQ ((left.drop 0).take left.length) b)):=
 wy [aa (show(dd left.length (0:E)||bx 3 (.int .i64) (a8 3 (.int .i64) left) ((0:E)+left.length-(1:E)))=D from(by simp only[bC]<;>exact d)),aa (show(ym (((bu (.int .i64) (a8 3 (.int .i64) left)).drop (0:E)).take left.length) b)=D from(by simp only[a7]<;>exact f)),av (show(bQ (((bu (.int .i64) (a8 3 (.int .i64) left)).drop (0:E)).take left.length) b)=(bQ ((left.drop (0:E)).take left.length) b)from(by simp only[a7]<;>rfl))] 12417
def ak0:bI em (bJ wP):=uE (λc d=>by
 simp only[cQ,iL,Xz]at d;obtain rfl:=d;exact W1) (dw λc d=>by
 simp only[cQ,iL,Xz]at d;rcases d with rfl |rfl
 .exact aki
 .exact akk)
def Xc(l:I N)(x:N):fk (l++[x])=ig (fk l) x:=by unfold fk;rw[I.foldl_append];rfl
def C8(l:I N):(fk l).length=l.length:=by
 have f:∀(l s:I N),(l.foldl ig s).length=s.length+l.length:=by
  have one:∀(s:I N)(x:N),(ig s x).length=s.length+1:=λs x=>by
   induction s with
   |nil=>rfl
   |cons a r d=>unfold ig;split<;>simp[d]
  intro l;induction l with
  |nil=>intro s;simp
  |cons a r d=>intro s;rw[LA,d,one];simp;omega
 unfold fk;rw[f];simp
def tf(t:I (N×N)):I (N×N):=bQ (ic (fk (t.map ql)) (fk (t.map rL))).1 (ic (fk (t.map ql)) (fk (t.map rL))).2
def ak1(t:I (N×N))(M:t.length<=100):Holds em ao 110 [pl t] (pl (tf t)):=by
 have j:=ak0;refine bK qD func110 λw F=>?_
 refine cE j 3 (wy [] 0:cL wP (fl qD []) 3 57 [pl t] 1 .normal [] (rE t C4 C4 0)) ?_;refine c_q {k:E//k<=t.length} 0 (cat qD Pr) ((fl qD []).drop 4) (λk=>rE t (fk ((t.take k.1).map ql)) (fk ((t.take k.1).map rL)) k.1) (λk=>t.length-k.1) ⟨0,gt _⟩ ?_;rintro⟨k,z⟩;have z:k<=t.length:=z;by_cases g:k<t.length
 .have G:fk ((t.take (k+1)).map ql)=ig (fk ((t.take k).map ql)) (g0 t k).1:=by rw[<-Xc,sF g,j3 g,B'];rfl
  have J:fk ((t.take (k+1)).map rL)=ig (fk ((t.take k).map rL)) (g0 t k).2:=by rw[<-Xc,sF g,j3 g,B'];rfl
  refine aT (s:=rE t (fk ((t.take k).map ql)) (fk ((t.take k).map rL)) k) j (akT t _ _ k ω g (by rw[C8];simp;omega) (by rw[C8];simp;omega) ω) ?_;refine⟨⟨k+1,g⟩,by show t.length-(k+1)<t.length-k;omega,?_⟩;show _=(rE t (fk ((t.take (k+1)).map ql)) (fk ((t.take (k+1)).map rL)) (k+1)).T/\_=(rE t (fk ((t.take (k+1)).map ql)) (fk ((t.take (k+1)).map rL)) (k+1)).H;rw[G,J];exact⟨rfl,rfl⟩
 .refine aT (s:=rE t (fk ((t.take k).map ql)) (fk ((t.take k).map rL)) k) j (akU t _ _ k ω) ?_;refine bY (cg ?_);obtain rfl:k=t.length:=by omega
  rw[dx];have S:(fk (t.map ql)).length<=100:=by rw[C8];simp;omega
  have L:(fk (t.map rL)).length<=100:=by rw[C8];simp;omega
  have q:=JB (fk (t.map ql)) (fk (t.map rL));have U:(fk (t.map ql)).length=(fk (t.map rL)).length:=by rw[C8,C8];simp
  have K:tf t=bQ (ic (fk (t.map ql)) (fk (t.map rL))).1 (ic (fk (t.map ql)) (fk (t.map rL))).2:=rfl;rw[K];generalize fk (t.map ql)=a at*;generalize fk (t.map rL)=b0 at*;obtain⟨R,p⟩:∃R,ic a b0=R:=⟨_,rfl⟩;rw[p]at q ⊢;refine dH (s:=rE t a b0 t.length) (s':=pL a b0 [] 0) j 1 (wy [] 0:di wP ((fl qD []).drop 4) 1 (rE t a b0 t.length) 1 .normal [(64,64,bs)] (pL a b0 [] 0)) ?_;refine c_q {s:I N×I N×E//s.2.2<=a.length/\s.2.1.length<=100/\s.1.length<=s.2.2/\s.1++(ic (a.drop s.2.2) s.2.1).1=R.1/\(ic (a.drop s.2.2) s.2.1).2=R.2} 2 (cat qD JM) ((fl qD []).drop 6) (λs=>pL a s.1.2.1 s.1.1 s.1.2.2) (λs=>a.length-s.1.2.2)
   ⟨([],b0,0),gt _,L,aC _,by simp[p],by simp[p]⟩ ?_
  rintro⟨⟨left,b,k⟩,r,o,u,d,f⟩;have r:k<=a.length:=r;have o:b.length<=100:=o;have u:left.length<=k:=u;have d:left++(ic (a.drop k) b).1=R.1:=d;have f:(ic (a.drop k) b).2=R.2:=f;by_cases g:k<a.length
  .rw[Pm g]at d f;unfold ic at d f;by_cases m:a.getD k 0∈b
   .rw[dA m]at d f;have C:wM b (a.getD k 0)=b.erase (a.getD k 0):=dA m;rw[<-C]at d f;refine aT (s:=pL a b left k) j (wy [ag (ω:(k:N)<(a.length:N)),ag g,ag (show b.length<=1000 by omega:b.length<=1000),aa (ay m:(C7 b (a.getD k 0))=D),yi (ω:i6 ((k:N)+1))] 5436612609:aR wP (fl qD JM) (pL a b left k) 7 .normal [(64,64,bs)] (pL a (wM b (a.getD k 0)) left (k+1))) ?_;exact⟨⟨(left,wM b (a.getD k 0),k+1),g,by show(wM _ _).length<=100;rw[C];exact cD (I.length_erase_le ..) o,by show left.length<=k+1;omega,d,f⟩,by show a.length-(k+1)<a.length-k;omega,rfl,rfl⟩
   .rw[db m]at d f;refine aT (s:=pL a b left k) j (wy [ag (ω:(k:N)<(a.length:N)),ag g,ag (show b.length<=1000 by omega:b.length<=1000),aa (ab m:(C7 b (a.getD k 0))=ao),yk 3 (.int .i64) left,l8 8 (ω:left.length+1<=1000000),yi (ω:i6 ((k:N)+1)),av (AA _ _:(left.length+1)=(left++[a.getD k 0]).length),av (JG _ _:(aY.full)=(bO (left++[a.getD k 0]).length)),pH 3 (.int .i64) (Hj (left++[a.getD k (0:N)]))] 3245908493567733446347322857103361:aR wP (fl qD JM) (pL a b left k) 9 .normal [(64,66,bs)] (pL a b (left++[a.getD k 0]) (k+1))) ?_;exact⟨⟨(left++[a.getD k 0],b,k+1),g,o,by show(left++[_]).length<=k+1;simp;omega,by show(left++[_])++_=_;rw[ot];exact d,f⟩,by show a.length-(k+1)<a.length-k;omega,rfl,rfl⟩
  .refine aT (s:=pL a b left k) j (wy [az (ω:¬(k:N)<(a.length:N))] 1:aR wP (fl qD JM) (pL a b left k) 2 (.exit 2) [(64,64,bs)] (pL a b left k)) ?_;refine bY (cg ?_);obtain rfl:k=a.length:=by omega
   rw[Gv]at d f;have d:left++[]=R.1:=d;have f:b=R.2:=f;rw[mS]at d;have A:=akZ a b left a.length;rw[<-Pj]at A;rw[<-d,<-f];rw[<-d,<-f]at q;refine bM (s:=pL a b left a.length) j (A ?_ ?_)
   .rcases Pk 3 (.int .i64) left with h|h
    .rw[h];rfl
    .rw[bC]at h;rw[h,dF.or_true]
   .show(bP (left.length<=b.length)&&bP (left.length<=1000))=D;rw[ay ω,ay ω];rfl
def Xe:=IN 110 [.list ao cY] [.list ao cY] ao (λd=>decide (jC (α:=N×N) d.1<=100)) λd=>(tf d.1,())
def WF:Xe.Ok em:=λ⟨t,_⟩ h=>ak1 t (cC h)
