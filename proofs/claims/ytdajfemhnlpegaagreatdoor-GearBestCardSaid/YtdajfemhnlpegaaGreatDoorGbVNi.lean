import Derived.Test.YtdajfemhnlpegaaGreatDoorGbRnn
import Derived.Shelf.Small.Bits
import Derived.Shelf.Small.Wraps
import Derived.Shelf.Strconv.Atoi
import Derived.Shelf.Strconv.Itoa3
import Derived.Shelf.Strings.Shaped
import Derived.Shelf.Sort.Plain
import Derived.Shelf.Strings.Repeat
import Derived.Shelf.Slices.Turned
import Derived.Shelf.Slices.Clone
import Derived.Shelf.Slices.SearchI
import Derived.Shelf.Slices.Cells
import Derived.Shelf.Slices.In.SortNone
import Derived.RangeFuncNested
import Derived.Maps.OwnIn
import Derived.WalkSmall
open Array renaming toList_append->KI,getElem?_modify->Hh,getElem?_toList->IF,toList_filter->DD,getElem?_eq_none->QN,length_toList->KQ,replicate_succ->UU,replicate_zero->U0,getD_eq_getD_getElem?->mL,toList->uU
open Bool renaming true->D,false->ao,or_eq_true->qh,rec->jh
open ByteArray renaming mk->eQ
open Classical renaming byContradiction->G4
open Eq renaming refl->Hj
open Go renaming IntKind->be,World->du,Calls->DG,Addr->wu,cell_of_row->Ì,Code->mN,Program->fd,Func->Ö,Operand->gn,Oper->ls,Act->Zq,Exit->sC,FuncId->ya,callsIn_of_wp_marks->Ã,resolve->WK,MapEntry->rb,leftOf->Ó,TypeId->ed,Fence->wI,wpListIn->ì,execOp->gy,heap_alloc_new->Sd,undef->lk,CallsIn->GC,callsIn_wide->wQ
open Go.ChangeMaps renaming setBlock->QE
open Go.Code renaming rangeFunc->Oz
open Go.Deferred renaming ofValue->â
open Go.Fence renaming wide->pI
open Go.Instr renaming next->HN,entry->í
open Go.IntKind renaming wrap->ca,i64->iz,u64->dv
open Go.IntWalk renaming i64_in->Y'
open Go.Proofs.Tryz renaming prog->em,underlying3->Ll,isAgg3->è,sizeOf3->Å,zeroValue3->Ps,underlying4->Lp,isAgg4->é,sizeOf4->Æ,zeroValue4->Py,underlying5->Ú,zeroValue5->ê,underlying9->QD,isAgg9->Ă,sizeOf9->ä,zeroValue9->Tf,underlying171->QX,isAgg171->ë,sizeOf171->Ò,zeroValue171->Tg,underlying178->Zr,sizeOf178->ú,zeroValue178->Ç,underlying226->ñ,zeroValue226->ă
open Go.Result renaming andThen->Q7
open Go.RowKit.Below renaming refl->qg,heap_alloc->I',heap_setCell->YW
open Go.Shelf renaming Ren->td
open Go.World renaming cell?->Hf,ownsRow_nil->YX,grownBy_alloc->Kv
open Int renaming gcd->fo,eq_ofNat_of_zero_le->Q2,tmod->gl,tmod_eq_emod_of_nonneg->lU,pow_succ->hP,tdiv->ej,tdiv_eq_ediv_of_nonneg->ku,gcd_pos_of_ne_zero_right->sq,ediv_nonneg->jN,ediv_le_self->vb,le_refl->vc,mul_nonneg->kv,mul_pos->G8,mul_sub->LS,mul_one->Cu,mul_comm->iN,mul_add->oB,mul_assoc->km,pow_add->yL,add_mul_emod_self_left->å,sub_mul->sZ,add_mul->wq,one_mul->mT,ediv_lt_of_lt_mul->Cl,toNat_of_nonneg->ZY,emod_add_mul_ediv->jp,toNat->ea,mul_le_mul->tj,toNat_natCast->kh
open List renaming mem_flatMap->sp,mem_map->rK,mem_range->DJ,nil_append->ts,mem_filter->xF,all_eq_true->ky,count_eq_zero->YS,mem_map_of_mem->sL,mem_singleton->kD,pairwise_cons->lA,foldl_cons->LA,drop_eq_getElem_cons->kl,drop_eq_nil_of_le->pB,take_zero->GD,getElem_mem->ra,toArray->qK,length_nil->IJ,append_nil->mS,length_cons->la,cons_append->Aj,getElem?_take->ly,length->jC,getElem?_eq_none->JU,length_eq_zero_iff->ut,map_cons->Li,filter_cons->Z5,eq_nil_of_length_eq_zero->ix,pairwise_mergeSort->QK,mergeSort_perm->WX,mem_append_right->UR,mem_of_mem_take->wT,replicate->ie,replicate_succ->Lq,take_append_drop->pa,getElem?_set_ne->KL,flatten->F5,flatMap->A'
open List.Pairwise renaming nil->Nj
open List.Perm renaming eq_of_pairwise->Va,refl->DP
open Nat renaming gcd_comm->SI,zero_le->gt,pow_le_pow_right->Q3,mul_one->Au,le_of_eq->uV,lt_of_lt_of_le->iy,ble->dK,beq->dd,succ->nX,beq_refl->zX,eq_zero_or_pos->Hi,le_succ->QZ,min_eq_left->ns
open Ne renaming symm->Ar
open Option renaming some->O,none->bs,rec->oN
open Or renaming inl->Hg,inr->Jn
open PUnit renaming unit->wS
open Prod renaming fst->ql,snd->rL
open UInt8 renaming toNat->lK
open _root_ renaming List->I,Int->N,if_neg->db,Nat->E,Bool->dF,decide->bP,if_pos->dA,Prod->BC,Rat->qA,UInt8->hN,ByteArray->ft,Array->fh,Option->da,cond->oi,False->lm,cond_true->ka,or_false->Xz,decide_eq_false_iff_not->Ô,if_false->á
set_option linter.defProp false
set_option linter.unusedSimpArgs false
set_option linter.unusedVariables false
set_option maxRecDepth 100000
set_option linter.unusedSectionVars false
namespace Go.Proofs.YtdajfemhnlpegaaGreatDoor
--PLAIN
def Xf{l:I N}(h:Av l):fk l=l:=
 aju (WS l [] .nil) h λx=>by unfold fk;rw[WR];simp
def Xg:∀(d v:I N),(∀t∈d,t∉v)->ic d v=(d,v)
 |[],v,_=>rfl
 |a::r,v,h=>by
  unfold ic;rw[db (h a (gb ..)),Xg r v λt c=>h t (gQ _ c)]
def zip_fst{d v:I N}(h:d.length=v.length):(bQ d v).map ql=d:=by
 unfold bQ;exact I.map_fst_zip ω
def AF{d v:I N}(h:d.length=v.length):(bQ d v).map rL=v:=by
 unfold bQ;exact I.map_snd_zip ω
def Xh{d v:I N}(h:d.length=v.length)(j:Av d)(q:Av v):tf (bQ d v)=bQ d v↔ ∀t∈d,t∉v:=by
 have f:tf (bQ d v)=bQ (ic d v).1 (ic d v).2:=by unfold tf;rw[zip_fst h,AF h,Xf j,Xf q]
 rw[f];constructor
 .intro g t m i;have r:=JB d v;have c:=congrArg (λl=>(l.map ql)) g;have c:(bQ (ic d v).1 (ic d v).2).map ql=(bQ d v).map ql:=c;rw[zip_fst h,zip_fst ω]at c;have e:=(Pc d v t).1;rw[c]at e;have u:=I.count_pos_iff.2 m;have z:=I.count_pos_iff.2 i;omega
 .intro g;rw[Xg d v g]
def mV(left:N->N)(K:I N)(pairs:E):I (I (N×N)):=
 (I.range (pairs+1)).flatMap λn=>(dQ left n K []).flatMap λd=>(dQ left n (K.filter λt=> !decide (t∈d)) []).map λv=>bQ d v
def yq(t:I (N×N))(x:N):E:=(t.map ql).count x+(t.map rL).count x
def vi(left:N->N)(t:I (N×N)):dF:=t.all λp=>decide ((yq t p.1:N)<=left p.1)&&bP ((yq t p.2:N)<=left p.2)
def AG(left:N->N)(S:I N)(pairs:E):I (I (N×N)):=
 (I.range (pairs+1)).flatMap λn=>(cw S n).flatMap λd=>((cw S n).filter λv=>decide (tf (bQ d v)=bQ d v)&&vi left (bQ d v)).map λv=>bQ d v
structure Xi(left:N->N)(K:I N)(d v:I N):Prop where
 len:d.length=v.length
 ad:Av d
 Pt:Av v
 md:∀t∈d,t∈K
 mv:∀t∈v,t∈K
 C9:∀t∈d,t∉v
 cd:∀t∈d,((d.count t:E):N)<=left t
 Xj:∀t∈v,((v.count t:E):N)<=left t
section
variable{left:N->N}
def Xk{K:I N}{pairs:E}(e:K.Pairwise (· < ·)){T:I (N×N)}:T∈mV left K pairs↔ ∃d v,T=bQ d v/\d.length<=pairs/\Xi left K d v:=by
 unfold mV;simp only[sp,rK,DJ];constructor
 .rintro⟨n,q,d,m,v,i,rfl⟩;obtain⟨y,rfl,d1,d2,d3,d4⟩:=(i5 n K [] d e).1 m;obtain⟨z,rfl,v1,v2,f,j⟩:=(i5 n _ [] v (e.sublist I.filter_sublist)).1 i;simp only[ts]at d4 j i f ⊢;refine⟨d,v,rfl,by omega,by omega,d2,v2,d3,λt h=>(xF.1 (f t h)).1,λt h g=>?_,d4,j⟩;have:=(xF.1 (f t g)).2;simp[h]at this
 .rintro⟨d,v,rfl,r,c⟩;refine⟨d.length,by omega,d,(i5 _ K [] d e).2 ⟨d,by simp,rfl,c.ad,c.md,by simpa using c.cd⟩,v,?_,rfl⟩;refine(i5 _ _ [] v (e.sublist I.filter_sublist)).2 ⟨v,by simp,c.len.symm,c.Pt,λt h=>xF.2 ⟨c.mv t h,?_⟩,by simpa using c.Xj⟩;have:t∉d:=λg=>c.C9 t g h
  simp[this]
def Xl{d v:I N}(h:d.length=v.length)(i:∀t∈d,t∉v):vi left (bQ d v)=D↔(∀t∈d,((d.count t:E):N)<=left t)/\∀t∈v,((v.count t:E):N)<=left t:=by
 unfold vi;rw[ky];have f:∀x,yq (bQ d v) x=d.count x+v.count x:=λx=>by unfold yq;rw[zip_fst h,AF h]
 have j:∀t∈d,v.count t=0:=λt c=>YS.2 (i t c)
 have r:∀t∈v,d.count t=0:=λt c=>YS.2 λg=>i t g c
 constructor
 .intro g;refine⟨λt c=>?_,λt c=>?_⟩
  .have:t∈(bQ d v).map ql:=by rw[zip_fst h];exact c
   obtain⟨p,e,rfl⟩:=rK.1 this;have:=g p e;rw[ae,aN,f,j _ c]at this;simpa using this.1
  .have:t∈(bQ d v).map rL:=by rw[AF h];exact c
   obtain⟨p,e,rfl⟩:=rK.1 this;have:=(g p e);rw[ae,aN,aN,f,f,r _ c]at this;simpa using this.2
 .rintro⟨u,z⟩ p e;have m:p.1∈d:=by rw[<-zip_fst h];exact sL e
  have q:p.2∈v:=by rw[<-AF h];exact sL e
  rw[ae,aN,aN,f,f,j _ m,r _ q];have:=u _ m;have:=z _ q;omega
def ak2{S:I N}{pairs:E}{T:I (N×N)}:T∈AG left S pairs↔ ∃d v,T=bQ d v/\d.length<=pairs/\Xi left S d v:=by
 unfold AG;simp only[sp,rK,DJ,xF,JD];constructor
 .rintro⟨n,i,d,⟨d1,d2,d3⟩,v,⟨⟨v1,v2,f⟩,e⟩,rfl⟩;rw[ae,aN,Xh ω d2 v2]at e;have hb:=(Xl (left:=left) (show d.length=v.length by omega) e.1).1 e.2;exact⟨d,v,rfl,by omega,by omega,d2,v2,d3,f,e.1,hb.1,hb.2⟩
 .rintro⟨d,v,rfl,j,c⟩;refine⟨d.length,by omega,d,⟨rfl,c.ad,c.md⟩,v,⟨⟨c.len.symm,c.Pt,c.mv⟩,?_⟩,rfl⟩;rw[ae,aN,Xh c.len c.ad c.Pt];exact⟨c.C9,(Xl c.len c.C9).2 ⟨c.cd,c.Xj⟩⟩
def ak3{K:I N}{pairs:E}(c:K.Pairwise (· < ·))(T:I (N×N)):T∈mV left K pairs↔T∈AG left K pairs:=by
 rw[Xk c,ak2]
end
def eC{α:Type}(c:α->α->dF):α->I α->α
 |b,[]=>b
 |b,x::r=>eC c (if c x b then x else b) r
def m9{α:Type}(c:α->α->dF):∀(l:I α)(b:α),eC c b l∈b::l
 |[],b=>by unfold eC;simp
 |x::r,b=>by
  unfold eC;have:=m9 c r (if c x b then x else b);rcases cQ.1 this with h|h
  .rw[h];split<;>simp
  .exact gQ _ (gQ _ h)
structure Pu{α:Type}(S:α->Prop)(lt:α->α->dF):Prop where
 Pv:∀a,lt a a=ao
 rF:∀a b c,lt a b=D->lt b c=D->lt a c=D
 tot:∀a b,S a->S b->a≠b->lt a b=D\/lt b a=D
def Xm{α:Type}{S:α->Prop}{c:α->α->dF}(i:Pu S c):∀(l:I α)(b:α),S b->(∀x∈l,S x)->∀y∈b::l,c y (eC c b l)=ao
 |[],b,_,_,y,m=>by
  unfold eC;rw[kD.1 m];exact i.Pv b
 |x::r,b,hb,u,y,m=>by
  unfold eC;have G:=u x (gb ..);have C:∀z∈r,S z:=λz J=>u z (gQ _ J)
  have e:=Xm i r (if c x b then x else b) (by split<;>assumption) C;rcases cQ.1 m with rfl |h
  .by_cases f:c x y=D
   .rw[dA f]at e ⊢;have k:=e x (gb ..);cases j:c y (eC c x r)with
    |false=>rfl
    |true=>rw[i.rF _ _ _ f j]at k;cases k
   .rw[db f]at e ⊢;exact e y (gb ..)
  .rcases cQ.1 h with rfl |A
   .by_cases f:c y b=D
    .rw[dA f]at e ⊢;exact e y (gb ..)
    .rw[db f]at e ⊢;have k:=e b (gb ..);cases j:c y (eC c b r)with
     |false=>rfl
     |true=>
      by_cases q:y=b
      .rw[q]at j;rw[j]at k;cases k
      .rcases i.tot y b G hb q with g|g
       .exact absurd g f
       .rw[i.rF _ _ _ g j]at k;cases k
   .exact e y (gQ _ A)
def ak4{α:Type}{S:α->Prop}{c:α->α->dF}(i:Pu S c){a b:α}(m:S a)(hb:S b)(e:c a b=ao)(f:c b a=ao):a=b:=by
 refine G4 λj=>?_
 rcases i.tot a b m hb j with g|g
 .rw[g]at e;cases e
 .rw[g]at f;cases f
--END
--PLAIN
def cx:I (N×N)->N
 |[]=>0
 |p::r=>p.1+p.2+cx r
def iG:I (N×N)->I (N×N)->dF
 |p::r,q::s=>if p.1≠q.1 then bP (p.1<q.1)else if p.2≠q.2 then bP (p.2<q.2)else iG r s
 |_,_=>ao
def eU(a b:I (N×N)):dF:=if a.length≠b.length then bP (a.length<b.length)else if cx a≠cx b then bP (cx a<cx b)else iG a b
def Xn:∀a,iG a a=ao
 |[]=>rfl
 |p::r=>by unfold iG;simp[Xn r]
def NE:∀a b f,iG a b=D->iG b f=D->iG a f=D
 |p::r,q::s,u::t,h,g=>by
  unfold iG at h g ⊢;by_cases e:p.1=q.1
  .by_cases c:q.1=u.1
   .rw[db (by simpa using e)]at h;rw[db (by simpa using c)]at g;rw[db (by rw[e,c];simp)];by_cases f1:p.2=q.2
    .by_cases f2:q.2=u.2
     .rw[db (by simpa using f1)]at h;rw[db (by simpa using f2)]at g;rw[db (by rw[f1,f2];simp)];exact NE r s t h g
     .rw[dA f2,aN]at g;rw[dA (by rw[f1];exact f2),aN];omega
    .rw[dA f1,aN]at h;by_cases f2:q.2=u.2
     .rw[dA (by rw[<-f2];exact f1),aN];omega
     .rw[dA f2,aN]at g;rw[dA ω,aN];omega
   .rw[dA c,aN]at g;rw[dA (by rw[e];exact c),aN];omega
  .rw[dA e,aN]at h;by_cases c:q.1=u.1
   .rw[dA (by rw[<-c];exact e),aN];omega
   .rw[dA c,aN]at g;rw[dA ω,aN];omega
 |[],_,_,h,_=>by unfold iG at h;cases h
 |_::_,[],_,h,_=>by unfold iG at h;cases h
 |_::_,_::_,[],_,g=>by unfold iG at g;cases g
def Xo:∀a b:I (N×N),a.length=b.length->a≠b->iG a b=D\/iG b a=D
 |[],[],_,h=>absurd rfl h
 |p::r,q::s,f,h=>by
  unfold iG;by_cases c:p.1=q.1
  .rw[db (show¬p.1≠q.1 by simpa using c),db (show¬q.1≠p.1 by simpa using c.symm)];by_cases e:p.2=q.2
   .rw[db (show¬p.2≠q.2 by simpa using e),db (show¬q.2≠p.2 by simpa using e.symm)];exact Xo r s (by simpa using f) λi=>h (by rw[i,BC.ext c e])
   .rw[dA e,dA λg=>e g.symm,aN,aN];omega
  .rw[dA c,dA λg=>c g.symm,aN,aN];omega
 |[],_::_,f,_=>by cases f
 |_::_,[],f,_=>by cases f
def Xp(a):eU a a=ao:=by unfold eU;simp[Xn]
def Pw(a b e)(h:eU a b=D)(g:eU b e=D):eU a e=D:=by
 unfold eU at h g ⊢;by_cases f:a.length=b.length
 .by_cases c:b.length=e.length
  .rw[db (by simpa using f)]at h;rw[db (by simpa using c)]at g;rw[db (by rw[f,c];simp)];by_cases t1:cx a=cx b
   .by_cases t2:cx b=cx e
    .rw[db (by simpa using t1)]at h;rw[db (by simpa using t2)]at g;rw[db (by rw[t1,t2];simp)];exact NE _ _ _ h g
    .rw[dA t2,aN]at g;rw[dA (by rw[t1];exact t2),aN];omega
   .rw[dA t1,aN]at h;by_cases t2:cx b=cx e
    .rw[dA (by rw[<-t2];exact t1),aN];omega
    .rw[dA t2,aN]at g;rw[dA ω,aN];omega
  .rw[dA c,aN]at g;rw[dA (by rw[f];exact c),aN];omega
 .rw[dA f,aN]at h;by_cases c:b.length=e.length
  .rw[dA (by rw[<-c];exact f),aN];omega
  .rw[dA c,aN]at g;rw[dA ω,aN];omega
def Xq(a b)(h:a≠b):eU a b=D\/eU b a=D:=by
 unfold eU;by_cases c:a.length=b.length
 .rw[db (show¬a.length≠b.length by simpa using c),db (show¬b.length≠a.length by simpa using c.symm)];by_cases t1:cx a=cx b
  .rw[db (show¬cx a≠cx b by simpa using t1),db (show¬cx b≠cx a by simpa using t1.symm)];exact Xo a b c h
  .rw[dA t1,dA λg=>t1 g.symm,aN,aN];omega
 .rw[dA c,dA λg=>c g.symm,aN,aN];omega
def i7(o:I (N×N)->qA)(a b:I (N×N)):dF:=bP (o a<o b)||(bP (o a=o b)&&eU a b)
def FY(o:I (N×N)->qA):Pu (λ_=>True) (i7 o) where
 Pv a:=by
  unfold i7;rw[Xp,ab (qA.lt_irrefl)];simp
 rF a b c h g:=by
  unfold i7 at h g ⊢;rw[qh,ae,aN,aN]at h g ⊢;rcases h with h|⟨j,m⟩<;>rcases g with g|⟨f,i⟩
  .exact Hg (by grind)
  .exact Hg (by grind)
  .exact Hg (by grind)
  .exact Jn ⟨j.trans f,Pw _ _ _ m i⟩
 tot a b _ _ h:=by
  unfold i7;rw[qh,ae,aN,aN,qh,ae,aN,aN];by_cases e:o a=o b
  .rcases Xq a b h with g|g
   .exact Hg (Jn ⟨e,g⟩)
   .exact Jn (Jn ⟨e.symm,g⟩)
  .by_cases c:o a<o b
   .exact Hg (Hg c)
   .exact Jn (Hg (by grind))
def iH(x:I (N×N)):I (I (N×N))->I (I (N×N))
 |[]=>[x]
 |y::r=>if eU x y=D then y::iH x r else x::y::r
def vj(x:I (N×N)):∀(l:I (I (N×N)))(z),z∈iH x l↔z=x\/z∈l
 |[],z=>by unfold iH;simp
 |y::r,z=>by
  unfold iH;split
  .rw[cQ,vj x r,cQ];constructor
   .rintro(h|h|h)
    .exact Jn (Hg h)
    .exact Hg h
    .exact Jn (Jn h)
   .rintro(h|h|h)
    .exact Jn (Hg h)
    .exact Hg h
    .exact Jn (Jn h)
  .rw[cQ]
def FZ(l:I (I (N×N))):Prop:=l.Pairwise λa b=>eU a b=ao
def Xr(x:I (N×N)):∀{l:I (I (N×N))},FZ l->FZ (iH x l)
 |[],_=>by unfold iH;exact I.pairwise_singleton ..
 |y::r,h=>by
  obtain⟨i,q⟩:=lA.1 h;unfold iH;by_cases e:eU x y=D
  .rw[dA e];refine lA.2 ⟨λz c=>?_,Xr x q⟩;rcases (vj x r z).1 c with rfl |c
   .cases g:eU y z with
    |false=>rfl
    |true=>have:=Pw _ _ _ g e;rw[Xp]at this;cases this
   .exact i z c
  .rw[db e];have j:eU x y=ao:=by simpa using e
   refine lA.2 ⟨λz c=>?_,h⟩;rcases cQ.1 c with rfl |c
   .exact j
   .cases g:eU x z with
    |false=>rfl
    |true=>
     have k:=i z c;by_cases f:x=y
     .rw[f,k]at g;cases g
     .rcases Xq x y f with m|m
      .exact absurd m e
      .rw[Pw _ _ _ m g]at k;cases k
def rG(l:I (I (N×N))):I (I (N×N)):=l.foldl (λs x=>iH x s) []
def Xt:∀(l s:I (I (N×N))),FZ s->FZ (l.foldl (λs x=>iH x s) s)/\∀z,z∈l.foldl (λs x=>iH x s) s↔z∈l\/z∈s
 |[],s,h=>⟨h,λz=>by simp⟩
 |x::r,s,h=>by
  obtain⟨c,e⟩:=Xt r (iH x s) (Xr x h);refine⟨c,λz=>?_⟩;rw[LA,e,vj,cQ];constructor
  .rintro(h|h|h)
   .exact Hg (Jn h)
   .exact Hg (Hg h)
   .exact Jn h
  .rintro((h|h)|h)
   .exact Jn (Hg h)
   .exact Hg h
   .exact Jn (Jn h)
def ak5(l:I (I (N×N))):FZ (rG l)/\∀z,z∈rG l↔z∈l:=by
 obtain⟨c,e⟩:=Xt l [] Nj;exact⟨c,λz=>(e z).trans ⟨λh=>h.elim id λh=>(iL h).elim,Hg⟩⟩
def Px(o:I (N×N)->qA):∀(l:I (I (N×N)))(b:I (N×N)),(∀x∈l,eU x b=ao)->l.Pairwise (λa b=>eU b a=ao)->
  ∀y∈b::l,i7 o y (eC (λx y=>decide (o x<o y)) b l)=ao
 |[],b,_,_,y,i=>by
  unfold eC;rw[kD.1 i];exact(FY o).Pv b
 |x::r,b,hb,A,y,i=>by
  obtain⟨J,m⟩:=lA.1 A;have q:=hb x (gb ..);have C:∀z∈r,eU z b=ao:=λz G=>hb z (gQ _ G)
  unfold eC;by_cases f:o x<o b
  .rw[dA (ay f)];have c:=Px o r x J m;rcases cQ.1 i with rfl |h
   .have k:=c x (gb ..);cases e:i7 o y (eC (λx y=>decide (o x<o y)) x r)with
    |false=>rfl
    |true=>
     have:i7 o x y=D:=by unfold i7;rw[ay f];rfl
     rw[(FY o).rF _ _ _ this e]at k;cases k
   .exact c y h
  .rw[db (by simpa using f)];have c:=Px o r b C m;rcases cQ.1 i with rfl |h
   .exact c y (gb ..)
   .rcases cQ.1 h with rfl |u
    .have k:=c b (gb ..);cases e:i7 o y (eC (λx y=>decide (o x<o y)) b r)with
     |false=>rfl
     |true=>
      by_cases j:y=b
      .rw[j]at e;rw[e]at k;cases k
      .rcases (FY o).tot y b trivial trivial j with g|g
       .unfold i7 at g;rw[ab f,q]at g;simp at g
       .rw[(FY o).rF _ _ _ g e]at k;cases k
    .exact c y (gQ _ u)
def ak6(o:I (N×N)->qA){P R:I (I (N×N))}(u:∀T,T∈P↔T∈R){p:I (N×N)}{e:I (I (N×N))}(A:P=p::e){q:I (N×N)}{c:I (I (N×N))}(m:(rG R).reverse=q::c):
  eC (i7 o) p e=eC (λx y=>decide (o x<o y)) q c:=by
 have i:=FY o;have j:=Xm i e p trivial λ_ _=>trivial
 have r:=m9 (i7 o) e p;rw[<-A]at j r;obtain⟨G,s2⟩:=ak5 R;have s3:(q::c).Pairwise λa b=>eU b a=ao:=by rw[<-m];exact I.pairwise_reverse.2 G
 obtain⟨t1,t2⟩:=lA.1 s3;have z:=Px o c q t1 t2;have C:=m9 (λx y=>decide (o x<o y)) c q;have f:∀T,T∈q::c↔T∈P:=λT=>by rw[<-m,I.mem_reverse,s2,u]
 exact ak4 i trivial trivial (z _ ((f _).2 r)) (j _ ((f _).1 C))
--END
section
open Go.RowKit Sv Go.Proofs.Tryz
noncomputable section
def AI:=NO f203
def uH(a b:N):bD:={n:=12,sl:=[(0,iv a),(1,iv b)],bF:=[],next:=64}
def alb{x y:N}(c:0<=x)(e:0<=y):fo y (x%y)=fo x y:=by
 obtain⟨m,rfl⟩:=Q2 c;obtain⟨n,rfl⟩:=Q2 e;rw[<-N.natCast_emod];show E.gcd n (m%n)=E.gcd m n;rw[SI n,<-E.gcd_rec,SI]
def alc(a b:N)(r:0<=a)(hb:0<=b):Holds em D 203 [iv a,iv b] (iv (fo a b)):=by
 have c:=ba;obtain⟨g,q⟩:∃g:N,(fo a b:N)=g:=⟨_,rfl⟩;rw[q];refine bK AI func203 λw F=>?_
 refine cE c 1 (wy [] 0:cL (aA []) (fl AI []) 1 12 [iv a,iv b] 1 .normal [] (uH a b)) ?_;refine c_q {p:N×N//0<=p.1/\0<=p.2/\(fo p.1 p.2:N)=g} 0 (cat AI [1,0,0,0]) ((fl AI []).drop 2) (λp=>uH p.1.1 p.1.2) (λp=>p.1.2.toNat) ⟨(a,b),r,hb,q⟩ ?_;rintro⟨⟨x,y⟩,e,i,f⟩;have e:0<=x:=e;have i:0<=y:=i;have f:(fo x y:N)=g:=f;by_cases m:y>0
 .have u:=fZ x m;have z:=fC x (show y≠0 by omega);have j:gl x y=x%y:=lU e;refine aT (s:=uH x y) c (wy [ag m,ag (ω:y≠0)] 129:aR (aA []) (fl AI [1,0,0,0]) (uH x y) 3 .normal [] (uH y (gl x y))) ?_;refine⟨⟨(y,gl x y),i,by show 0<=gl x y;omega,?_⟩,?_,rfl,rfl⟩
  .show(fo y (gl x y):N)=g;rw[j,<-f,alb e i]
  .show(gl x y).toNat<y.toNat;omega
 .obtain rfl:y=0:=by omega
  refine aT (s:=uH x 0) c (wy [az m] 1:aR (aA []) (fl AI [1,0,0,0]) (uH x 0) 2 (.exit 0) [] (uH x 0)) ?_;refine bY (cg ?_);have j:x=g:=by rw[<-f,N.gcd_zero_right];omega
  exact bp.iC (s:=uH x 0) known mixed c _ (wy [] 0:bw (aA []) ((fl AI []).drop 2) (uH x 0) 1 f203 D (iv x)) λT H h=>j ▸ h
def Pz:=IN 203 [.int .i64,.int .i64] [.int .i64] D (λd=>decide (0<=d.1)&&bP (0<=d.2.1)) λd=>((fo d.1 d.2.1:N),())
def Xu:Pz.Ok em:=λ⟨a,b,_⟩ h=>by
 have h:(bP (0<=a)&&bP (0<=b))=D:=h;rw[ae,aN,aN]at h;exact alc a b h.1 h.2
def yt:=NO f62
def AJ:=NO f169
def tg(s:AT)(k:E):bD:={n:=17,sl:=[(0,sv s),(3,iv k)],bF:=[],next:=64}
def uI(s:AT)(n:N)(k:E):bD:={n:=20,sl:=[(0,sv s),(3,iv n),(4,iv k)],bF:=[],next:=64}
abbrev ak(s:AT):I hN:=s.data.toList
abbrev cr(s:AT)(k:E):hN:=(ak s).getD k 0
def alj(s:AT)(n:N)(k:E)(c:(k:N)<(s.size:N))(e:i6 (10*n))(h3:k<s.size)(h4:i6 (10*n+ca iz (↑(lK (s.data.toList.getD k (0:hN))):N)))(h5:i6 (10*n+ca iz (↑(lK (s.data.toList.getD k (0:hN))):N)-48))(h6:i6 ((k:N)+1)):
  aR (aA []) (fl AJ [1,1,0,1,0,0]) (uI s n k) 3 .normal [] (uI s (10*n+be.i64.wrap (cr s k).toNat-48) (k+1)):=
 wy [ag c,yi e,ag h3,yi h4,yi h5,yi h6] 417753464961
def alm(s:AT)(n:N)(k:E):
  bw (aA []) ((fl AJ []).drop 4) (uI s n k) 1 f169 D (iv n):=
 wy [] 0
def bE:I hN->E
 |[]=>0
 |b::r=>if b.toNat=47 then 0 else bE r+1
def eD(s:AT):s.size=(ak s).length:=by cases s;rfl
section
variable{l:I hN}{k:E}(h:k<l.length)
def Xv:l.getD k 0=l[k]:=by simp[ap,h]
def JO:l.take (k+1)=l.take k++[l.getD k 0]:=by rw[Xv h];simp
end
def AK{s:AT}{k:E}(h:k<(ak s).length):cr s k=(ak s)[k]:=Xv h
def aln(s:AT)(u:s.size<=1000000000):Holds em D 62 [sv s] (iv (bE (ak s))):=by
 have e:=ba;have z:=eD s;obtain⟨r,j⟩:∃r,bE (ak s)=r:=⟨_,rfl⟩;rw[j];refine bK yt func62 λw F=>?_
 refine cE e 2 (wy [] 0:cL (aA []) (fl yt []) 2 17 [sv s] 1 .normal [] (tg s 0)) ?_;refine c_q {k:E//k<=s.size/\bE ((ak s).drop k)+k=r} 0 (cat yt [1,0,1,0,0]) ((fl yt []).drop 3) (λk=>tg s k.1) (λk=>s.size-k.1) ⟨0,gt _,j⟩ ?_;rintro⟨k,q,c⟩;have c:bE ((ak s).drop k)+k=r:=c;by_cases m:k<s.size
 .have i:k<(ak s).length:=by omega
  rw[kl i,bE,<-AK i]at c;by_cases f:(cr s k).toNat=47
  .rw[dA f,bC]at c;exact bp.iC (s:=tg s k) known mixed e _ (wy [ag (ω:(k:N)<(s.size:N)),ag (ω:k<s.size),cT (show(↑(lK (s.data.toList.getD k (0:hN))):N)=47 from by show((cr s k).toNat:N)=47;omega)] 794625:bw (aA []) (fl yt [1,0,1,0,0]) (tg s k) 7 f62 D (iv k)) λT H h=>c ▸ h
  .rw[db f]at c;refine aT (s:=tg s k) e (wy [ag (ω:(k:N)<(s.size:N)),ag (ω:k<s.size),yn (show ¬(↑(lK (s.data.toList.getD k (0:hN))):N)=47 from by show¬((cr s k).toNat:N)=47;omega),yi (ω:i6 ((k:N)+1))] 67903489:aR (aA []) (fl yt [1,0,1,0,0]) (tg s k) 5 .normal [] (tg s (k+1))) ?_;exact⟨⟨k+1,m,by omega⟩,by simp;omega,rfl,rfl⟩
 .refine aT (s:=tg s k) e (wy [az (ω:¬(k:N)<(s.size:N))] 1:aR (aA []) (fl yt [1,0,1,0,0]) (tg s k) 2 (.exit 0) [] (tg s k)) ?_;refine bY (cg ?_);obtain rfl:k=s.size:=by omega
  rw[pB ω,bE,bC]at c;exact bp.iC (s:=tg s s.size) known mixed e _ (wy [] 0:bw (aA []) ((fl yt []).drop 3) (tg s s.size) 1 f62 D (iv s.size)) λT H h=>c ▸ h
def bA:I hN->N
 |l=>l.foldl (λn b=>10*n+((b.toNat:N)-48)) 0
def cj(l:I hN):dF:=l.all λb=>decide (48<=b.toNat)&&bP (b.toNat<=57)
def PA{s:AT}{k:E}(h:k<(ak s).length):bA ((ak s).take (k+1))=10*bA ((ak s).take k)+(((cr s k).toNat:N)-48):=by
 rw[JO h];unfold bA;rw[I.foldl_append];rfl
def Da{s:AT}(c:cj (ak s)=D):∀k,k<=(ak s).length->0<=bA ((ak s).take k)/\bA ((ak s).take k)<10^k
 |0,_=>by rw[GD];decide
 |k+1,h=>by
  have ih:=Da c k ω;have hb:=ky.1 c (cr s k) (by rw[AK ω];exact ra _);rw[ae,aN,aN]at hb;rw[PA ω,hP];omega
def Xw{k:E}(h:k<=18):(10:N)^k<=1000000000000000000:=by
 have:(10:E)^k<=10^18:=Q3 δ h;have c:((10^k:E):N)<=((10^18:E):N):=N.ofNat_le.2 this;simpa using c
def alo(s:AT)(A:s.size<=17)(e:cj (ak s)=D):Holds em D 169 [sv s] (iv (bA (ak s))):=by
 have c:=ba;have J:=eD s;refine bK AJ func169 λw F=>?_
 refine cE c 3 (wy [] 0:cL (aA []) (fl AJ []) 3 20 [sv s] 1 .normal [] (uI s 0 0)) ?_;refine c_q {k:E//k<=s.size} 0 (cat AJ [1,1,0,1,0,0]) ((fl AJ []).drop 4) (λk=>uI s (bA ((ak s).take k.1)) k.1) (λk=>s.size-k.1) ⟨0,gt _⟩ ?_;rintro⟨k,z⟩;have u:=Da e k ω;have C:=Xw (k:=k) ω;by_cases m:k<s.size
 .have i:k<(ak s).length:=by omega
  have hb:=ky.1 e (cr s k) (by rw[AK i];exact ra _);rw[ae,aN,aN]at hb;have r:=Da e (k+1) ω;have G:=Xw (k:=k+1) ω;have q:=PA i;have f:be.i64.wrap ((cr s k).toNat:N)=((cr s k).toNat:N):=Y' _ ω;have j:10*bA ((ak s).take k)+be.i64.wrap ((cr s k).toNat:N)-48=bA ((ak s).take (k+1)):=by rw[f,q];omega
  refine aT (s:=uI s (bA ((ak s).take k)) k) c (alj s _ k ω ω ω (by show-9223372036854775808<=10*bA ((ak s).take k)+be.i64.wrap ((cr s k).toNat:N)/\10*bA ((ak s).take k)+be.i64.wrap ((cr s k).toNat:N)<=9223372036854775807;rw[f];omega) (by show-9223372036854775808<=10*bA ((ak s).take k)+be.i64.wrap ((cr s k).toNat:N)-48/\10*bA ((ak s).take k)+be.i64.wrap ((cr s k).toNat:N)-48<=9223372036854775807;rw[f];omega) ω) ?_;rw[j];exact⟨⟨k+1,m⟩,by simp;omega,rfl,rfl⟩
 .refine aT (s:=uI s (bA ((ak s).take k)) k) c (wy [az (ω:¬(k:N)<(s.size:N))] 1:aR (aA []) (fl AJ [1,1,0,1,0,0]) (uI s (bA ((ak s).take k)) k) 2 (.exit 0) [] (uI s (bA ((ak s).take k)) k)) ?_;refine bY (cg ?_);obtain rfl:k=s.size:=by omega
  rw[eG ω];exact bM (s:=uI s _ s.size) c (alm s _ _)
def F0:=IN 62 [.str] [.int .i64] D (λd=>decide (d.1.size<=1000000000)) λd=>(((bE (ak d.1):E):N),())
def PB:=IN 169 [.str] [.int .i64] D (λd=>decide (d.1.size<=17)&&cj (ak d.1)) λd=>(bA (ak d.1),())
def PC:F0.Ok em:=λ⟨s,_⟩ h=>aln s (cC h)
def Xx:PB.Ok em:=λ⟨s,_⟩ h=>by
 have h:(bP (s.size<=17)&&cj (ak s))=D:=h;rw[ae,aN]at h;exact alo s h.1 h.2
def yu:=NO f204
def ma(n m:N)(s:AT):bD:={n:=25,sl:=[(0,iv n),(1,iv m),(5,sv s)],bF:=[],next:=64}
abbrev Xy:AT:=⟨#[]⟩
abbrev uJ:AT:=⟨#[48,49,50,51,52,53,54,55,56,57]⟩
def uK(n:N):hN:=hN.ofNat (48+(n%10).toNat)
def cN:E->N->N->I hN->I hN
 |0,_,_,s=>s
 |f+1,n,m,s=>if n>0\/(s.length:N)<m then cN f (n/10) m (uK n::s)else s
def nW(a b:AT):(a++b).data.toList=a.data.toList++b.data.toList:=by
 rw[ft.data_append,KI]
def alu{n:N}(h:0<=n)(s:AT):(uJ.extract (gl n 10).toNat (gl n 10+1).toNat++s).data.toList=uK n::s.data.toList:=by
 rw[nW,lU h];have c:=fZ n (show(0:N)<10 by decide);have e:=fC n (show(10:N)≠0 by decide);unfold uK;generalize n%10=r at*;have:r=0\/r=1\/r=2\/r=3\/r=4\/r=5\/r=6\/r=7\/r=8\/r=9:=by omega
 rcases this with rfl |rfl |rfl |rfl |rfl |rfl |rfl |rfl |rfl |rfl<;>rfl
def alv{n:N}(h:0<=n):(uJ.extract (gl n 10).toNat (gl n 10+1).toNat).size<=1:=by
 rw[lU h];have c:=fZ n (show(0:N)<10 by decide);have e:=fC n (show(10:N)≠0 by decide);generalize n%10=r at*;have:r=0\/r=1\/r=2\/r=3\/r=4\/r=5\/r=6\/r=7\/r=8\/r=9:=by omega
 rcases this with rfl |rfl |rfl |rfl |rfl |rfl |rfl |rfl |rfl |rfl<;>decide
def wR(s:AT):s.size=s.data.toList.length:=by cases s;rfl
def kE{a b:AT}(h:a.data.toList=b.data.toList):a=b:=by
 cases a;cases b;simp at h;rw[h]
structure PD(r:I hN)(m:N)(f:E)(n:N)(s:AT):Prop where
 n0:0<=n
 nb:n<=9223372036854775807
 n1:n<10^f
 ms:m<=s.size+f
 sz:s.size+f<=40
 eq:cN f n m s.data.toList=r
def alw(n m:N)(M:0<=n)(S:n<=9223372036854775807)(c:m<=20):Holds em D 204 [iv n,iv m] (sv ⟨(cN 20 n m []).toArray⟩):=by
 have j:=ba;obtain⟨r,K⟩:∃r,cN 20 n m []=r:=⟨_,rfl⟩;rw[K];refine bK yu func204 λw F=>?_
 refine cE j 2 (wy [] 0:cL (aA []) (fl yu []) 2 25 [iv n,iv m] 1 .normal [] (ma n m Xy)) ?_;refine c_q {p:E×N×AT//PD r m p.1 p.2.1 p.2.2} 0 (cat yu [1,1,0,0,0]) ((fl yu []).drop 3) (λp=>ma p.1.2.1 m p.1.2.2) (λp=>p.1.1) ⟨(20,n,Xy),⟨M,S,by show n<10^20;omega,by show m<=0+20;omega,by show 0+20<=40;omega,K⟩⟩ ?_;rintro⟨⟨f,n,s⟩,c⟩;have c:PD r m f n s:=c;have A:=wR s;have e:=fZ n (show(0:N)<10 by decide);have V:=fC n (show(10:N)≠0 by decide);have X:gl n 10=n%10:=lU c.n0;have u:ej n 10=n/10:=ku c.n0;have e:=alv c.n0;have e:=c.n0;have e:=c.nb;have U:=c.ms;have e:=c.sz;have G:(n>0\/(s.size:N)<m)->∃q:{p:E×N×AT//PD r m p.1 p.2.1 p.2.2},q.1.1<f/\(ma (ej n 10) m (uJ.extract (gl n 10).toNat (gl n 10+1).toNat++s)).T=(ma q.1.2.1 m q.1.2.2).T/\(ma (ej n 10) m (uJ.extract (gl n 10).toNat (gl n 10+1).toNat++s)).H=(ma q.1.2.1 m q.1.2.2).H:=λJ=>by
  cases f with
  |zero=>
   have:=c.n1;simp at this;exfalso;omega
  |succ f=>
   have hb:=alu c.n0 s;have C:(uJ.extract (gl n 10).toNat (gl n 10+1).toNat++s).size=s.size+1:=by rw[wR,hb,A];rfl
   refine⟨⟨(f,ej n 10,_),⟨by show 0<=ej n 10;rw[u];omega,by show ej n 10<=_;rw[u];omega,?_,by show m<=((_:E):N)+((f:E):N);rw[C];omega,by show _+f<=40;rw[C];omega,?_⟩⟩,gR _,rfl,rfl⟩
   .show ej n 10<10^f;have:=c.n1;rw[hP]at this;rw[u];omega
   .show cN f (ej n 10) m (uJ.extract (gl n 10).toNat (gl n 10+1).toNat++s).data.toList=r;have e:=c.eq;unfold cN at e;rw[hb,u];rw[dA (by rw[A]at J;exact J)]at e;exact e
 by_cases i:n>0
 .refine aT (s:=ma n m s) j (wy [aa (aL (ay i)),ag i,yi (ω:i6 (gl n 10+1)),ag (ω:0<=gl n 10+1),ag (ω:0<=gl n 10),ag (by omega:(gl n (10:N)).toNat<=(gl n (10:N)+(1:N)).toNat),ag (show(gl n 10+1).toNat<=(eQ #[48,49,50,51,52,53,54,55,56,57]).size from by show _<=(10:E);omega),ag (show((eQ #[48,49,50,51,52,53,54,55,56,57]).extract (gl n 10).toNat (gl n 10+1).toNat).size+s.size<=9223372036854775807 from by show(uJ.extract (gl n 10).toNat (gl n 10+1).toNat).size+s.size<=_;omega),yi (ω:i6 (ej n 10))] 11143911710332399131023380545:aR (aA []) (fl yu [1,1,0,0,0]) (ma n m s) 112 .normal [] (ma (ej n 10) m (uJ.extract (gl n 10).toNat (gl n 10+1).toNat++s))) (G (.inl i))
 .by_cases z:(s.size:N)<m
  .refine aT (s:=ma n m s) j (wy [aa (aL (ab i)),az i,ag z,yi (ω:i6 (gl n 10+1)),ag (ω:0<=gl n 10+1),ag (ω:0<=gl n 10),ag (by omega:(gl n (10:N)).toNat<=(gl n (10:N)+(1:N)).toNat),ag (show(gl n 10+1).toNat<=(eQ #[48,49,50,51,52,53,54,55,56,57]).size from by show _<=(10:E);omega),ag (show((eQ #[48,49,50,51,52,53,54,55,56,57]).extract (gl n 10).toNat (gl n 10+1).toNat).size+s.size<=9223372036854775807 from by show(uJ.extract (gl n 10).toNat (gl n 10+1).toNat).size+s.size<=_;omega),yi (ω:i6 (ej n 10))] 12382158778397359609013866561:aR (aA []) (fl yu [1,1,0,0,0]) (ma n m s) 111 .normal [] (ma (ej n 10) m (uJ.extract (gl n 10).toNat (gl n 10+1).toNat++s))) (G (.inr z))
  .refine aT (s:=ma n m s) j (wy [aa (aL (ab i)),az i,az z] 3255046209:aR (aA []) (fl yu [1,1,0,0,0]) (ma n m s) 79 (.exit 0) [] (ma n m s)) ?_;refine bY (cg ?_);have L:(⟨r.toArray⟩:AT)=s:=kE (by
    have e:=c.eq;cases f with
    |zero=>exact e.symm
    |succ f=>
     unfold cN at e;rw[db (by rw[A]at z;omega)]at e;exact e.symm)
   rw[L];exact bM (s:=ma n m s) j (wy [] 0:bw (aA []) ((fl yu []).drop 3) (ma n m s) 1 f204 D (sv s))
def JP:=IN 204 [.int .i64,.int .i64] [.str] D (λd=>decide (0<=d.1)&&(bP (d.1<=9223372036854775807)&&bP (d.2.1<=20))) λd=>(⟨(cN 20 d.1 d.2.1 []).toArray⟩,())
def PE:JP.Ok em:=λ⟨n,m,_⟩ h=>by
 have h:(bP (0<=n)&&(bP (n<=9223372036854775807)&&bP (m<=20)))=D:=h;simp only[ae,aN]at h;exact alw n m h.1 h.2.1 h.2.2
def PF:=NO Tryz.f132
def mW(s:AT)(i j:E)(h:j<=s.size):(s.extract i j).size=j-i:=by
 rw[ft.size_extract];omega
def nd:∀l:I hN,bE l<=l.length
 |[]=>aC _
 |b::r=>by
  unfold bE;have:=nd r;split
  .exact gt _
  .simp;omega
def PG:=aA [Pz,JP]
def yw(p q:N):AT:=⟨(cN 20 p 1 []++(if q>1 then 47::cN 20 q 1 []else [])).toArray⟩
section
variable(n d:N)(Z:¬n< -4000000000000000000)(Y:¬n>4000000000000000000)(h3:¬d< -4000000000000000000)(h4:¬d>4000000000000000000)(h5:¬d<0)(h6:i6 (0-n))(h7:(bP ((0:aq.den (.int .i64))<=if 0-n>n then 0-n else n)&&bP ((0:aq.den (.int .i64))<=d))=D)(h8:(bG n d)≠0)(h9:i6 (ej n (bG n d)))(h10:i6 (ej d (bG n d)))(h11:¬ej n (bG n d)<0)(h12:i6 (0-ej n (bG n d)))(dR:(bP ((0:aq.den (.int .i64))<=if 0-ej n (bG n d)>ej n (bG n d)then 0-ej n (bG n d)else ej n (bG n d))&&(bP ((if 0-ej n (bG n d)>ej n (bG n d)then 0-ej n (bG n d)else ej n (bG n d))<=(9223372036854775807:aq.den (.int .i64)))&&bP (1<=(20:aq.den (.int .i64)))))=D)(gX:(eQ #[]).size+(eQ (qK (cN 20 (if 0-ej n (bG n d)>ej n (bG n d)then 0-ej n (bG n d)else ej n (bG n d)) 1 []))).size<=9223372036854775807)
def WP(e:ej d (bG n d)>1)(f:(eQ #[]++eQ (qK (cN 20 (if 0-ej n (bG n d)>ej n (bG n d)then 0-ej n (bG n d)else ej n (bG n d)) 1 []))).size+(eQ #[47]).size<=9223372036854775807)(i:(bP ((0:aq.den (.int .i64))<=ej d (bG n d))&&(bP (ej d (bG n d)<=(9223372036854775807:aq.den (.int .i64)))&&bP (1<=(20:aq.den (.int .i64)))))=D)(j:(eQ #[]++eQ (qK (cN 20 (if 0-ej n (bG n d)>ej n (bG n d)then 0-ej n (bG n d)else ej n (bG n d)) 1 []))++eQ #[47]).size+(eQ (qK (cN 20 (ej d (bG n d)) 1 []))).size<=9223372036854775807)(c:(eQ #[]++eQ (qK (cN 20 (if 0-ej n (bG n d)>ej n (bG n d)then 0-ej n (bG n d)else ej n (bG n d)) 1 []))++eQ #[47]++eQ (qK (cN 20 (ej d (bG n d)) 1 [])))=(yw (n/(↑(fo n d):N)) (d/(↑(fo n d):N)))):
  bk PG (fl PF []) 30 (f132.ntmps) [iv n,iv d] 12507 f132 D (sv (yw (n/fo n d) (d/fo n d))):=
 wy [aa (aL (ab Z)),az Z,aa (aL (ab Y)),az Y,aa (aL (ab h3)),az h3,az h4,az h5,yi h6,aa h7,ag h8,yi h9,yi h10,az h11,yi h12,aa dR,ag gX,ag e,ag f,aa i,ag j,av c] 31874838871619119136349477082024326987223146561
def alx(c:¬ej d (bG n d)>1)(e:(eQ #[]++eQ (qK (cN 20 (if 0-ej n (bG n d)>ej n (bG n d)then 0-ej n (bG n d)else ej n (bG n d)) 1 [])))=(yw (n/(↑(fo n d):N)) (d/(↑(fo n d):N)))):
  bk PG (fl PF []) 30 (f132.ntmps) [iv n,iv d] 8411 f132 D (sv (yw (n/fo n d) (d/fo n d))):=
 wy [aa (aL (ab Z)),az Z,aa (aL (ab Y)),az Y,aa (aL (ab h3)),az h3,az h4,az h5,yi h6,aa h7,ag h8,yi h9,yi h10,az h11,yi h12,aa dR,ag gX,az c,av e] 105000044317847363205758449615782206513217
end
def XA:bI em (bJ PG):=dw (aV Xu (aV PE eH))
def mc:∀(f:E)(n m:N)(s:I hN),(cN f n m s).length<=s.length+f
 |0,_,_,s=>aC _
 |f+1,n,m,s=>by
  unfold cN;split
  .have:=mc f (n/10) m (uK n::s);simp at this;omega
  .omega
def JQ(l:I hN):(eQ l.toArray).size=l.length:=rfl
def aly(n d:N)(c:0<=n)(e:n<=4000000000000000000)(X:0<d)(V:d<=4000000000000000000):Holds em D 132 [iv n,iv d] (sv (yw (n/fo n d) (d/fo n d))):=by
 refine bK PF func132 λw F=>?_
 have f:=alx n d;have i:=WP n d;have A:(if(0:N)-n>n then(0:N)-n else n)=n:=db ω;have e:0<fo n d:=sq _ ω;simp only[bG,A]at f i;have u:ej n (fo n d:N)=n/(fo n d:N):=ku c;have z:ej d (fo n d:N)=d/(fo n d:N):=ku ω;simp only[u,z]at f i;generalize M:(fo n d:N)=g at*;have e:1<=g:=by omega
 have j:0<=n/g:=jN c ω;have S:n/g<=n:=vb _ c;have r:0<=d/g:=jN ω ω;have U:d/g<=d:=vb _ ω;have C:(if(0:N)-n/g>n/g then(0:N)-n/g else n/g)=n/g:=db ω;simp only[C]at f i;have G:=mc 20 (n/g) 1 [];have J:=mc 20 (d/g) 1 [];have m:=JQ (cN 20 (n/g) 1 []);have L:=JQ (cN 20 (d/g) 1 []);simp only[IJ,bC]at G J;by_cases e:d/g>1
 .have q:(eQ #[]++eQ (cN 20 (n/g) 1 []).toArray).size=(cN 20 (n/g) 1 []).length:=by rw[wR,nW];rfl
  have K:(eQ #[]++eQ (cN 20 (n/g) 1 []).toArray++eQ #[47]).size=(cN 20 (n/g) 1 []).length+1:=by rw[wR,nW,fQ,<-wR,q];rfl
  refine bt XA 30 (i ω ω ω ω ω ω ?_ ω ω ω ω ω ?_ ?_ e ?_ ?_ ?_ ?_)
  .rw[ae];exact⟨ay c,ay (show(0:N)<=d by omega)⟩
  .rw[ae,ae];exact⟨ay j,ay ω,by decide⟩
  .rw[m];show 0+_<=_;omega
  .rw[q];show _+1<=_;omega
  .rw[ae,ae];exact⟨ay r,ay ω,by decide⟩
  .rw[K,L];omega
  .apply kE;rw[nW,nW,nW];unfold yw;rw[dA e];show(([]++cN 20 (n/g) 1 [])++[47])++cN 20 (d/g) 1 []=cN 20 (n/g) 1 []++47::cN 20 (d/g) 1 [];simp
 .refine bt XA 30 (f ω ω ω ω ω ω ?_ ω ω ω ω ω ?_ ?_ e ?_)
  .rw[ae];exact⟨ay c,ay (show(0:N)<=d by omega)⟩
  .rw[ae,ae];exact⟨ay j,ay ω,by decide⟩
  .rw[m];show 0+_<=_;omega
  .apply kE;rw[nW];unfold yw;rw[db e,mS];rfl
def Db{b:hN}{l:I hN}:cj (b::l)=(bP (48<=b.toNat)&&bP (b.toNat<=57)&&cj l):=rfl
def alz(a b:I hN):∀n:N,(a++b).foldl (λn b=>10*n+((b.toNat:N)-48)) n=b.foldl (λn b=>10*n+((b.toNat:N)-48)) (a.foldl (λn b=>10*n+((b.toNat:N)-48)) n):=λn=>I.foldl_append ..
def ne:∀(l:I hN)(n:N),l.foldl (λn b=>10*n+((b.toNat:N)-48)) n=n*10^l.length+bA l
 |[],n=>by simp[bA]
 |b::r,n=>by
  have c:=ne r (10*n+((b.toNat:N)-48));have e:=ne r (10*0+((b.toNat:N)-48));unfold bA at*;simp only[LA,la];rw[c,e,hP];grind
def PI(b:hN)(r:I hN):bA (b::r)=((b.toNat:N)-48)*10^r.length+bA r:=by
 have:=ne r (10*0+((b.toNat:N)-48));unfold bA at*;simp only[LA];rw[this];simp
def XB:∀(l:I hN),cj l=D->bE l=l.length
 |[],_=>rfl
 |b::r,h=>by
  rw[Db]at h;simp only[ae,aN]at h;unfold bE;rw[db ω,XB r h.2,la]
def XC:∀(l r:I hN),cj l=D->bE (l++47::r)=l.length
 |[],r,_=>by show bE (47::r)=0;unfold bE;rw[dA δ]
 |b::l,r,h=>by
  rw[Db]at h;simp only[ae,aN]at h;rw[Aj];unfold bE;rw[db ω,XC l r h.2,la]
def fw(s:AT)(i j:E):ak (s.extract i j)=((ak s).take j).drop i:=by
 show(s.extract i j).data.toList=_;rw[ft.data_extract,fh.toList_extract];simp[I.extract,I.drop_take]
def JR(n d:N):N:=n/fo n d
def Dc(n d:N):N:=d/fo n d
end
end
end Go.Proofs.YtdajfemhnlpegaaGreatDoor
namespace Go.Proofs
open Go.Shelf
set_option maxRecDepth 100000
def Tryz.kR{α:Type}{a:da α}{x y:α}(h:a=O x)(g:x=y:=by kernel_rfl):a=O y:=h.trans (congrArg O g)
def Tryz.alA:td:=⟨λ|134=>228|129=>191|n=>n,λ|53=>178|3=>3|4=>4|46=>171|5=>5|9=>9|n=>n,λ|n=>n⟩
def Tryz.alB:Go.Proofs.Lays.n134 em Tryz.alA:=⟨by kernel_rfl,kR func191,kR func228,Ll,è,Å,Ps,Lp,é,Æ,Py,Ú,isAgg5,sizeOf5,ê,QD,Ă,ä,Tf,QX,ë,Ò,Tg,Zr,isAgg178,ú,Ç⟩
def Tryz.bits_LeadingZeros64(x:N)(w:du)(c:0<=x)(f:x<=18446744073709551615):
  DG em 228 #[.int .u64 x] w λe w'=>e=.returned (.int .i64 (64-(Lib.bitLen x.toNat:N)))/\w'=w:=Any.bits_LeadingZeros64 Tryz.alB x w c f
def Tryz.aDV:td:=⟨λ|210=>165|206=>222|n=>n,λ|9=>9|4=>4|3=>3|n=>n,λ|n=>n⟩
def Tryz.alC:td:=⟨λ|172=>160|244=>224|245=>225|247=>255|279=>256|280=>257|281=>258|282=>259|287=>274|316=>275|171=>176|205=>276|321=>282|322=>283|243=>226|246=>260|283=>261|284=>262|285=>263|286=>264|129=>191|317=>277|318=>278|319=>279|320=>280|337=>284|338=>285|n=>n,λ|9=>9|3=>3|75=>195|76=>196|4=>4|5=>5|167=>268|37=>215|0=>0|85=>269|2=>2|168=>271|53=>178|175=>289|46=>171|210=>293|127=>253|145=>302|143=>300|21=>21|171=>275|173=>277|212=>296|51=>226|20=>20|213=>297|232=>303|233=>304|80=>168|n=>n,λ|15=>3|16=>4|17=>5|18=>6|19=>7|n=>n⟩
def Tryz.alD:Go.Proofs.Lays.n172 em Tryz.alC:=⟨by kernel_rfl,kR func191,kR func176,kR func160,kR func276,kR func226,kR func224,kR func225,kR func260,kR func255,kR func256,kR func257,kR func258,kR func259,kR func261,kR func262,kR func263,kR func264,kR func274,kR func275,kR func277,kR func278,kR func279,kR func280,kR func282,kR func283,kR func284,kR func285,underlying0,isAgg0,sizeOf0,zeroValue0,underlying2,isAgg2,sizeOf2,zeroValue2,Ll,è,Å,Ps,Lp,é,Æ,Py,Ú,isAgg5,sizeOf5,ê,QD,Ă,ä,Tf,underlying20,isAgg20,sizeOf20,zeroValue20,underlying21,isAgg21,sizeOf21,zeroValue21,underlying215,isAgg215,sizeOf215,zeroValue215,QX,ë,Ò,Tg,ñ,isAgg226,sizeOf226,ă,Zr,isAgg178,ú,Ç,underlying195,isAgg195,sizeOf195,zeroValue195,underlying196,isAgg196,sizeOf196,zeroValue196,underlying269,isAgg269,sizeOf269,zeroValue269,underlying253,isAgg253,sizeOf253,zeroValue253,underlying300,isAgg300,sizeOf300,zeroValue300,underlying302,isAgg302,sizeOf302,zeroValue302,underlying268,isAgg268,sizeOf268,zeroValue268,underlying271,isAgg271,sizeOf271,zeroValue271,underlying275,isAgg275,sizeOf275,zeroValue275,underlying277,isAgg277,sizeOf277,zeroValue277,underlying289,isAgg289,sizeOf289,zeroValue289,underlying293,isAgg293,sizeOf293,zeroValue293,underlying296,isAgg296,sizeOf296,zeroValue296,underlying297,isAgg297,sizeOf297,underlying303,isAgg303,sizeOf303,zeroValue303,underlying304,isAgg304,sizeOf304,zeroValue304,by kernel_rfl,by kernel_rfl,by kernel_rfl,by kernel_rfl,by kernel_rfl⟩
open Go.RowKit in
def Tryz.strconv_Atoi(s:ft)(n:N)(c:s.size<=18)(h:Lib.atoi s.data.toList=O n)(w:du):
  DG em 160 #[.string s] w λe w'=>e=.returned (.tuple #[.int .i64 n,.nilIface])/\∃t,w'=Lib.bytesWorld w 5 t:=Any.strconv_Atoi Tryz.alD s n c h w
def Tryz.aDW:td:=⟨λ|219=>221|217=>251|225=>252|224=>253|267=>254|266=>272|314=>273|n=>n,λ|9=>9|3=>3|4=>4|5=>5|46=>171|146=>279|51=>226|n=>n,λ|1=>0|n=>n⟩
def Tryz.alE:td:=⟨λ|145=>105|220=>157|219=>221|217=>251|225=>252|224=>253|267=>254|266=>272|314=>273|n=>n,λ|9=>9|4=>4|59=>151|3=>3|5=>5|46=>171|146=>279|51=>226|n=>n,λ|1=>0|n=>n⟩
def Tryz.alF:Go.Proofs.Lays.n145 em Tryz.alE:=⟨by kernel_rfl,kR func105,kR func251,kR func221,kR func157,kR func253,kR func252,kR func272,kR func254,kR func273,Ll,è,Å,Ps,Lp,é,Æ,Py,Ú,isAgg5,sizeOf5,ê,QD,Ă,ä,Tf,QX,ë,Ò,Tg,ñ,isAgg226,sizeOf226,ă,underlying151,isAgg151,sizeOf151,zeroValue151,underlying279,isAgg279,sizeOf279,zeroValue279,by kernel_rfl⟩
open Go.RowKit Go.Lib in
def Tryz.strings_Cut(s c:ft)(m:N)(w:du)(i:s.size<4294967281)(f:w.cell? ⟨0,0,bs⟩=O (.int .i64 m)):
  DG em 105 #[.string s,.string c] w λe w'=>e=.returned (.tuple #[.string ⟨(Lib.cut s.data.toList c.data.toList).1.toArray⟩,.string ⟨(Lib.cut s.data.toList c.data.toList).2.1.toArray⟩,.bool (Lib.cut s.data.toList c.data.toList).2.2])/\∃n,w'=w.drewN n:=Any.strings_Cut Tryz.alF s c m w i f
def Tryz.alG:td:=⟨λ|189=>79|125=>126|257=>134|128=>190|129=>191|294=>207|295=>208|296=>209|297=>210|298=>211|299=>212|216=>213|300=>214|301=>215|328=>246|329=>237|330=>238|331=>247|332=>248|215=>118|343=>270|n=>n,λ|28=>98|3=>3|46=>171|0=>0|51=>226|53=>178|4=>4|183=>220|182=>219|131=>160|5=>5|9=>9|218=>254|222=>258|228=>283|229=>284|n=>n,λ|n=>n⟩
def Tryz.XD:Go.Proofs.Lays.n189 em Tryz.alG:=⟨by kernel_rfl,kR func126,kR func190,kR func191,kR func79,kR func118,kR func213,kR func134,kR func207,kR func208,kR func209,kR func210,kR func211,kR func212,kR func214,kR func215,kR func246,kR func237,kR func238,kR func247,kR func248,kR func270,underlying0,isAgg0,sizeOf0,zeroValue0,Ll,è,Å,Ps,Lp,é,Æ,Py,Ú,isAgg5,sizeOf5,ê,QD,Ă,ä,Tf,underlying98,isAgg98,sizeOf98,zeroValue98,QX,ë,Ò,Tg,ñ,isAgg226,sizeOf226,ă,Zr,isAgg178,ú,Ç,underlying160,isAgg160,sizeOf160,zeroValue160,underlying219,isAgg219,sizeOf219,zeroValue219,underlying220,isAgg220,sizeOf220,zeroValue220,underlying254,isAgg254,sizeOf254,zeroValue254,underlying258,isAgg258,sizeOf258,zeroValue258,underlying283,isAgg283,sizeOf283,zeroValue283,underlying284,isAgg284,sizeOf284,zeroValue284⟩
open Go.Sort Go.RowKit in
def Tryz.slices_Sort_int(c off cap:E)(e:I N)(w:du)(i:Holds (Value.int .i64) w c off e.toArray)(j:c<w.heap.size)(m:e.length<4611686018427387904):
  DG em 79 #[.slice (O ⟨c,off,bs⟩) e.length cap] w λf w'=>
   f=.returned (.tuple #[])/\∃n q,w'=grow (putRow (Value.int .i64) (Sort.ahead w n) c off (e.mergeSort λx y=>decide (x<=y)).toArray) q:=Any.slices_Sort_int Tryz.XD c off cap e w i j m
def Tryz.alH:td:=⟨λ|99=>158|206=>222|n=>n,λ|9=>9|4=>4|3=>3|n=>n,λ|n=>n⟩
def Tryz.alI:Go.Proofs.Lays.n99 em Tryz.alH:=⟨by kernel_rfl,kR func158,kR func222,Ll,è,Å,Ps,Lp,é,Æ,Py,QD,Ă,ä,Tf⟩
open Go.RowKit Go.Lib in
def Tryz.strings_HasPrefix(s p:ft)(w:du):
  DG em 158 #[.string s,.string p] w λe w'=>e=.returned (.bool (Lib.hasPrefix s.data.toList p.data.toList))/\w'=w:=Any.strings_HasPrefix Tryz.alI s p w
def Tryz.alJ:td:=⟨λ|101=>159|208=>223|206=>222|n=>n,λ|9=>9|4=>4|3=>3|n=>n,λ|n=>n⟩
def Tryz.alK:Go.Proofs.Lays.n101 em Tryz.alJ:=⟨by kernel_rfl,kR func159,kR func222,kR func223,Ll,è,Å,Ps,Lp,é,Æ,Py,QD,Ă,ä,Tf⟩
open Go.RowKit Go.Lib in
def Tryz.strings_TrimPrefix(s p:ft)(w:du):
  DG em 159 #[.string s,.string p] w λe w'=>e=.returned (.string ⟨(Lib.trimPrefix s.data.toList p.data.toList).toArray⟩)/\w'=w:=Any.strings_TrimPrefix Tryz.alK s p w
def Tryz.alL:td:=⟨λ|264=>138|n=>n,λ|53=>178|46=>171|n=>n,λ|n=>n⟩
def Tryz.alM:Go.Proofs.Lays.n264 em Tryz.alL:=⟨by kernel_rfl,kR func138,QX,ë,Ò,Tg,Zr,isAgg178,ú,Ç⟩
open Go.RowKit Go.Lib in
def Tryz.bits_Mul64(x y:E)(c:x<18446744073709551616)(f:y<18446744073709551616)(w:du):
  DG em 138 #[.int .u64 x,.int .u64 y] w λe w'=>e=.returned (.tuple #[.int .u64 ((x*y/18446744073709551616:E):N),.int .u64 ((x*y%18446744073709551616:E):N)])/\w'=w:=Any.bits_Mul64 Tryz.alM x y c f w
def Tryz.alN:td:=⟨λ|107=>103|108=>77|n=>n,λ|28=>98|3=>3|4=>4|0=>0|n=>n,λ|n=>n⟩
def Tryz.XE:Go.Proofs.Lays.n107 em Tryz.alN:=⟨by kernel_rfl,kR func103,kR func77,underlying0,isAgg0,sizeOf0,zeroValue0,Ll,è,Å,Ps,Lp,é,Æ,Py,underlying98,isAgg98,sizeOf98,zeroValue98⟩
open Go.Lib in
def Tryz.slices_Contains_int(b off n c:E)(e:I N)(x:N)(w:du)(q:n<=e.length)(i:n<=9223372036854775807)(m:∀j,j<e.length->w.cell? ⟨b,off+j,bs⟩=O (.int .i64 (e.getD j 0))):
  DG em 103 #[.slice (O ⟨b,off,bs⟩) n c,.int .i64 x] w λf w'=>f=.returned (.bool ((e.take n).contains x))/\w'=w:=Any.slices_Contains_int Tryz.XE b off n c e x w q i m
open Go.Lib in
def Tryz.slices_Contains_int_empty(a:da wu)(c:E)(x:N)(w:du):
  DG em 103 #[.slice a 0 c,.int .i64 x] w λe w'=>e=.returned (.bool ao)/\w'=w:=Any.slices_Contains_int_empty Tryz.XE a c x w
def Tryz.alO:td:=⟨λ|15=>101|n=>n,λ|22=>98|3=>3|4=>4|n=>n,λ|n=>n⟩
def Tryz.PJ:Go.Proofs.Lays2.n15 em Tryz.alO:={
 mixed:=by kernel_rfl
 f15:=func101.trans (congrArg O (by kernel_rfl))
 t3:=Tryz.underlying3
 a3:=Tryz.isAgg3
 z3:=Tryz.sizeOf3
 v3:=Tryz.zeroValue3
 t4:=Tryz.underlying4
 a4:=Tryz.isAgg4
 z4:=Tryz.sizeOf4
 v4:=Tryz.zeroValue4
 t22:=Tryz.underlying98
 a22:=Tryz.isAgg98
 z22:=Tryz.sizeOf98
 v22:=Tryz.zeroValue98
 i3:=by kernel_rfl}
open Go.RowKit Go.Lib in
def Tryz.slices_Clone_int(b off n c:E)(e:I N)(w:du)(q:n<=e.length)(i:n*8<=140737488355328)(m:∀j,j<e.length->w.cell? ⟨b,off+j,bs⟩=O (.int .i64 (e.getD j 0))):
  DG em 101 #[.slice (O ⟨b,off,bs⟩) n c] w λf w'=>∃v',f=.returned v'/\w'.ownsRow w.heap.size 3 1 v' n ((e.take n).map (Value.int .i64))/\v'≠ .slice bs 0 0/\Below w.heap.size w w':=Any.slices_Clone_int Tryz.PJ b off n c e w q i m
open Go.RowKit Go.Lib in
def Tryz.slices_Clone_int_nil(n c:E)(w:du):
  DG em 101 #[.slice bs n c] w λe w'=>e=.returned (.slice bs 0 0)/\w'=w:=Any.slices_Clone_int_nil Tryz.PJ n c w
open Go.RowKit Go.Lib in
def Tryz.slices_Clone_int_zero(a:wu)(c:E)(w:du):
  DG em 101 #[.slice (O a) 0 c] w λe w'=>∃v',e=.returned v'/\w'.ownsRow w.heap.size 3 1 v' 0 []/\v'≠ .slice bs 0 0/\Below w.heap.size w w':=Any.slices_Clone_int_zero Tryz.PJ a c w
open Go.RowKit Go.Sort in
def Tryz.slices_Sort_int_none(p:da wu)(cap:E)(w:du):
  DG em 79 #[.slice p 0 cap] w λe w'=>e=.returned (.tuple #[])/\w'=w:=Any.slices_Sort_int_none Tryz.XD p cap w
end Go.Proofs
namespace Go.Proofs.YtdajfemhnlpegaaGreatDoor
open Go.RowKit
abbrev b9(l:I N):I Value:=l.map (Value.int .i64)
def alP{w:du}{e n:E}{v:Value}{xs:I N}(h:w.ownsRow e 3 1 v n (b9 xs)):xs.length=n/\((v=.slice bs 0 0/\n=0)\/∃g c cur,v=.slice (O ⟨g,0,bs⟩) n c/\e<=g/\w.heap[g]? =O (.cells cur 3 (0,0))/\n<=c/\c<=maxLen/\cur.size=c/\cur.toList.take n=b9 xs):=by
 obtain⟨f,i⟩:=h;simp only[Au,mG]at f i;exact⟨f,i⟩
section
variable{w:du}{g n:E}{cur:fh Value}
def alQ{xs:I N}(f:w.heap[g]? =O (.cells cur 3 (0,0)))(i:cur.toList.take n=b9 xs):Sort.Holds (Value.int .i64) w g 0 xs.toArray:=λj e=>by
 have e:j<xs.length:=by simpa using e
 refine⟨?_,?_⟩
 .rw[bC,Ì w g j cur _ _ f];have c:(cur.toList.take n)[j]? =O (Value.int .i64 xs[j]):=by rw[i];simp[e]
  rw[ly]at c;split at c
  .simpa[e]using c
  .cases c
 .simp[du.frozen?,f]
def alR{xs ys:I N}(i:w.heap[g]? =O (.cells cur 3 (0,0)))(m:cur.toList.take n=b9 xs)(r:ys.length=xs.length)(q:E):
  (Sort.putRow (Value.int .i64) (Sort.ahead w q) g 0 ys.toArray).heap[g]? =O (.cells (Sort.putCells (Value.int .i64) 0 ys.toArray cur) 3 (0,0))/\(Sort.putCells (Value.int .i64) 0 ys.toArray cur).size=cur.size/\(Sort.putCells (Value.int .i64) 0 ys.toArray cur).toList.take ys.length=b9 ys:=by
 refine⟨?_,by simp[Sort.putCells],?_⟩
 .show(w.heap.modify g (Sort.onCells _))[g]? =_;rw[Hh,dA rfl,i];rfl
 .have u:ys.length<=cur.size:=by
   have e:=congrArg jC m;simp at e;omega
  apply I.ext_getElem?;intro j;rw[ly];by_cases c:j<ys.length
  .rw[dA c,IF];have f:j<cur.size:=by omega
   simp[Sort.putCells,c,f]
  .rw[db c,JU (by simpa using c)]
end
def As{w:du}{g q:E}{d:fh N}:w.grownBy (Sort.putRow (Value.int .i64) (Sort.ahead w q) g 0 d) (O g):=
 ⟨rfl,rfl,rfl,uV τ,λk _ c=>by
   show(w.heap.modify g (Sort.onCells _))[k]? =_;rw[Hh,db (λe=>c (by rw[e]))]⟩
def alS(w:du)(r:da E):w.grownBy w r:=⟨rfl,rfl,rfl,aC _,λ_ _ _=>rfl⟩
def alT{w w':du}{r:da E}(h:w.grownBy w' r)(os:fh Obj):w.grownBy (Sort.grow w' os) r:=
 ⟨h.os,h.tape,h.output,cD h.size τ,λk c e=>(Sort.heap_grow_old w' os (iy c h.size)).trans (h.block k c e)⟩
def alU(q n:E)(v:Value)(xs:I N)(w:du)(h:w.ownsRow q 3 1 v n (b9 xs))(V:xs.length<=1000000):
  DG Tryz.prog 79 #[v] w λe w'=>e=.returned (.tuple #[])/\w'.ownsRow q 3 1 v n (b9 (xs.mergeSort λx y=>decide (x<=y)))/\w.grownBy w' v.ownBlock:=by
 obtain⟨u,c⟩:=alP h;rcases c with⟨rfl,rfl⟩|⟨g,r,cur,rfl,U,i,J,C,G,z⟩
 .obtain rfl:xs=[]:=ut.1 u;exact(Tryz.slices_Sort_int_none bs 0 w).mono λe w' ⟨c,f⟩=>by subst f;exact⟨c,by simpa using h,alS _ _⟩
 .subst u;have m:g<w.heap.size:=(cy.1 i).1;refine(Tryz.slices_Sort_int g 0 r xs w (alQ i z) m ω).mono λe w' ⟨c,S,A,f⟩=>?_
  subst f;have j:(xs.mergeSort λx y=>decide (x<=y)).length=xs.length:=I.length_mergeSort _;obtain⟨K,L,M⟩:=alR i z j S;refine⟨c,⟨by simp[j],.inr ⟨g,r,_,rfl,U,(Sort.heap_grow_old _ A (by simpa using m)).trans K,J,C,by rw[L,G,Au],?_⟩⟩,alT As A⟩;rw[Au,<-j];exact M
end Go.Proofs.YtdajfemhnlpegaaGreatDoor
namespace Go.Proofs.YtdajfemhnlpegaaGreatDoor.Sv
open Go.RowKit
noncomputable section
abbrev eP:=mN->(n:E)->(c:da E)->au af->ai->I E->R
def XF(P:fd)(ih:eP)(args:I af)(H:ai)(fn:Ö)(c:mN):aM:=
 @jh (λ_=>aM) .no (@R.rec (λ_=>aM) .no (λT H m=>lW P fn T H m) (λ_ _ _ _=>.no) (λ_ _ _ _=>.no) (λT H m=>lW P fn T H m)
   (ih c fn.ntmps bs (gI args .nil 0) H [])) (dK args.length fn.ntmps)
def me(P:fd)(ih:eP):fe:=λf args H=>
 @oN Ö (λ_=>aM) .no (λc=>@oN mN (λ_=>aM) .no (λe=>XF P ih args H c e) c.body) (P.funcs[f]?)
def JS(ih:eP):lz:=λi args H=>
 match H.get i with
 |some (.loop r)=>
  match r.state with
  |.ready=>oi (dd args.length r.params.size&&r.params.toList.all λt=>dK (t+1) r.size)
    (match ih r.assign r.size (O i) (pf r.tmps (r.params.toList.zip args)) H []with
      |.normal T H []=>match H.get i with
        |some (.loop r')=>match r'.state with
         |.ready=>zI i (ih r.body r.size (O i) T (H.set i (.loop {r' with state:= .busy})) [])
         |_=>.no
        |_=>.no
      |_=>.no) .no
  |_=>.no
 |_=>.no
def Dd(ih:eP)(n:E)(e:da E)(T:au af)(L:E)(m:I E):aM->R
 |.ok _ c=>match c.get L with
   |some (.loop r)=>match r.state with
    |.busy=>.no
    |_=>match r.pending with
     |none=>.normal T (c.set L (.loop {r with state:= .exhausted})) m
     |some f=>ih f n e T (c.set L (.loop {r with state:= .exhausted})) m
   |_=>.no
 |_=>.no
def At(b:da bn):dF:=match b with |some (.loop _)=>D|_=>ao
def F1(e:eP->fe)(P:fd)(ih:eP)(f:gn)(params:fh Tmp)(assign body:mN)(n:E)(T:au af)(H:ai)(m:I E):R:=
 match fb P (cF T f) [.yield (nX H.next)] ((H.new .deferred).new (.loop {tmps:=T,size:=n,params,assign,body,state:= .ready,pending:=bs}))with
 |.enter g args c=>Dd ih n bs T (nX H.next) (H.next::m) (e ih g args c)
 |_=>.no
def F2(e:eP->fe)(P:fd)(ih:eP)(i:E)(f:gn)(params:fh Tmp)(assign body:mN)(n:E)(T:au af)(H:ai)(m:I E):R:=
 match fb P (cF T f) [.yield H.next] (H.new (.loop {tmps:=T,size:=n,params,assign,body,state:= .ready,pending:=bs}))with
 |.enter g args c=>oi (At (H.get i)) (Dd ih n (O i) T H.next m (e ih g args c)) .no
 |_=>.no
abbrev ce:=fd->sw->eP->(n:E)->(c:da E)->au af->ai->I E->R
def XG:ce:=λ_ _ _ _ _ T H m=>.normal T H m
def alV(e:eP->fe)(_id:E)(ops:fh ls)(d:dF):ce:=λ_ c ih n _ T H m=>
 Cd m (c d (e ih) (JS ih) ops n T H)
def alW(a b:mN)(_ _:ce):ce:=λ_ _ ih n c T H m=>@R.rec (λ_=>R) .no (λT H m=>ih b n c T H m) .exit .goto .ret (ih a n c T H m)
def alX(c:gn)(x y:mN)(_ _:ce):ce:=λ_ _ ih n e T H m=>
 @o5.rec (λ_=>R) .no (λb=>@jh (λ_=>R) (ih y n e T H m) (ih x n e T H m) b) (iX (cF T c))
def alY(id:E)(b:mN)(_:ce):ce:=λ_ _ ih n c T H m=>
 @R.rec (λ_=>R) .no .normal (λi T H m=>@jh (λ_=>R) (.exit i T H m) (.normal T H m) (dd i id)) .goto .ret (ih b n c T H m)
def XH(b:mN)(_:ce):ce:=λ_ _ ih n c T H m=>iter (ih b n c) rounds T H m
def RK(i:eP->fe)(f:gn)(j:fh Tmp)(c e:mN)(_ _:ce):ce:=λP _ ih n q T H m=>
 @oN E (λ_=>R) (F1 i P ih f j c e n T H m) (λr=>F2 i P ih r f j c e n T H m) q
def alZ(id:E):ce:=λ_ _ _ _ _ T H m=>.exit id T H m
def al0(b:mN)(_:ce):ce:=λ_ _ ih n c T H m=>@R.rec (λ_=>R) .no .normal .exit (λ_ _ _ _=>.no) .ret (ih b n c T H m)
def al1(l:E):ce:=λ_ _ _ _ _ T H m=>.goto l T H m
def al2:ce:=λ_ _ _ _ _ T H m=>.ret T H m
def al3:ce:=λ_ _ _ _ _ _ _ _=>.no
def JT(c:eP->fe):mN->ce:=
 @mN.rec (λ_=>ce) XG (alV c) alW alX alY XH (RK c) alZ al0 (λ_=>XG) al1 al2 (λ_=>al3)
def F3(e:eP->fe)(P:fd)(draw:sw)(fuel:E):eP:=
 @E.rec (λ_=>eP) (λ_ _ _ _ _ _=>.no) (λ_ ih c=>JT e c P draw ih) fuel
end
variable[Ground]
def F4(ρ:Env):da E->da E->Prop
 |none,bs=>True
 |some i,O l=>∃c,ρ i=O (l,c)
 |_,_=>lm
def F4.mono{ρ ρ':Env}(f:cR ρ ρ'):∀{c rd:da E},F4 ρ c rd->F4 ρ' c rd
 |none,bs,_=>trivial
 |some _,O _,⟨e,h⟩=>⟨e,f _ _ h⟩
 |none,O _,h=>h.elim
 |some _,bs,h=>h.elim
section
variable{P:fd}{B:E}{ρ:Env}{n:E}{T:au af}{H:ai}{a:Zq}{w:du}
variable{Z:eP->fe}
structure k5(P:fd)(ih:eP):Prop where
 mono:∀c n aU T H m e aZ H' m',(ih c n aU T H m).out=O (e,aZ,H',m')->H.next<=H'.next
 dc:∀c n aU T H m e aZ H' m',(ih c n aU T H m).out=O (e,aZ,H',m')->∀B ρ a w rd k (Q:sC->Zq->du->Prop),F4 ρ aU rd->fS P B ρ n T H a w->gj ρ m a.defers->Fr ρ H.next H'.next->
  (∀ρ' a' w',fS P B ρ' n aZ H' a' w'->bV ρ H w ρ' H' w'->gj ρ' m' a'.defers->Q e a' w')->c.wpIn (eZ rd) k P Q a w
section
variable{Y:eP}
def XI{f:ya}{args:I af}{v:af}{H':ai}(h:me P Y f args H=.ok v H'):∃c e,P.funcs[f]? =O c/\c.body=O e/\args.length<=c.ntmps/\
  ∃r m j q,(Y e c.ntmps bs (gI args .nil 0) H []).out=O (r,m,j,q)/\(r=.normal\/r=.ret)/\lW P c m j q=.ok v H':=by
 unfold me at h;cases z:P.funcs[f]? with
 |none=>rw[z]at h;cases h
 |some c=>
  rw[z]at h;simp only at h;cases hb:c.body with
  |none=>rw[hb]at h;cases h
  |some e=>
   rw[hb]at h;simp only at h;unfold XF at h;cases u:dK args.length c.ntmps with
   |false=>rw[u]at h;cases h
   |true=>
    rw[u]at h;simp only at h;refine⟨c,e,rfl,hb,b5 u,?_⟩;cases i:Y e c.ntmps bs (gI args .nil 0) H []with
    |no=>rw[i]at h;cases h
    |normal m j q=>rw[i]at h;exact⟨_,_,_,_,rfl,.inl rfl,h⟩
    |exit _ _ _ _=>rw[i]at h;cases h
    |goto _ _ _ _=>rw[i]at h;cases h
    |ret m j q=>rw[i]at h;exact⟨_,_,_,_,rfl,.inr rfl,h⟩
def nf(m:k5 P Y):bI P (me P Y) where
 mono J args H v f h:=by
  obtain⟨j,C,_,_,_,G,z,u,r,e,_,c⟩:=XI h;exact cD (m.mono _ _ _ _ _ _ _ _ _ _ e) (uV (Cv c))
 dc J args H v f h B ρ i w q M A S V:=by
  obtain⟨j,C,X,hb,i,G,z,u,r,e,U,c⟩:=XI h;have u:=Cv c;refine Ã X hb trivial ?_;refine m.dc _ _ _ _ _ _ _ _ _ _ e B ρ _ w bs q _ trivial ⟨Fo S i,M,A⟩ rfl (by rw[u];exact V) λm i w' K L h3=>?_
  have:LeavesInM (eZ bs) q P j i.tmps (pn P B ρ H w v f) i.defers .returning w':=gE r K h3 c λy i e r2 f=>⟨y,m,rfl,e,r2,L.trans f⟩
  rcases U with rfl |rfl<;>exact this
def XJ{i:E}{args:I af}{v:af}{H':ai}(h:JS Y i args H=.ok v H'):∃r,H.get i=O (.loop r)/\args.length=r.params.size/\(∀t∈r.params.toList,t<r.size)/\
  ∃e c r',(Y r.assign r.size (O i) (pf r.tmps (r.params.toList.zip args)) H []).out=O (.normal,e,c,[])/\c.get i=O (.loop r')/\r'.state=.ready/\
   zI i (Y r.body r.size (O i) e (c.set i (.loop {r' with state:= .busy})) [])=.ok v H':=by
 unfold JS at h;split at h
 .rename_i r f;split at h
  .cases hb:(dd args.length r.params.size&&r.params.toList.all λt=>dK (t+1) r.size)with
   |false=>rw[hb]at h;cases h
   |true=>
    rw[hb]at h;rw[ae]at hb;simp only[ka]at h;refine⟨r,f,ac hb.1,λt u=>b5 (ky.1 hb.2 t u),?_⟩;split at h
    .rename_i e c m;split at h
     .rename_i r' j;split at h
      .rename_i q;exact⟨e,c,r',by rw[m];rfl,j,q,h⟩
      .cases h
     .cases h
    .cases h
  .cases h
 .cases h
def XK(c:k5 P Y):nQ P (JS Y) where
 mono C args H v i h:=by
  obtain⟨r,_,_,_,M,e,r',z,_,_,S⟩:=XJ h;obtain⟨a5,U,K,m2,r1,j,G,_,_,rfl,_⟩:=lO S;have f:=c.mono _ _ _ _ _ _ _ _ _ _ z;have L:=c.mono _ _ _ _ _ _ _ _ _ _ G;exact cD f L
 dc C args H v i h B ρ m w b u a3 q V X A a':=by
  obtain⟨r,i,J,a9,M,e,r',z,a4,b',S⟩:=XJ h;obtain⟨a5,U,K,m2,r1,j,G,a0,rfl,rfl,a6⟩:=lO S;have f:=c.mono _ _ _ _ _ _ _ _ _ _ z;have L:=c.mono _ _ _ _ _ _ _ _ _ _ G;have M:e.next<=K.next:=L;obtain⟨R,hb,f⟩:=Cw q i X;have U:=A.length;have e:=run_yield (P:=P) (args:=m.toArray) hb (by rw[f.params];simp;omega);refine⟨_,_,_,_,e,roundIn_of_wpIn trivial ?_⟩
  -- the slots of the round
  have S:lC ρ (pf r.tmps (r.params.toList.zip args)) r.size ((R.params.zip m.toArray).foldl (λi (t,a)=>i.setIfInBounds t a) R.tmps):=by
   have e:(R.params.zip m.toArray).foldl (λi (t,a)=>i.setIfInBounds t a) R.tmps=(r.params.toList.zip m).foldl (λi p=>i.setIfInBounds p.1 p.2) R.tmps:=by
    rw[<-fh.foldl_toList,f.params];congr 1;simp
   rw[e];have i:∀{e:Type}(l:I E)(ys:I e),ys.length=l.length->(l.zip ys).map ql=l/\(l.zip ys).map rL=ys:=λl ys e=>⟨by rw[I.map_fst_zip];omega,by rw[I.map_snd_zip];omega⟩
   have e:=i r.params.toList args (by simpa using J);have L:=i r.params.toList m (by rw[U];simpa using J);exact Vn _ _ (by rw[e.1,L.1]) (by rw[e.2,L.2];exact A) (λp e=>a9 p.1 (I.of_mem_zip e).1) f.tmps
  rw[f.assign,f.body];refine c.dc _ _ _ _ _ _ _ _ _ _ z B ρ _ w (O b) a3 _ ⟨u,X⟩ ⟨S,q,V⟩ rfl (λx y e=>a' x y (iy e M)) λm f i A V U=>?_
  have U:f.defers=[]:=U;have J:m C=O (b,u):=V.le _ _ X;obtain⟨al6,q,e⟩:=Cw A.H a4 J;have i:=run_beginRound (P:=P) q (by rw[e.state,b']);refine⟨_,i,?_⟩;obtain⟨q,M⟩:=pr A.H a4 J rfl (r:={r' with state:= .busy}) (R:={al6 with state:= .busy}) ⟨rfl,e.pending,e.params,e.assign,e.body,e.tmps⟩;refine c.dc _ _ _ _ _ _ _ _ _ _ G B m f _ (O b) a3 _ ⟨u,J⟩ (A.next A.T q M) U ((V.trans M).fr a') λz S L e i _=>?_
  have c:z C=O (b,u):=i.le _ _ J;obtain⟨al7,m,q⟩:=Cw e.H a0 c;have f:=run_endRound (P:=P) j m;obtain⟨m,u⟩:=pr e.H a0 c rfl (r:={r1 with state:=if j.isNone then .ready else .done,pending:=j}) (R:={al7 with state:=if j.isNone then .ready else .done,pending:=j}) ⟨rfl,rfl,q.params,q.assign,q.body,q.tmps⟩;have c:∃v' w',(Instr.endRound b j).run P L=.ok v' w'/\pn P B ρ H w (.raw (.bool j.isNone)) (K.set C (.loop {r1 with state:=if j.isNone then .ready else .done,pending:=j})) (.returned v') w':=
   ⟨_,_,f,_,z,rfl,.raw _,m,((V.trans M).trans i).trans u⟩
  rcases a6 with⟨rfl,rfl⟩|⟨rfl,rfl⟩|⟨id,rfl,rfl⟩|⟨l,rfl,rfl⟩<;>exact c
def JV{u:da E}{L:E}{m:I E}{ah:aM}{e:sC}{i:au af}{H':ai}{q:I E}(h:(Dd Y n u T L m ah).out=O (e,i,H',q)):∃v c r,ah=.ok v c/\c.get L=O (.loop r)/\r.state≠ .busy/\
  (r.pending=bs/\e=.normal/\i=T/\H'=c.set L (.loop {r with state:= .exhausted})/\q=m\/
    ∃f,r.pending=O f/\(Y f n u T (c.set L (.loop {r with state:= .exhausted})) m).out=O (e,i,H',q)):=by
 unfold Dd at h;split at h
 .rename_i v c;split at h
  .rename_i r z;split at h
   .cases h
   .rename_i C;refine⟨v,c,r,rfl,z,λA=>C A,?_⟩;split at h
    .rename_i j;cases h;exact .inl ⟨j,rfl,rfl,rfl,rfl⟩
    .rename_i f j;exact .inr ⟨f,j,h⟩
  .cases h
 .cases h
def XN{f:gn}{params:fh Tmp}{assign body:mN}{m:I E}{e:sC}{i:au af}{H':ai}{j:I E}(h:(F1 Z P Y f params assign body n T H m).out=O (e,i,H',j)):
  ∃g args c,fb P (cF T f) [.yield (H.next+1)] ((H.new .deferred).new (.loop {tmps:=T,size:=n,params,assign,body,state:= .ready,pending:=bs}))=.enter g args c/\
   (Dd Y n bs T (H.next+1) (H.next::m) (Z Y g args c)).out=O (e,i,H',j):=by
 unfold F1 at h;split at h
 .rename_i g args c q;exact⟨g,args,c,q,h⟩
 .cases h
def XO{i:E}{f:gn}{params:fh Tmp}{assign body:mN}{m:I E}{e:sC}{q:au af}{H':ai}{r:I E}(h:(F2 Z P Y i f params assign body n T H m).out=O (e,q,H',r)):
  (∃j,H.get i=O (.loop j))/\∃g args c,fb P (cF T f) [.yield H.next] (H.new (.loop {tmps:=T,size:=n,params,assign,body,state:= .ready,pending:=bs}))=.enter g args c/\
    (Dd Y n (O i) T H.next m (Z Y g args c)).out=O (e,q,H',r):=by
 unfold F2 at h;split at h
 .rename_i g args c u;cases hb:At (H.get i)with
  |false=>rw[hb]at h;cases h
  |true=>
   rw[hb]at h;refine⟨?_,g,args,c,u,h⟩;unfold At at hb;split at hb
   .rename_i j z;exact⟨j,z⟩
   .cases hb
 .cases h
end
section
variable(Y:∀ih,k5 P ih->bI P (Z ih))
def XP{ih:eP}(i:k5 P ih){f:gn}{J:fh Tmp}{u z:mN}{m:I E}{e:sC}{q:au af}{H':ai}{G:I E}(h:(F1 Z P ih f J u z n T H m).out=O (e,q,H',G)):H.next+2<=H'.next:=by
 obtain⟨g,args,j,A,C⟩:=XN h;have K:=IZ A;obtain⟨v,c,r,h3,h4,h5,h6⟩:=JV C;have U:=(Y ih i).mono _ _ _ _ _ h3;have M:j.next=H.next+2:=by rw[K];rfl
 rcases h6 with⟨_,_,_,rfl,_⟩|⟨L,_,h7⟩
 .show H.next+2<=c.next;omega
 .have:=i.mono _ _ _ _ _ _ _ _ _ _ h7;have S:(c.set (H.next+1) (bn.loop {r with state:= .exhausted})).next=c.next:=rfl;omega
def XQ{ih:eP}(j:k5 P ih){i:E}{f:gn}{K:fh Tmp}{z A:mN}{m:I E}{e:sC}{u:au af}{H':ai}{J:I E}(h:(F2 Z P ih i f K z A n T H m).out=O (e,u,H',J)):H.next+1<=H'.next:=by
 obtain⟨_,g,args,q,C,G⟩:=XO h;have L:=IZ C;obtain⟨v,c,r,h3,h4,h5,h6⟩:=JV G;have V:=(Y ih j).mono _ _ _ _ _ h3;have S:q.next=H.next+1:=by rw[L];rfl
 rcases h6 with⟨_,_,_,rfl,_⟩|⟨M,_,h7⟩
 .show H.next+1<=c.next;omega
 .have:=j.mono _ _ _ _ _ _ _ _ _ _ h7;have U:(c.set H.next (bn.loop {r with state:= .exhausted})).next=c.next:=rfl;omega
def al9(c9:gi P){ih:eP}(G:k5 P ih){f:gn}{params:fh Tmp}{assign body:mN}{m:I E}{e:sC}{a5:au af}{H':ai}{m':I E}(h:(F1 Z P ih f params assign body n T H m).out=O (e,a5,H',m'))
  (k:E) {Q:sC->Zq->du->Prop} (c:fS P B ρ n T H a w) (c7:gj ρ m a.defers) (J:Fr ρ H.next H'.next)
  (b1:∀K C w',fS P B K n a5 H' C w'->bV ρ H w K H' w'->gj K m' C.defers->Q e C w'):(Oz f params assign body).wpIn (eZ bs) k P Q a w:=by
 have g2:=XP Y G h;obtain⟨g,args,H2,S,h2⟩:=XN h;have c':=IZ S;obtain⟨v,H3,r,h3,h4,h5,h6⟩:=JV h2;have g1:=(Y ih G).mono _ _ _ _ _ h3;have e2:H2.next=H.next+2:=by rw[c'];rfl
 have c1:H3.next<=H'.next:=by
  rcases h6 with⟨_,_,_,rfl,_⟩|⟨a0,_,h7⟩
  .exact aC _
  .have:=G.mono _ _ _ _ _ _ _ _ _ _ h7;exact this
 refine wpIn_rangeFunc λfn _=>?_
 -- the two blocks
 have g3:ρ H.next=bs:=J _ (aC _) ω;obtain⟨p1,p2⟩:=kw c.H (λa1 x y=>J a1 x ω) 0 .deferred (.deferred (O [])) rfl;have a4:=p2.fr J;have a3:(H.new .deferred).next=H.next+1:=rfl;have c2:=c.T.mono p2.le;obtain⟨i,j⟩:∃i:Loop,i={state:= .ready,pending:=bs,fn,tmps:=a.tmps,params,assign,body,defers:=w.heap.size}:=⟨_,rfl⟩;obtain⟨V,M⟩:=kw p1 (λa1 x y=>a4 a1 x (by rw[a3]at y;omega)) 0 (.loop {tmps:=T,size:=n,params,assign,body,state:= .ready,pending:=bs}) (.loop i) ⟨i,rfl,by rw[j],by rw[j],by rw[j],by rw[j],by rw[j],by
  rw[j];exact c2.mono (Env.sA (a4 _ (aC _) (by rw[a3];omega)))⟩
 have u:=p2.trans M;rw[<-c']at V M u S;obtain⟨A,F6⟩:∃A,A=(ρ.put H.next w.heap.size 0).put (H.new .deferred).next (w.alloc (.deferred (O []))).heap.size 0:=⟨_,rfl⟩;rw[<-F6]at V M u;have b':A (H.next+1)=O (w.heap.size+1,0):=by rw[F6,<-a3,Env.eu];simp
 have c4:A H.next=O (w.heap.size,0):=by
  refine M.le _ _ ?_;rw[Env.eu]
 -- the function
 have F7:=(Cr c.T c.G f).mono u.le;obtain⟨F8,first,a9,b3⟩:=pu F7 S;have c3:aE A [af.yield (H.next+1)] [.func (.yield (w.heap.size+1)) #[] #[]]:= .cons (.yield b') .nil;have b2:=Nt (P:=P) (B:=B) (w:=(w.alloc (.deferred (O []))).alloc (.loop i)) (fv:=cF T f) c9 V F7 c3 (r:=(invoke (.fn F8 a9) (first++ #[.func (.yield (w.heap.size+1)) #[] #[]])).run P ((w.alloc (.deferred (O []))).alloc (.loop i)))
  (λg' f' e9 U=>by rw[b3]at U;cases U;rfl)
 rw[S]at b2;obtain⟨_,c0,e1,e3⟩:=b2;refine⟨w.heap.size+1,[{target:= .collected w.heap.size,args:= #[]}],(w.alloc (.deferred (O []))).alloc (.loop i),{target:= .fn F8 a9,args:=first++ #[.func (.yield (w.heap.size+1)) #[] #[]]},(w.alloc (.deferred (O []))).alloc (.loop i),g,c0.toArray,
  (w.alloc (.deferred (O []))).alloc (.loop i),?_,?_,λ_ _=>trivial,e1,(λU=>by cases U),?_⟩
 .rw[j];exact run_enterLoop_outer fn a.tmps params assign body
 .have d':∀v,a.eval (.const v)=v:=λ_=>rfl
  simp[WK,b3,â,d']
 .refine((Y ih G).dc g args H2 v H3 h3 B A c0 _ (k-1) V (c.G.mono u.le) e3 ((u.fr J).mono' c1)).mono ?_;rintro e0 w3 ⟨x,X,rfl,_,q1,L⟩;have F9:=L.le _ _ b';obtain⟨R,hb,q⟩:=Cw q1 h4 F9;have e':=run_endLoop (P:=P) hb (by rw[q.state];exact h5);obtain⟨a6,c5⟩:=pr q1 h4 F9 rfl (r:={r with state:= .exhausted}) (R:={R with state:= .exhausted}) ⟨rfl,q.pending,q.params,q.assign,q.body,q.tmps⟩;have z:=(u.trans L).trans c5;have b4:gj X (H.next::m) ([{target:= .collected w.heap.size,args:= #[]}]++a.defers):=⟨w.heap.size,0,a.defers,L.le _ _ c4,rfl,(c7.mono (u.trans L).le)⟩;have e7:∀a2,a2=r.pending->(match a2 with
    |none=>Q .normal {a with defers:=[{target:= .collected w.heap.size,args:= #[]}]++a.defers} (w3.putObj (w.heap.size+1) (.loop {R with state:= .exhausted}))
    |some a0=>a0.wpIn (eZ bs) k P Q {a with defers:=[{target:= .collected w.heap.size,args:= #[]}]++a.defers} (w3.putObj (w.heap.size+1) (.loop {R with state:= .exhausted}))):=by
   rintro a2 rfl;rcases h6 with⟨k1,rfl,rfl,rfl,rfl⟩|⟨a0,k1,h7⟩
   .rw[k1];exact b1 X {a with defers:=[{target:= .collected w.heap.size,args:= #[]}]++a.defers} _ ⟨c.T.mono z.le,a6,c.G.mono z.le⟩ z b4
   .rw[k1];refine G.dc _ _ _ _ _ _ _ _ _ _ h7 B X {a with defers:=[{target:= .collected w.heap.size,args:= #[]}]++a.defers} _ bs k Q trivial ⟨c.T.mono z.le,a6,c.G.mono z.le⟩ b4 (z.fr J) λK C w' r1 r2 r3=>b1 K C w' r1 (z.trans r2) r3
  exact⟨R.pending,_,e',e7 _ q.pending⟩
def amb(c7:gi P){ih:eP}(J:k5 P ih){i U b':E}(a4:ρ i=O (U,b')){f:gn}{params:fh Tmp}{assign body:mN}{m:I E}{e:sC}{a5:au af}{H':ai}{m':I E}(h:(F2 Z P ih i f params assign body n T H m).out=O (e,a5,H',m'))
  (k:E) {Q:sC->Zq->du->Prop} (c:fS P B ρ n T H a w) (c5:gj ρ m a.defers) (M:Fr ρ H.next H'.next)
  (b2:∀K C w',fS P B K n a5 H' C w'->bV ρ H w K H' w'->gj K m' C.defers->Q e C w'):(Oz f params assign body).wpIn (eZ (O U)) k P Q a w:=by
 have g4:=XQ Y J h;obtain⟨⟨g5,e9⟩,g,args,H2,L,h2⟩:=XO h;have c0:=IZ L;obtain⟨v,H3,r,h3,h4,h5,h6⟩:=JV h2;have g3:=(Y ih J).mono _ _ _ _ _ h3;have e2:H2.next=H.next+1:=by rw[c0];rfl
 have c2:H3.next<=H'.next:=by
  rcases h6 with⟨_,_,_,rfl,_⟩|⟨a1,_,h7⟩
  .exact aC _
  .have:=J.mono _ _ _ _ _ _ _ _ _ _ h7;exact this
 refine wpIn_rangeFunc λfn _=>?_
 obtain⟨R0,f',_⟩:=Cw c.H e9 a4
 -- the block
 have e1:ρ H.next=bs:=M _ (aC _) ω;obtain⟨j,u⟩:∃j:Loop,j={state:= .ready,pending:=bs,fn,tmps:=a.tmps,params,assign,body,defers:=R0.defers}:=⟨_,rfl⟩;obtain⟨V,a2⟩:=kw c.H (λi x y=>M i x ω) 0 (.loop {tmps:=T,size:=n,params,assign,body,state:= .ready,pending:=bs}) (.loop j) ⟨j,rfl,by rw[u],by rw[u],by rw[u],by rw[u],by rw[u],by
  rw[u];exact c.T.mono (Env.sA e1)⟩
 have A:=a2;rw[<-c0]at V a2 A L;obtain⟨G,F6⟩:∃G,G=ρ.put H.next w.heap.size 0:=⟨_,rfl⟩;rw[<-F6]at V a2 A;have b1:G H.next=O (w.heap.size,0):=by rw[F6,Env.eu]
 -- the function
 have F7:=(Cr c.T c.G f).mono A.le;obtain⟨F8,first,a9,b4⟩:=pu F7 L;have c3:aE G [af.yield H.next] [.func (.yield w.heap.size) #[] #[]]:= .cons (.yield b1) .nil;have b3:=Nt (P:=P) (B:=B) (w:=w.alloc (.loop j)) (fv:=cF T f) c7 V F7 c3 (r:=(invoke (.fn F8 a9) (first++ #[.func (.yield w.heap.size) #[] #[]])).run P (w.alloc (.loop j)))
  (λg2 g1 g' S=>by rw[b4]at S;cases S;rfl)
 rw[L]at b3;obtain⟨_,c1,e',e3⟩:=b3;refine⟨w.heap.size,[],w.alloc (.loop j),{target:= .fn F8 a9,args:=first++ #[.func (.yield w.heap.size) #[] #[]]},w.alloc (.loop j),g,c1.toArray,
  w.alloc (.loop j),?_,?_,λ_ _=>trivial,e',(λS=>by cases S),?_⟩
 .rw[u];exact run_enterLoop_inner f' fn a.tmps params assign body
 .have c9:∀v,a.eval (.const v)=v:=λ_=>rfl
  simp[WK,b4,â,c9]
 .refine((Y ih J).dc g args H2 v H3 h3 B G c1 _ (k-1) V (c.G.mono A.le) e3 ((A.fr M).mono' c2)).mono ?_;rintro e0 w3 ⟨x,X,rfl,_,q1,a0⟩;have F9:=a0.le _ _ b1;obtain⟨R,hb,z⟩:=Cw q1 h4 F9;have d':=run_endLoop (P:=P) hb (by rw[z.state];exact h5);obtain⟨a6,c4⟩:=pr q1 h4 F9 rfl (r:={r with state:= .exhausted}) (R:={R with state:= .exhausted}) ⟨rfl,z.pending,z.params,z.assign,z.body,z.tmps⟩;have q:=(A.trans a0).trans c4;have c':gj X m a.defers:=c5.mono (A.trans a0).le;have e7:∀a3,a3=r.pending->(match a3 with
    |none=>Q .normal a (w3.putObj w.heap.size (.loop {R with state:= .exhausted}))
    |some a1=>a1.wpIn (eZ (O U)) k P Q a (w3.putObj w.heap.size (.loop {R with state:= .exhausted}))):=by
   rintro a3 rfl;rcases h6 with⟨k1,rfl,rfl,rfl,rfl⟩|⟨a1,k1,h7⟩
   .rw[k1];exact b2 X a _ ⟨c.T.mono q.le,a6,c.G.mono q.le⟩ q c'
   .rw[k1];refine J.dc _ _ _ _ _ _ _ _ _ _ h7 B X a _ (O U) k Q ⟨b',q.le _ _ a4⟩ ⟨c.T.mono q.le,a6,c.G.mono q.le⟩ c' (q.fr M) λK C w' r1 r2 r3=>b2 K C w' r1 (q.trans r2) r3
  exact⟨R.pending,_,d',e7 _ z.pending⟩
end
def PN{ih:eP}(r:k5 P ih){c:mN}{z:da E}:∀(j:E){T:au af}{H:ai}{m:I E}{e:sC}{q:au af}{H':ai}{u:I E},(iter (ih c n z) j T H m).out=O (e,q,H',u)->H.next<=H'.next
 |0,_,_,_,_,_,_,_,h=>by cases h
 |j+1,T,H,m,e,q,H',u,h=>by
  obtain⟨L,C,K,J,G,M,A,f⟩:=Vp (j+1) h;cases C;have i:=r.mono _ _ _ _ _ _ _ _ _ _ A;rcases f with⟨_,f⟩|⟨_,_,_,rfl,_⟩
  .exact cD i (PN r j f)
  .exact i
def XS{ih:eP}(u:k5 P ih){c:mN}{A:da E}{rd:da E}{k:E}{Q:sC->Zq->du->Prop}:∀(j:E){ρ:Env}{T:au af}{H:ai}{m:I E}{a:Zq}{w:du}{e:sC}{r:au af}{H':ai}{z:I E},
  (iter (ih c n A) j T H m).out=O (e,r,H',z)->F4 ρ A rd->fS P B ρ n T H a w->gj ρ m a.defers->Fr ρ H.next H'.next->
  (∀q i w',fS P B q n r H' i w'->bV ρ H w q H' w'->gj q z i.defers->Q e i w')->mN.roundsIn (eZ rd) k P c Q j a w
 |0,_,_,_,_,_,_,_,_,_,_,h,_,_,_,_,_=>by cases h
 |j+1,ρ,T,H,m,a,w,e,r,H',z,h,J,V,a2,G,C=>by
  obtain⟨j',a3,e1,T1,M,m1,h1,f⟩:=Vp (j+1) h;cases a3;have a4:M.next<=H'.next:=by
   rcases f with⟨_,f⟩|⟨_,_,_,rfl,_⟩
   .exact PN u j f
   .exact aC _
  refine u.dc _ _ _ _ _ _ _ _ _ _ h1 B ρ a w rd k _ J V a2 (G.mono' a4) λa0 S w1 K r2 L=>?_
  rcases f with⟨rfl,f⟩|⟨a5,rfl,rfl,rfl,rfl⟩
  .exact XS u j f (J.mono r2.le) K L (r2.fr G) λq i w' q1 U X=>C q i w' q1 (r2.trans U) X
  .exact ahj a5 (C a0 S w1 K r2 L)
def XT{draw:sw}{ih:eP}{x:mN}{c:da E}{m:I E}:JT Z (.loop x) P draw ih n c T H m=iter (ih x n c) rounds T H m:=by
 unfold JT;simp only[XH]
def amc(a0:∀ih,k5 P ih->bI P (Z ih))(a6:gi P){draw:sw}(a9:∀d,zY P d (draw d)){ih:eP}(f:k5 P ih):k5 P (λC=>JT Z C P draw ih) where
 mono C n e T H m S M J X h:=by
  have a3:=a0 ih f;have a4:=XK f;cases C with
  |skip=>cases h;exact aC _
  |label l=>cases h;exact aC _
  |exit id=>cases h;exact aC _
  |goto l=>cases h;exact aC _
  |ret=>cases h;exact aC _
  |refuse c2=>cases h
  |region id ops d=>
   obtain⟨h1,_,_⟩:=I0 h;exact(a9 d).mono _ _ a3 a4 _ _ _ _ _ _ h1
  |seq x y=>
   have h:(@R.rec (λ_=>R) .no (λT H m=>ih y n e T H m) .exit .goto .ret (ih x n e T H m)).out=O (S,M,J,X):=h;cases c:ih x n e T H m with
   |no=>rw[c]at h;cases h
   |normal j i q=>rw[c]at h;exact cD (f.mono x n e T H m _ _ _ _ (by rw[c];rfl)) (f.mono _ _ _ _ _ _ _ _ _ _ h)
   |exit id j i q=>rw[c]at h;cases h;exact f.mono x n e T H m _ _ _ _ (by rw[c];rfl)
   |goto l j i q=>rw[c]at h;cases h;exact f.mono x n e T H m _ _ _ _ (by rw[c];rfl)
   |ret j i q=>rw[c]at h;cases h;exact f.mono x n e T H m _ _ _ _ (by rw[c];rfl)
  |cond C x y=>
   have h:(@o5.rec (λ_=>R) .no (λb=>@jh (λ_=>R) (ih y n e T H m) (ih x n e T H m) b) (iX (cF T C))).out=O (S,M,J,X):=h;cases hb:iX (cF T C)with
   |no=>rw[hb]at h;cases h
   |mk b=>rw[hb]at h;cases b<;>exact f.mono _ _ _ _ _ _ _ _ _ _ h
  |block id x=>
   have h:(@R.rec (λ_=>R) .no .normal (λK T H m=>@jh (λ_=>R) (.exit K T H m) (.normal T H m) (dd K id)) .goto .ret (ih x n e T H m)).out=O (S,M,J,X):=h;cases c:ih x n e T H m with
   |no=>rw[c]at h;cases h
   |normal j i q=>rw[c]at h;cases h;exact f.mono x n e T H m _ _ _ _ (by rw[c];rfl)
   |exit K j i q=>
    rw[c]at h;simp only at h;cases hb:dd K id with
    |true=>rw[hb]at h;cases h;exact f.mono x n e T H m _ _ _ _ (by rw[c];rfl)
    |false=>rw[hb]at h;cases h;exact f.mono x n e T H m _ _ _ _ (by rw[c];rfl)
   |goto l j i q=>rw[c]at h;cases h;exact f.mono x n e T H m _ _ _ _ (by rw[c];rfl)
   |ret j i q=>rw[c]at h;cases h;exact f.mono x n e T H m _ _ _ _ (by rw[c];rfl)
  |loop x=>rw[XT]at h;exact PN f rounds h
  |rangeFunc b4 ps x y=>
   cases e with
   |some K=>have:=XQ a0 f (P:=P) h;omega
   |none=>have:=XP a0 f (P:=P) h;omega
  |scope x=>
   have h:(@R.rec (λ_=>R) .no .normal .exit (λ_ _ _ _=>.no) .ret (ih x n e T H m)).out=O (S,M,J,X):=h;cases c:ih x n e T H m with
   |no=>rw[c]at h;cases h
   |normal j i q=>rw[c]at h;cases h;exact f.mono x n e T H m _ _ _ _ (by rw[c];rfl)
   |exit id j i q=>rw[c]at h;cases h;exact f.mono x n e T H m _ _ _ _ (by rw[c];rfl)
   |goto l j i q=>rw[c]at h;cases h
   |ret j i q=>rw[c]at h;cases h;exact f.mono x n e T H m _ _ _ _ (by rw[c];rfl)
 dc C n e T H m S M J X h B ρ a w rd k Q V z G U r:=by
  have a3:=a0 ih f;have a4:=XK f;have L:∀{x:mN}{e1 j i q},(ih x n e T H m).out=O (e1,j,i,q)->i=J->∀Q':sC->Zq->du->Prop,(∀A u w',fS P B A n j i u w'->bV ρ H w A i w'->gj A q u.defers->Q' e1 u w')->x.wpIn (eZ rd) k P Q' a w:=
   λh1 a5 Q' c1=>f.dc _ _ _ _ _ _ _ _ _ _ h1 B ρ a w rd k Q' V z G (by rw[a5];exact U) c1
  cases C with
  |skip=>cases h;exact wpIn_skip (r ρ a w z (bV.refl _ _ _) G)
  |label l=>cases h;exact wpIn_label (r ρ a w z (bV.refl _ _ _) G)
  |exit id=>cases h;exact wpIn_exit (r ρ a w z (bV.refl _ _ _) G)
  |goto l=>cases h;exact wpIn_goto (r ρ a w z (bV.refl _ _ _) G)
  |ret=>cases h;exact wpIn_ret (r ρ a w z (bV.refl _ _ _) G)
  |refuse c2=>cases h
  |region id ops d=>
   obtain⟨h1,rfl,rfl⟩:=I0 h;have b':∀A u w',fS P B A n M J u w'->bV ρ H w A J w'->u.defers=a.defers->Q .normal u w':=λA u w' r1 r2 r3=>r A u w' r1 r2 (by rw[r3];exact G.mono r2.le)
   exact(a9 d).dc _ _ a3 a4 id _ _ _ _ _ _ h1 B ρ a w rd k Q z U b'
  |seq x y=>
   have h:(@R.rec (λ_=>R) .no (λT H m=>ih y n e T H m) .exit .goto .ret (ih x n e T H m)).out=O (S,M,J,X):=h;refine wpIn_seq ?_;cases c:ih x n e T H m with
   |no=>rw[c]at h;cases h
   |normal j i q=>
    rw[c]at h;have c':=f.mono _ _ _ _ _ _ _ _ _ _ h;refine f.dc x n e T H m _ _ _ _ (by rw[c];rfl) B ρ a w rd k _ V z G (U.mono' c') λb3 a1 w1 r1 r2 r3=>?_
    exact f.dc _ _ _ _ _ _ _ _ _ _ h B b3 a1 w1 rd k Q (V.mono r2.le) r1 r3 (r2.fr U) λA u w' q1 b1 b2=>r A u w' q1 (r2.trans b1) b2
   |exit id j i q=>rw[c]at h;cases h;exact L (x:=x) (by rw[c];rfl) rfl _ r
   |goto l j i q=>rw[c]at h;cases h;exact L (x:=x) (by rw[c];rfl) rfl _ r
   |ret j i q=>rw[c]at h;cases h;exact L (x:=x) (by rw[c];rfl) rfl _ r
  |cond C x y=>
   have h:(@o5.rec (λ_=>R) .no (λb=>@jh (λ_=>R) (ih y n e T H m) (ih x n e T H m) b) (iX (cF T C))).out=O (S,M,J,X):=h;cases hb:iX (cF T C)with
   |no=>rw[hb]at h;cases h
   |mk b=>
    rw[hb]at h;have a2:=Cr z.T z.G C;rw[pj hb]at a2;refine wpIn_cond a2.cu ?_;cases b
    .exact f.dc _ _ _ _ _ _ _ _ _ _ h B ρ a w rd k Q V z G U r
    .exact f.dc _ _ _ _ _ _ _ _ _ _ h B ρ a w rd k Q V z G U r
  |block id x=>
   have h:(@R.rec (λ_=>R) .no .normal (λK T H m=>@jh (λ_=>R) (.exit K T H m) (.normal T H m) (dd K id)) .goto .ret (ih x n e T H m)).out=O (S,M,J,X):=h;refine wpIn_block ?_;cases c:ih x n e T H m with
   |no=>rw[c]at h;cases h
   |normal j i q=>rw[c]at h;cases h;exact L (x:=x) (by rw[c];rfl) rfl _ r
   |exit K j i q=>
    rw[c]at h;simp only at h;cases hb:dd K id with
    |true=>
     rw[hb]at h;cases h;have:=ac hb;subst this;exact L (x:=x) (by rw[c];rfl) rfl _ λA u w' r1 r2 r3=>by simp only[sC.inBlock,if_true];exact r A u w' r1 r2 r3
    |false=>
     rw[hb]at h;cases h;have c0:K≠id:=λa5=>by subst a5;rw[zX]at hb;cases hb
     exact L (x:=x) (by rw[c];rfl) rfl _ λA u w' r1 r2 r3=>by simp only[sC.inBlock,db c0];exact r A u w' r1 r2 r3
   |goto l j i q=>rw[c]at h;cases h;exact L (x:=x) (by rw[c];rfl) rfl _ r
   |ret j i q=>rw[c]at h;cases h;exact L (x:=x) (by rw[c];rfl) rfl _ r
  |loop x=>rw[XT]at h;exact wpIn_loop_rounds rounds (XS f rounds h V z G U r)
  |rangeFunc b4 ps x y=>
   cases e with
   |some K=>
    cases rd with
    |some l=>obtain⟨C,a2⟩:=V;exact amb a0 a6 f a2 h k z G U r
    |none=>exact V.elim
   |none=>
    cases rd with
    |some l=>exact V.elim
    |none=>exact al9 a0 a6 f h k z G U r
  |scope x=>
   have h:(@R.rec (λ_=>R) .no .normal .exit (λ_ _ _ _=>.no) .ret (ih x n e T H m)).out=O (S,M,J,X):=h;refine NG ?_;cases c:ih x n e T H m with
   |no=>rw[c]at h;cases h
   |normal j i q=>rw[c]at h;cases h;exact L (x:=x) (by rw[c];rfl) rfl _ r
   |exit id j i q=>rw[c]at h;cases h;exact L (x:=x) (by rw[c];rfl) rfl _ r
   |goto l j i q=>rw[c]at h;cases h
   |ret j i q=>rw[c]at h;cases h;exact L (x:=x) (by rw[c];rfl) rfl _ r
def JW(i:∀ih,k5 P ih->bI P (Z ih))(c:gi P){draw:sw}(e:∀d,zY P d (draw d)):∀j,k5 P (F3 Z P draw j)
 |0=>⟨(λ_ _ _ _ _ _ _ _ _ _ h=>by cases h),(λ_ _ _ _ _ _ _ _ _ _ h=>by cases h)⟩
 |f+1=>amc i c e (JW i c e f)
end
end Go.Proofs.YtdajfemhnlpegaaGreatDoor.Sv
namespace Go.Proofs.YtdajfemhnlpegaaGreatDoor
open Go.RowKit Sv Go.Proofs.Tryz
structure qE(w:du)(b r:E)(es:fh rb)(clock:E)(rem:I rb):Prop where
 m:w.heap[b]? =O (.map es clock)
 it:∃seen c0,w.heap[r]? =O (.mapIter (O b) clock seen c0)/\clock<=c0/\(Ó es seen).toList=rem
def XU(e:rb):∀{l:I rb},(l.map (·.born)).Nodup->e∈l->l.Perm (e::l.filter λx=>x.born != e.born)
 |[],_,h=>by cases h
 |x::l,c,h=>by
  rw[Li,I.nodup_cons]at c;by_cases i:x.born=e.born
  .have m:x=e:=by
    rcases cQ.1 h with h|h
    .exact h.symm
    .exact absurd (rK.2 ⟨e,h,i.symm⟩) c.1
   subst m;have:l.filter (λy=>y.born != x.born)=l:=I.filter_eq_self.2 λy j=>by
    rw[eX];intro f;exact c.1 (rK.2 ⟨y,j,f⟩)
   rw[Z5,db τ,this]
  .have f:e∈l:=by
    rcases cQ.1 h with h|h
    .exact absurd (by rw[h]) i
    .exact h
   rw[Z5,dA (by simpa using i)];exact((XU e c.2 f).cons x).trans (I.Perm.swap _ _ _)
def amd(c:fh rb)(seen:fh E)(k:E):(Ó c (seen.push k)).toList=(Ó c seen).toList.filter λx=>x.born != k:=by
 unfold Ó;rw[DD,DD,I.filter_filter];refine I.filter_congr λx _=>?_
 rw[contains_push];cases seen.contains x.born<;>simp[bne]
def qE.next{P:fd}{w:du}{b r:E}{f:fh rb}{c:E}{z:I rb}(M:∀x∈f.toList,x.born<c)(K:(f.toList.map (·.born)).Nodup)(h:qE w b r f c z)(ty:ed):
  (z=[]/\(HN (.pointer (O ⟨r,0,bs⟩)) ao ty).run P w=.ok (.tuple #[.bool ao]) w)\/
  ∃e L w',z.Perm (e::L)/\e∈f.toList/\(HN (.pointer (O ⟨r,0,bs⟩)) ao ty).run P w=.ok (.tuple #[.bool D,e.key,e.val]) w'/\qE w' b r f c L/\w.grownBy w' (O r)/\w'.heap.size=w.heap.size/\
   (í (.pointer (O ⟨r,0,bs⟩))).run P w'=.ok (.tuple #[e.key,e.val]) w':=by
 obtain⟨hb,seen,C,m,X,rfl⟩:=h;have z:b≠r:=λe=>by subst e;rw[hb]at m;cases m
 rcases run_next_at (P:=P) w ty r b c C seen f c m hb M X with⟨V,u⟩|⟨e,j,A,i,u⟩
 .exact .inl ⟨by rw[fh.eq_empty_of_size_eq_zero V],u⟩
 .have J:e∈f.toList:=by
   unfold Ó at j;rw[DD]at j;exact(xF.1 j).1
  have L:((Ó f seen).toList.map (·.born)).Nodup:=by
   unfold Ó;rw[DD];exact(I.filter_sublist.map _).nodup K
  have G:A.heap[r]? =O (.mapIter (O b) c seen C):=by rcases i with rfl |rfl<;>exact m
  have S:A.heap[b]? =O (.map f c):=by rcases i with rfl |rfl<;>exact hb
  have q:=MapKept.heap_set (o':= .mapIter (O b) c (seen.push e.born) c) G;have G:(QE A r (.mapIter (O b) c (seen.push e.born) c)).heap[b]? =O (.map f c):=(q.2 b z).trans S;refine .inr ⟨e,_,_,XU e L j,J,u,⟨G,_,_,q.1,aC _,amd f seen e.born⟩,?_,?_,run_entry_at _ r b c seen f c e q.1 G J K⟩
  .rcases i with rfl |rfl<;>exact⟨rfl,rfl,rfl,by simp[QE],λf _ c=>q.2 f (λU=>c (by rw[U]))⟩
  .rcases i with rfl |rfl<;>simp[QE]
def qE.kept{w w':du}{b r:E}{e:fh rb}{c:E}{f:I rb}(h:qE w b r e c f)(i:w'.heap[b]? =w.heap[b]?)(j:w'.heap[r]? =w.heap[r]?):qE w' b r e c f:=
 ⟨by rw[i];exact h.m,by rw[j];exact h.it⟩
section
variable{F:wI}{n:E}{P:fd}(w:du){ops:fh ls}{rest:I ls}{o:ls}{a:Zq}{Q:sC->Zq->du->Prop}
def AO(w:du)(o:Obj){r:E}(h:r<w.heap.size):(w.alloc o).heap[r]? =w.heap[r]? :=by
 show(w.heap.push o)[r]? =_;rw[fh.getElem?_push,db ω]
def ame(u:o.guard=bs)(m:gn)(t:ed)(i:o.op=Op.range t m)(k e:ed)(J:P.underlying t=O (.map k e))(b:E)(f:fh rb)(c:E)(A:a.eval m=.map (O b))(hb:w.heap[b]? =O (.map f c))(r:E)(C:w.heap.size=r)
  (j:qE (w.alloc (.mapIter (O b) c #[] c)) b r f c f.toList->ì F n P ops Q rest (a.put o.dst (.pointer (O ⟨r,0,bs⟩))) (w.alloc (.mapIter (O b) c #[] c))):
  ì F n P ops Q (o::rest) a w:=by
 subst C;refine wpListIn_plain u λL q=>?_
 have G:=run_range_map (P:=P) w t k e b f c J hb;have z:b<w.heap.size:=(cy.1 hb).1;unfold ls.wpIn;refine⟨?_,?_⟩
 .simp[ls.about,i]
 .rw[ls.semAt_plain F _ _ (by rw[i];intro M K;cases K)];simp[gy,i,A,G,Q7];refine q _ _ (j ⟨(AO w _ z).trans hb, #[],c,Sd w _,aC _,?_⟩);unfold Ó;rw[DD];exact I.filter_eq_self.2 λx _=>by simp
def amf(V:o.guard=bs)(it:gn)(f:o.op=Op.next it ao)(b r:E)(c:fh rb)(j:E)(q:I rb)(z:∀x∈c.toList,x.born<j)(X:(c.toList.map (·.born)).Nodup)
  (hit:a.eval it=.pointer (O ⟨r,0,bs⟩)) (h:qE w b r c j q) (S:q=[]->ì F n P ops Q rest (a.put o.dst (.tuple #[.bool ao])) w)
  (U:∀e i w',q.Perm (e::i)->e∈c.toList->qE w' b r c j i->w.grownBy w' (O r)->w'.heap.size=w.heap.size->(í (.pointer (O ⟨r,0,bs⟩))).run P w'=.ok (.tuple #[e.key,e.val]) w'->
    ì F n P ops Q rest (a.put o.dst (.tuple #[.bool D,e.key,e.val])) w'):
  ì F n P ops Q (o::rest) a w:=by
 refine wpListIn_plain V λc u=>?_
 unfold ls.wpIn;refine⟨by simp[ls.about,f],?_⟩;rw[ls.semAt_plain F _ _ (by rw[f];intro j c;cases c)];rcases h.next (P:=P) z X o.type with⟨M,m⟩|⟨e,i,w',A,C,m,G,J,K,L⟩
 .simp[gy,f,hit,m,Q7];exact u _ _ (S M)
 .simp[gy,f,hit,m,Q7];exact u _ _ (U e i w' A C G J K L)
end
end Go.Proofs.YtdajfemhnlpegaaGreatDoor
namespace Go.Proofs.YtdajfemhnlpegaaGreatDoor
open Go.RowKit
def Row(w:du)(B:E)(A:da wu)(vs:I Value):Prop:=
 vs=[]\/∃b c,A=O ⟨b,c,bs⟩/\b<B/\∀i,i<vs.length->w.cell? ⟨b,c+i,bs⟩=O (vs.getD i (.bool ao))
def Row.nil{w:du}{B:E}{A:da wu}:Row w B A []:= .inl rfl
def Row.open{w:du}{B:E}{A:da wu}{vs:I Value}(h:Row w B A vs)(e:0<vs.length):
  ∃b c,A=O ⟨b,c,bs⟩/\b<B/\∀i,i<vs.length->w.cell? ⟨b,c+i,bs⟩=O (vs.getD i (.bool ao)):=by
 rcases h with rfl |h
 .simp at e
 .exact h
def Row.below{w w':du}{B c:E}{A:da wu}{vs:I Value}(h:Row w B A vs)(hb:Below c w w')(q:B<=c):Row w' B A vs:=by
 rcases h with rfl |⟨b,e,rfl,m,f⟩
 .exact .inl rfl
 .exact .inr ⟨b,e,rfl,m,λi j=>(hb.cell (p:=⟨b,e+i,bs⟩) (by simp;omega)).trans (f i j)⟩
def Row.more{w:du}{B c:E}{A:da wu}{vs:I Value}(h:Row w B A vs)(i:B<=c):Row w c A vs:=by
 rcases h with rfl |⟨b,f,rfl,j,e⟩
 .exact .inl rfl
 .exact .inr ⟨b,f,rfl,by omega,e⟩
def Row.drewN{w:du}{B:E}{A:da wu}{vs:I Value}(h:Row w B A vs)(k:E):Row (w.drewN k) B A vs:=h
def Row.drew{w:du}{B:E}{A:da wu}{vs:I Value}(h:Row w B A vs):Row w.drew B A vs:=h
def Row.alloc{w:du}{B:E}{A:da wu}{vs:I Value}(h:Row w B A vs)(c:B<=w.heap.size)(o:Obj):Row (w.alloc o) B A vs:=
 h.below ((qg B w).alloc c o) (aC _)
def Row.amg{w:du}{m:E}{e:ed}{n j:E}{v:Value}{vs:I Value}(h:w.ownsRow m e j v n vs):
  ∃A q,v=.slice A n q/\vs.length=n*j/\Row w w.heap.size A vs:=by
 have z:=h.lt;have u:= @du.ownsRow.cells _ _ _ _ _ _ _ h;rcases h with⟨c,⟨rfl,rfl⟩|⟨g,r,cur,rfl,h3⟩⟩
 .obtain rfl:vs=[]:=ix (by simpa using c);exact⟨bs,0,rfl,c,.nil⟩
 .refine⟨O ⟨g,0,bs⟩,r,rfl,c,.inr ⟨g,0,rfl,(z g rfl).2,λi f=>?_⟩⟩;have h:=u (g:=g) rfl i vs[i] (iw f);have e:(⟨g,0,bs⟩:wu).add i=⟨g,0+i,bs⟩:=by
   rcases Hi i with rfl |hp
   .rfl
   .simp[wu.add];omega
  rw[e]at h;rw[h,ap,iw f];rfl
def Row.new(w:du)(e:ed)(vs:I Value):Row (w.alloc (.cells vs.toArray e)) (w.heap.size+1) (O ⟨w.heap.size,0,bs⟩) vs:=
 .inr ⟨w.heap.size,0,rfl,by omega,λi c=>by
   rw[du.cell?_alloc_at _ _ _ _ rfl];simp[ap,c]⟩
def Row.int{w:du}{B:E}{A:da wu}{xs:I N}(h:Row w B A (xs.map (Value.int .i64)))(k:E)(e:k<xs.length):
  ∃b c x,A=O ⟨b,c,bs⟩/\b<B/\xs[k]? =O x/\w.cell? ⟨b,c+k,bs⟩=O (.int .i64 x):=by
 obtain⟨b,c,f,i,h3⟩:=h.open (by simp;omega);refine⟨b,c,xs[k],f,i,iw e,?_⟩;rw[h3 k (by simpa using e)];simp[ap,e]
def bH(w:du)(g:E)(t:ed)(cs:fh Value):Prop:=w.heap[g]? =O (.cells cs t (0,0))
section
variable{w w':du}{g:E}{t:ed}{cs:fh Value}
def bH.lt(h:bH w g t cs):g<w.heap.size:=by
 rcases E.lt_or_ge g w.heap.size with e|c
 .exact e
 .unfold bH at h;rw[QN c]at h;cases h
def bH.cell(h:bH w g t cs)(i:E):w.cell? ⟨g,i,bs⟩=cs[i]? :=Ì w g i cs t (0,0) h
def bH.frozen(h:bH w g t cs)(i:E):w.frozen? ⟨g,i,bs⟩=ao:=by
 unfold bH at h;simp[du.frozen?,h]
def bH.new(w:du)(t:ed)(cs:fh Value):bH (w.alloc (.cells cs t)) w.heap.size t cs:=Sd w _
def bH.new'(w:du)(t:ed)(cs:fh Value)(n:E)(h:n=w.heap.size):bH (w.alloc (.cells cs t)) n t cs:=by subst h;exact Sd w _
def bH.drew(h:bH w g t cs):bH w.drew g t cs:=h
def bH.drewN(h:bH w g t cs)(n:E):bH (w.drewN n) g t cs:=h
def bH.alloc(h:bH w g t cs)(o:Obj):bH (w.alloc o) g t cs:=(I' w o g h.lt).trans h
def bH.below{B:E}(h:bH w g t cs)(hb:Below B w w')(c:g<B):bH w' g t cs:=(hb.block g c).trans h
def bH.set(h:bH w g t cs)(i:E)(u:Value):bH (w.setCell ⟨g,i,bs⟩ u) g t (cs.setIfInBounds i u):=by
 unfold bH at h ⊢;simp[du.setCell,Hh,h]
def bH.hU(h:bH w g t cs){p:wu}(c:g≠p.block)(u:Value):bH (w.setCell p u) g t cs:=(YW w p u g c).trans h
end
end Go.Proofs.YtdajfemhnlpegaaGreatDoor
namespace Go.Proofs.YtdajfemhnlpegaaGreatDoor
open Go.RowKit Sv Go.Proofs.Tryz
def Tryz.JX:(prog.info? 3).map (λi=>(i.zero,i.size,i.bytes))=O (O (.int .i64 0),1,8):=by kernel_rfl
noncomputable def yx:=NO f98
structure amh(yv:Value)(cc s4:E)(w:du)(ks:I N)(a':Zq)(W:du):Prop where
 size:a'.tmps.size=48
 t0:a'.tmps.getD 0 lk=yv
 t1:a'.tmps.getD 1 lk=.pointer (O ⟨cc,0,bs⟩)
 t2:a'.tmps.getD 2 lk=.pointer (O ⟨s4,0,bs⟩)
 t3:a'.tmps.getD 3 lk=.pointer (O ⟨w.heap.size,0,bs⟩)
 t4:a'.tmps.getD 4 lk=.pointer (O ⟨w.heap.size+1,0,bs⟩)
 un:∀t,t<48->t∉[0,1,2,3,4,5,10,11,12,13,14,15,16,17,18,19,20,21]->a'.tmps.getD t lk=lk
 df:a'.defers=[]
 b3:W.heap[w.heap.size]? =O (.cells #[yv] 103 (0,0))
 b4:∃v,W.heap[w.heap.size+1]? =O (.cells #[v] 98 (0,0))/\W.ownsRow (w.heap.size+3) 3 1 v ks.length (b9 (ks.mergeSort λx y=>decide (x<=y)))
 gr:w.grownBy W bs
structure ami(yv:Value)(w:du)(b:E)(es:fh rb)(clock:E)(ks:I N)(wr:du)(v:Value)(ss:I N)(rem:I rb):Prop where
 rg:qE wr b (w.heap.size+2) es clock rem
 pm:(b9 ss++rem.map (·.key)).Perm (b9 ks)
 b3:wr.heap[w.heap.size]? =O (.cells #[yv] 103 (0,0))
 b4:wr.heap[w.heap.size+1]? =O (.cells #[v] 98 (0,0))
 own:wr.ownsRow (w.heap.size+3) 3 1 v ss.length (b9 ss)
 gr:w.grownBy wr bs
 sz:w.heap.size+3<=wr.heap.size
def amj{a b:I N}(h:a.Perm b):(a.mergeSort λx y=>decide (x<=y))=b.mergeSort λx y=>decide (x<=y):=by
 have c:∀x y z:N,bP (x<=y)=D->bP (y<=z)=D->bP (x<=z)=D:=λx y z f i=>by rw[aN]at*;omega
 have e:∀x y:N,(bP (x<=y)||decide (y<=x))=D:=λx y=>by rw[qh,aN,aN];omega
 refine Va (le:=λx y=>decide (x<=y)=D) (λx y _ _ f i=>by rw[aN]at*;omega) (QK c e a) (QK c e b) ?_;exact(WX a _).trans (h.trans (WX b _).symm)
def amk{a b:I N}(h:(b9 a).Perm (b9 b)):a.Perm b:=by
 have c:=h.map (λv:Value=>match v with |.int _ n=>n|_=>0);have e:∀l:I N,(b9 l).map (λv:Value=>match v with |.int _ n=>n|_=>0)=l:=λl=>by
  unfold b9;rw[I.map_map];exact I.map_id' l
 rwa[e,e]at c
def Df{w w':du}{c f n:E}{e:ed}{v:Value}{vs:I Value}(h:w.ownsRow c e f v n vs)(m:∀b,O b=v.ownBlock->w'.heap[b]? =w.heap[b]?):w'.ownsRow c e f v n vs:=by
 refine⟨h.1,?_⟩;rcases h.2 with q|⟨g,i,cur,rfl,r,j,rest⟩
 .exact .inl q
 .exact .inr ⟨g,i,cur,rfl,r,(m g rfl).trans j,rest⟩
def mf{w:du}{c i n:E}{e:ed}{v:Value}{vs:I Value}(h:w.ownsRow c e i v n vs):∃A f,v=.slice A n f:=by
 rcases h.2 with⟨rfl,rfl⟩|⟨g,j,cur,rfl,_⟩
 .exact⟨_,_,rfl⟩
 .exact⟨_,_,rfl⟩
def qE.left{w:du}{b r:E}{f:fh rb}{e:E}{c:I rb}(h:qE w b r f e c):w.rangeLeft b r=c.length:=by
 obtain⟨seen,j,i,_,h3⟩:=h.it;unfold du.rangeLeft;rw[h.m,i];simp only;rw[<-h3,KQ]
def Dg{n m:E}{P:fd}{f:ya}{args:fh Value}{w:du}{R:Ending->du->Prop}(h:GC pI n P f args w R):GC pI m P f args w R:=wQ.2 (wQ.1 h)
def aml{w:du}{b:E}{o:E}{v:Value}(h:w.cell? ⟨b,o,bs⟩=O v):b<w.heap.size:=by
 unfold Hf at h;cases hb:w.heap[b]? with
 |none=>simp[hb]at h
 |some x=>exact(cy.1 hb).1
set_option maxRecDepth 100000 in
set_option maxHeartbeats 4000000 in
def XV(m cP:E)(cc s4 b:E)(es:fh rb)(clock:E)(ks:I N)(w:du)(R:Ending->du->Prop)(x0:w.cell? ⟨cc,0,bs⟩=O (.map (O b)))(hb:w.heap[b]? =O (.map es clock))
  (De:∀x∈es.toList,x.born<clock) (hn:(es.toList.map (·.born)).Nodup) (hk:es.toList.map (·.key)=b9 ks) (hsz:ks.length<=100000)
  (hK:∀a' W,amh (.func (.yield cP) #[] #[]) cc s4 w ks a' W->(cat yx [1,1,1,1]).wpIn pI m em (bodyPostM pI m em f98 R) a' W):
  GC pI m em 98 #[.func (.yield cP) #[] #[],.pointer (O ⟨cc,0,bs⟩),.pointer (O ⟨s4,0,bs⟩)] w R:=by
 have yy:=Lib.hid hK;have amm:=Lib.hid De;have wV:=Lib.hid hn;have XW:=Lib.hid hk;have gK:b<w.heap.size:=(cy.1 hb).1;have rH:=Lib.hid hb;have aDY:cc<w.heap.size:=aml x0;obtain⟨i0,lX,AP,Dh,Ga⟩:=info_parts Tryz.JX;clear hK De hn hk hb;refine Ã func98 rfl trivial ?_;simp only[Tryz.ntmps98,I.size_toArray,la,IJ,E.reduceAdd,E.reduceSub,UU,U0,I.push_toArray,I.append_toArray,ts,Aj]
 gi_wp2_with (first
  |(gi_at_range;refine ame _ rfl _ 86 rfl 3 3 Tryz.underlying86 b es clock rfl (by rw[AO _ _ (by simp;omega),AO _ _ gK];exact rH.out) (w.heap.size+2) τ ?_;intro amn)
  |gi_in)
 go_frame
 gi_loopw [] (λwr=>∃v ss rem,ami (.func (.yield cP) #[] #[]) w b es clock ks wr v ss rem) (λwr=>wr.rangeLeft b (w.heap.size+2))
 case atStart=>
  refine⟨.slice bs 0 0,[],es.toList,amn,?_,?_,?_,YX _ _ _ _,?_,by simp⟩
  .rw[XW.out];exact DP _
  .rw[AO _ _ (by simp;omega),AO _ _ τ,Sd]
  .rw[AO _ _ τ];have:=Sd (w.alloc (.cells #[Value.func (Fn.yield cP) #[] #[]] 103)) (.cells #[Value.slice bs 0 0] 98);rwa[show(w.alloc (.cells #[Value.func (Fn.yield cP) #[] #[]] 103)).heap.size=w.heap.size+1 by simp]at this
  .exact((Kv w _ bs).andThen (Kv _ _ bs) λj hj=>by cases hj).andThen (Kv _ _ bs) λj hj=>by cases hj
 case round=>
  obtain⟨v,ss,rem,hL⟩:=hrel;have fF:=Lib.hid hL;have XX:=hL.rg;clear hL
  gi_wp2_with (first
   |(gi_at_next;refine amf _ rfl _ rfl b (w.heap.size+2) es clock rem amm.out wV.out rfl XX ?_ ?_)
   |gi_in)
  .intro amo;have qz:wr.cell? ⟨w.heap.size+1,0,bs⟩=O v:=Ì _ _ 0 #[v] _ _ fF.out.b4;have hst:=(wQ.2 (alU _ _ v ss wr fF.out.own ?hlen):GC pI 0 _ _ _ _ _)
   case hlen=>
    have h1:=fF.out.pm.length_eq;simp at h1;omega
   have Gb:=Lib.hid hst;clear hst
   gi_wp2
   refine⟨trivial,(λh=>by cases h),(Dg Gb.out).mono ?_⟩;rintro e w' ⟨rfl,hown,hgr⟩;rename_i aDZ h1 aD0 h2;refine h2 _ _ ?_;refine wpListIn_nil ?_;refine h1 _ _ ?_;refine yy.out _ _ ?_;refine⟨rfl,rfl,rfl,rfl,rfl,rfl,?_,rfl,?_,⟨v,?_,?_⟩,?_⟩
   .intro t ht hnt;simp only[cQ,iL,Xz,not_or]at hnt;have ht2:t=6\/t=7\/t=8\/t=9\/t=22\/t=23\/t=24\/t=25\/t=26\/t=27\/t=28\/t=29\/t=30\/t=31\/t=32\/t=33\/t=34\/t=35\/t=36\/t=37\/t=38\/t=39\/t=40\/t=41\/t=42\/t=43\/t=44\/t=45\/t=46\/t=47:=by omega
    rcases ht2 with rfl |rfl |rfl |rfl |rfl |rfl |rfl |rfl |rfl |rfl |rfl |rfl |rfl |rfl |rfl |rfl |rfl |rfl |rfl |rfl |rfl |rfl |rfl |rfl |rfl |rfl |rfl |rfl |rfl |rfl<;>rfl
   .exact(hgr.block _ (iy (E.lt_add_of_pos_right δ) fF.out.sz) λe=>by have:=(fF.out.own.lt _ e.symm).1;omega).trans fF.out.b3
   .exact(hgr.block _ (by have:=fF.out.sz;omega) λe=>by have:=(fF.out.own.lt _ e.symm).1;omega).trans fF.out.b4
   .have uM:=fF.out.pm;rw[amo,I.map_nil,mS]at uM;have uM:=amk uM;rw[<-uM.length_eq,<-amj uM];exact hown
   .exact fF.out.gr.andThen hgr λj hj=>.inl (by have:=(fF.out.own.lt j hj).1;omega)
  .intro e uL w2 uM hmem XY JY hs2 amq;obtain⟨x,hx⟩:∃x,e.key=.int .i64 x:=by
    have:e.key∈b9 ks:=by rw[<-XW.out];exact rK.2 ⟨e,by simpa using hmem,rfl⟩
    obtain⟨x,_,hx⟩:=rK.1 this;exact⟨x,hx.symm⟩
   have XZ:=fF.out.pm;have hlen:ss.length+1<=100000:=by
    have h1:=XZ.length_eq;have h2:=uM.length_eq;simp at h1 h2;omega
   have JZ:=Lib.hid hx;rw[hx]at amq ⊢;have hlt:∀k,v.ownBlock=O k->w.heap.size+3<=k/\k<wr.heap.size:=fF.out.own.lt;have fE:v.ownBlock=bs\/v.ownBlock≠O (w.heap.size+2):=by
    cases amr:v.ownBlock with
    |none=>exact .inl rfl
    |some k=>right;intro e;cases e;have:=(hlt _ amr).1;omega
   have AQ:=fF.out.own.kept JY fE;have Gc:bH w2 (w.heap.size+1) 98 #[v]:=(JY.block _ (by have:=fF.out.sz;omega) τ).trans fF.out.b4;have ams:=Lib.hid (show w2.heap[w.heap.size+1]? =_ from Gc);have qz:=Gc.cell 0;have aD1:=Gc.frozen 0;have Gd:=Lib.hid XY;have PO:=Lib.hid JY;have X0:=Lib.hid uM;have PR:=Lib.hid hs2;clear uM XZ hmem XY JY hs2 hx fE
   gi_wp2_with (first
    |(gi_at_builtin;refine wpListIn_append_own _ rfl _ _ 98 rfl (w.heap.size+3) 3 i0 (.int .i64 0) 1 8 Tryz.underlying98 lX AP Dh Ga rfl δ _ _ _ rfl (AQ.alloc _) ⟨w2.heap.size,0,bs⟩ 1 1 [.int .i64 x] rfl rfl (cell_one_new _ _ _) ?hone ?c3 ?c4 ?c5 ?_)
    |gi_in)
   case hone=>intro u hu;simp at hu;subst hu;rfl
   case c3=>unfold maxLen;omega
   case c4=>omega
   case c5=>have:=fF.out.sz;have:=PR.out;simp;omega
   intro v5 dS pM Ge amt;obtain⟨jy,c5,rfl⟩:=mf pM;have hs2:=PR.out;have aD2:=fF.out.sz;have hlo:∀k,k<w.heap.size+3->O k≠v.ownBlock:=λk hk e=>by have:=(hlt _ e.symm).1;omega
   have up:∀k,k<w.heap.size+3->dS.heap[k]? =w2.heap[k]? :=λk hk=>(Ge.block k (by simp;omega) (hlo k hk)).trans (AO _ _ ω)
   have J0:bH dS (w.heap.size+1) 98 #[v]:=(up _ ω).trans Gc;have wJ:=J0.cell 0;have aD3:=J0.frozen 0;have PS:=Lib.hid up;have Di:=Lib.hid J0;have amu:=Lib.hid pM;have PT:=Lib.hid Ge;clear up J0 pM Ge amt hlo hs2;have hU:∀k,k≠w.heap.size+1->(dS.setCell ⟨w.heap.size+1,0,bs⟩ (.slice jy (ss.length+1) c5)).heap[k]? =dS.heap[k]? :=λk hk=>YW _ _ _ k hk
   have amv:=Lib.hid hU;have X1:=Lib.hid (show qE (dS.setCell ⟨w.heap.size+1,0,bs⟩ (.slice jy (ss.length+1) c5)) b (w.heap.size+2) es clock uL from Gd.out.kept
    (by rw[hU _ (λe=>by have:=Gd.out.m;rw[e,ams.out]at this;cases this),PS.out _ ω])
    (by rw[hU _ ω,PS.out _ ω]))
   clear hU
   gi_wp2
   go_roundw
   case rel=>
    have hU:=amv.out;have e1:b9 ss++[Value.int .i64 x]=b9 (ss++[x]):=by simp[b9]
    have h5:=amu.out;have X2:∀k,(Value.slice jy (ss.length+1) c5).ownBlock=O k->w.heap.size+3<=k/\k<dS.heap.size:=h5.lt;refine⟨.slice jy (ss.length+1) c5,ss++[x],uL,X1.out,?_,?_,?_,?_,?_,?_⟩
    .have hp2:=X0.out.map (·.key);rw[Li,JZ.out]at hp2;have:=(I.Perm.append_left (b9 ss) hp2).symm.trans fF.out.pm;rw[<-e1,ot];exact this
    .rw[hU _ ω,PS.out _ ω,PO.out.block _ ω τ];exact fF.out.b3
    .exact Di.out.set 0 _
    .have e2:(ss++[x]).length=ss.length+1:=by simp
     rw[e2,<-e1];exact Df h5 λk hk=>hU k (by have:=(X2 k hk.symm).1;omega)
    .have s1:=PT.out.size;have s2:=PO.out.size;refine(((fF.out.gr.andThen PO.out λj hj=>by cases hj;exact .inl ω).andThen (Kv _ _ bs) λj hj=>by cases hj).andThen PT.out λj hj=>.inl (by have:=(hlt j hj).1;omega)).andThen (grownBy_setCell' dS (w.heap.size+1) _) λj hj=>by cases hj;exact .inl ω
    .have s1:=PT.out.size;have s2:=PR.out;simp at s1;simp[du.setCell];omega
   case measure=>
    rw[X1.out.left,XX.left];have:=X0.out.length_eq;simp at this;omega
section
variable{P:fd}{B:E}{ρ fD:Env}{H H0:ai}{w w0 W:du}
def amw(e:bl P B ρ H w)(c:w.grownBy W bs):bl P B ρ H W/\bV ρ H w ρ H W:=by
 have f:∀b o,w.heap[b]? =O o->W.heap[b]? =O o:=λb o h=>(c.block b (cy.1 h).1 τ).trans h
 refine⟨⟨λK k J=>?_,e.inj,e.lt,cD e.base c.size,λb A hb=>?_⟩,⟨cR.refl _,λ_ _=>rfl,aC _,c.size,c.os,c.tape,c.output,λb hb _=>c.block b hb τ,λ_ _ h=>h,λ_ _ h=>h,λ_ _ h=>.inl h⟩⟩
 .obtain⟨b,j,o,q,r,u,i⟩:=e.blk K k J;exact⟨b,j,o,q,f b o r,u,i⟩
 .obtain⟨⟨m,z,C⟩,G⟩:=e.fz b A hb;exact⟨⟨m,z,f b _ C⟩,G⟩
def PU(G:bl P B ρ H W)(j:bV fD H0 w0 ρ H W)(q:B<=w0.heap.size){b c:E}{k:bn}{o:Obj}(r:w0.heap.size<=b)(a4:¬q8 ρ H b)(a6:∀L,ρ.fz b=O L->lm)(e:ρ H.next=bs)(f:H0.next<=H.next)(hb:W.heap[b]? =O o)(a9:iZ P (ρ.put H.next b c) H.next k o):
  bl P B (ρ.put H.next b c) (H.new k) W/\bV fD H0 w0 (ρ.put H.next b c) (H.new k) W:=by
 have C:cR ρ (ρ.put H.next b c):=Env.sA e;have z:∀i,i≠H.next->ρ.put H.next b c i=ρ i:=λi e=>by simp[Env.put,e]
 have f:∀i k,H.get i=O k->i≠H.next:=λi k e=>E.ne_of_lt (G.lt i k e)
 refine⟨⟨λi u e=>?_,λi U a3 a2 m a0 a1 e M K J=>?_,λi u e=>?_,G.base,λm L V=>⟨(G.fz m L V).1,λi u A e S=>?_⟩⟩,
  ⟨j.le.trans C,λi e=>?_,E.le_succ_of_le j.next,j.size,j.os,j.tape,j.output,j.frame,λm X a'=>?_,λm X a'=>?_,j.o8⟩⟩
 .rw[ai.iM]at e;split at e
  .rename_i f;subst f;cases e;exact⟨b,c,o,Env.eu ..,hb,a9,λ_=>cD q r⟩
  .obtain⟨m,A,o',q,r,e3,a5⟩:=G.blk i u e;exact⟨m,A,o',C _ _ q,r,e3.mono C,a5⟩
 .rw[ai.iM]at e M;split at e<;>split at M
  .rename_i q r;rw[<-q,<-r]
  .rename_i q r;subst q;rw[Env.eu]at K;rw[z U (λx=>r x.symm)]at J;cases K;exact(a4 ⟨U,a2,a1,M,J⟩).elim
  .rename_i q r;subst r;rw[Env.eu]at J;rw[z i (λx=>q x.symm)]at K;cases J;exact(a4 ⟨i,a3,a0,e,K⟩).elim
  .rename_i q r;rw[z i (λx=>q x.symm)]at K;rw[z U (λx=>r x.symm)]at J;exact G.inj i U a3 a2 m a0 a1 e M K J
 .rw[ai.iM]at e;rw[ai.M5];split at e
  .rename_i f;omega
  .have:=G.lt i u e;omega
 .rw[ai.iM]at e;split at e
  .rename_i f;subst f;rw[Env.eu]at S;cases S;exact(a6 L V).elim
  .rename_i f;rw[z i (λx=>f x.symm)]at S;exact(G.fz m L V).2 i u A e S
 .rw[ai.M5]at e;rw[z i ω];exact j.ext i ω
 .obtain⟨i,u,A,C,e,h3⟩:=a';rw[ai.iM]at C;split at C
  .rename_i f;subst f;rw[Env.eu]at h3;cases h3;omega
  .rename_i f;rw[z i (λx=>f x.symm)]at h3;exact j.own m X ⟨i,u,A,C,e,h3⟩
 .obtain⟨i,u,A,C,h3⟩:=a';rw[ai.iM]at C;split at C
  .rename_i f;subst f;rw[Env.eu]at h3;cases h3;omega
  .rename_i f;rw[z i (λx=>f x.symm)]at h3;exact j.oA m X ⟨i,u,A,C,h3⟩
end
noncomputable section
def PV(e:rb):da N:=match e.key with |.int .i64 n=>O n|_=>bs
def Dj:I rb->da (I N)
 |[]=>O []
 |e::l=>match PV e,Dj l with |some n,O r=>O (n::r)|_,_=>bs
def Dk:I E->dF
 |[]=>D
 |a::l=>oi (mO a l) ao (Dk l)
def Dl(c:E):I rb->dF
 |[]=>D
 |e::l=>oi (dK (e.born+1) c) (Dl c l) ao
def AR(x:N):I N->I N
 |[]=>[x]
 |y::l=>oi (bP (x<=y)) (x::y::l) (y::AR x l)
def pN:I N->I N
 |[]=>[]
 |x::l=>AR x (pN l)
def J1(args:I af)(i:E):au af:=[5,10,11,12,13,14,15,16,17,18,19,20,21].foldl (λT t=>T.set t (O .bot)) (((gI args .nil 0).set 3 (O (.ptr i 0))).set 4 (O (.ptr (nX (nX i)) 0)))
def X3(yi:E)(c:I N)(H:ai):ai:=
 ((H.new (.cells 103 [.yield yi] D ao ao)).new (.cells 3 (c.map λn=>.raw (.int .i64 n)) ao ao ao)).new (.cells 98 [.slice (nX H.next) 0 c.length .any] D ao ao)
def PW(P:fd)(fn:Ö)(r:R):aM:= @R.rec (λ_=>aM) .no (λT H m=>lW P fn T H m) (λ_ _ _ _=>.no) (λ_ _ _ _=>.no) (λT H m=>lW P fn T H m) r
section
variable(Z:eP)(args:I af)
def X4(yi:E)(c:I N)(H:ai):aM:=
 PW em f98 (Z (cat yx [1,1,1,1]) 48 bs (J1 args H.next) (X3 yi c H) [])
def X5(yi:E)(H:ai)(b:da bn):aM:=match b with
 |some (.map c f)=>match Dj c.toList with
  |some e=>oi (dK 1 e.length&&(dK e.length 100000&&(Dl f c.toList&&Dk (c.toList.map (·.born))))) (X4 Z args yi (pN e) H) .no
  |none=>.no
 |_=>.no
def Gf(H:ai):aM:=match args with
 |[.yield yi,.ptr c 0,.ptr e 0]=>match H.get c with
  |some (.cells _ [.map f] _ _ _)=>X5 Z [.yield yi,.ptr c 0,.ptr e 0] yi H (H.get f)
  |_=>.no
 |_=>.no
end
def AV(ih:eP):fe:=λf args H=>@jh (λ_=>aM) (me em ih f args H) (Gf ih args H) (dd f 98)
def X6:∀{l:I rb}{f:I N},Dj l=O f->l.map (·.key)=b9 f
 |[],f,h=>by cases h;rfl
 |e::l,f,h=>by
  unfold Dj at h;cases c:PV e with
  |none=>rw[c]at h;cases h
  |some n=>
   cases i:Dj l with
   |none=>rw[c,i]at h;cases h
   |some r=>
    rw[c,i]at h;cases h;have j:e.key=.int .i64 n:=by
     unfold PV at c;split at c
     .rename_i x m;cases c;exact m
     .cases c
    show e.key::l.map (·.key)=_;rw[j,X6 i];rfl
def X7{a:E}:∀{l:I E},mO a l=ao->a∉l
 |[],_=>by simp
 |b::l,h=>by
  have h:(@jh (λ_=>dF) (mO a l) D (dd b a))=ao:=h;cases hb:dd b a with
  |true=>rw[hb]at h;cases h
  |false=>
   rw[hb]at h;rw[cQ];rintro(rfl |c)
   .rw[zX]at hb;cases hb
   .exact X7 h c
def X8:∀{l:I E},Dk l=D->l.Nodup
 |[],_=>I.nodup_nil
 |a::l,h=>by
  unfold Dk at h;cases c:mO a l with
  |true=>rw[c]at h;cases h
  |false=>rw[c]at h;exact I.nodup_cons.2 ⟨X7 c,X8 h⟩
def X9{f:E}:∀{l:I rb},Dl f l=D->∀x∈l,x.born<f
 |[],_,x,c=>by cases c
 |e::l,h,x,c=>by
  unfold Dl at h;cases hb:dK (e.born+1) f with
  |false=>rw[hb]at h;cases h
  |true=>
   rw[hb]at h;rcases cQ.1 c with rfl |c
   .exact b5 hb
   .exact X9 h x c
def PX(x:N):∀l:I N,(AR x l).Perm (x::l)
 |[]=>DP _
 |y::l=>by
  unfold AR;cases c:bP (x<=y)with
  |true=>exact DP _
  |false=>exact((PX x l).cons y).trans (I.Perm.swap _ _ _)
def PY:∀l:I N,(pN l).Perm l
 |[]=>DP _
 |x::l=>(PX x (pN l)).trans ((PY l).cons x)
def Ya(x:N):∀{l:I N},l.Pairwise (λa b=>decide (a<=b)=D)->(AR x l).Pairwise (λa b=>decide (a<=b)=D)
 |[],_=>by unfold AR;simp
 |y::l,h=>by
  unfold AR;rw[lA]at h;cases e:bP (x<=y)with
  |true=>
   refine lA.2 ⟨λz c=>?_,lA.2 h⟩;rcases cQ.1 c with rfl |c
   .exact e
   .have:=h.1 z c;rw[aN]at*;omega
  |false=>
   refine lA.2 ⟨λz c=>?_,Ya x h.2⟩;rcases cQ.1 ((PX x l).mem_iff.1 c)with rfl |c
   .rw[Ô]at e;rw[aN];omega
   .exact h.1 z c
def Yb:∀l:I N,(pN l).Pairwise (λa b=>decide (a<=b)=D)
 |[]=>Nj
 |x::l=>Ya x (Yb l)
def amx(l:I N):(l.mergeSort λx y=>decide (x<=y))=pN l:=by
 have f:∀x y z:N,bP (x<=y)=D->bP (y<=z)=D->bP (x<=z)=D:=λx y z c e=>by rw[aN]at*;omega
 have i:∀x y:N,(bP (x<=y)||decide (y<=x))=D:=λx y=>by rw[qh,aN,aN];omega
 refine Va (le:=λx y=>decide (x<=y)=D) (λx y _ _ c e=>by rw[aN]at*;omega) (QK f i l) (Yb l) ?_;exact(WX l _).trans (PY l).symm
def Yc{P:fd}{fn:Ö}{r:R}{v:af}{H':ai}(h:PW P fn r=.ok v H'):∃e f c i,r.out=O (e,f,c,i)/\(e=.normal\/e=.ret)/\lW P fn f c i=.ok v H':=by
 unfold PW at h;cases r with
 |no=>cases h
 |normal T H m=>exact⟨_,_,_,_,rfl,.inl rfl,h⟩
 |exit _ _ _ _=>cases h
 |goto _ _ _ _=>cases h
 |ret T H m=>exact⟨_,_,_,_,rfl,.inr rfl,h⟩
def Yd{ih:eP}{args:I af}{H:ai}{v:af}{H':ai}(h:Gf ih args H=.ok v H'):∃yi j r i c f e el m q u,args=[.yield yi,.ptr j 0,.ptr r 0]/\H.get j=O (.cells el [.map i] m q u)/\H.get i=O (.map c f)/\Dj c.toList=O e/\
  1<=e.length/\e.length<=100000/\Dl f c.toList=D/\Dk (c.toList.map (·.born))=D/\X4 ih args yi (pN e) H=.ok v H':=by
 unfold Gf at h;split at h
 .rename_i yi j r;split at h
  .rename_i el i m q u z;unfold X5 at h;split at h
   .rename_i c f C;split at h
    .rename_i e A;cases hb:(dK 1 e.length&&(dK e.length 100000&&(Dl f c.toList&&Dk (c.toList.map (·.born)))))with
     |false=>rw[hb]at h;cases h
     |true=>
      rw[hb]at h;simp only[ae]at hb;exact⟨yi,j,r,i,c,f,e,el,m,q,u,rfl,z,C,A,b5 hb.1,b5 hb.2.1,hb.2.2.1,hb.2.2.2,h⟩
    .cases h
   .cases h
  .cases h
 .cases h
end
section
variable[Sv.Ground]
def Ye{ih:eP}(c:k5 em ih){args:I af}{H:ai}{v:af}{H':ai}(h:Gf ih args H=.ok v H'):H.next+3<=H'.next:=by
 obtain⟨yi,X,S,U,C,z,i,el,G,J,e,rfl,K,L,h3,h4,h5,h6,h7,h8⟩:=Yd h;obtain⟨A,m,j,V,f,M,e⟩:=Yc h8;have q:=c.mono _ _ _ _ _ _ _ _ _ _ f;have r:=Cv e;have u:(X3 yi (pN i) H).next=H.next+3:=rfl;omega
def amy{ρ:Env}{yi q m i:E}{c:Zq}(e:c.tmps.size=48)(U:Den ρ (.yield yi) (c.tmps.getD 0 lk))(V:Den ρ (.ptr q 0) (c.tmps.getD 1 lk))(X:Den ρ (.ptr m 0) (c.tmps.getD 2 lk))(h3:Den ρ (.ptr i 0) (c.tmps.getD 3 lk))(h4:Den ρ (.ptr (i+2) 0) (c.tmps.getD 4 lk))
  (a0:∀t,t<48->t∉[0,1,2,3,4,5,10,11,12,13,14,15,16,17,18,19,20,21]->c.tmps.getD t lk=lk):lC ρ (J1 [.yield yi,.ptr q 0,.ptr m 0] i) 48 c.tmps:=by
 refine⟨e,λt=>?_⟩;unfold J1;simp only[LA,I.foldl_nil,au.gS,NH,au.get_nil,la,IJ,gt,true_and,bC,E.reduceAdd,E.sub_zero];by_cases hb:t∈[5,10,11,12,13,14,15,16,17,18,19,20,21]
 .simp only[cQ,iL,Xz]at hb;rcases hb with rfl |rfl |rfl |rfl |rfl |rfl |rfl |rfl |rfl |rfl |rfl |rfl |rfl<;>exact .bot _
 .simp only[cQ,iL,Xz,not_or]at hb;obtain⟨J,K,L,M,S,e,c,r,u,G,z,A,C⟩:=hb;rw[db (Ar C),db (Ar A),db (Ar z),db (Ar G),db (Ar u),db (Ar r),db (Ar c),db (Ar e),db (Ar S),db (Ar M),db (Ar L),db (Ar K),db (Ar J)];by_cases e:t=4
  .subst e;exact h4
  .rw[db (Ar e)];by_cases f:t=3
   .subst f;exact h3
   .rw[db (Ar f)];by_cases j:t<3
    .rw[dA j];rcases t with _|_|_|t
     .exact U
     .exact V
     .exact X
     .omega
    .rw[db j];by_cases c:t<48
     .rw[a0 t c (by simp;omega)];exact .raw _
     .rw[mL,QN ω];exact .raw _
def PZ{ρ:Env}{H:ai}{b b' c:E}{k:bn}(h:¬q8 ρ H b')(q:b'≠b):¬q8 (ρ.put H.next b c) (H.new k) b':=λ⟨j,r,m,f,e⟩=>by
 rw[ai.iM]at f;split at f
 .rename_i i;rw[<-i,Env.eu]at e;cases e;exact q rfl
 .rename_i i;have:ρ.put H.next b c j=ρ j:=by simp[Env.put,Ar i]
  rw[this]at e;exact h ⟨j,r,m,f,e⟩
def Gg{ρ:Env}{i j b c:E}(h:j≠i):ρ.put i b c j=ρ j:=by simp[Env.put,h]
def amD{cap:E}:cap*1=cap*prog.cellsOf 3:=by rw[show prog.cellsOf 3=1 by kernel_rfl]
def amE{ρ:Env}(l:I N):aE ρ (l.map λn=>af.raw (.int .i64 n)) (b9 l):=by
 unfold b9;induction l with
 |nil=>exact .nil
 |cons x l ih=>exact .cons (.raw _) ih
def amF{ih:eP}(X:k5 em ih){args:I af}{H:ai}{v:af}{H':ai}(h:Gf ih args H=.ok v H')(B:E)(ρ:Env)(xs:I Value)(w:du)(m:E)(j:bl em B ρ H w)(a5:qp ρ)(e:aE ρ args xs)(a0:Fr ρ H.next H'.next):
  GC (eZ bs) m em 98 xs.toArray w (pn em B ρ H w v H'):=by
 have f:=Ye X h;obtain⟨yi,b4,b2,A,V,U,f,el,q,r,C,rfl,u,z,h3,h4,h5,h6,h7,h8⟩:=Yd h;obtain⟨r,q,H1,m1,b1,a6,a3⟩:=Yc h8;have a9:=Cv a3
 match xs,e with
 |[e,q,r],.cons d0 (.cons d1 (.cons d2 .nil))=>
  obtain⟨q,e,a4,rfl⟩:=d0.M0;obtain⟨S,e,r1,rfl⟩:=d1.mK;obtain⟨G,e,r2,rfl⟩:=d2.mK;obtain⟨ys,A,e,_,r,_,_,C⟩:=nO j u r1;obtain⟨y,A,u⟩:=r.get (i:=0) rfl;obtain⟨b,r,C,rfl⟩:=u.xW;have u:w.cell? ⟨S,0,bs⟩=O (.map (O b)):=by
   have r:(ys.toList.take 1)[0]? =O (Value.map (O b)):=A;rw[ly,dA δ,IF]at r;rw[Ì _ _ 0 ys _ _ e];exact r
  obtain⟨o,A,J,_⟩:=j.at z C;have J:o=.map V U:=J;subst J;refine XV m q S G b V U f w _ u A (X9 h6) (X8 h7) (X6 h3) h5 λM W e=>?_
  obtain⟨u,k1,q⟩:=e.b4;rw[amx]at q;have J:(pN f).length=f.length:=(PY f).length_eq;rcases q.2 with⟨_,z⟩|⟨g,cap,cur,rfl,z,V,b3,A,S,u⟩
  .omega
  .have U:cur.toList.take (pN f).length=b9 (pN f):=by rw[J];simpa using u
   have u:∀i,H.next<=i->i<H.next+3->ρ i=bs:=λi q G=>a0 i q ω
   have L:=j.base;have z:∀b' A,w.heap.size<=b'->ρ.fz b'=O A->lm:=λb' A q C=>by
    obtain⟨⟨e',c',K⟩,_⟩:=j.fz b' A C;have:=(cy.1 K).1;omega
   have C:∀b',w.heap.size<=b'->¬q8 ρ H b':=λb' q ⟨i,k,c,r,K⟩=>by
    obtain⟨o,q,_⟩:=j.at r K;have:=(cy.1 q).1;omega
   obtain⟨q,r⟩:=amw j e.gr
   -- the box of yield
   obtain⟨K,t1⟩:=PU (b:=w.heap.size) (c:=0) (k:= .cells 103 [.yield yi] D ao ao) q r L (aC _) (C _ (aC _)) (λA=>z _ A (aC _)) (u _ (aC _) ω) (aC _) e.b3
    ⟨_,_,rfl,λ_=>rfl,.cons ((Den.yield a4).mono (Env.sA (u _ (aC _) ω))) .nil,λ_=>rfl,λq=>by cases q⟩
   have r:=PZ (b':=g) (b:=w.heap.size) (c:=0) (k:= .cells 103 [.yield yi] D ao ao) (C g ω) ω;have j:=PZ (b':=w.heap.size+1) (b:=w.heap.size) (c:=0) (k:= .cells 103 [.yield yi] D ao ao) (C _ ω) ω
   -- the row
   have f1:(ρ.put H.next w.heap.size 0) (H.next+1)=bs:=by rw[Gg ω];exact u _ ω ω
   obtain⟨s2,t2⟩:=PU (b:=g) (c:=cap) (k:= .cells 3 ((pN f).map λn=>.raw (.int .i64 n)) ao ao ao) K t1 L ω r (λA=>z _ A ω) f1 (QZ _) V
    ⟨cur,_,rfl,λ_=>rfl,by rw[mG,U];exact amE _,(λq=>by cases q),λ_=>⟨g,cap,Env.eu ..,by rw[S];exact amD⟩⟩
   have r:=PZ (b':=w.heap.size+1) (b:=g) (c:=cap) (k:= .cells 3 ((pN f).map λn=>.raw (.int .i64 n)) ao ao ao) j ω
   -- the cell of kinds
   have f2:((ρ.put H.next w.heap.size 0).put (H.next+1) g cap) (H.next+2)=bs:=by rw[Gg ω,Gg ω];exact u _ ω ω
   have j:((ρ.put H.next w.heap.size 0).put (H.next+1) g cap) (H.next+1)=O (g,cap):=Env.eu ..;obtain⟨s3,t3⟩:=PU (b:=w.heap.size+1) (c:=0) (k:= .cells 98 [.slice (nX H.next) 0 (pN f).length .any] D ao ao) s2 t2 L ω r (λA=>z _ A ω) f2 (by show H.next<=H.next+2;omega) k1
    ⟨_,_,rfl,λ_=>rfl,.cons (by rw[J];exact(Den.slice (cap:= .any) j trivial b3).mono (Env.sA f2)) .nil,λ_=>rfl,λq=>by cases q⟩
   have q:=(t3.fr (H':=H1) (by rw[a9];exact a0));have j:lC (((ρ.put H.next w.heap.size 0).put (H.next+1) g cap).put (H.next+2) (w.heap.size+1) 0) (J1 [.yield yi,.ptr b4 0,.ptr b2 0] H.next) 48 M.tmps:=by
    refine amy e.size ?_ ?_ ?_ ?_ ?_ e.un
    .rw[e.t0];exact(Den.yield a4).mono t3.le
    .rw[e.t1];exact(Den.ptr r1).mono t3.le
    .rw[e.t2];exact(Den.ptr r2).mono t3.le
    .rw[e.t3];exact .ptr (c:=0) (by rw[Gg ω,Gg ω];exact Env.eu ..)
    .rw[e.t4];exact .ptr (c:=0) (Env.eu ..)
   refine X.dc _ _ _ _ _ _ _ _ _ _ b1 B _ M W bs m _ trivial ⟨j,s3,a5.mono t3.le⟩ e.df q λA G r f u z=>?_
   have:LeavesInM (eZ bs) m em f98 G.tmps (pn em B ρ H w v H') G.defers .returning r:=gE m1 f z a3 λy j u1 u2 e=>⟨y,A,rfl,u1,u2,(t3.trans u).trans e⟩
   rcases a6 with rfl |rfl<;>exact this
def J3{ih:eP}(c:k5 em ih):bI em (AV ih) where
 mono f args H v u h:=by
  unfold AV at h;cases hb:dd f 98 with
  |false=>rw[hb]at h;exact(nf c).mono _ _ _ _ _ h
  |true=>rw[hb]at h;have:=Ye c h;omega
 dc f args H v u h B ρ r w q i e j m:=by
  unfold AV at h;cases hb:dd f 98 with
  |false=>rw[hb]at h;exact(nf c).dc _ _ _ _ _ h B ρ r w q i e j m
  |true=>
   rw[hb]at h;obtain rfl:=ac hb;exact amF c h B ρ r w q i e j m
end
end Go.Proofs.YtdajfemhnlpegaaGreatDoor
namespace Go.Proofs.YtdajfemhnlpegaaGreatDoor
def vl(b:N):I N->N
 |[]=>0
 |x::r=>x+b*vl b r
def aS(b:N)(l:I N):Prop:=∀x∈l,0<=x/\x<b
def aS.nil{b:N}:aS b []:=λx h=>by cases h
def aS.cons{b x:N}{l:I N}(h:0<=x/\x<b)(e:aS b l):aS b (x::l):=λy c=>by
 rcases cQ.1 c with rfl |c
 .exact h
 .exact e y c
def aS.tail{b x:N}{l:I N}(h:aS b (x::l)):aS b l:=λy c=>h y (gQ _ c)
def aS.head{b x:N}{l:I N}(h:aS b (x::l)):0<=x/\x<b:=h x gb
def aS.app{b:N}{l m:I N}(h:aS b l)(g:aS b m):aS b (l++m):=λy c=>(I.mem_append.1 c).elim (h y) (g y)
def aS.left{b:N}{l m:I N}(h:aS b (l++m)):aS b l:=λy c=>h y (I.mem_append_left _ c)
def aS.right{b:N}{l m:I N}(h:aS b (l++m)):aS b m:=λy c=>h y (UR _ c)
def aS.take{b:N}{l:I N}(h:aS b l)(k:E):aS b (l.take k):=λy c=>h y (wT c)
def aS.drop{b:N}{l:I N}(h:aS b l)(k:E):aS b (l.drop k):=λy c=>h y (I.mem_of_mem_drop c)
def aS.set{b:N}{l:I N}(h:aS b l){k:E}{x:N}(e:0<=x/\x<b):aS b (l.set k x):=λy c=>by
 rcases I.mem_or_eq_of_mem_set c with c|rfl
 .exact h y c
 .exact e
def aS.at'{b:N}{l:I N}(h:aS b l){k:E}(c:k<l.length):0<=l.getD k 0/\l.getD k 0<b:=by
 have:l.getD k 0=l[k]:=by simp[ap,c]
 rw[this];exact h _ (ra _)
def aS.get{b:N}(hb:0<b){l:I N}(h:aS b l)(k:E):0<=l.getD k 0/\l.getD k 0<b:=by
 by_cases c:k<l.length
 .exact h.at' c
 .rw[ap,JU ω];exact⟨vc _,hb⟩
def aS.rep{b:N}(hb:0<b)(n:E):aS b (ie n 0):=λy c=>by
 rw[(I.mem_replicate.1 c).2];exact⟨vc _,hb⟩
def amK{a b:N}(c:0<=a)(hb:0<=b):0<=a*b:=kv c hb
def eE{b:N}(hb:0<b):∀n:E,0<b^n
 |0=>by simp
 |n+1=>by rw[hP];exact G8 (eE hb n) hb
def iq{b:N}(hb:0<b):∀{l:I N},aS b l->0<=vl b l
 |[],_=>vc _
 |x::r,h=>by
  have c:=h.head;have e:=kv (cI hb) (iq hb h.tail);show 0<=x+b*vl b r;omega
def gY{b:N}(hb:0<b):∀{l:I N},aS b l->vl b l<b^l.length
 |[],_=>by simp[vl]
 |x::r,h=>by
  have c:=h.head;have e:=gY hb h.tail;have h3:b*vl b r<=b*(b^r.length-1):=ar ω (cI hb);have h4:b*(b^r.length-1)=b*b^r.length-b:=by rw[LS,Cu]
  have h5:b^(x::r).length=b*b^r.length:=by rw[la,hP,iN]
  rw[h5];show x+b*vl b r<_;omega
def J4(b:N):∀(l m:I N),vl b (l++m)=vl b l+b^l.length*vl b m
 |[],m=>by simp[vl]
 |x::r,m=>by
  show x+b*vl b (r++m)=x+b*vl b r+b^(r.length+1)*vl b m;rw[J4 b r m,oB,hP,iN (b^r.length) b,km,N.add_assoc]
def wW(b x:N):vl b [x]=x:=by simp[vl]
def AY(b:N)(l:I N)(x:N):vl b (l++[x])=vl b l+b^l.length*x:=by rw[J4,wW]
def Gh(b:N):∀n:E,vl b (ie n 0)=0
 |0=>rfl
 |n+1=>by rw[Lq];show 0+b*vl b (ie n 0)=0;rw[Gh b n];simp
def wX{l:I N}{k:E}(h:k<l.length):l.getD k 0=l[k]:=by simp[ap,h]
def Yf{l:I N}{k:E}(h:k<l.length):l.take (k+1)=l.take k++[l.getD k 0]:=by rw[wX h];simp
def nY{b:N}{l:I N}{k:E}(h:k<l.length):vl b (l.take (k+1))=vl b (l.take k)+b^k*l.getD k 0:=by
 rw[Yf h,AY,er,ns ω]
def mX{b:N}(l:I N)(k:E):vl b (l.take (k+1))=vl b (l.take k)+b^k*l.getD k 0:=by
 by_cases h:k<l.length
 .exact nY h
 .have e:l.getD k 0=0:=by rw[ap,JU ω];rfl
  rw[e,eG ω,eG ω];simp
def uN(b:N)(l:I N)(k:E)(h:k<=l.length):vl b l=vl b (l.take k)+b^k*vl b (l.drop k):=by
 have:=J4 b (l.take k) (l.drop k);rw[pa,er,ns h]at this;exact this
def i8(b:N):∀(l:I N)(k:E)(x:N),k<l.length->vl b (l.set k x)=vl b l+b^k*(x-l.getD k 0)
 |[],k,_,h=>absurd h (E.not_lt_zero _)
 |y::r,0,x,_=>by
  show x+b*vl b r=y+b*vl b r+b^0*(x-(y::r).getD 0 0);simp;omega
 |y::r,k+1,x,h=>by
  show y+b*vl b (r.set k x)=y+b*vl b r+b^(k+1)*(x-(y::r).getD (k+1) 0);have e:(y::r).getD (k+1) 0=r.getD k 0:=by simp
  rw[i8 b r k x (by simpa using h),e,oB,hP,iN (b^k) b,km,N.add_assoc]
def fT(l:I N):Prop:=∀k,l.length=k+1->l.getD k 0≠0
def j4(l:I N):E->I N
 |0=>[]
 |k+1=>if l.getD k 0=0 then j4 l k else l.take (k+1)
def Gi(l:I N):∀k,k<=l.length->∃m,m<=k/\j4 l k=l.take m/\(∀j,m<=j->j<k->l.getD j 0=0)/\(∀j,m=j+1->l.getD j 0≠0)
 |0,_=>⟨0,aC _,by simp[j4],λj _ h=>by omega,λj h=>by omega⟩
 |k+1,r=>by
  unfold j4;by_cases h:l.getD k 0=0
  .rw[dA h];obtain⟨m,q,i,h3,h4⟩:=Gi l k ω;refine⟨m,by omega,i,λj c f=>?_,h4⟩;by_cases e:j=k
   .rw[e];exact h
   .exact h3 j c ω
  .rw[db h];exact⟨k+1,aC _,rfl,λj c f=>by omega,λj e=>by
    obtain rfl:j=k:=by omega
    exact h⟩
def P4{b:N}(l:I N):∀k,k<=l.length->vl b (j4 l k)=vl b (l.take k)
 |0,_=>by simp[j4]
 |k+1,c=>by
  unfold j4;by_cases h:l.getD k 0=0
  .rw[dA h,P4 l k ω,nY ω,h];simp
  .rw[db h]
def J5(l:I N)(k:E)(f:k<=l.length):fT (j4 l k):=by
 obtain⟨m,i,e,_,h4⟩:=Gi l k f;rw[e];intro j c;rw[er,ns ω]at c;have:=h4 j c;rwa[ap,ly,dA ω,<-ap]
def Yg{b:N}{l:I N}(h:aS b l)(k:E)(e:k<=l.length):aS b (j4 l k):=by
 obtain⟨m,_,c,_⟩:=Gi l k e;rw[c];exact h.take _
def Yh{l:I N}(h:fT l):j4 l l.length=l:=by
 cases c:l.length with
 |zero=>rw[ix c];rfl
 |succ k=>
  unfold j4;rw[db (h k c)];exact eG ω
def vx{b:N}(hb:0<b){l:I N}(h:aS b l)(f:fT l){k:E}(e:l.length=k+1):b^k<=vl b l:=by
 have c:=nY (b:=b) (l:=l) (k:=k) ω;rw[eG ω]at c;have i:=iq hb (h.take k);have h3:=h.at' (k:=k) ω;have h4:=f k e;have h5:b^k*1<=b^k*l.getD k 0:=ar ω (cI (eE hb k));omega
def j5{b:N}(hb:1<=b){m n:E}(h:m<=n):b^m<=b^n:=by
 obtain⟨d,rfl⟩:=E.exists_eq_add_of_le h;rw[yL];have c:=eE (show 0<b by omega) m;have e:=eE (show 0<b by omega) d;have:=ar (show 1<=b^d by omega) (cI c);omega
def yA{b:N}(hb:1<b){l m:I N}(h:aS b l)(g:aS b m)(e:fT m)(j:l.length<m.length):vl b l<vl b m:=by
 obtain⟨k,c⟩:∃k,m.length=k+1:=⟨m.length-1,by omega⟩;have f:=gY (show 0<b by omega) h;have i:=vx (show 0<b by omega) g e c;have h3:=j5 (show 1<=b by omega) (show l.length<=k by omega);omega
def J6{b:N}(hb:1<b){l m:I N}(h:aS b l)(g:aS b m)(u:l.length=m.length){k:E}(r:k<l.length)(z:l.getD k 0<m.getD k 0)(q:∀j,k<j->j<l.length->l.getD j 0=m.getD j 0):vl b l<vl b m:=by
 have e:0<b:=by omega
 have i:l.drop (k+1)=m.drop (k+1):=by
  refine I.ext_getElem (by simp[u]) λA c f=>?_
  rw[I.getElem_drop,I.getElem_drop,<-wX,<-wX];exact q _ ω (by simp at c;omega)
 rw[uN b l (k+1) ω,uN b m (k+1) ω,i,nY r,nY ω];have c:=gY e (h.take k);rw[er,ns ω]at c;have f:=iq e (g.take k);have h3:b^k*(l.getD k 0+1)<=b^k*m.getD k 0:=ar ω (cI (eE e k));rw[oB,Cu]at h3;omega
def P5{b:N}(hb:1<b):∀{l m:I N},aS b l->aS b m->l.length=m.length->vl b l=vl b m->l=m
 |[],[],_,_,_,_=>rfl
 |[],_::_,_,_,h,_=>by cases h
 |_::_,[],_,_,h,_=>by cases h
 |x::l,y::m,h,g,u,e=>by
  have e:x+b*vl b l=y+b*vl b m:=e;have f:=h.head;have c:=g.head;have z:x=y:=by
   have i:(x+b*vl b l)%b=x:=by rw[å];exact N.emod_eq_of_lt f.1 f.2
   have j:(y+b*vl b m)%b=y:=by rw[å];exact N.emod_eq_of_lt c.1 c.2
   rw[<-i,<-j,e]
  subst z;have q:b*vl b l=b*vl b m:=by omega
  have r:=N.eq_of_mul_eq_mul_left ω q;rw[P5 hb h.tail g.tail (by simpa using u) r]
def Yi{b:N}(hb:1<b){l m:I N}(h:aS b l)(g:aS b m)(f:fT l)(i:fT m)(e:vl b l=vl b m):l=m:=by
 rcases E.lt_trichotomy l.length m.length with c|c|c
 .have:=yA hb h g i c;omega
 .exact P5 hb h g c e
 .have:=yA hb g h f c;omega
def J7{b:N}(hb:1<b){l:I N}(h:aS b l)(f:fT l):vl b l=0↔l=[]:=by
 constructor
 .intro e;exact Yi hb h .nil f (λk c=>by cases c) (by rw[e];rfl)
 .rintro rfl;rfl
def fT.nil:fT []:=λk h=>by cases h
section
variable{b:N}
structure Dm(b v1 v2 v' aG u1 u2 u' s:N):Prop where
 b2:2<=b
 s1:1<=s
 v1:1<=v1/\v1<b
 v2:0<=v2/\v2<b
 v':0<=v'/\v'<s
 aG:0<=aG/\aG<b
 u1:0<=u1/\u1<b
 u2:0<=u2/\u2<b
 u':0<=u'/\u'<s
variable{v1 v2 v' aG u1 u2 u' s:N}
def iP(b v1 v2 v' s:N):N:=(v1*b+v2)*s+v'
def pO(b aG u1 u2 u' s:N):N:=((aG*b+u1)*b+u2)*s+u'
def Yj{a c x:N}(h:a*x<c*x)(e:0<x):a<c:=N.lt_of_mul_lt_mul_right h (cI e)
section
variable(p:Dm b v1 v2 v' aG u1 u2 u' s)
def Yk{t q:N}(m:0<=t)(r:q*iP b v1 v2 v' s<=pO b aG u1 u2 u' s)(h:(aG*b+u1-t*v1)*b+u2<t*v2):q<t:=by
 have i:(aG*b+u1)*b+u2+1<=t*(v1*b+v2):=by
  have c:(aG*b+u1-t*v1)*b=(aG*b+u1)*b-t*v1*b:=sZ _ _ _;have e:t*(v1*b+v2)=t*v1*b+t*v2:=by rw[oB,km]
  rw[c]at h;rw[e];omega
 have j:=iK i (show 0<=s by have:=p.s1;omega);have f:((aG*b+u1)*b+u2+1)*s=((aG*b+u1)*b+u2)*s+s:=by rw[wq _ 1,mT]
 rw[f]at j;have h3:t*(v1*b+v2)*s<=t*iP b v1 v2 v' s:=by
  rw[km];exact ar (by unfold iP;have:=p.v';omega) m
 have h4:pO b aG u1 u2 u' s<t*iP b v1 v2 v' s:=by unfold pO;have:=p.u';omega
 have h5:q*iP b v1 v2 v' s<t*iP b v1 v2 v' s:=by omega
 refine Yj h5 ?_;have:=p.v1;have h6:0<v1*b+v2:=by
  have:=G8 (show 0<v1 by omega) (show 0<b by have:=p.b2;omega);have:=p.v2;omega
 have h7:=G8 h6 (show 0<s by have:=p.s1;omega);unfold iP;have:=p.v';omega
def vy{t:N}(r:0<=t/\t<b)(h:t*v2<=(aG*b+u1-t*v1)*b+u2):(t-1)*iP b v1 v2 v' s<=pO b aG u1 u2 u' s:=by
 have f:(aG*b+u1-t*v1)*b=(aG*b+u1)*b-t*v1*b:=sZ _ _ _;have i:t*(v1*b+v2)=t*v1*b+t*v2:=by rw[oB,km]
 have m:t*(v1*b+v2)<=(aG*b+u1)*b+u2:=by rw[i];rw[f]at h;omega
 have q:=iK m (show 0<=s by have:=p.s1;omega);have h3:t*v'<=(b-1)*s:=by
  have a:=iK (show t<=b-1 by omega) p.v'.1;have e:=ar (show v'<=s by have:=p.v';omega) (show 0<=b-1 by have:=p.b2;omega);omega
 have h4:b*s<=iP b v1 v2 v' s:=by
  have a:=iK p.v1.1 (show 0<=b by have:=p.b2;omega);rw[mT]at a;have e:=iK (show b<=v1*b+v2 by have:=p.v2;omega) (show 0<=s by have:=p.s1;omega);unfold iP;have:=p.v';omega
 have j:(t-1)*iP b v1 v2 v' s=t*iP b v1 v2 v' s-iP b v1 v2 v' s:=by rw[sZ,mT]
 have c:t*iP b v1 v2 v' s=t*(v1*b+v2)*s+t*v':=by unfold iP;rw[oB,km]
 have u:(b-1)*s=b*s-s:=by rw[sZ,mT]
 rw[j,c];unfold pO;have:=p.u';have:=p.s1;omega
def Yl{t:N}(i:0<=t/\t<b)(h:b<=aG*b+u1-t*v1):t*v2<=(aG*b+u1-t*v1)*b+u2:=by
 have e:t*v2<=b*b:=by
  have a:=iK (show t<=b by omega) p.v2.1;have c:=ar (show v2<=b by have:=p.v2;omega) (show 0<=b by have:=p.b2;omega);omega
 have f:=iK h (show 0<=b by have:=p.b2;omega);have:=p.u2;omega
def Ym{q:N}(r:0<=q)(m:q*iP b v1 v2 v' s<=pO b aG u1 u2 u' s):q*v1<=aG*b+u1:=by
 refine N.not_lt.1 λj=>?_
 have hb:=p.b2;have f:aG*b+u1+1<=q*v1:=j;have i:=iK f (show 0<=b by omega);have c:(aG*b+u1+1)*b=(aG*b+u1)*b+b:=by rw[wq _ 1,mT]
 rw[c]at i;have h3:=iK (show(aG*b+u1)*b+u2+1<=q*v1*b by have:=p.u2;omega) (show 0<=s by have:=p.s1;omega);have e:((aG*b+u1)*b+u2+1)*s=((aG*b+u1)*b+u2)*s+s:=by rw[wq _ 1,mT]
 rw[e]at h3;have h4:q*v1*b*s<=q*iP b v1 v2 v' s:=by
  rw[km,km];refine ar ?_ r;rw[<-km];unfold iP;have a:v1*b*s<=(v1*b+v2)*s:=iK (by have:=p.v2;omega) (by have:=p.s1;omega);have:=p.v';omega
 unfold pO at m;have:=p.u';omega
end
end
section
open Go.RowKit Sv Go.Proofs.Tryz
noncomputable section
abbrev aF:aq:= .int .u64
abbrev cG(x:N):af:= .raw (.int .u64 x)
abbrev bN(l:I N):af:= .bh ao aF l
abbrev s6(j:E)(l:I N):af:= .bZ 178 aF j 0 l.length (bO l.length)
section
variable(l:I N)
abbrev s7:gB:= .opt 178 aF l
def jz:dF:=l.all λx=>decide (0<=x)&&bP (x<18446744073709551616)
def lM:dF:=dd (j4 l l.length).length l.length
def aj:N:=vl 18446744073709551616 l
end
def yB:=NO f218
def eF(l:I N):I N:=j4 l l.length
section
variable(w:I N)(n:E)
def i9:bD:={n:=21,sl:=[(0,bN w),(3,iv n)],bF:=[],next:=64}
def AC:bD:={n:=21,sl:=[(0,bN w),(3,iv ((n:N)-1))],bF:=[],next:=64}
def amM(c:(n:N)>0)(e:i6 ((n:N)-1))(h3:0<=(n:N)-1)(h4:((n:N)-1).toNat<w.length)(h5:w.getD ((n:N)-1).toNat 0=0):
  aR (aA []) (fl yB [1,1,0,0,0]) (i9 w n) 511 .normal [] (AC w n):=
 wy [aa (aK (ay c)),yi e,ag h3,ag h4,ag c,cT h5] 154581839761004564545
def amN(c:(n:N)>0)(e:i6 ((n:N)-1))(h3:0<=(n:N)-1)(h4:((n:N)-1).toNat<w.length)(h5:¬w.getD ((n:N)-1).toNat 0=0):
  aR (aA []) (fl yB [1,1,0,0,0]) (i9 w n) 383 (.exit 0) [] (i9 w n):=
 wy [aa (aK (ay c)),yi e,ag h3,ag h4,ag c,yn h5] 7007887171328151617
def Yn(c:n<=w.length)(e:((w.take n).drop 0)=(w.take n)):
  bw (aA []) ((fl yB []).drop 3) (i9 w n) 1 f218 ao (bN (w.take n)):=
 wy [ag c,av e] 528384
end
def J8:=IN 218 [.list ao aF] [.list ao aF] ao (λd=>decide (jC (α:=N) d.1<=1000000)) λd=>(eF d.1,())
def amP(w:I N)(q:w.length<=1000000):Holds em ao 218 [bN w] (bN (eF w)):=by
 refine bK yB func218 λw0 F=>?_
 refine cE ba 2 (wy [] 0:cL (aA []) (fl yB []) 2 21 [bN w] 1 .normal [] (i9 w w.length)) ?_;refine c_q {n:E//n<=w.length/\j4 w n=eF w} 0 (cat yB [1,1,0,0,0]) ((fl yB []).drop 3) (λn=>i9 w n.1) (λn=>n.1) ⟨w.length,aC _,rfl⟩ ?_;rintro⟨n,r,f⟩;cases n with
 |zero=>
  refine aT (s:=i9 w 0) ba (wy [aa (aK (ab (ω:¬(0:N)>0))),az (ω:¬(0:N)>0)] 138529738817:aR (aA []) (fl yB [1,1,0,0,0]) (i9 w 0) 256 (.exit 0) [] (i9 w 0)) ?_;refine bY (cg ?_);have e:eF w=w.take 0:=by rw[<-f];rfl
  rw[e];exact bM (s:=i9 w 0) ba (Yn w 0 ω rfl)
 |succ k=>
  have i:(((k+1:E):N)-1).toNat=k:=by omega
  have j:AC w (k+1)=i9 w k:=by
   unfold AC i9;rw[show(((k+1:E):N)-1)=(k:N) by omega]
  by_cases c:w.getD k 0=0
  .refine aT (s:=i9 w (k+1)) (s':=AC w (k+1)) ba (amM w (k+1) ω ω ω ω (by rw[i];exact c)) ?_;have m:j4 w k=eF w:=by rw[<-f,j4,dA c]
   rw[j];exact⟨⟨k,by omega,m⟩,by simp,rfl,rfl⟩
  .refine aT (s:=i9 w (k+1)) ba (amN w (k+1) ω ω ω ω (by rw[i];exact c)) ?_;refine bY (cg ?_);have e:eF w=w.take (k+1):=by rw[<-f,j4,db c]
   rw[e];exact bM (s:=i9 w (k+1)) ba (Yn w (k+1) ω rfl)
def P6:J8.Ok em:=λ⟨w,_⟩ h=>amP w (cC h)
end
end
def fT.cons{x:N}{l:I N}(h:fT l)(e:l=[]->x≠0):fT (x::l):=λk c=>by
 cases l with
 |nil=>
  simp at c;subst c;exact e rfl
 |cons y r=>
  cases k with
  |zero=>simp at c
  |succ k=>
   have:=h k (by simpa using c);simpa using this
def Yo{b:N}(hb:1<b):∀n:E,∃l,aS b l/\fT l/\vl b l=(n:N):=λn=>by
 induction n using Nat.strongRecOn with
 |_ n ih=>
  by_cases i:n=0
  .subst i;exact⟨[],aS.nil,fT.nil,rfl⟩
  .have j:((n:N)/b).toNat<n:=by
    have c:(n:N)/b<n:=Cl ω (by
     have:(n:N)*1<n*b:=N.mul_lt_mul_of_pos_left hb ω;omega)
    have e:0<=(n:N)/b:=jN ω ω;omega
   obtain⟨l,c,e,h3⟩:=ih _ j;have h4:0<=(n:N)/b:=jN ω ω;rw[ZY h4]at h3;have h5:=fC (n:N) (show b≠0 by omega);have h6:=fZ (n:N) (show 0<b by omega);have h7:=jp (n:N) b;refine⟨(n:N)%b::l,aS.cons ⟨h5,h6⟩ c,fT.cons e λf m=>?_,?_⟩
   .subst f;have h3:(0:N)=(n:N)/b:=h3;rw[m,<-h3]at h7;simp at h7;omega
   .show(n:N)%b+b*vl b l=n;rw[h3];exact h7
noncomputable def gL(b z:N):I N:=if h:1<b/\0<=z then Classical.choose (Yo h.1 z.toNat)else []
def uO{b z:N}(hb:1<b)(f:0<=z):aS b (gL b z)/\fT (gL b z)/\vl b (gL b z)=z:=by
 unfold gL;rw[dif_pos ⟨hb,f⟩];obtain⟨c,e,h3⟩:=Classical.choose_spec (Yo hb z.toNat);exact⟨c,e,by rw[h3];omega⟩
def ik{b z:N}{l:I N}(hb:1<b)(c:aS b l)(j:fT l)(h3:vl b l=z):l=gL b z:=by
 have m:0<=z:=by rw[<-h3];exact iq ω c
 obtain⟨e,f,i⟩:=uO hb m;exact Yi hb c e j f (by rw[h3,i])
def Dn{l:I N}{i:E}{d:N}:(l.set i d).take i=l.take i:=by
 refine I.ext_getElem? λj=>?_
 rw[ly,ly];split
 .rw[KL ω]
 .rfl
def yC{l:I N}{i:E}{d:N}(h:i<l.length):(l.set i d).getD i 0=d:=by
 rw[ap,I.getElem?_set_self h];rfl
def AZ{b:N}{l:I N}{i:E}{d:N}(h:i<l.length):vl b ((l.set i d).take (i+1))=vl b (l.take i)+b^i*d:=by
 rw[mX,Dn,yC h]
section
variable{b:N}(hb:0<b){l:I N}(h:aS b l)
def amQ(k:E):vl b (l.take k)<=vl b l:=by
 by_cases c:k<=l.length
 .rw[uN b l k c];have:=amK (cI (eE hb k)) (iq hb (h.drop k));omega
 .rw[eG ω];exact vc _
def Gj{k:E}(m:vl b l<b^k):vl b (l.take k)=vl b l:=by
 by_cases e:k<=l.length
 .have f:=uN b l k e;have i:=iq hb (h.drop k);have j:=iq hb (h.take k);have c:vl b (l.drop k)=0:=by
   by_cases c:vl b (l.drop k)=0
   .exact c
   .have h3:b^k*1<=b^k*vl b (l.drop k):=ar ω (cI (eE hb k));omega
  rw[c]at f;omega
 .rw[eG ω]
end
def P7{P b s f a e c X Y i:N}(h:s+b*f=a+e+c)(hi:i+P*c=X+Y):i+P*s+P*b*f=X+P*a+(Y+P*e):=by
 have j:P*(s+b*f)=P*(a+e+c):=by rw[h]
 rw[oB,oB,oB,<-km]at j;omega
def Yp{P b s f a e c X Y i:N}(h:s-b*f=a-e-c)(hi:i-P*c=X-Y):i+P*s-P*b*f=X+P*a-(Y+P*e):=by
 have j:P*(s-b*f)=P*(a-e-c):=by rw[h]
 rw[LS,LS,LS,<-km]at j;omega
end Go.Proofs.YtdajfemhnlpegaaGreatDoor
namespace Go.Proofs.YtdajfemhnlpegaaGreatDoor
open Go.RowKit Sv Go.Proofs.Tryz
noncomputable section
def mi:=aA [J8]
def dM(a b c:N):N:=(((a.toNat+b.toNat+c.toNat)%2^64:E):N)
def eL(a b c:N):N:=(((a.toNat+b.toNat+c.toNat)/2^64:E):N)
def dV(a b c:N):N:=(((a.toNat+2^64-b.toNat-c.toNat)%2^64:E):N)
def e4(a b c:N):N:=((if a.toNat<b.toNat+c.toNat then 1 else 0:E):N)
def cZ(n:E):I N:=ie n 0
def oQ:=NO f143
def qH:=NO f145
abbrev Dp:I E:=[1,1,1,1,0,1,0,0]
def gM(x y e:I N)(c:N)(i:E):bD:={n:=54,sl:=[(0,bN x),(1,bN y),(5,s6 64 e),(6,cG c),(21,iv x.length),(22,iv i)],bF:=[(64,s7 e)],next:=65}
def J9(c:I N):bD:={n:=54,sl:=[(5,s6 64 c)],bF:=[(64,s7 c)],next:=65}
def J'(c:I N):bD:={n:=54,sl:=[(5,bN c)],bF:=[],next:=64}
def amR(x y:I N)(c:¬(x.length:N)<(y.length:N))(e: -9223372036854775808<=(x.length:N)+1/\(x.length:N)+1<=9223372036854775807)(h3:((x.length:N)+1).toNat<=1000000)(h4:(((x.length:N)+1).toNat)=(cZ (x.length+(1:E))).length)(h5:(aY.known ((x.length:N)+1).toNat)=(aY.known (x.length+(1:E))))(h6:(bO (cZ (x.length+(1:E))).length)=(bO (x.length+(1:E))))(h7:(F5 (ie ((x.length:N)+1).toNat (I.map af.raw (uU #[Value.int .u64 (0:N)]))))=(A' (λx=>[af.raw (Value.int .u64 x)]) (cZ (x.length+(1:E)))))(h8:(x.length+(1:E))=(cZ (x.length+(1:E))).length):
  aD.path (sP em mi (fl oQ []) 6 54 [bN x,bN y]) (dl 2) (fy em 54 .normal [(64,64,O (x.length+1))] (gM x y (cZ (x.length+1)) 0 0)):=
 mp (Pa (ab c) (fA e) rt rt (show(bP (((x.length:N)+1).toNat<=((x.length:N)+1).toNat))=D from ay ω) (rB (show(bounded ((x.length:N)+1).toNat (8:E))=D from kB h3 ω) (rr x) (rr y) (an h4 (an h5 h6)) (rr (0:N)) (rr (x.length:N)) (rr (0:N)) (an h7 h8) trivial))
def amS(x y:I N)(c:(x.length:N)<(y.length:N))(e: -9223372036854775808<=(y.length:N)+1/\(y.length:N)+1<=9223372036854775807)(h3:((y.length:N)+1).toNat<=1000000)(h4:(((y.length:N)+1).toNat)=(cZ (y.length+(1:E))).length)(h5:(aY.known ((y.length:N)+1).toNat)=(aY.known (y.length+(1:E))))(h6:(bO (cZ (y.length+(1:E))).length)=(bO (y.length+(1:E))))(h7:(F5 (ie ((y.length:N)+1).toNat (I.map af.raw (uU #[Value.int .u64 (0:N)]))))=(A' (λx=>[af.raw (Value.int .u64 x)]) (cZ (y.length+(1:E)))))(h8:(y.length+(1:E))=(cZ (y.length+(1:E))).length):
  aD.path (sP em mi (fl oQ []) 6 54 [bN x,bN y]) (dl 3) (fy em 54 .normal [(64,64,O (y.length+1))] (gM y x (cZ (y.length+1)) 0 0)):=
 mp (Pa (ay c) (fA e) rt rt (show(bP (((y.length:N)+1).toNat<=((y.length:N)+1).toNat))=D from ay ω) (rB (show(bounded ((y.length:N)+1).toNat (8:E))=D from kB h3 ω) (rr y) (rr x) (an h4 (an h5 h6)) (rr (0:N)) (rr (y.length:N)) (rr (0:N)) (an h7 h8) trivial))
abbrev Dq:I E:=[1,1,1,0,1,0,0]
def gZ(x y e:I N)(c:N)(i:E):bD:={n:=41,sl:=[(0,bN x),(1,bN y),(5,s6 64 e),(6,cG c),(13,iv x.length),(14,iv i)],bF:=[(64,s7 e)],next:=65}
def Ka(c:I N):bD:={n:=41,sl:=[(5,bN c)],bF:=[],next:=64}
section
variable(x y:I N)
def am1(e:x.length<=1000000)(c:x.length=(cZ x.length).length)(h3:(bO (cZ x.length).length)=(bO x.length))(h4:(F5 (ie x.length (I.map af.raw (uU #[Value.int .u64 (0:N)]))))=(A' (λx=>[af.raw (Value.int .u64 x)]) (cZ x.length))):
  aD.path (sP em mi (fl qH []) 4 41 [bN x,bN y]) (dl 1) (fy em 41 .normal [(64,64,O x.length)] (gZ x y (cZ x.length) 0 0)):=
 mp (Jy rt rt (show(bP (x.length<=x.length))=D from ay ω) (rB (show(bounded x.length (8:E))=D from kB e ω) (rr x) (rr y) (an c (an (rr (aY.known x.length)) h3)) (rr (0:N)) (rr (x.length:N)) (rr (0:N)) (an h4 c) trivial))
def mY:dF:=jz x&&(jz y&&(bP (x.length<=400000)&&bP (y.length<=400000)))
def yD:I N:=gL 18446744073709551616 (aj x+aj y)
def ti:I N:=gL 18446744073709551616 (aj x-aj y)
end
def Yq:=IN 143 [.list ao aF,.list ao aF] [.list ao aF] ao (λd=>mY d.1 d.2.1) λd=>(yD d.1 d.2.1,())
def Yr:=IN 145 [.list ao aF,.list ao aF] [.list ao aF] ao (λd=>mY d.1 d.2.1&&bP (aj d.2.1<=aj d.1)) λd=>(ti d.1 d.2.1,())
def Kb:bI em (bJ mi):=uA P6
def jA{l:I N}:jz l=D↔aS 18446744073709551616 l:=by
 unfold jz aS;simp only[ky,ae,aN]
def yj:(1:N)<18446744073709551616:=by decide
def Gk{a b c:N}(f:0<=a/\a<18446744073709551616)(hb:0<=b/\b<18446744073709551616)(e:c=0\/c=1):
  dM a b c+18446744073709551616*eL a b c=a+b+c/\(0<=dM a b c/\dM a b c<18446744073709551616)/\(eL a b c=0\/eL a b c=1):=by
 unfold dM eL;rw[show(2:E)^64=18446744073709551616 from rfl];rcases e with rfl |rfl<;>omega
def P8{a b c:N}(f:0<=a/\a<18446744073709551616)(hb:0<=b/\b<18446744073709551616)(e:c=0\/c=1):
  dV a b c-18446744073709551616*e4 a b c=a-b-c/\(0<=dV a b c/\dV a b c<18446744073709551616)/\(e4 a b c=0\/e4 a b c=1):=by
 unfold dV e4;rw[show(2:E)^64=18446744073709551616 from rfl];rcases e with rfl |rfl<;>split<;>omega
def iQ(n:E):(cZ n).length=n:=I.length_replicate
def Dr(n:E):aS 18446744073709551616 (cZ n):=aS.rep δ n
def A0(n:E):(ie n (I.map af.raw (uU #[Value.int dv (0:N)]))).flatten=(cZ n).flatMap (λx=>[af.raw (Value.int dv x)]):=by
 unfold cZ;induction n with
 |zero=>rfl
 |succ n ih=>rw[Lq,Lq,I.flatten_cons,I.flatMap_cons,ih];rfl
def ml{l:I N}(h:aS 18446744073709551616 l):eF l=gL 18446744073709551616 (aj l):=by
 refine ik yj (Yg h _ (aC _)) (J5 l _ (aC _)) ?_;unfold eF aj;rw[P4 l _ (aC _),dx]
def Yt{l:I N}{i:E}(h:¬i<l.length):l.getD i 0=0:=by
 rw[ap,JU ω];rfl
def Yu:(fl oQ []).drop 8≠[]:=λh=>by
 have:((fl oQ []).drop 8).isEmpty=ao:=by kernel_rfl
 rw[h]at this;cases this
def Yv:(fl qH []).drop 5≠[]:=λh=>by
 have:((fl qH []).drop 5).isEmpty=ao:=by kernel_rfl
 rw[h]at this;cases this
def Yw{x y:I N}(a1:aS 18446744073709551616 x)(a3:aS 18446744073709551616 y)(a2:y.length<=x.length)(a5:x.length<=400000)(w0:du)(F:Env):
  bp em w0 F 54 ((fl oQ []).drop 6) (gM x y (cZ (x.length+1)) 0 0).T (gM x y (cZ (x.length+1)) 0 0).H (ew em ao f143 (bN (gL 18446744073709551616 (aj x+aj y)))):=by
 have j:=Kb;refine c_q {s:I N×N×E//s.2.2<=x.length/\s.1.length=x.length+1/\aS 18446744073709551616 s.1/\(s.2.1=0\/s.2.1=1)/\aj (s.1.take s.2.2)+18446744073709551616^s.2.2*s.2.1=aj (x.take s.2.2)+aj (y.take s.2.2)} 0 (cat oQ Dp) ((fl oQ []).drop 7) (λs=>gM x y s.1.1 s.1.2.1 s.1.2.2) (λs=>x.length-s.1.2.2)
  ⟨(cZ (x.length+1),0,0),gt _,iQ _,Dr _,.inl rfl,by simp[aj,vl]⟩ ?_
 rintro⟨⟨c,e,i⟩,J,C,A,q,r⟩;have J:i<=x.length:=J;have C:c.length=x.length+1:=C;have A:aS 18446744073709551616 c:=A;have q:e=0\/e=1:=q;have r:aj (c.take i)+18446744073709551616^i*e=aj (x.take i)+aj (y.take i):=r;by_cases u:i<x.length
 .have a4:=a1.get δ i;have K:=a3.get δ i;obtain⟨L,M,S⟩:=Gk a4 K q;have a':aj ((c.set i (dM (x.getD i 0) (y.getD i 0) e)).take (i+1))+18446744073709551616^(i+1)*eL (x.getD i 0) (y.getD i 0) e=aj (x.take (i+1))+aj (y.take (i+1)):=by
   unfold aj at r ⊢;rw[AZ ω,mX x i,mX y i,hP];exact P7 L r
  have z:∃m:{s:I N×N×E//s.2.2<=x.length/\s.1.length=x.length+1/\aS 18446744073709551616 s.1/\(s.2.1=0\/s.2.1=1)/\aj (s.1.take s.2.2)+18446744073709551616^s.2.2*s.2.1=aj (x.take s.2.2)+aj (y.take s.2.2)},x.length-m.1.2.2<x.length-i/\(gM x y (c.set i (dM (x.getD i 0) (y.getD i 0) e)) (eL (x.getD i 0) (y.getD i 0) e) (i+1)).T=(gM x y m.1.1 m.1.2.1 m.1.2.2).T/\(gM x y (c.set i (dM (x.getD i 0) (y.getD i 0) e)) (eL (x.getD i 0) (y.getD i 0) e) (i+1)).H=(gM x y m.1.1 m.1.2.1 m.1.2.2).H:=
   ⟨⟨(c.set i (dM (x.getD i 0) (y.getD i 0) e),eL (x.getD i 0) (y.getD i 0) e,i+1),u,by rw[cm];exact C,A.set M,S,a'⟩,by simp;omega,rfl,rfl⟩
  by_cases G:i<y.length
  .rcases q with rfl |rfl
   .exact aT (s:=gM x y c 0 i) (s':=gM x y (c.set i (dM (x.getD i 0) (y.getD i 0) 0)) (eL (x.getD i 0) (y.getD i 0) 0) (i+1)) j (wy [ag (ω:(i:N)<(x.length:N)),ag (ω:(i:N)<(y.length:N)),ag G,ag u,ag (ω:i<c.length),jf 178 aF (ω:i<c.length),yi (ω:i6 ((i:N)+1)),av (show c.length=(c.set i (dM (x.getD i 0) (y.getD i 0) 0)).length from by rw[cm]),av (show(bO c.length)=(bO (c.set i (dM (x.getD i 0) (y.getD i 0) 0)).length) from by rw[cm]),av (rfl:(↑(((x.getD i 0).toNat+(y.getD i 0).toNat+ea 0)/(2:E)^(64:E)):N)=(eL (x.getD i 0) (y.getD i 0) 0)),oK 178 aF (rfl:(c.set i (↑(((x.getD i 0).toNat+(y.getD i 0).toNat+ea 0)%(2:E)^(64:E)):N))=(c.set i (dM (x.getD i 0) (y.getD i 0) 0)))] 3569716646146256639964958679629953:aR mi (fl oQ Dp) (gM x y c 0 i) 7 .normal [(64,64,bs)] (gM x y (c.set i (dM (x.getD i 0) (y.getD i 0) 0)) (eL (x.getD i 0) (y.getD i 0) 0) (i+1))) z
   .exact aT (s:=gM x y c 1 i) (s':=gM x y (c.set i (dM (x.getD i 0) (y.getD i 0) 1)) (eL (x.getD i 0) (y.getD i 0) 1) (i+1)) j (wy [ag (ω:(i:N)<(x.length:N)),ag (ω:(i:N)<(y.length:N)),ag G,ag u,ag (ω:i<c.length),jf 178 aF (ω:i<c.length),yi (ω:i6 ((i:N)+1)),av (show c.length=(c.set i (dM (x.getD i 0) (y.getD i 0) 1)).length from by rw[cm]),av (show(bO c.length)=(bO (c.set i (dM (x.getD i 0) (y.getD i 0) 1)).length) from by rw[cm]),av (rfl:(↑(((x.getD i 0).toNat+(y.getD i 0).toNat+ea 1)/(2:E)^(64:E)):N)=(eL (x.getD i 0) (y.getD i 0) 1)),oK 178 aF (rfl:(c.set i (↑(((x.getD i 0).toNat+(y.getD i 0).toNat+ea 1)%(2:E)^(64:E)):N))=(c.set i (dM (x.getD i 0) (y.getD i 0) 1)))] 3569716646146256639964958679629953:aR mi (fl oQ Dp) (gM x y c 1 i) 7 .normal [(64,64,bs)] (gM x y (c.set i (dM (x.getD i 0) (y.getD i 0) 1)) (eL (x.getD i 0) (y.getD i 0) 1) (i+1))) z
  .rw[Yt G]at z;rcases q with rfl |rfl
   .exact aT (s:=gM x y c 0 i) (s':=gM x y (c.set i (dM (x.getD i 0) 0 0)) (eL (x.getD i 0) 0 0) (i+1)) j (wy [ag (ω:(i:N)<(x.length:N)),az (ω:¬(i:N)<(y.length:N)),ag u,ag (ω:i<c.length),jf 178 aF (ω:i<c.length),yi (ω:i6 ((i:N)+1)),av (show c.length=(c.set i (dM (x.getD i 0) 0 0)).length from by rw[cm]),av (show(bO c.length)=(bO (c.set i (dM (x.getD i 0) 0 0)).length) from by rw[cm]),av (rfl:(↑(((x.getD i 0).toNat+ea 0+ea 0)/(2:E)^(64:E)):N)=(eL (x.getD i 0) 0 0)),oK 178 aF (rfl:(c.set i (↑(((x.getD i 0).toNat+ea 0+ea 0)%(2:E)^(64:E)):N))=(c.set i (dM (x.getD i 0) 0 0)))] 792284383521178232608283951233:aR mi (fl oQ Dp) (gM x y c 0 i) 5 .normal [(64,64,bs)] (gM x y (c.set i (dM (x.getD i 0) 0 0)) (eL (x.getD i 0) 0 0) (i+1))) z
   .exact aT (s:=gM x y c 1 i) (s':=gM x y (c.set i (dM (x.getD i 0) 0 1)) (eL (x.getD i 0) 0 1) (i+1)) j (wy [ag (ω:(i:N)<(x.length:N)),az (ω:¬(i:N)<(y.length:N)),ag u,ag (ω:i<c.length),jf 178 aF (ω:i<c.length),yi (ω:i6 ((i:N)+1)),av (show c.length=(c.set i (dM (x.getD i 0) 0 1)).length from by rw[cm]),av (show(bO c.length)=(bO (c.set i (dM (x.getD i 0) 0 1)).length) from by rw[cm]),av (rfl:(↑(((x.getD i 0).toNat+ea 0+ea 1)/(2:E)^(64:E)):N)=(eL (x.getD i 0) 0 1)),oK 178 aF (rfl:(c.set i (↑(((x.getD i 0).toNat+ea 0+ea 1)%(2:E)^(64:E)):N))=(c.set i (dM (x.getD i 0) 0 1)))] 792284383521178232608283951233:aR mi (fl oQ Dp) (gM x y c 1 i) 5 .normal [(64,64,bs)] (gM x y (c.set i (dM (x.getD i 0) 0 1)) (eL (x.getD i 0) 0 1) (i+1))) z
 .refine aT (s:=gM x y c e i) j (wy [az (ω:¬(i:N)<(x.length:N))] 1:aR mi (fl oQ Dp) (gM x y c e i) 2 (.exit 0) [(64,64,bs)] (gM x y c e i)) ?_;refine bY (cg ?_);obtain rfl:i=x.length:=by omega
  have V:0<=e/\e<18446744073709551616:=by rcases q with rfl |rfl<;>decide
  refine dH (s:=gM x y c e x.length) (s':=J9 (c.set x.length e)) j 1 (wy [ag (ω:x.length<c.length),jf 178 aF (ω:x.length<c.length),av (show c.length=(c.set x.length e).length from by rw[cm]),av (show(bO c.length)=(bO (c.set x.length e).length) from by rw[cm]),oK 178 aF (Hj (c.set x.length e))] 347942690880:di mi ((fl oQ []).drop 7) 1 (gM x y c e x.length) 1 .normal [(64,64,bs)] (J9 (c.set x.length e))) ?_;have a0:aj (c.set x.length e)=aj x+aj y:=by
   rw[dx,eG a2]at r;rw[<-r];have:=AZ (b:=18446744073709551616) (l:=c) (i:=x.length) (d:=e) ω;rw[eG (by rw[cm];omega)]at this;exact this
  have U:=A.set (k:=x.length) V;rw[<-a0,<-ml U];have X:(c.set x.length e).length<=1000000:=by rw[cm];omega
  generalize c.set x.length e=f at*;refine bp.Aw Yu (i:=64) (s:=5) (e2:=178) (t:=aF) (xs:=f) (cap:=bO f.length) (by kernel_rfl) (by kernel_rfl) ?_;refine bp.qu Yu (σ:=[]) (s:=J' f) (wy [] 0:aD.path (aD.ret (R.normal ((J9 f).T.set 5 (O (bN f))) ((J9 f).H.drop 64) []):aD R) (dl 1) (fy em 54 .normal [] (J' f))) ?_;exact bM (s:=J' f) j (wy [ag X] 1:bw mi ((fl oQ []).drop 8) (J' f) 1 f143 ao (bN (eF f)))
def am9(x y:I N)(h:mY x y=D):Holds em ao 143 [bN x,bN y] (bN (yD x y)):=by
 unfold mY at h;simp only[ae,aN]at h;obtain⟨e,f,j,m⟩:=h;have e:=jA.1 e;have f:=jA.1 f;have i:=Kb;refine bK oQ func143 λw0 F=>?_
 by_cases q:x.length<y.length
 .have c:((y.length:N)+1).toNat=y.length+1:=by omega
  refine cE i 6 (amS x y ω ω ω (by rw[iQ,c]) (by rw[c]) (by rw[iQ]) (by rw[c];exact A0 _) (by rw[iQ])) ?_;have:=Yw f e ω m w0 F;unfold yD;rw[N.add_comm];exact this
 .have c:((x.length:N)+1).toNat=x.length+1:=by omega
  refine cE i 6 (amR x y ω ω ω (by rw[iQ,c]) (by rw[c]) (by rw[iQ]) (by rw[c];exact A0 _) (by rw[iQ])) ?_;exact Yw e f ω j w0 F
def ana:Yq.Ok em:=λ⟨x,y,_⟩ h=>am9 x y h
def anb{x y:I N}(K:aS 18446744073709551616 x)(L:aS 18446744073709551616 y)(e:aj y<=aj x)(c:x.length<=400000)(w0:du)(F:Env):
  bp em w0 F 41 ((fl qH []).drop 4) (gZ x y (cZ x.length) 0 0).T (gZ x y (cZ x.length) 0 0).H (ew em ao f145 (bN (gL 18446744073709551616 (aj x-aj y)))):=by
 have f:=Kb;refine c_q {s:I N×N×E//s.2.2<=x.length/\s.1.length=x.length/\aS 18446744073709551616 s.1/\(s.2.1=0\/s.2.1=1)/\aj (s.1.take s.2.2)-18446744073709551616^s.2.2*s.2.1=aj (x.take s.2.2)-aj (y.take s.2.2)} 0 (cat qH Dq) ((fl qH []).drop 5) (λs=>gZ x y s.1.1 s.1.2.1 s.1.2.2) (λs=>x.length-s.1.2.2)
  ⟨(cZ x.length,0,0),gt _,iQ _,Dr _,.inl rfl,by simp[aj,vl]⟩ ?_
 rintro⟨⟨c,e,i⟩,J,C,u,m,q⟩;have J:i<=x.length:=J;have C:c.length=x.length:=C;have u:aS 18446744073709551616 c:=u;have m:e=0\/e=1:=m;have q:aj (c.take i)-18446744073709551616^i*e=aj (x.take i)-aj (y.take i):=q;by_cases r:i<x.length
 .have j:=K.get δ i;have M:=L.get δ i;obtain⟨S,U,V⟩:=P8 j M m;have X:aj ((c.set i (dV (x.getD i 0) (y.getD i 0) e)).take (i+1))-18446744073709551616^(i+1)*e4 (x.getD i 0) (y.getD i 0) e=aj (x.take (i+1))-aj (y.take (i+1)):=by
   unfold aj at q ⊢;rw[AZ ω,mX x i,mX y i,hP];exact Yp S q
  have A:∃j:{s:I N×N×E//s.2.2<=x.length/\s.1.length=x.length/\aS 18446744073709551616 s.1/\(s.2.1=0\/s.2.1=1)/\aj (s.1.take s.2.2)-18446744073709551616^s.2.2*s.2.1=aj (x.take s.2.2)-aj (y.take s.2.2)},x.length-j.1.2.2<x.length-i/\(gZ x y (c.set i (dV (x.getD i 0) (y.getD i 0) e)) (e4 (x.getD i 0) (y.getD i 0) e) (i+1)).T=(gZ x y j.1.1 j.1.2.1 j.1.2.2).T/\(gZ x y (c.set i (dV (x.getD i 0) (y.getD i 0) e)) (e4 (x.getD i 0) (y.getD i 0) e) (i+1)).H=(gZ x y j.1.1 j.1.2.1 j.1.2.2).H:=
   ⟨⟨(c.set i (dV (x.getD i 0) (y.getD i 0) e),e4 (x.getD i 0) (y.getD i 0) e,i+1),r,by rw[cm];exact C,u.set U,V,X⟩,by simp;omega,rfl,rfl⟩
  by_cases z:i<y.length
  .rcases m with rfl |rfl
   .exact aT (s:=gZ x y c 0 i) (s':=gZ x y (c.set i (dV (x.getD i 0) (y.getD i 0) 0)) (e4 (x.getD i 0) (y.getD i 0) 0) (i+1)) f (wy [ag (ω:(i:N)<(x.length:N)),ag (ω:(i:N)<(y.length:N)),ag z,ag r,ag (ω:i<c.length),jf 178 aF (ω:i<c.length),yi (ω:i6 ((i:N)+1)),av (show c.length=(c.set i (dV (x.getD i (0:N)) (y.getD i (0:N)) (0:N))).length from by rw[cm]),av (show(bO c.length)=(bO (c.set i (dV (x.getD i (0:N)) (y.getD i (0:N)) (0:N))).length) from by rw[cm]),av (rfl:(↑(if ea (x.getD i (0:N))<(y.getD i (0:N)).toNat+ea (0:N)then(1:E)else(0:E)):N)=(e4 (x.getD i (0:N)) (y.getD i (0:N)) (0:N))),oK 178 aF (rfl:(c.set i (↑(((x.getD i (0:N)).toNat+(2:E)^(64:E)-ea (y.getD i (0:N))-ea (0:N))%(2:E)^(64:E)):N))=(c.set i (dV (x.getD i (0:N)) (y.getD i (0:N)) (0:N))))] 3569716646146256639964958679629953:aR mi (fl qH Dq) (gZ x y c 0 i) 7 .normal [(64,64,bs)] (gZ x y (c.set i (dV (x.getD i 0) (y.getD i 0) 0)) (e4 (x.getD i 0) (y.getD i 0) 0) (i+1))) A
   .exact aT (s:=gZ x y c 1 i) (s':=gZ x y (c.set i (dV (x.getD i 0) (y.getD i 0) 1)) (e4 (x.getD i 0) (y.getD i 0) 1) (i+1)) f (wy [ag (ω:(i:N)<(x.length:N)),ag (ω:(i:N)<(y.length:N)),ag z,ag r,ag (ω:i<c.length),jf 178 aF (ω:i<c.length),yi (ω:i6 ((i:N)+1)),av (show c.length=(c.set i (dV (x.getD i (0:N)) (y.getD i (0:N)) (1:N))).length from by rw[cm]),av (show(bO c.length)=(bO (c.set i (dV (x.getD i (0:N)) (y.getD i (0:N)) (1:N))).length) from by rw[cm]),av (rfl:(↑(if ea (x.getD i (0:N))<(y.getD i (0:N)).toNat+ea (1:N)then(1:E)else(0:E)):N)=(e4 (x.getD i (0:N)) (y.getD i (0:N)) (1:N))),oK 178 aF (rfl:(c.set i (↑(((x.getD i (0:N)).toNat+(2:E)^(64:E)-ea (y.getD i (0:N))-ea (1:N))%(2:E)^(64:E)):N))=(c.set i (dV (x.getD i (0:N)) (y.getD i (0:N)) (1:N))))] 3569716646146256639964958679629953:aR mi (fl qH Dq) (gZ x y c 1 i) 7 .normal [(64,64,bs)] (gZ x y (c.set i (dV (x.getD i 0) (y.getD i 0) 1)) (e4 (x.getD i 0) (y.getD i 0) 1) (i+1))) A
  .rw[Yt z]at A;rcases m with rfl |rfl
   .exact aT (s:=gZ x y c 0 i) (s':=gZ x y (c.set i (dV (x.getD i 0) 0 0)) (e4 (x.getD i 0) 0 0) (i+1)) f (wy [ag (ω:(i:N)<(x.length:N)),az (ω:¬(i:N)<(y.length:N)),ag r,ag (ω:i<c.length),jf 178 aF (ω:i<c.length),yi (ω:i6 ((i:N)+1)),av (show c.length=(c.set i (dV (x.getD i 0) 0 0)).length from by rw[cm]),av (show(bO c.length)=(bO (c.set i (dV (x.getD i 0) 0 0)).length) from by rw[cm]),av (rfl:(↑(if ea (x.getD i 0)<ea 0+ea 0 then 1 else 0):N)=(e4 (x.getD i 0) 0 0)),oK 178 aF (rfl:(c.set i (↑(((x.getD i 0).toNat+(2:E)^(64:E)-ea 0-ea 0)%(2:E)^(64:E)):N))=(c.set i (dV (x.getD i 0) 0 0)))] 792284383521178232608283951233:aR mi (fl qH Dq) (gZ x y c 0 i) 5 .normal [(64,64,bs)] (gZ x y (c.set i (dV (x.getD i 0) 0 0)) (e4 (x.getD i 0) 0 0) (i+1))) A
   .exact aT (s:=gZ x y c 1 i) (s':=gZ x y (c.set i (dV (x.getD i 0) 0 1)) (e4 (x.getD i 0) 0 1) (i+1)) f (wy [ag (ω:(i:N)<(x.length:N)),az (ω:¬(i:N)<(y.length:N)),ag r,ag (ω:i<c.length),jf 178 aF (ω:i<c.length),yi (ω:i6 ((i:N)+1)),av (show c.length=(c.set i (dV (x.getD i (0:N)) (0:N) (1:N))).length from by rw[cm]),av (show(bO c.length)=(bO (c.set i (dV (x.getD i (0:N)) (0:N) (1:N))).length) from by rw[cm]),av (rfl:(↑(if ea (x.getD i (0:N))<(0:N).toNat+ea (1:N)then(1:E)else(0:E)):N)=(e4 (x.getD i (0:N)) (0:N) (1:N))),oK 178 aF (rfl:(c.set i (↑(((x.getD i (0:N)).toNat+(2:E)^(64:E)-ea (0:N)-ea (1:N))%(2:E)^(64:E)):N))=(c.set i (dV (x.getD i (0:N)) (0:N) (1:N))))] 792284383521178232608283951233:aR mi (fl qH Dq) (gZ x y c 1 i) 5 .normal [(64,64,bs)] (gZ x y (c.set i (dV (x.getD i 0) 0 1)) (e4 (x.getD i 0) 0 1) (i+1))) A
 .refine aT (s:=gZ x y c e i) f (wy [az (ω:¬(i:N)<(x.length:N))] 1:aR mi (fl qH Dq) (gZ x y c e i) 2 (.exit 0) [(64,64,bs)] (gZ x y c e i)) ?_;refine bY (cg ?_);obtain rfl:i=x.length:=by omega
  have j:aj x<18446744073709551616^x.length:=gY δ K;have z:aj (y.take x.length)=aj y:=Gj δ L (show aj y<_ by omega);have j:aj c=aj x-aj y:=by
   have G:=gY δ u;rw[C]at G;have G:aj c<18446744073709551616^x.length:=G;rw[dx,z,eG ω]at q;rcases m with rfl |rfl
   .omega
   .omega
  rw[<-j,<-ml u];refine bp.Aw Yv (i:=64) (s:=5) (e2:=178) (t:=aF) (xs:=c) (cap:=bO c.length) (by kernel_rfl) (by kernel_rfl) ?_;refine bp.qu Yv (σ:=[]) (s:=Ka c) (wy [] 0:aD.path (aD.ret (R.normal ((gZ x y c e x.length).T.set 5 (O (bN c))) ((gZ x y c e x.length).H.drop 64) []):aD R) (dl 1) (fy em 41 .normal [] (Ka c))) ?_;exact bM (s:=Ka c) f (wy [ag (ω:c.length<=1000000)] 1:bw mi ((fl qH []).drop 5) (Ka c) 1 f145 ao (bN (eF c)))
def anc(x y:I N)(h:(mY x y&&bP (aj y<=aj x))=D):Holds em ao 145 [bN x,bN y] (bN (ti x y)):=by
 unfold mY at h;simp only[ae,aN]at h;obtain⟨⟨c,e,j,q⟩,i⟩:=h;have c:=jA.1 c;have e:=jA.1 e;have f:=Kb;refine bK qH func145 λw0 F=>?_
 have m:(x.length:N).toNat=x.length:=by omega
 refine cE f 4 (am1 x y ω (by rw[iQ]) (by rw[iQ]) (A0 _)) ?_;exact anb c e i j w0 F
def ane:Yr.Ok em:=λ⟨x,y,_⟩ h=>anc x y h
def s8:=NO f144
abbrev Gl:I E:=[1,1,0,1,0,0]
section
variable(a b:I N)(k:E)
def oR:bD:={n:=41,sl:=[(0,bN a),(1,bN b),(5,iv ((k:N)-1))],bF:=[],next:=64}
def Ke:bD:={n:=41,sl:=[(0,bN a),(1,bN b),(5,iv ((k:N)-1-1))],bF:=[],next:=64}
def ani(c:(k:N)-1>=0)(e:0<=(k:N)-1)(h3:((k:N)-1).toNat<a.length)(h4:((k:N)-1).toNat<b.length)(h5:¬a.getD ((k:N)-1).toNat 0=b.getD ((k:N)-1).toNat 0)(h6:a.getD ((k:N)-1).toNat 0<b.getD ((k:N)-1).toNat 0):
  bw (aA []) (fl s8 Gl) (oR a b k) 15 f144 D (iv (-1)):=
 wy [ag c,ag e,ag h3,aa (aI (v:=af.raw (Value.int dv (a.getD ((k:N)-(1:N)).toNat (0:N))))),ag h4,aa (aI (v:=af.raw (Value.int dv (b.getD ((k:N)-(1:N)).toNat (0:N))))),aa (eX.mpr h5),ag h6] 156579657712784783981949057
def anj(c:(k:N)-1>=0)(e:0<=(k:N)-1)(h3:((k:N)-1).toNat<a.length)(h4:((k:N)-1).toNat<b.length)(h5:¬a.getD ((k:N)-1).toNat 0=b.getD ((k:N)-1).toNat 0)(h6:¬a.getD ((k:N)-1).toNat 0<b.getD ((k:N)-1).toNat 0):
  bw (aA []) (fl s8 Gl) (oR a b k) 11 f144 D (iv 1):=
 wy [ag c,ag e,ag h3,aa (aI (v:=af.raw (Value.int dv (a.getD ((k:N)-(1:N)).toNat (0:N))))),ag h4,aa (aI (v:=af.raw (Value.int dv (b.getD ((k:N)-(1:N)).toNat (0:N))))),aa (eX.mpr h5),az h6] 156579657712784783981949057
def ank(c:(k:N)-1>=0)(e:0<=(k:N)-1)(h3:((k:N)-1).toNat<a.length)(h4:((k:N)-1).toNat<b.length)(h5:a.getD ((k:N)-1).toNat 0=b.getD ((k:N)-1).toNat 0)(h6:i6 ((k:N)-1-1)):
  aR (aA []) (fl s8 Gl) (oR a b k) 5 .normal [] (Ke a b k):=
 wy [ag c,ag e,ag h3,aa (aI (v:=af.raw (Value.int dv (a.getD ((k:N)-(1:N)).toNat (0:N))))),ag h4,aa (aI (v:=af.raw (Value.int dv (b.getD ((k:N)-(1:N)).toNat (0:N))))),aa (cS.mpr h5),yi h6] 2283003859447937
end
def mZ(x y:N):N:=if x<y then-1 else if y<x then 1 else 0
def pP(a b:I N):dF:=(jz a&&lM a)&&((jz b&&lM b)&&bP (a.length<=1000000))
def Qa:=IN 144 [.list ao aF,.list ao aF] [.int .i64] D (λd=>pP d.1 d.2.1) λd=>(mZ (aj d.1) (aj d.2.1),())
def gk{l:I N}:lM l=D↔fT l:=by
 unfold lM;constructor
 .intro h;have h:=ac h;have:=J5 l l.length (aC _);obtain⟨m,f,c,_⟩:=Gi l l.length (aC _);rw[c,er]at h;have e:m=l.length:=by omega
  rw[c,e,dx]at this;exact this
 .intro h;rw[Yh h];exact zX _
def Yx{x y:N}(h:x<y):mZ x y= -1:=by unfold mZ;rw[dA h]
def Yy{x y:N}(h:y<x):mZ x y=1:=by unfold mZ;rw[db ω,dA h]
def ann{x y:N}(h:x=y):mZ x y=0:=by unfold mZ;rw[db ω,db ω]
def ano(a b:I N)(h:pP a b=D):Holds em D 144 [bN a,bN b] (iv (mZ (aj a) (aj b))):=by
 unfold pP at h;simp only[ae,aN]at h;obtain⟨⟨f,u⟩,⟨hb,z⟩,S⟩:=h;have f:=jA.1 f;have hb:=jA.1 hb;have u:=gk.1 u;have z:=gk.1 z;refine bK s8 func144 λw0 F=>?_
 by_cases r:a.length=b.length
 .refine cE ba 4 (wy [aa (cS.mpr (ω:(a.length:N)=(b.length:N))),yi (ω:i6 ((a.length:N)-1))] 129:cL (aA []) (fl s8 []) 4 41 [bN a,bN b] 2 .normal [] (oR a b a.length)) ?_;refine c_q {k:E//k<=a.length/\∀j,k<=j->j<a.length->a.getD j 0=b.getD j 0} 0 (cat s8 Gl) ((fl s8 []).drop 5) (λk=>oR a b k.1) (λk=>k.1) ⟨a.length,aC _,λj c e=>by omega⟩ ?_;rintro⟨k,M,q⟩;cases k with
  |zero=>
   refine aT (s:=oR a b 0) ba (wy [az (ω:¬(0:N)-1>=0)] 1:aR (aA []) (fl s8 Gl) (oR a b 0) 2 (.exit 0) [] (oR a b 0)) ?_;refine bY (cg ?_);have C:a=b:=by
    refine I.ext_getElem r λj c e=>?_
    have:=q j (gt _) c;rwa[wX c,wX e]at this
   rw[ann (show aj a=aj b by rw[C])];exact bM (s:=oR a b 0) ba (wy [] 0:bw (aA []) ((fl s8 []).drop 5) (oR a b 0) 1 f144 D (iv 0))
  |succ k=>
   have i:(((k+1:E):N)-1).toNat=k:=by omega
   have G:Ke a b (k+1)=oR a b k:=by
    unfold Ke oR;rw[show(((k+1:E):N)-1-1)=(k:N)-1 by omega]
   have K:k<a.length:=by omega
   by_cases c:a.getD k 0=b.getD k 0
   .refine aT (s:=oR a b (k+1)) (s':=Ke a b (k+1)) ba (ank a b (k+1) ω ω ω ω (by rw[i];exact c) ω) ?_;rw[G];exact⟨⟨k,by omega,λj A m=>by
     by_cases J:j=k
     .rw[J];exact c
     .exact q j ω m⟩,by simp,rfl,rfl⟩
   .by_cases e:a.getD k 0<b.getD k 0
    .rw[Yx (show aj a<aj b from J6 yj f hb r K e λj A m=>q j ω m)];exact bM (s:=oR a b (k+1)) ba (ani a b (k+1) ω ω ω ω (by rw[i];exact c) (by rw[i];exact e))
    .rw[Yy (show aj b<aj a from J6 yj hb f r.symm ω (show b.getD k 0<a.getD k 0 by omega) λj A m=>(q j ω ω).symm)];exact bM (s:=oR a b (k+1)) ba (anj a b (k+1) ω ω ω ω (by rw[i];exact c) (by rw[i];exact e))
 .by_cases L:a.length<b.length
  .rw[Yx (show aj a<aj b from yA yj f hb z L)];exact bt ba 3 (wy [aa (eX.mpr (ω:¬(a.length:N)=(b.length:N))),ag (ω:(a.length:N)<(b.length:N))] 129:bk (aA []) (fl s8 []) 3 41 [bN a,bN b] 7 f144 D (iv (-1)))
  .rw[Yy (show aj b<aj a from yA yj hb f u ω)];exact bt ba 3 (wy [aa (eX.mpr (ω:¬(a.length:N)=(b.length:N))),az (ω:¬(a.length:N)<(b.length:N))] 129:bk (aA []) (fl s8 []) 3 41 [bN a,bN b] 5 f144 D (iv 1))
def Yz:Qa.Ok em:=λ⟨a,b,_⟩ h=>ano a b h
def gD(x y:N):N:=x*y/18446744073709551616
def dm(x y:N):N:=x*y%18446744073709551616
def nc(x y:N):dF:=(bP (0<=x)&&bP (x<18446744073709551616))&&(bP (0<=y)&&bP (y<18446744073709551616))
def Kf:=IN 138 [aF,aF] [aF,aF] D (λd=>nc d.1 d.2.1) λd=>(gD d.1 d.2.1,(dm d.1 d.2.1,()))
def xi:=aA [J8,Kf]
def lj:=NO f142
abbrev Gm:I E:=[1,1,0,1,0,0]
abbrev Kg:I E:=[1,1,0,1,0,0,1,1,0,0]
abbrev Qb:I E:=[1,1,0,1,0,0,1,1,0,0,1,1,0,1,0,0]
def ng(a b c:I N)(i:E):bD:={n:=80,sl:=[(1,bN b),(5,s6 64 c),(20,bN a),(21,iv a.length),(22,iv i)],bF:=[(64,s7 c)],next:=65}
def s9(a b e:I N)(i:E)(x c:N)(j:E):bD:={n:=80,sl:=[(1,bN b),(5,s6 64 e),(6,iv i),(7,cG x),(8,cG c),(20,bN a),(21,iv a.length),(22,iv i),(27,bN b),(28,iv b.length),(29,iv j)],bF:=[(64,s7 e)],next:=65}
def rI(x y o c:N):N:=(((((dm x y).toNat+o.toNat+ea 0)%2^64)+c.toNat+ea 0)%2^64:E)
def uP(x y o c:N):N:=be.u64.wrap (be.u64.wrap (gD x y+(((((dm x y).toNat+o.toNat+ea 0)/2^64):E):N))+(((((((dm x y).toNat+o.toNat+ea 0)%2^64)+c.toNat+ea 0)/2^64):E):N))
def Kh(c:I N):bD:={n:=80,sl:=[(5,bN c)],bF:=[],next:=64}
def anp(a b:I N)(c: -9223372036854775808<=(a.length:N)+(b.length:N)/\(a.length:N)+(b.length:N)<=9223372036854775807)(e:((a.length:N)+(b.length:N)).toNat<=1000000)(h3:(((a.length:N)+(b.length:N)).toNat)=(cZ (a.length+b.length)).length)(h4:(aY.known ((a.length:N)+(b.length:N)).toNat)=(aY.known (a.length+b.length)))(h5:(bO (cZ (a.length+b.length)).length)=(bO (a.length+b.length)))(h6:(F5 (ie ((a.length:N)+(b.length:N)).toNat (I.map af.raw (uU #[Value.int .u64 (0:N)]))))=(A' (λx=>[af.raw (Value.int .u64 x)]) (cZ (a.length+b.length))))(h7:(a.length+b.length)=(cZ (a.length+b.length)).length):
  aD.path (sP em xi (fl lj []) 3 80 [bN a,bN b]) (dl 1) (fy em 80 .normal [(64,64,O (a.length+b.length))] (ng a b (cZ (a.length+b.length)) 0)):=
 mp (Jy (fA c) rt rt (rB (show(bP (((a.length:N)+(b.length:N)).toNat<=((a.length:N)+(b.length:N)).toNat))=D from ay ω) (show(bounded ((a.length:N)+(b.length:N)).toNat (8:E))=D from kB e ω) (rr b) (an h3 (an h4 h5)) (rr a) (rr (a.length:N)) (rr (0:N)) (an h6 h7) trivial))
def ant(a b e:I N)(i:E)(x c:N)(j:E)(f:(j:N)<(b.length:N))(m:j<b.length)(h3:(nc x (b.getD j 0))=D)(h4:i6 ((i:N)+(j:N)))(h5:((i:N)+(j:N)).toNat<e.length)(h6:i6 ((j:N)+1))(h7:e.length=(e.set ((i:N)+(j:N)).toNat (rI x (b.getD j 0) (e.getD ((i:N)+(j:N)).toNat 0) c)).length)(h8:(bO e.length)=(bO (e.set ((i:N)+(j:N)).toNat (rI x (b.getD j 0) (e.getD ((i:N)+(j:N)).toNat 0) c)).length))(h9:(ca dv (ca dv (gD x (b.getD j 0)+(↑(((dm x (b.getD j 0)).toNat+(e.getD ((i:N)+(j:N)).toNat 0).toNat+ea 0)/(2:E)^(64:E)):N))+(↑((((dm x (b.getD j 0)).toNat+(e.getD ((i:N)+(j:N)).toNat 0).toNat+ea 0)%(2:E)^(64:E)+c.toNat+ea 0)/(2:E)^(64:E)):N)))=(uP x (b.getD j 0) (e.getD ((i:N)+(j:N)).toNat 0) c))(h10:(e.set ((i:N)+(j:N)).toNat (↑((((dm x (b.getD j 0)).toNat+(e.getD ((i:N)+(j:N)).toNat 0).toNat+ea 0)%(2:E)^(64:E)+c.toNat+ea 0)%(2:E)^(64:E)):N))=(e.set ((i:N)+(j:N)).toNat (rI x (b.getD j 0) (e.getD ((i:N)+(j:N)).toNat 0) c))):
  aR xi (fl lj Qb) (s9 a b e i x c j) 3 .normal [(64,64,bs)] (s9 a b (e.set ((i:N)+(j:N)).toNat (rI x (b.getD j 0) (e.getD ((i:N)+(j:N)).toNat 0) c)) i x (uP x (b.getD j 0) (e.getD ((i:N)+(j:N)).toNat 0) c) (j+1)):=
 wy [ag f,ag m,aa h3,yi h4,ag h5,jf 178 aF h5,yi h6,av h7,av h8,av (show(ca dv (ca dv (gD x (b.getD j (0:N))+(↑(((dm x (b.getD j (0:N))).toNat+((bu aF (a8 178 aF e)).getD ((0:E)+((i:N)+(j:N)).toNat) (0:N)).toNat+(0:N).toNat)/(2:E)^(64:E)):N))+(↑((((dm x (b.getD j (0:N))).toNat+((bu aF (a8 178 aF e)).getD ((0:E)+((i:N)+(j:N)).toNat) (0:N)).toNat+(0:N).toNat)%(2:E)^(64:E)+c.toNat+(0:N).toNat)/(2:E)^(64:E)):N)))=(uP x (b.getD j (0:N)) (e.getD ((i:N)+(j:N)).toNat (0:N)) c)from(by simp only[a7,bC]<;>exact h9)),pF em 178 aF (show((bu aF (a8 178 aF e)).set ((0:E)+((i:N)+(j:N)).toNat) (↑((((dm x (b.getD j (0:N))).toNat+((bu aF (a8 178 aF e)).getD ((0:E)+((i:N)+(j:N)).toNat) (0:N)).toNat+(0:N).toNat)%(2:E)^(64:E)+c.toNat+(0:N).toNat)%(2:E)^(64:E)):N))=(e.set ((i:N)+(j:N)).toNat (rI x (b.getD j (0:N)) (e.getD ((i:N)+(j:N)).toNat (0:N)) c))from(by simp only[a7,bC]<;>exact h10))] 1004782375665203448862331732045300874419142139905
def tk(x y:I N):I N:=gL 18446744073709551616 (aj x*aj y)
def YA:=IN 142 [.list ao aF,.list ao aF] [.list ao aF] ao (λd=>mY d.1 d.2.1) λd=>(tk d.1 d.2.1,())
def anA{f:ya}{args:I af}{a b:N}{fresh:dF}(h:∀(w:du)(F:Env)(xs:I Value),nT w F->Sv.sN F->aE F args xs->DG em f xs.toArray w λe w'=>e=.returned (.tuple #[.int .u64 a,.int .u64 b])/\Below w.heap.size w w'):
  Holds em fresh f args (.tuple [cG a,cG b]):=λw F xs c i q=>
 (h w F xs c i q).mono λe w' ⟨j,m⟩=>⟨_,⟨F.at',λ_=>bs⟩,j,.tuple (.cons (.raw _) (.cons (.raw _) .nil)),⟨c.uv,c.all,λb A h=>by cases h⟩,(λb A h=>by cases h),m⟩
def qe{x y:N}:nc x y=D↔(0<=x/\x<18446744073709551616)/\(0<=y/\y<18446744073709551616):=by
 unfold nc;simp only[ae,aN]
def anB(X Y:E)(i:X<18446744073709551616)(j:Y<18446744073709551616):Holds em D 138 [cG X,cG Y] (.tuple [cG (gD X Y),cG (dm X Y)]):=
 anA λw F u r m f=>by
  cases f with
  |cons d1 d2=>
   cases d2 with
   |cons d2 d3=>
    cases d3;rw[d1.cu,d2.cu];exact(Tryz.bits_Mul64 X Y i j w).mono λq w' ⟨c,e⟩=>⟨c,by subst e;exact qg _ _⟩
def anC(x y:N)(h:nc x y=D):Holds em D 138 [cG x,cG y] (.tuple [cG (gD x y),cG (dm x y)]):=by
 obtain⟨⟨c,f⟩,e,i⟩:=qe.1 h;have:=anB x.toNat y.toNat ω ω;rw[ZY c,ZY e]at this;exact this
def Qc:Kf.Ok em:=λ⟨x,y,_⟩ h=>anC x y h
def anD:bI em (bJ xi):=dw (aV P6 (aV Qc eH))
def dt{x:N}(h:0<=x/\x<18446744073709551616):ca .u64 x=x:=by
 unfold ca;have e:be.signed .u64=ao:=rfl;have c:be.bits .u64=64:=rfl;simp only[e,c,dF.false_and,dF.false_eq_true,á];rw[show(2:N)^64=18446744073709551616 from rfl];omega
def anE{x y o c:N}(z:0<=x/\x<18446744073709551616)(j:0<=y/\y<18446744073709551616)(M:0<=o/\o<18446744073709551616)(L:0<=c/\c<18446744073709551616):
  rI x y o c+18446744073709551616*uP x y o c=x*y+o+c/\(0<=rI x y o c/\rI x y o c<18446744073709551616)/\(0<=uP x y o c/\uP x y o c<18446744073709551616):=by
 have G:0<=x*y:=kv z.1 j.1;have S:x*y<=18446744073709551615*18446744073709551615:=tj ω ω j.1 δ;unfold rI uP gD dm;generalize x*y=p at*;rw[show(2:E)^64=18446744073709551616 from rfl];have u:ea 0=0:=rfl;rw[u];have V:=fC p (show(18446744073709551616:N)≠0 by decide);have X:=fZ p (show(0:N)<18446744073709551616 by decide);have U:=jp p 18446744073709551616;generalize p%18446744073709551616=r at*;generalize p/18446744073709551616=q at*;have e:0<=q/\q<=18446744073709551614:=by omega
 obtain⟨R,rfl⟩:∃R:E,r=(R:N):=⟨r.toNat,by omega⟩;obtain⟨e,rfl⟩:∃e:E,o=(e:N):=⟨o.toNat,by omega⟩;obtain⟨C,rfl⟩:∃C:E,c=(C:N):=⟨c.toNat,by omega⟩;simp only[kh,E.add_zero];have f:(R+e)/18446744073709551616<=1:=by omega
 have J:=E.mod_add_div (R+e) 18446744073709551616;have K:=E.mod_lt (R+e) (show 18446744073709551616>0 by decide);generalize (R+e)/18446744073709551616=i at*;generalize (R+e)%18446744073709551616=f at*;have e:=E.mod_add_div (f+C) 18446744073709551616;have e:=E.mod_lt (f+C) (show 18446744073709551616>0 by decide);have A:(f+C)/18446744073709551616<=1:=by omega
 generalize (f+C)/18446744073709551616=m at*;generalize (f+C)%18446744073709551616=e at*;rw[dt (x:=q+(i:N)) ω,dt (x:=q+(i:N)+(m:N)) ω];omega
def YB:(fl lj []).drop 4≠[]:=λh=>by
 have:((fl lj []).drop 4).isEmpty=ao:=by kernel_rfl
 rw[h]at this;cases this
def YC{P b lo hi x y o c V W M:N}(h:lo+b*hi=x*y+o+c)(f:V+P*c=M):V+P*(lo-o)+P*b*hi=M+P*(x*y):=by
 have e:P*(lo+b*hi)=P*(x*y+o+c):=by rw[h]
 rw[oB,oB,oB,<-km]at e;rw[LS];omega
def anF(x y:I N)(h:mY x y=D):Holds em ao 142 [bN x,bN y] (bN (tk x y)):=by
 unfold mY at h;simp only[ae,aN]at h;obtain⟨L,M,e,f⟩:=h;have L:=jA.1 L;have M:=jA.1 M;have m:=anD;have J:((x.length:N)+(y.length:N)).toNat=x.length+y.length:=by omega
 refine bK lj func142 λw0 F=>?_
 refine cE m 3 (anp x y ω ω (by rw[iQ,J]) (by rw[J]) (by rw[iQ]) (by rw[J];exact A0 _) (by rw[iQ])) ?_;refine c_q {s:I N×E//s.2<=x.length/\s.1.length=x.length+y.length/\aS 18446744073709551616 s.1/\aj s.1=aj (x.take s.2)*aj y/\∀k,s.2+y.length<=k->s.1.getD k 0=0} 0 (cat lj Gm) ((fl lj []).drop 4) (λs=>ng x y s.1.1 s.1.2) (λs=>x.length-s.1.2)
  ⟨(cZ (x.length+y.length),0),gt _,iQ _,Dr _,by
    show vl _ (ie _ 0)=vl _ (x.take 0)*_;rw[Gh];simp[vl],λk _=>by
    show(ie _ (0:N)).getD k 0=0;rw[ap,I.getElem?_replicate];split<;>rfl⟩ ?_
 rintro⟨⟨f,i⟩,V,K,C,r,S⟩;have V:i<=x.length:=V;have K:f.length=x.length+y.length:=K;have C:aS 18446744073709551616 f:=C;have r:aj f=aj (x.take i)*aj y:=r;have S:∀k,i+y.length<=k->f.getD k 0=0:=S;by_cases V:i<x.length
 .have a':=L.get δ i;refine dH (s:=ng x y f i) m 2 (wy [ag (ω:(i:N)<(x.length:N))] 1:di xi (fl lj Gm) 2 (ng x y f i) 3 .normal [(64,64,bs)] (ng x y f i)) ?_;refine ga (id:=1) (c:=cat lj Kg) (rest:=(fl lj Gm).drop 3) (by kernel_rfl) ?_;refine dH (s:=ng x y f i) m 3 (wy [ag V] 64:di xi (fl lj Kg) 3 (ng x y f i) 1 .normal [(64,64,bs)] (s9 x y f i (x.getD i 0) 0 0)) ?_;refine c_q {s:I N×N×E//s.2.2<=y.length/\s.1.length=x.length+y.length/\aS 18446744073709551616 s.1/\(0<=s.2.1/\s.2.1<18446744073709551616)/\aj s.1+18446744073709551616^(i+s.2.2)*s.2.1=aj f+18446744073709551616^i*(x.getD i 0*aj (y.take s.2.2))/\∀k,i+y.length<=k->s.1.getD k 0=0} 2 (cat lj Qb) ((fl lj Kg).drop 4) (λs=>s9 x y s.1.1 i (x.getD i 0) s.1.2.1 s.1.2.2) (λs=>y.length-s.1.2.2)
   ⟨(f,0,0),gt _,K,C,⟨vc 0,show(0:N)<18446744073709551616 by decide⟩,by simp[aj,vl],S⟩ ?_
  rintro⟨⟨e,c,j⟩,X,G,z,A,q,u⟩;have X:j<=y.length:=X;have G:e.length=x.length+y.length:=G;have z:aS 18446744073709551616 e:=z;have A:0<=c/\c<18446744073709551616:=A;have q:aj e+18446744073709551616^(i+j)*c=aj f+18446744073709551616^i*(x.getD i 0*aj (y.take j)):=q;have u:∀k,i+y.length<=k->e.getD k 0=0:=u;have e2:((i:N)+(j:N)).toNat=i+j:=by omega
  have L:((i:N)+(y.length:N)).toNat=i+y.length:=by omega
  by_cases J:j<y.length
  .have U:=M.get δ j;have K:=z.get δ (i+j);obtain⟨M,S,X⟩:=anE a' U K A;refine aT (s:=s9 x y e i (x.getD i 0) c j) (s':=s9 x y (e.set ((i:N)+(j:N)).toNat (rI (x.getD i 0) (y.getD j 0) (e.getD ((i:N)+(j:N)).toNat 0) c)) i (x.getD i 0) (uP (x.getD i 0) (y.getD j 0) (e.getD ((i:N)+(j:N)).toNat 0) c) (j+1)) m (ant x y e i (x.getD i 0) c j ω J (qe.2 ⟨a',U⟩) ω ω ω (by rw[cm]) (by rw[cm]) rfl rfl) ?_;rw[e2];refine⟨⟨(e.set (i+j) (rI (x.getD i 0) (y.getD j 0) (e.getD (i+j) 0) c),uP (x.getD i 0) (y.getD j 0) (e.getD (i+j) 0) c,j+1),J,by rw[cm];exact G,z.set S,X,?_,λk J=>?_⟩,by simp;omega,rfl,rfl⟩
   .show vl 18446744073709551616 (e.set (i+j) (rI (x.getD i 0) (y.getD j 0) (e.getD (i+j) 0) c))+18446744073709551616^(i+(j+1))*uP (x.getD i 0) (y.getD j 0) (e.getD (i+j) 0) c=vl 18446744073709551616 f+18446744073709551616^i*(x.getD i 0*vl 18446744073709551616 (y.take (j+1)));rw[i8 _ _ _ _ ω,<-E.add_assoc,hP,mX,oB,oB];have:=YC (W:=0) M q;unfold aj at this;rw[this,N.add_assoc,yL];congr 2;rw[km,N.mul_left_comm (x.getD i 0)]
   .rw[ap,KL ω,<-ap];exact u k J
  .refine aT (s:=s9 x y e i (x.getD i 0) c j) m (wy [az (ω:¬(j:N)<(y.length:N))] 1:aR xi (fl lj Qb) (s9 x y e i (x.getD i 0) c j) 2 (.exit 2) [(64,64,bs)] (s9 x y e i (x.getD i 0) c j)) ?_;refine bY (cg ?_);obtain rfl:j=y.length:=by omega
   refine aT (s:=s9 x y e i (x.getD i 0) c y.length) (s':=ng x y (e.set ((i:N)+(y.length:N)).toNat c) i) m (wy [yi (ω:i6 ((i:N)+(y.length:N))),ag (ω:((i:N)+(y.length:N)).toNat<e.length),jf 178 aF (ω:((i:N)+(y.length:N)).toNat<e.length),av (show e.length=(e.set ((i:N)+(y.length:N)).toNat c).length from by rw[cm]),av (show(bO e.length)=(bO (e.set ((i:N)+(y.length:N)).toNat c).length) from by rw[cm]),oK 178 aF (Hj (e.set ((i:N)+(y.length:N)).toNat c))] 442721880034140495873:aR xi ((fl lj Kg).drop 4) (s9 x y e i (x.getD i 0) c y.length) 1 .normal [(64,64,bs)] (ng x y (e.set ((i:N)+(y.length:N)).toNat c) i)) ?_;rw[L];refine aT (s:=ng x y (e.set (i+y.length) c) i) m (wy [yi (ω:i6 ((i:N)+1))] 1:aR xi ((fl lj Gm).drop 3) (ng x y (e.set (i+y.length) c) i) 1 .normal [(64,64,bs)] (ng x y (e.set (i+y.length) c) (i+1))) ?_;refine⟨⟨(e.set (i+y.length) c,i+1),V,by rw[cm];exact G,z.set A,?_,λk J=>?_⟩,by simp;omega,rfl,rfl⟩
   .have j:=u (i+y.length) (aC _);show vl _ (e.set (i+y.length) c)=vl _ (x.take (i+1))*_;rw[i8 _ _ _ _ ω,j,N.sub_zero,mX,wq,km];rw[dx,r]at q;exact q
   .rw[ap,KL ω,<-ap];exact u k ω
 .refine dH (s:=ng x y f i) m 2 (wy [az (ω:¬(i:N)<(x.length:N))] 1:di xi (fl lj Gm) 2 (ng x y f i) 2 (.exit 0) [(64,64,bs)] (ng x y f i)) ?_;refine bY (bY (cg ?_));obtain rfl:i=x.length:=by omega
  rw[dx]at r;unfold tk;rw[<-r,<-ml C];refine bp.Aw YB (i:=64) (s:=5) (e2:=178) (t:=aF) (xs:=f) (cap:=bO f.length) (by kernel_rfl) (by kernel_rfl) ?_;refine bp.qu YB (σ:=[]) (s:=Kh f) (wy [] 0:aD.path (aD.ret (R.normal ((ng x y f x.length).T.set 5 (O (bN f))) ((ng x y f x.length).H.drop 64) []):aD R) (dl 1) (fy em 80 .normal [] (Kh f))) ?_;exact bM (s:=Kh f) m (wy [ag (ω:f.length<=1000000)] 1:bw xi ((fl lj []).drop 4) (Kh f) 1 f142 ao (bN (eF f)))
def anG:YA.Ok em:=λ⟨x,y,_⟩ h=>anF x y h
end
abbrev bf:=N×I N
def ax(a:bf):N:=if a.2=[]then a.1 else a.1*aj a.2
noncomputable def bg(z:N):N×I N:=if-9223372036854775807<=z/\z<=9223372036854775807 then(z,[])else(if z<0 then-1 else 1,gL 18446744073709551616 z.natAbs)
def jL(z:N):dF:=bP (-9223372036854775808<=z)&&bP (z<=9223372036854775807)
def jM(a:bf):dF:=I.isEmpty (α:=N) a.2
def cn(n:E)(a:bf):dF:=match a.2 with
 |[]=>jL a.1
 |x::l=>(a.1==1||a.1== -1)&&(jz (x::l)&&(lM (x::l)&&(bP (9223372036854775807<aj (x::l))&&bP ((x::l).length<=n))))
def aH(a:bf):dF:=cn 100000 a
def cB(n:N):N:=n.natAbs
def aB(a:bf):I N:=if a.2=[]then(if a.1=0 then []else [cB a.1])else a.2
def cv(a:bf):dF:=bP (a.1<0)
noncomputable def dE(a b:bf):N×I N:=if jM a&&(jM b&&jL (a.1+b.1))then(a.1+b.1,[])else bg (ax a+ax b)
noncomputable def cH(a b:bf):N×I N:=bg (ax a*ax b)
noncomputable def fN(a:bf):N×I N:=bg (-ax a)
noncomputable def tl(a:bf):N×I N:=bg (ax a).natAbs
noncomputable def ll(a b:bf):N×I N:=dE a (fN b)
def mh(z:N):N:=if z<0 then-1 else if z=0 then 0 else 1
def fO(a:bf):N:=mh (ax a)
def wY(a b:bf):N:=mh (ax a-ax b)
def YD{x:N}(h:0<=x/\x<18446744073709551616):aS 18446744073709551616 [x]:= .cons h .nil
def anH{x:N}(h:x≠0):fT [x]:=fT.cons .nil λ_=>h
def Kj(x:N):aj [x]=x:=wW _ _
def uQ{z:N}:jL z=D↔ -9223372036854775808<=z/\z<=9223372036854775807:=by
 unfold jL;rw[ae,aN,aN]
def dW{a:bf}:jM a=D↔a.2=[]:=by unfold jM;exact I.isEmpty_iff
def uR{a:bf}:jM a=ao↔a.2≠[]:=by
 constructor
 .intro h e;rw[dW.2 e]at h;cases h
 .intro h;cases c:jM a with
  |false=>rfl
  |true=>exact absurd (dW.1 c) h
def qI{a:bf}(h:a.2=[]):ax a=a.1:=by unfold ax;rw[dA h]
section
variable{n:E}{a:bf}
def rJ(h:a.2=[]):cn n a=jL a.1:=by unfold cn;rw[h]
def yF(h:a.2≠[]):cn n a=D↔(a.1=1\/a.1= -1)/\aS 18446744073709551616 a.2/\fT a.2/\9223372036854775807<aj a.2/\a.2.length<=n:=by
 obtain⟨s,w⟩:=a;cases w with
 |nil=>exact absurd rfl h
 |cons x l=>
  unfold cn;simp only[ae,qh,aN,gw,jA,gk]
def n4(h:cn n a=D):aS 18446744073709551616 (aB a)/\fT (aB a)/\aj (aB a)=(ax a).natAbs/\(cv a=D↔ax a<0)/\(aB a).length<=max n 1:=by
 by_cases f:a.2=[]
 .rw[rJ f]at h;have h:=uQ.1 h;have e:=qI f;have j:cv a=D↔ax a<0:=by unfold cv;rw[e,aN]
  unfold aB;rw[dA f,e];by_cases i:a.1=0
  .rw[dA i,i];exact⟨.nil,.nil,rfl,by rw[<-e]at i;rw[j,i],by simp⟩
  .rw[db i];refine⟨YD (by unfold cB;omega),anH (by unfold cB;omega),by rw[Kj];rfl,by rw[j,e],by simp;omega⟩
 .obtain⟨c,m,h3,h4,h5⟩:=(yF f).1 h;unfold aB cv;rw[db f];have e:ax a=a.1*aj a.2:=by unfold ax;rw[db f]
  refine⟨m,h3,?_,?_,by omega⟩
  .rw[e];rcases c with c|c<;>rw[c]<;>omega
  .rw[e,aN];rcases c with c|c<;>rw[c]<;>omega
def mj(h:cn n a=D)(e:1<=n):((ax a).natAbs:N)<18446744073709551616^n:=by
 obtain⟨c,_,h3,_,h5⟩:=n4 h;have h6:=gY (b:=18446744073709551616) δ c;have h7:=j5 (b:=18446744073709551616) δ (show(aB a).length<=n by omega);unfold aj at h3;omega
end
def Ds{b z:N}{n:E}(hb:1<b)(c:0<=z)(h:z<b^n):(gL b z).length<=n:=by
 obtain⟨e,f,h3⟩:=uO hb c;cases j:(gL b z).length with
 |zero=>omega
 |succ k=>
  have h4:=vx ω e f j;rw[h3]at h4;by_cases i:k+1<=n
  .exact i
  .have:=j5 (show 1<=b by omega) (show n<=k by omega);omega
def anI{b:N}(hb:1<b):gL b 0=[]:=(ik hb .nil .nil rfl).symm
def YE{b z:N}(hb:1<b)(h:0<z):gL b z≠[]:=λe=>by
 obtain⟨_,_,h3⟩:=uO hb (cI h);rw[e]at h3;simp[vl]at h3;omega
def nh{n:E}{z:N}(h:(z.natAbs:N)<18446744073709551616^n):cn n (bg z)=D/\ax (bg z)=z:=by
 unfold bg;split
 .rename_i f;exact⟨by rw[rJ rfl];exact uQ.2 ⟨by omega,f.2⟩,qI rfl⟩
 .rename_i f;have c:0<(z.natAbs:N):=by omega
  obtain⟨i,j,h3⟩:=uO (b:=18446744073709551616) δ (cI c);have e:=YE (b:=18446744073709551616) δ c;refine⟨(yF e).2 ⟨?_,i,j,?_,Ds δ (cI c) h⟩,?_⟩
  .show(if z<0 then(-1:N)else 1)=1\/_;split
   .exact .inr rfl
   .exact .inl rfl
  .show 9223372036854775807<vl _ _;rw[h3];omega
  .unfold ax;rw[db e];show(if z<0 then(-1:N)else 1)*vl _ _=z;rw[h3];split<;>omega
def val_mk(z:N):ax (bg z)=z:=by
 have:(z.natAbs:N)<18446744073709551616^(z.natAbs+1):=by
  have:∀n:E,(n:N)<18446744073709551616^(n+1):=λn=>by
   induction n with
   |zero=>decide
   |succ n ih=>rw[hP];omega
  exact this _
 exact(nh this).2
def H4{n:E}{a:bf}(h:cn n a=D)(f:ax a≠ -9223372036854775808):a=bg (ax a):=by
 obtain⟨s,w⟩:=a;by_cases e:w=[]
 .subst e;have h:jL s=D:=h;have h:=uQ.1 h;have f:s≠ -9223372036854775808:=f;show(s,[])=bg s;unfold bg;rw[dA ⟨by omega,h.2⟩]
 .obtain⟨c,m,h3,h4,h5⟩:=(yF (a:=(s,w)) e).1 h;have j:ax (s,w)=s*aj w:=by unfold ax;rw[db e]
  rw[j]at f ⊢;have c:s=1\/s= -1:=c;have h4:9223372036854775807<aj w:=h4;have i:w=gL 18446744073709551616 (aj w):=ik δ m h3 rfl;unfold bg;rcases c with rfl |rfl
  .rw[db ω,db ω,show((1*aj w).natAbs:N)=aj w by omega,<-i]
  .rw[db ω,dA ω,show((-1*aj w).natAbs:N)=aj w by omega,<-i]
def Dt(a b:bf):ax (dE a b)=ax a+ax b:=by
 unfold dE;split
 .rename_i h;simp only[ae]at h;rw[qI rfl,qI (dW.1 h.1),qI (dW.1 h.2.1)]
 .exact val_mk _
def Gn{n:E}{a b:bf}(h:((ax a+ax b).natAbs:N)<18446744073709551616^n):cn n (dE a b)=D:=by
 unfold dE;split
 .rename_i h;simp only[ae]at h;rw[rJ rfl];exact h.2.2
 .exact(nh h).1
def Qe{z:N}(h:0<z):mh z=1:=by unfold mh;rw[db ω,db ω]
def Kk{z:N}(h:z<0):mh z= -1:=by unfold mh;rw[dA h]
def anJ:mh 0=0:=by decide
noncomputable section
abbrev eV:aq:= .pair (.int .i64) (.list D aF)
abbrev aP(a:bf):af:= .agg [iv a.1,.bh D aF a.2]
def yG:=NO f141
def Kl:=NO f140
def Qf:=NO f139
def Qg:=IN 139 [.int .i64] [aF] D (λd=>jL d.1) λd=>(cB d.1,())
def Km:=aA [Qg]
section
variable(neg:dF)(w:I N)
def br:N:=match neg with |true=> -aj w|false=>aj w
def anP(c:(w.length:N)=0)(e:(0)=(bg (br neg w)).1)(h3:(bg (br neg w)).2=([])):
  bk (aA []) (fl yG []) 9 50 [bv neg,bN w] 3 f141 ao (aP (bg (br neg w))):=
 wy [cT c,av e,av h3] 12417
def anQ(e:¬(w.length:N)=0)(c:(w.length:N)=1)(h3:ea 0<w.length)(h4:w.getD (ea 0) 0<=9223372036854775807)(h5:(neg)=D)(h6:(ca iz (0-ca iz (w.getD (ea 0) 0)))=(bg (br neg w)).1)(h7:(bg (br neg w)).2=([])):
  bk (aA []) (fl yG []) 9 50 [bv neg,bN w] 1022 f141 ao (aP (bg (br neg w))):=
 wy [yn e,aa (aK (gw.mpr c)),ag h3,cT c,aa (aK (ay h4)),ag h4,aa h5,av h6,av h7] 176517344943146498453938305
def anR(e:¬(w.length:N)=0)(c:(w.length:N)=1)(h3:ea 0<w.length)(h4:w.getD (ea 0) 0<=9223372036854775807)(h5:(neg)=ao)(h6:(ca iz (w.getD (ea 0) 0))=(bg (br neg w)).1)(h7:(bg (br neg w)).2=([])):
  bk (aA []) (fl yG []) 9 50 [bv neg,bN w] 65278 f141 ao (aP (bg (br neg w))):=
 wy [yn e,aa (aK (gw.mpr c)),ag h3,cT c,aa (aK (ay h4)),ag h4,aa h5,av h6,av h7] 49685215221999092210630363047398624731265
def anS(e:¬(w.length:N)=0)(c:(w.length:N)=1)(h3:ea 0<w.length)(h4:¬w.getD (ea 0) 0<=9223372036854775807)(h5:(neg)=D)(h6:(-1:N)=(bg (br neg w)).1)(h7:(w)=(bg (br neg w)).2)(h8:1<=(bg (br neg w)).2.length):
  bk (aA []) (fl yG []) 9 50 [bv neg,bN w] 114238 f141 ao (aP (bg (br neg w))):=
 wy [yn e,aa (aK (gw.mpr c)),ag h3,cT c,aa (aK (ab h4)),az h4,aa h5,av h6,av h7,aa (aw h8)] 55221595208755305796440247856831230124161
def anT(e:¬(w.length:N)=0)(c:(w.length:N)=1)(h3:ea 0<w.length)(h4:¬w.getD (ea 0) 0<=9223372036854775807)(h5:(neg)=ao)(h6:(1)=(bg (br neg w)).1)(h7:(w)=(bg (br neg w)).2)(h8:1<=(bg (br neg w)).2.length):
  bk (aA []) (fl yG []) 9 50 [bv neg,bN w] 81470 f141 ao (aP (bg (br neg w))):=
 wy [yn e,aa (aK (gw.mpr c)),ag h3,cT c,aa (aK (ab h4)),az h4,aa h5,av h6,av h7,aa (aw h8)] 55221595208755305796440247856831230124161
def anU(e:¬(w.length:N)=0)(c:¬(w.length:N)=1)(h3:(neg)=D)(h4:(-1:N)=(bg (br neg w)).1)(h5:(w)=(bg (br neg w)).2)(h6:1<=(bg (br neg w)).2.length):
  bk (aA []) (fl yG []) 9 50 [bv neg,bN w] 98304 f141 ao (aP (bg (br neg w))):=
 wy [yn e,aa (aK (fB.mpr c)),yn c,aa h3,av h4,av h5,aa (aw h6)] 2302454583503482069828190673051777
def anV(e:¬(w.length:N)=0)(c:¬(w.length:N)=1)(h3:(neg)=ao)(h4:(1)=(bg (br neg w)).1)(h5:(w)=(bg (br neg w)).2)(h6:1<=(bg (br neg w)).2.length):
  bk (aA []) (fl yG []) 9 50 [bv neg,bN w] 65536 f141 ao (aP (bg (br neg w))):=
 wy [yn e,aa (aK (fB.mpr c)),yn c,aa h3,av h4,av h5,aa (aw h6)] 2302454583503482069828190673051777
end
def Qh:=IN 140 [eV] [.bool,.list ao aF] ao (λd=>aH d.1) λd=>(cv d.1,aB d.1,())
def Qi:=IN 141 [.bool,.list ao aF] [eV] ao (λd=>jz d.2.1&&lM d.2.1) λd=>(bg (br d.1 d.2.1),())
def sT{x:N}(h: -9223372036854775808<=x/\x<=9223372036854775807):ca .i64 x=x:=V2 (fA h)
def anW(n:N)(h:jL n=D):Holds em D 139 [iv n] (cG (cB n)):=by
 have h:=uQ.1 h;refine bK Qf func139 λw F=>?_
 by_cases c:n<0
 .refine bt ba 9 (wy [ag c,av (?_:(ca dv (ca iz (0-n)))=(cB n))] 129:bk (aA []) (fl Qf []) 9 10 [iv n] 3 f139 D (cG (cB n)));unfold cB;by_cases e:n= -9223372036854775808
  .subst e;rfl
  .rw[sT ω,dt ω];omega
 .refine bt ba 9 (wy [az c,av (?_:(ca dv n)=(cB n))] 129:bk (aA []) (fl Qf []) 9 10 [iv n] 2 f139 D (cG (cB n)));unfold cB;rw[dt ω];omega
def YF:Qg.Ok em:=λ⟨n,_⟩ h=>anW n h
def Qj:bI em (bJ Km):=uA YF
def anX(a:bf)(h:aH a=D):Holds em ao 140 [aP a] (.tuple [bv (cv a),bN (aB a)]):=by
 refine bK Kl func140 λw F=>?_
 by_cases c:a.2=[]
 .have h:=(rJ c).symm.trans h;by_cases e:a.1=0
  .refine bt Qj 9 (wy [aa (aL ((dW.2 c:a.2.isEmpty=D))),cT e,av (?_:(ao)=(cv a)),av (?_:(aB a)=([]))] 1060993:bk Km (fl Kl []) 9 24 [aP a] 6 f140 ao (.tuple [bv (cv a),bN (aB a)]))
   .unfold cv;rw[e];rfl
   .unfold aB;rw[dA c,dA e]
  .refine bt Qj 9 (wy [aa (aL ((dW.2 c:a.2.isEmpty=D))),yn e,aa (aI (v:=iv (a.1))),aa h,av (rfl:(bP (a.1<0))=(cv a)),nU (an (?_:([cB a.1])=(aB a)) (show(dK ((0:E)+(1:E)*(1:E)) (af.raw (Value.int dv (cB a.1))::I.append._f [] wS (I.flatten._f [] wS)).length&&(!false||dK (1:E) (1:E)))=D from(by simp only[bC]<;>exact(rfl:(dK (1*1) (af.raw (Value.int .u64 (cB a.1))::I.append._f [] wS (I.flatten._f [] wS)).length&&(!false||dK 1 1))=D))))] 1711049540382849:bk Km (fl Kl []) 9 24 [aP a] 4 f140 ao (.tuple [bv (cv a),bN (aB a)]));unfold aB;rw[dA c,db e]
 .refine bt Qj 9 (wy [aa (aL ((uR.2 c:a.2.isEmpty=ao))),aa (aI (v:=iv (a.1))),aa (aI (v:=af.bh D aF a.2)),av (rfl:(bP (a.1<0))=(cv a)),av (?_:a.2=(aB a))] 84947073:bk Km (fl Kl []) 9 24 [aP a] 3 f140 ao (.tuple [bv (cv a),bN (aB a)]));unfold aB;rw[db c]
def YG:Qh.Ok em:=λ⟨a,_⟩ h=>anX a h
def Qk(neg:dF){w:I N}(c:aS 18446744073709551616 w):((br neg w).natAbs:N)=aj w:=by
 have:=iq (b:=18446744073709551616) δ c;unfold br aj;cases neg<;>simp only<;>omega
def YH{neg:dF}{w:I N}(e:aS 18446744073709551616 w)(i:fT w)(h:9223372036854775807<aj w):bg (br neg w)=(if neg then-1 else 1,w):=by
 have c:=Qk neg e;have f:gL 18446744073709551616 ((br neg w).natAbs:N)=w:=by rw[c];exact(ik δ e i rfl).symm
 unfold bg;rw[f];unfold br at c ⊢;cases neg
 .simp only at c ⊢;rw[db ω,db ω];rfl
 .simp only at c ⊢;rw[db ω,dA ω];rfl
def uS{z:N}(h: -9223372036854775807<=z/\z<=9223372036854775807):bg z=(z,[]):=by unfold bg;rw[dA h]
def anY(neg:dF)(w:I N)(f:aS 18446744073709551616 w)(j:fT w):Holds em ao 141 [bv neg,bN w] (aP (bg (br neg w))):=by
 refine bK yG func141 λw0 F=>?_
 cases w with
 |nil=>
  have e:bg (br neg [])=(0,[]):=by
   have:br neg []=0:=by cases neg<;>rfl
   rw[this];exact uS δ
  exact bt ba 9 (anP neg [] rfl (by rw[e]) (by rw[e]))
 |cons x l=>
  have u:=f.head;have c:¬((x::l).length:N)=0:=by simp;omega
  cases l with
  |nil=>
   have m:aj [x]=x:=Kj x;by_cases i:x<=9223372036854775807
   .cases neg with
    |true=>
     have e:bg (br D [x])=(-x,[]):=by
      show bg (-aj [x])=_;rw[m];exact uS ω
     refine bt ba 9 (anQ D [x] c rfl τ i rfl ?_ (by rw[e]));rw[e];show ca .i64 (0-ca .i64 x)= -x;rw[sT (x:=x) ω,sT ω];omega
    |false=>
     have e:bg (br ao [x])=(x,[]):=by
      show bg (aj [x])=_;rw[m];exact uS ω
     refine bt ba 9 (anR ao [x] c rfl τ i rfl ?_ (by rw[e]));rw[e];exact sT (x:=x) ω
   .have e:=YH (neg:=neg) f j ω;cases neg with
    |true=>exact bt ba 9 (anS D [x] c rfl τ i rfl (by rw[e];rfl) (by rw[e]) (by rw[e];simp))
    |false=>exact bt ba 9 (anT ao [x] c rfl τ i rfl (by rw[e];rfl) (by rw[e]) (by rw[e];simp))
  |cons y l=>
   have r:9223372036854775807<aj (x::y::l):=by
    have h3:=vx (b:=18446744073709551616) δ f j (k:=l.length+1) τ;have h4:=j5 (b:=18446744073709551616) δ (show 1<=l.length+1 by omega);rw[N.pow_one]at h4;unfold aj;omega
   have e:=YH (neg:=neg) f j r;have q:¬((x::y::l).length:N)=1:=by simp;omega
   cases neg with
   |true=>exact bt ba 9 (anU D _ c q rfl (by rw[e];rfl) (by rw[e]) (by rw[e];simp))
   |false=>exact bt ba 9 (anV ao _ c q rfl (by rw[e];rfl) (by rw[e]) (by rw[e];simp))
def YI:Qi.Ok em:=λ⟨neg,w,_⟩ h=>by
 have h:(jz w&&lM w)=D:=h;rw[ae]at h;exact anY neg w (jA.1 h.1) (gk.1 h.2)
