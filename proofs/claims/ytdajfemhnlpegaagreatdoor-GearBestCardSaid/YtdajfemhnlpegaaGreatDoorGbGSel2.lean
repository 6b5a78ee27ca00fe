import Derived.Test.YtdajfemhnlpegaaGreatDoorGbGAw2
open Array renaming replicate_succ->UU,replicate_zero->U0
open Bool renaming false->ao,true->D,true_and->py,not_eq_true'->Gp,or_eq_true->qh
open ByteArray renaming mk->eQ
open Classical renaming propDecidable->KR,byContradiction->G4
open Eq renaming refl->Hj
open Go renaming Program->fd,World->du,Act->Zq,TypeId->ed,Exit->sC,Code->mN,Addr->wu,FuncId->ya,CallsIn->GC,Operand->gn,callFunc->Ki,Fence->wI,resolve->WK,wpIn_mono->zS,Calls->DG
open Go.Code renaming rangeFunc->Oz
open Go.Fence renaming wide->pI
open Go.Instr renaming beginRound->ċ
open Go.IntKind renaming i64->iz
open Go.Proofs.Tryz renaming prog->em
open Go.RowKit.Below renaming heap_alloc->I',heap_setCell->YW,refl->qg
open Go.World renaming alloc_heap_new->JC,putObj_heap_same->yP,putObj_heap_other->hV,cell?->Hf
open Int renaming tdiv->ej,toNat_natCast->kh,gcd->fo,pow_succ->hP,pow_zero->PK,mul_nonneg->kv,mul_le_mul->tj,tdiv_eq_ediv_of_nonneg->ku,ediv_le_self->vb,ediv_nonneg->jN,toNat->ea,natAbs_neg->P3
open List renaming length->jC,length_eq_one_iff->Jz,length_singleton->IW,drop_zero->iW,append_nil->mS,length_cons->la,take_succ_eq_append_getElem->sF,drop_eq_getElem_cons->kl,drop_eq_nil_of_le->pB,all_eq_true->ky,getElem_mem->ra,mem_of_mem_take->wT,take_take->KE,take_add_one->wL,flatMap_append->Lt,map_append->B',filter_cons->Z5,map_cons->Li,eq_nil_of_length_eq_zero->ix,nil_append->ts,mem_map->rK,mem_map_of_mem->sL,mem_filter->xF,mem_flatMap->sp,mem_range->DJ,getD->qm,length_nil->IJ,cons_append->Aj
open List.Perm renaming refl->DP
open List.cons renaming inj->P9
open Nat renaming zero_le->gt,beq->dd,eq_zero_or_pos->Hi,pow_succ->C',ble->dK,min_eq_left->ns,add_mul->Gz,mul_le_mul_right->Hr,pow_le_pow_right->Q3,beq_refl->zX,lt_of_lt_of_le->iy
open Option renaming some->O,none->bs
open Or renaming inl->Hg,inr->Jn
open Prod renaming fst->ql
open Rat renaming divInt->gp,neg_num->Ts,neg_den->ó
open _root_ renaming List->I,Int->N,Bool->dF,decide->bP,Nat->E,Prod->BC,if_pos->dA,if_neg->db,Option->da,Rat->qA,decide_eq_true_iff->vk,UInt8->hN,decide_eq_false_iff_not->Ô,or_false->Xz,Array->fh,False->lm
set_option linter.defProp false
set_option linter.unusedSimpArgs false
set_option linter.unusedVariables false
set_option maxRecDepth 100000
namespace Go.Proofs.YtdajfemhnlpegaaGreatDoor
open Go.RowKit Sv Go.Proofs.Tryz
noncomputable section
def xI:=NO f34
def Hy:=NO f14
def nx(t:I (N×N)):dF:=bP (ij t=0)
noncomputable def ny(t:I (N×N)):(N×I N)×(N×I N):=xo t t.length
def acq:=IN 66 [.list ao cY] [e6] ao (λd=>nx d.1) λd=>(ny d.1,())
def rT(a b:I (N×N))(k:E):bD:={n:=26,sl:=[(0,pl a),(1,pl b),(5,iv k)],bF:=[],next:=64}
abbrev LL:I E:=[1,1,0,1,0,0]
def ip(a b:I (N×N)):dF:=bP (a=b)
def S9:=IN 34 [.list ao cY,.list ao cY] [.bool] D (λd=>decide (jC (α:=N×N) d.1<=1000000)) λd=>(ip d.1 d.2.1,())
def Hz:=aA [S9]
def vD(h:I (N×N))(e c:N)(w:I (N×N)):dF:=if c=0 then(e==0)&&ip h w else bP (h.length=0)&&(e==c)
def acr:=IN 14 [.list ao cY,.int .i64,.int .i64,.list ao cY] [.bool] D (λd=>decide (jC (α:=N×N) d.1<=1000000)) λd=>(vD d.1 d.2.1 d.2.2.1 d.2.2.2.1,())
def axu:=IN 7 [] [.bool] D (λd=>D) λd=>(D,())
def axv:acq.Ok em:=λ⟨t,_⟩ h=>by
 obtain⟨c,d⟩:=K3 (cC h);exact arW t c d
def axw(a b:I (N×N))(A:a.length<=1000000):Holds em D 34 [pl a,pl b] (bv (ip a b)):=by
 have d:=ba;refine bK xI func34 λw F=>?_
 by_cases m:a.length=b.length
 .refine cE d 4 (wy [aa (cS.mpr (ω:(a.length:N)=(b.length:N)))] 1:cL (aA []) (fl xI []) 4 26 [pl a,pl b] 2 .normal [] (rT a b 0)) ?_;refine c_q {k:E//k<=a.length/\∀j,j<k->g0 a j=g0 b j} 0 (cat xI LL) ((fl xI []).drop 5) (λk=>rT a b k.1) (λk=>a.length-k.1) ⟨0,gt _,λj o=>absurd o (E.not_lt_zero _)⟩ ?_;rintro⟨k,t,f⟩;have t:k<=a.length:=t;have f:∀j,j<k->g0 a j=g0 b j:=f;by_cases g:k<a.length
  .cases c:((g0 a k).1==(g0 b k).1&&(g0 a k).2==(g0 b k).2)with
   |true=>
    refine aT (s:=rT a b k) d (wy [ag (ω:(k:N)<(a.length:N)),ag g,aa (aI (v:=af.agg [iv ((a.getD k ((0:N),(0:N))).1),iv ((a.getD k ((0:N),(0:N))).2)])),ag (ω:k<b.length),aa (aI (v:=af.agg [iv ((b.getD k ((0:N),(0:N))).1),iv ((b.getD k ((0:N),(0:N))).2)])),aa (aL (c)),yi (ω:i6 ((k:N)+1))] 1997061009186817:aR (aA []) (fl xI LL) (rT a b k) 5 .normal [] (rT a b (k+1))) ?_;refine⟨⟨k+1,g,λj o=>?_⟩,by show a.length-(k+1)<a.length-k;omega,rfl,rfl⟩;by_cases z:j=k
    .rw[ae,gw,gw]at c;rw[z];exact BC.ext c.1 c.2
    .exact f j ω
   |false=>
    have e:ip a b=ao:=ab λh=>by
     rw[h]at c;simp at c
    rw[e];exact bM (s:=rT a b k) d (wy [ag (ω:(k:N)<(a.length:N)),ag g,aa (aI (v:=af.agg [iv ((a.getD k ((0:N),(0:N))).1),iv ((a.getD k ((0:N),(0:N))).2)])),ag (ω:k<b.length),aa (aI (v:=af.agg [iv ((b.getD k ((0:N),(0:N))).1),iv ((b.getD k ((0:N),(0:N))).2)])),aa (aL (c))] 26736172212225:bw (aA []) (fl xI LL) (rT a b k) 7 f34 D (bv ao))
  .refine aT (s:=rT a b k) d (wy [az (ω:¬(k:N)<(a.length:N))] 1:aR (aA []) (fl xI LL) (rT a b k) 2 (.exit 0) [] (rT a b k)) ?_;refine bY (cg ?_);obtain rfl:k=a.length:=by omega
   have e:ip a b=D:=ay (by
    refine I.ext_getElem m λj l u=>?_
    have:=f j l;rwa[j3 l,j3 u]at this)
   rw[e];exact bM (s:=rT a b a.length) d (wy [] 0:bw (aA []) ((fl xI []).drop 5) (rT a b a.length) 1 f34 D (bv D))
 .have e:ip a b=ao:=ab λh=>m (by rw[h])
  rw[e];exact bt d 3 (wy [aa (eX.mpr (ω:¬(a.length:N)=(b.length:N)))] 1:bk (aA []) (fl xI []) 3 26 [pl a,pl b] 3 f34 D (bv ao))
def acs:S9.Ok em:=λ⟨a,b,_⟩ h=>axw a b (cC h)
def axx:acr.Ok em:=λ⟨h,e,c,w,_⟩ hp=>by
 have m:h.length<=1000000:=cC hp;have g:bI em (bJ Hz):=uA acs;show Holds em D 14 [pl h,iv e,iv c,pl w] (bv (vD h e c w));refine bK Hy func14 λw0 F=>?_
 unfold vD;by_cases d:c=0
 .rw[dA d];by_cases f:e=0
  .have j:((e==0)&&ip h w)=ip h w:=by rw[f];rfl
   rw[j];exact bt g 9 (wy [aa (cS.mpr d),aa (aK (gw.mpr f)),ag m,cT f] 4345831553:bk Hz (fl Hy []) 9 26 [pl h,iv e,iv c,pl w] 62 f14 D (bv (ip h w)))
  .have j:((e==0)&&ip h w)=ao:=by rw[fB.2 f];rfl
   rw[j];exact bt g 9 (wy [aa (cS.mpr d),aa (aK (fB.mpr f)),yn f] 50864257:bk Hz (fl Hy []) 9 26 [pl h,iv e,iv c,pl w] 32 f14 D (bv ao))
 .rw[db d];by_cases l:h.length=0
  .rw[ay l,py];exact bt g 9 (wy [aa (eX.mpr d),aa (aK (gw.mpr (ω:(h.length:N)=0))),cT (ω:(h.length:N)=0)] 50864257:bk Hz (fl Hy []) 9 26 [pl h,iv e,iv c,pl w] 63 f14 D (bv (e==c)))
  .rw[ab l,dF.false_and];exact bt g 9 (wy [aa (eX.mpr d),aa (aK (fB.mpr (ω:¬(h.length:N)=0))),yn (ω:¬(h.length:N)=0)] 50864257:bk Hz (fl Hy []) 9 26 [pl h,iv e,iv c,pl w] 33 f14 D (bv ao))
end
set_option maxHeartbeats 4000000
noncomputable section
def y8:=NO Tryz.f60
def LM:=NO Tryz.f61
def BF:=NO Tryz.f127
def acu:=NO Tryz.f128
def xt:=NO Tryz.f129
def Ta:=NO Tryz.f57
def LN:=NO Tryz.f44
def vE:=NO Tryz.f45
def fP(x y:N):N:=if x<y then-1 else if y<x then 1 else 0
def LP:=IN 61 [.int .i64,.int .i64] [.int .i64] D (λd=>D) λd=>(fP d.1 d.2.1,())
def rU(l:I N)(k:E):bD:={n:=18,sl:=[(0,lv l),(3,iv 0),(6,lv l),(7,iv l.length),(8,iv k)],bF:=[],next:=64}
abbrev BG:I E:=[1,1,0,1,0,0]
def HA:=IN 60 [.list ao (.int .i64)] [.int .i64] D (λd=>decide (jC (α:=N) d.1<=1000000)) λd=>(dL d.1,())
def vF(l:I (N×N))(k:E)(n:N):bD:={n:=21,sl:=[(3,iv n),(6,pl l),(7,iv l.length),(8,iv k)],bF:=[],next:=64}
def ey(l:I (N×N)):dF:=bP (l.length<=1000)&&l.all λp=>(bP (0<=p.1)&&bP (p.1<=1000))&&(bP (0<=p.2)&&bP (p.2<=1000))
def acv:=IN 127 [.list ao cY] [.int .i64] D (λd=>ey d.1) λd=>(cx d.1,())
def oW(p q:N×N):N:=dL [fP p.1 q.1,fP p.2 q.2]
abbrev LQ(p:N×N):af:= .agg [iv p.1,iv p.2]
def acw:=IN 128 [.pair (.int .i64) (.int .i64),.pair (.int .i64) (.int .i64)] [.int .i64] D (λd=>D) λd=>(oW d.1 d.2.1,())
def y9:=aA [acw]
def og(a b:I (N×N))(k:E):bD:={n:=39,sl:=[(0,pl a),(1,pl b),(2,LI 128),(11,pl a),(12,iv a.length),(13,iv k)],bF:=[],next:=64}
abbrev HB:I E:=[1,0,1,0,0]
def nA:I (N×N)->I (N×N)->N
 |[],[]=>0
 |[],_::_=> -1
 |_::_,[]=>1
 |p::r,q::s=>if oW p q=0 then nA r s else oW p q
def Tb(args:I af):aD (da af):=match args with
 |[.bh ao (.pair (.int .i64) (.int .i64)) a,.bh ao (.pair (.int .i64) (.int .i64)) b,.raw (.func (.func g) ⟨[]⟩ ⟨[]⟩)]=>.must (dd g 128&&bP (a.length<=1000000)) (.ret (O (iv (nA a b))))
 |_=>.ret bs
noncomputable def acy:uz:={f:=129,res:=Tb}
def acz:=NO Tryz.f69
def acA:=C2 [acy] (aA [LP,HA,acv])
def rV(a b:I (N×N)):N:=dL [fP a.length b.length,fP (cx a) (cx b),nA a b]
def acB:=IN 69 [.list ao cY,.list ao cY] [.int .i64] D (λd=>ey d.1&&ey d.2.1) λd=>(rV d.1 d.2.1,())
def Tc:=aA [acq,RD,KV,KW]
def LR:=aA [ab3,Rz,KV]
section
variable(a:AT)(Z:a.size<=1000000000)(Y:ckR a=0)(h3:(jb a)=D)(h4:(aH (cW a).1)=D)
def axV(c:fO (cW a).1<=0):
  bk LR (fl LN []) 9 13 [sv a] 6 Tryz.f44 D (iv 3):=
 wy [ag Z,aa (cS.mpr Y),aa h3,aa h4,ag c] 84947073
def axW(c:¬fO (cW a).1<=0):
  bk LR (fl LN []) 9 13 [sv a] 4 Tryz.f44 D (iv 0):=
 wy [ag Z,aa (cS.mpr Y),aa h3,aa h4,az c] 84947073
end
def tw(l:I (N×N))(n:N)(i:E)(c:N):bD:={n:=29,sl:=[(0,pl l),(5,iv c),(13,iv n),(14,iv i)],bF:=[],next:=64}
abbrev Td:I E:=[1,1,1,0,1,0,0]
def ax0(l:I (N×N))(n:N)(i:E)(c:N)(d:(i:N)<n)(e:i6 ((l.length:N)+(i:N)))(h3:i6 (c*((l.length:N)+(i:N))))(h4:i6 ((i:N)+1))(f:i6 (ej (c*((l.length:N)+(i:N))) ((i:N)+1))):
  aR (aA []) (fl vE Td) (tw l n i c) 3 .normal [] (tw l n (i+1) ((c*((l.length:N)+(i:N))).tdiv ((i:N)+1))):=
 wy [ag d,yi e,yi h3,yi h4,yi f] 280247677057
def acC(u:E):1<=(Lib.decDigits u).length:=by
 by_cases h:u<10
 .rw[vq h];exact aC _
 .rw[Bn h,fQ];exact E.le_add_left _ _
def wv(q:cl):qA:=gp (ax q.1) (ax q.2)
noncomputable def vG(n:E)(q:cl):dF:= @bP (QR n q (wv q)) (KR _)
def uc{n:E}{q:cl}:vG n q=D↔QR n q (wv q):= @vk _ (KR _)
def QR.val{n:E}{q:cl}{r:qA}(h:QR n q r):wv q=r:=h.self
def QR.rd{n m:E}{q:cl}{r:qA}(h:QR n q r)(c:n<=m):vG m q=D:=uc.2 (by rw[h.val];exact h.mono c)
end
end Go.Proofs.YtdajfemhnlpegaaGreatDoor
namespace Go.Proofs.YtdajfemhnlpegaaGreatDoor
def kk:I N->N×N
 |[]=>(1,0)
 |n::t=>(n*(kk t).1+(kk t).2,(kk t).1)
section
open Go.RowKit Sv Go.Proofs.Tryz
def Te{b:hN}(h:48<=b.toNat/\b.toNat<=57):[b]=Lib.decDigits (bA [b]).toNat/\bA [b]=(b.toNat:N)-48:=by
 have e:bA [b]=(b.toNat:N)-48:=by rw[PI];simp[bA]
 refine⟨?_,e⟩;rw[e,vq ω];congr 1;rw[show 48+((b.toNat:N)-48).toNat=b.toNat by omega];simp
def ww{b:hN}(h:cj [b]=D):48<=b.toNat/\b.toNat<=57:=by
 rw[Db,ae,ae,aN,aN]at h;exact h.1
def acD:∀(n:E)(L:I hN),L.length=n+1->cj L=D->(L.getD 0 0).toNat≠48->L=Lib.decDigits (bA L).toNat/\0<bA L
 |0,L,d,c,e=>by
  obtain⟨b,rfl⟩:∃b,L=[b]:=Jz.1 d;have f:=ww c;obtain⟨o,A⟩:=Te f;have h3:b.toNat≠48:=e;exact⟨o,by omega⟩
 |n+1,L,d,c,e=>by
  have g:L≠[]:=λj=>by rw[j]at d;cases d
  obtain⟨M,b,rfl⟩:∃M b,L=M++[b]:=⟨L.dropLast,L.getLast g,(I.dropLast_concat_getLast g).symm⟩;have h:M.length=n+1:=by rw[fQ,IW]at d;omega
  rw[Lr]at c;have f:=ww c.2;have t:(M.getD 0 0).toNat≠48:=by
   cases M with
   |nil=>cases h
   |cons z r=>exact e
  obtain⟨u,C⟩:=acD n M h c.1 t;obtain⟨_,l⟩:=Te f;have m:bA (M++[b])=bA M*10+((b.toNat:N)-48):=by
   rw[SB,l];rfl
  refine⟨?_,by omega⟩;rw[m,Bn ω,show(bA M*10+((b.toNat:N)-48)).toNat/10=(bA M).toNat by omega,<-u,show(bA M*10+((b.toNat:N)-48)).toNat%10=b.toNat-48 by omega,show 48+(b.toNat-48)=b.toNat by omega];simp
def acE{u:AT}(h:cU u=D):ak u=Lib.decDigits (bA (ak u)).toNat:=by
 unfold cU at h;rw[ae,ae,aN]at h;obtain⟨f,c,h3⟩:=h;by_cases e:u.size=1
 .obtain⟨b,d⟩:∃b,ak u=[b]:=Jz.1 (by rw[<-eD];exact e);rw[d]at h3 ⊢;exact(Te (ww h3)).1
 .rw[ab ω,dF.false_or,Gp,Ô]at c;exact(acD (u.size-1) (ak u) (by rw[<-eD];omega) h3 c).1
def ax4{s:AT}(h:ckR s=0):Bz s:=by
 unfold ckR Ee at h;split at h
 .cases h
 rename_i c1;split at h
 .cases h
 rename_i c2;split at h
 .cases h
 rename_i G;split at h
 .cases h
 rename_i c4;split at h
 .cases h
 rename_i l;obtain⟨t,U⟩:∃t,bW s=t:=⟨_,rfl⟩;obtain⟨k,o⟩:∃k,bE (ak t)=k:=⟨_,rfl⟩;rw[U,o]at c1 c2 G c4 l;have b':k<=t.size:=by rw[<-o,eD];exact nd _
 have M:cU (t.extract 0 k)=D:=by cases Q:cU (t.extract 0 k)with
  |true=>rfl
  |false=>exact absurd Q c1
 have d:=acE M;have a4:=xD (y6 M).1;have b3:=mW t 0 k b';obtain⟨A,a0⟩:∃A:E,bA (ak (t.extract 0 k))=(A:N):=⟨(bA (ak (t.extract 0 k))).toNat,by omega⟩;rw[a0,kh]at d;rw[a0]at a4 l;have b1:ck s=D->0<A:=λe=>by
  rcases Hi A with L|L
  .rw[L,vq δ]at d;exact absurd ⟨e,d⟩ c2
  .exact L
 have j:bz (ck s) (A:N)<0↔ck s=D:=by
  cases e:ck s with
  |true=>have:=b1 e;constructor;exact λ_=>rfl;exact λ_=>by show-(A:N)<0;omega
  |false=>constructor;(intro h;have:(A:N)<0:=h;omega);exact λh=>by cases h
 have a':(bz (ck s) (A:N)).natAbs=A:=by cases ck s with
  |true=>show(-(A:N)).natAbs=A;omega
  |false=>show(A:N).natAbs=A;omega
 have hit:Lib.itoa (bz (ck s) (A:N))=if ck s then 45::Lib.decDigits A else Lib.decDigits A:=by
  rw[nn,a'];cases e:ck s with
  |true=>rw[ay (by rw[e]at j;exact j.2 rfl)]
  |false=>rw[ab (by rw[e]at j;exact λh=>by cases j.1 h)]
 have a3:ak s=if ck s then 45::ak t else ak t:=by
  rcases Hu s with⟨f,c⟩|⟨f,c,_⟩
  .rw[f,c,U];rfl
  .rw[f,<-U,c];rfl
 have W:((bz (ck s) (A:N)).natAbs:N)<1000000000^(k+(t.size-k)):=by
  rw[a'];have f:=LB (t.extract 0 k).size;have c:=j5 (b:=1000000000) δ (show(t.extract 0 k).size<=k+(t.size-k) by omega);omega
 by_cases u:k<t.size
 .have a2:cU (t.extract (k+1) t.size)=D:=by cases Q:cU (t.extract (k+1) t.size)with
   |true=>rfl
   |false=>exact absurd ⟨u,.inl Q⟩ G
  have z:=acE a2;have a5:=xD (y6 a2).1;have b4:=mW t (k+1) t.size (aC _);obtain⟨B,a1⟩:∃B:E,bA (ak (t.extract (k+1) t.size))=(B:N):=⟨(bA (ak (t.extract (k+1) t.size))).toNat,by omega⟩;rw[a1,kh]at z;rw[a1]at a5 l;have m:fo (A:N) (B:N)=1:=by
   by_cases m:fo (A:N) (B:N)=1
   .exact m
   .exact absurd ⟨u,m⟩ l
  have b2:2<=B:=by
   rcases E.lt_or_ge B 2 with c|c
   .refine absurd ⟨u,.inr ?_⟩ G;rw[z,vq ω];rcases (show B=0\/B=1 by omega)with rfl |rfl
    .exact .inl rfl
    .exact .inr rfl
   .exact c
  obtain⟨g,r2⟩:=RQ (p:=bz (ck s) (A:N)) (q:=(B:N)) ω (by rw[Ls];exact m);have a6:(B:N)<1000000000^(k+(t.size-k)):=by
   have f:=LB (t.extract (k+1) t.size).size;have c:=j5 (b:=1000000000) δ (show(t.extract (k+1) t.size).size<=k+(t.size-k) by omega);omega
  refine⟨gp (bz (ck s) (A:N)) (B:N),k+(t.size-k),kE ?_,by omega,by rw[g];exact W,by rw[r2];exact a6⟩;have C:=(S0 (ak t)).2 (by rw[o,<-eD];exact u);rw[o]at C;have V:ak (t.extract 0 k)=(ak t).take k:=by rw[fw,iW]
  have x2:ak (t.extract (k+1) t.size)=(ak t).drop (k+1):=by rw[fw,eD,dx]
  rw[<-V,<-x2,d,z]at C;show ak s=ak (aW _);have J:ak (aW (gp (bz (ck s) (A:N)) (B:N)))=Lib.itoa (bz (ck s) (A:N))++47::Lib.decDigits B:=by
   unfold aW;rw[db ω,g,r2,Dec.xp]
  rw[J,hit,a3,C];cases ck s<;>rfl
 .have g:((bz (ck s) (A:N):N):qA).num=bz (ck s) (A:N):=qA.num_intCast _;have r2:((bz (ck s) (A:N):N):qA).den=1:=qA.den_intCast _;have a9:(1:N)<1000000000^(k+(t.size-k)):=by
   have hp:=(y6 M).2;have c:=j5 (b:=1000000000) δ (show 1<=k+(t.size-k) by omega);rw[hP,PK]at c;omega
  refine⟨((bz (ck s) (A:N):N):qA),k+(t.size-k),kE ?_,by omega,by rw[g];exact W,by rw[r2];exact a9⟩;have V:ak (t.extract 0 k)=ak t:=by rw[fw,iW,eG (by rw[<-eD];omega)]
  rw[V]at d;show ak s=ak (aW _);have J:ak (aW ((bz (ck s) (A:N):N):qA))=Lib.itoa (bz (ck s) (A:N)):=by
   unfold aW;rw[dA r2,g];exact nv _
  rw[J,hit,a3,d]
set_option maxHeartbeats 1000000
noncomputable section
def wx:∀(n:E)(u:E),(Lib.decDigits u).length<=n->u<10^n
 |0,u,h=>by have:=acC u;omega
 |n+1,u,h=>by
  have hp:0<10^n:=E.pow_pos δ;by_cases c:u<10
  .rw[C'];omega
  .rw[Bn c,fQ,IW]at h;have:=wx n (u/10) ω;rw[C'];omega
def ax9{r:qA}{n:E}(h:(aW r).size<=n):r.num.natAbs<10^n/\r.den<10^n:=by
 have d:ak (aW r)=Lib.itoa r.num++(if r.den=1 then []else 47::Lib.decDigits r.den):=by
  unfold aW;by_cases c:r.den=1
  .rw[dA c,dA c,mS];exact nv _
  .rw[db c,db c,<-Dec.xp]
 rw[eD,d,fQ,nn]at h;have e:(Lib.decDigits r.num.natAbs).length<=(if bP (r.num<0)then 45::Lib.decDigits r.num.natAbs else Lib.decDigits r.num.natAbs).length:=by split<;>simp
 refine⟨wx _ _ ω,?_⟩;by_cases c:r.den=1
 .rw[c];cases n with
  |zero=>have:=acC r.num.natAbs;omega
  |succ n=>exact E.one_lt_pow ω δ
 .rw[db c,la]at h;exact wx _ _ ω
structure acG(a:AT)(r:qA):Prop where
 tx:a=aW r
 n:r.num.natAbs<1000000000000000000000000
 d:r.den<1000000000000000000000000
 fr:jb a=D
 qr:QR 2 (cW a) r
 q:toQ a=r
 i:pY 3 r
def aya{r:qA}(h:(aW r).size<=24):acG (aW r) r:=by
 have e:(10:E)^24=1000000000000000000000000:=by decide
 obtain⟨c,d⟩:=ax9 h;rw[e]at c d;have i:pY 3 r:=⟨by have:(1000000000:N)^3=1000000000000000000000000000:=δ;omega,by have:(1000000000:N)^3=1000000000000000000000000000:=δ;omega⟩;have f:(18446744073709551616:N)^2=340282366920938463463374607431768211456:=by decide
 obtain⟨f1,f2⟩:=auF (n:=2) (r:=r) δ δ (nh ω).1 (nh ω).1 ω;exact⟨rfl,c,d,f1,f2,io (k:=3) δ i,i⟩
def IO9{a:AT}(d:a.size<=24)(c:ckR a=0):acG a (toQ a):=by
 obtain⟨r,k,rfl,_,_⟩:=ax4 c;have h:=aya d;rw[h.q];exact h
def map_take{α c:Type}(f:α->c){l:I α}{k:E}(d:α)(h:k<l.length):(l.map f).take (k+1)=(l.map f).take k++[f (l.getD k d)]:=by
 rw[sF (by rw[mG];exact h),I.getElem_map,ap,iw h];rfl
end
set_option maxHeartbeats 1000000
noncomputable section
def ayb(x y:N):Holds em D 61 [iv x,iv y] (iv (fP x y)):=by
 have e:=ba;refine bK LM func61 λw F=>?_
 unfold fP;by_cases c:x<y
 .rw[dA c];exact bt e 14 (wy [aa (cS.mpr (rfl:x=x)),aa (cS.mpr (rfl:y=y)),ag c] 12417:bk (aA []) (fl LM []) 14 20 [iv x,iv y] 12 Tryz.f61 D (iv (-1)))
 .rw[db c];by_cases d:y<x
  .rw[dA d];exact bt e 14 (wy [aa (cS.mpr (rfl:x=x)),aa (cS.mpr (rfl:y=y)),az c,ag d] 1060993:bk (aA []) (fl LM []) 14 20 [iv x,iv y] 24 Tryz.f61 D (iv 1))
  .rw[db d];exact bt e 14 (wy [aa (cS.mpr (rfl:x=x)),aa (cS.mpr (rfl:y=y)),az c,az d] 1060993:bk (aA []) (fl LM []) 14 20 [iv x,iv y] 16 Tryz.f61 D (iv 0))
def acH:LP.Ok em:=λ⟨x,y,_⟩ _=>ayb x y
def ayc(l:I N)(t:l.length<=1000000):Holds em D 60 [lv l] (iv (dL l)):=by
 have d:=ba;obtain⟨f,h⟩:∃f,dL l=f:=⟨_,rfl⟩;rw[h];refine bK y8 func60 λw F=>?_
 refine cE d 3 (wy [] 0:cL (aA []) (fl y8 []) 3 18 [lv l] 1 .normal [] (rU l 0)) ?_;refine c_q {k:E//k<=l.length/\dL (l.drop k)=f} 0 (cat y8 BG) ((fl y8 []).drop 4) (λk=>rU l k.1) (λk=>l.length-k.1) ⟨0,gt _,h⟩ ?_;rintro⟨k,o,c⟩;have c:dL (l.drop k)=f:=c;by_cases e:k<l.length
 .have m:l.getD k 0=l[k]:=by simp[ap,e]
  rw[kl e,<-m]at c;have j:∀(s:N)(r:I N),dL (s::r)=if s≠0 then s else dL r:=λ_ _=>rfl
  rw[j]at c;by_cases g:l.getD k 0=0
  .rw[db (by simpa using g)]at c;refine aT (s:=rU l k) d (wy [ag (ω:(k:N)<(l.length:N)),ag e,aa (cS.mpr g),yi (ω:i6 ((k:N)+1))] 67903489:aR (aA []) (fl y8 BG) (rU l k) 5 .normal [] (rU l (k+1))) ?_;exact⟨⟨k+1,e,c⟩,by show l.length-(k+1)<l.length-k;omega,rfl,rfl⟩
  .rw[dA g]at c;subst c;exact bM (s:=rU l k) d (wy [ag (ω:(k:N)<(l.length:N)),ag e,aa (eX.mpr g)] 794625:bw (aA []) (fl y8 BG) (rU l k) 7 Tryz.f60 D (iv (l.getD k 0)))
 .refine aT (s:=rU l k) d (wy [az (ω:¬(k:N)<(l.length:N))] 1:aR (aA []) (fl y8 BG) (rU l k) 2 (.exit 0) [] (rU l k)) ?_;refine bY (cg ?_);rw[pB ω]at c;subst c;exact bM (s:=rU l k) d (wy [] 0:bw (aA []) ((fl y8 []).drop 4) (rU l k) 1 Tryz.f60 D (iv 0))
def Th:HA.Ok em:=λ⟨l,_⟩ h=>ayc l (cC h)
def LU{l:I (N×N)}(h:ey l=D):l.length<=1000/\∀p∈l,(0<=p.1/\p.1<=1000)/\0<=p.2/\p.2<=1000:=by
 unfold ey at h;rw[ae,aN,ky]at h;refine⟨h.1,λp hp=>?_⟩;have:=h.2 p hp;rw[ae,ae,ae,aN,aN,aN,aN]at this;exact this
def Ti:∀(a b:I (N×N)),cx (a++b)=cx a+cx b
 |[],b=>by show cx b=0+cx b;omega
 |p::r,b=>by show p.1+p.2+cx (r++b)=p.1+p.2+cx r+cx b;rw[Ti r b];omega
def Tj:∀{l:I (N×N)},(∀p∈l,(0<=p.1/\p.1<=1000)/\0<=p.2/\p.2<=1000)->0<=cx l/\cx l<=2000*l.length
 |[],_=>⟨by show(0:N)<=0;omega,by show(0:N)<=2000*((0:E):N);omega⟩
 |p::r,h=>by
  have d:=h p (gb ..);have f:=Tj (l:=r) λq hq=>h q (gQ _ hq)
  have e:cx (p::r)=p.1+p.2+cx r:=rfl;have c:((p::r).length:N)=(r.length:N)+1:=by rw[la];rfl
  rw[e,c];omega
def acI{α:Type}{l:I α}{k:E}(d:α)(h:k<l.length):l.take (k+1)=l.take k++[l.getD k d]:=by
 rw[sF h,ap,iw h];rfl
def ayd(l:I (N×N))(h:ey l=D):Holds em D 127 [pl l] (iv (cx l)):=by
 have d:=ba;obtain⟨z,hp⟩:=LU h;refine bK BF func127 λw F=>?_
 refine cE d 3 (wy [] 0:cL (aA []) (fl BF []) 3 21 [pl l] 1 .normal [] (vF l 0 0)) ?_;refine c_q {k:E//k<=l.length} 0 (cat BF BG) ((fl BF []).drop 4) (λk=>vF l k.1 (cx (l.take k.1))) (λk=>l.length-k.1) ⟨0,gt _⟩ ?_;rintro⟨k,g⟩;have g:k<=l.length:=g;by_cases e:k<l.length
 .have m:l.getD k (0,0)∈l:=by rw[ap,iw e];exact ra _
  have t:=hp _ m;have u:=Tj (l:=l.take k) λp j=>hp p (wT j)
  have o:((l.take k).length:N)<=1000:=by rw[er];omega
  have c:aR (aA []) (fl BF BG) (vF l k (cx (l.take k))) 3 .normal [] (vF l (k+1) ((cx (l.take k))+((l.getD k (0,0)).1+(l.getD k (0,0)).2))):=wy [ag (ω:(k:N)<(l.length:N)),ag e,yi (ω:i6 ((l.getD k (0,0)).1+(l.getD k (0,0)).2)),yi (ω:i6 ((cx (l.take k))+((l.getD k (0,0)).1+(l.getD k (0,0)).2))),yi (ω:i6 ((k:N)+1))] 5436612609;have f:cx (l.take k)+((l.getD k (0,0)).1+(l.getD k (0,0)).2)=cx (l.take (k+1)):=by
   rw[acI (0,0) e,Ti];show _=_+((l.getD k (0,0)).1+(l.getD k (0,0)).2+0);omega
  rw[f]at c;refine aT (s:=vF l k (cx (l.take k))) d c ?_;exact⟨⟨k+1,e⟩,by show l.length-(k+1)<l.length-k;omega,rfl,rfl⟩
 .refine aT (s:=vF l k (cx (l.take k))) d (wy [az (ω:¬(k:N)<(l.length:N))] 1:aR (aA []) (fl BF BG) (vF l k (cx (l.take k))) 2 (.exit 0) [] (vF l k (cx (l.take k)))) ?_;refine bY (cg ?_);have c:bw (aA []) ((fl BF []).drop 4) (vF l k (cx (l.take k))) 1 Tryz.f127 D (iv (cx (l.take k))):=wy [] 0;have f:l.take k=l:=eG ω;rw[f]at c ⊢;exact bM (s:=vF l k (cx l)) d c
def aye:acv.Ok em:=λ⟨l,_⟩ h=>ayd l h
def ayf:bI em (bJ (aA [LP,HA])):=dw (aV acH (aV Th eH))
def ayg:acw.Ok em:=λ⟨p,q,_⟩ _=>by
 show Holds em D 128 [LQ p,LQ q] (iv (oW p q));refine bK acu func128 λw F=>?_
 exact bt ayf 9 (wy [aa (aI (v:=iv (p.1))),aa (aI (v:=iv (q.1))),aa (aI (v:=iv (p.2))),aa (aI (v:=iv (q.2))),ag (show jC [fP p.1 q.1,fP p.2 q.2]<=1000000 from by show 2<=1000000;decide),av (rfl:(dL [fP p.1 q.1,fP p.2 q.2])=(oW p q))] 109494045164437633:bk (aA [LP,HA]) (fl acu []) 9 17 [LQ p,LQ q] 1 Tryz.f128 D (iv (oW p q)))
def ayh(a b:I (N×N))(k:E)(c:k<a.length)(d:k<b.length):nA (a.drop k) (b.drop k)=if oW (a.getD k (0,0)) (b.getD k (0,0))=0 then nA (a.drop (k+1)) (b.drop (k+1))else oW (a.getD k (0,0)) (b.getD k (0,0)):=by
 have e:a.getD k (0,0)=a[k]:=by simp[ap,c]
 have f:b.getD k (0,0)=b[k]:=by simp[ap,d]
 rw[kl c,kl d,e,f];rfl
def ayi(a b:I (N×N))(o:a.length<=1000000):Holds em D 129 [pl a,pl b,LI 128] (iv (nA a b)):=by
 have e:bI em (bJ y9):=uA ayg;obtain⟨d,j⟩:∃d,nA a b=d:=⟨_,rfl⟩;rw[j];refine bK xt func129 λw F=>?_
 refine cE e 2 (wy [] 0:cL y9 (fl xt []) 2 39 [pl a,pl b,LI 128] 1 .normal [] (og a b 0)) ?_;refine c_q {k:E//k<=a.length/\k<=b.length/\nA (a.drop k) (b.drop k)=d} 0 (cat xt HB) ((fl xt []).drop 3) (λk=>og a b k.1) (λk=>a.length-k.1) ⟨0,gt _,gt _,j⟩ ?_;rintro⟨k,l,m,c⟩;have c:nA (a.drop k) (b.drop k)=d:=c;by_cases g:k<a.length
 .by_cases f:k<b.length
  .rw[ayh a b k g f]at c;by_cases h:oW (a.getD k (0,0)) (b.getD k (0,0))=0
   .rw[dA h]at c;refine aT (s:=og a b k) e (wy [ag (ω:(k:N)<(a.length:N)),ag g,az (ω:¬(k:N)>=(b.length:N)),ag f,aa (cS.mpr h),yi (ω:i6 ((k:N)+1))] 1710844388581377:aR y9 (fl xt HB) (og a b k) 9 .normal [] (og a b (k+1))) ?_;exact⟨⟨k+1,g,f,c⟩,by show a.length-(k+1)<a.length-k;omega,rfl,rfl⟩
   .rw[db h]at c;subst c;exact bM (s:=og a b k) e (wy [ag (ω:(k:N)<(a.length:N)),ag g,az (ω:¬(k:N)>=(b.length:N)),ag f,aa (eX.mpr h)] 21994528317441:bw y9 (fl xt HB) (og a b k) 13 Tryz.f129 D (iv (oW (a.getD k (0,0)) (b.getD k (0,0)))))
  .rw[kl g,pB (show b.length<=k by omega)]at c;have c:(1:N)=d:=c;subst c;exact bM (s:=og a b k) e (wy [ag (ω:(k:N)<(a.length:N)),ag g,ag (ω:(k:N)>=(b.length:N))] 794625:bw y9 (fl xt HB) (og a b k) 7 Tryz.f129 D (iv 1))
 .refine aT (s:=og a b k) e (wy [az (ω:¬(k:N)<(a.length:N))] 1:aR y9 (fl xt HB) (og a b k) 2 (.exit 0) [] (og a b k)) ?_;refine bY (cg ?_);rw[pB (show a.length<=k by omega)]at c;by_cases f:k<b.length
  .rw[kl f]at c;have c:(-1:N)=d:=c;subst c;exact bM (s:=og a b k) e (wy [ag (ω:(a.length:N)<(b.length:N))] 1:bw y9 ((fl xt []).drop 3) (og a b k) 3 Tryz.f129 D (iv (-1)))
  .rw[pB (show b.length<=k by omega)]at c;have c:(0:N)=d:=c;subst c;exact bM (s:=og a b k) e (wy [az (ω:¬(a.length:N)<(b.length:N))] 1:bw y9 ((fl xt []).drop 3) (og a b k) 2 Tryz.f129 D (iv 0))
def ayj:acy.Ok em:=by
 intro l v c w F j u m z;change (Tb l).gr=_ at c;unfold Tb at c;split at c
 .rename_i a b g;have c:(match(dd g 128&&bP (a.length<=1000000))with |true=>O (O (iv (nA a b)))|false=>bs)=O (O v):=c;cases f:(dd g 128&&bP (a.length<=1000000))with
  |false=>rw[f]at c;cases c
  |true=>
  rw[f]at c;cases c;rw[ae,aN]at f;obtain rfl:=ac f.1;have o:aE (⟨λi=>if i<64 then O (i,0)else bs,F.fz⟩:Env) [pl a,pl b,LI 128] j:=by
   cases z with
   |cons d1 d2=>
    cases d2 with
    |cons d2 d3=>
     cases d3 with
     |cons d3 d4=>
      cases d4;have d:=oH (ρ:=F) (ρ':=(⟨λi=>if i<64 then O (i,0)else bs,F.fz⟩:Env)) (λb A h=>h) (.list ao cY) a [_] (.cons d1 .nil);have e:=oH (ρ:=F) (ρ':=(⟨λi=>if i<64 then O (i,0)else bs,F.fz⟩:Env)) (λb A h=>h) (.list ao cY) b [_] (.cons d2 .nil);cases d with
      |cons d _=>
       cases e with
       |cons e _=>exact .cons d (.cons e (.cons (by rw[d3.cu];exact .raw _) .nil))
  refine(ayi a b f.2 w ⟨λi=>if i<64 then O (i,0)else bs,F.fz⟩ j ⟨λi x h=>?_,λg C=>⟨0,dA C⟩,u⟩ m o).mono λJ L ⟨x,G,d,e,_,_,t⟩=>?_
  .have h:(if i<64 then O (i,0)else bs)=O x:=h;split at h
   .assumption
   .cases h
  .refine⟨x,d,?_,t⟩;rw[e.cu];exact .raw _
 .cases c
def ayk:bI em (bJ acA):=WJ (λd c=>by
 simp only[cQ,iL,Xz]at c;rcases c with rfl
 exact ayj) (dw λd c=>by
 simp only[cQ,iL,Xz]at c;rcases c with rfl |rfl |rfl
 .exact acH
 .exact Th
 .exact aye)
def ayl:acB.Ok em:=λ⟨a,b,_⟩ h=>by
 have h:(ey a&&ey b)=D:=h;rw[ae]at h;show Holds em D 69 [pl a,pl b] (iv (rV a b));refine bK acz func69 λw F=>?_
 exact bt ayk 9 (wy [aa (h.1:(ey a)=D),aa (h.2:(ey b)=D),aa (dN rfl (ay (by have:=(LU h.1).1;omega)):(dd 128 128&&bP (a.length<=1000000))=D),ag (show jC [fP (a.length:N) (b.length:N),fP (cx a) (cx b),nA a b]<=1000000 from by show 3<=1000000;decide),av (rfl:(dL [fP (a.length:N) (b.length:N),fP (cx a) (cx b),nA a b])=(rV a b))] 347942690880:bk acA (fl acz []) 9 25 [pl a,pl b] 1 Tryz.f69 D (iv (rV a b)))
def aym(p q:N×N):(oW p q=0↔p=q)/\(oW p q<0↔(p.1<q.1\/(p.1=q.1/\p.2<q.2))):=by
 have e:oW p q=if fP p.1 q.1≠0 then fP p.1 q.1 else if fP p.2 q.2≠0 then fP p.2 q.2 else 0:=rfl
 have c:p=q↔p.1=q.1/\p.2=q.2:=⟨λh=>by rw[h];exact⟨rfl,rfl⟩,λh=>BC.ext h.1 h.2⟩;rw[e,c];unfold fP;constructor<;>(repeat' split)<;>omega
def acJ:∀{a b:I (N×N)},a.length=b.length->(nA a b<0↔iG a b=D)
 |[],[],_=>by unfold nA iG;simp
 |p::r,q::s,h=>by
  obtain⟨e,f⟩:=aym p q;unfold nA iG;by_cases c:p.1=q.1
  .rw[db (show¬p.1≠q.1 by simpa using c)];by_cases d:p.2=q.2
   .rw[db (show¬p.2≠q.2 by simpa using d),dA (e.2 (BC.ext c d))];exact acJ (by simpa using h)
   .rw[dA d,db λg=>d (by rw[e.1 g]),f,aN];omega
  .rw[dA c,db λg=>c (by rw[e.1 g]),f,aN];omega
 |[],_::_,h=>by cases h
 |_::_,[],h=>by cases h
def ayn(a b:I (N×N)):rV a b<0↔eU a b=D:=by
 have f:rV a b=if fP a.length b.length≠0 then fP a.length b.length else if fP (cx a) (cx b)≠0 then fP (cx a) (cx b)else if nA a b≠0 then nA a b else 0:=rfl
 rw[f];unfold eU;by_cases c:a.length=b.length
 .have d:fP (a.length:N) b.length=0:=by unfold fP;rw[db ω,db ω]
  rw[d,db δ,db (show¬a.length≠b.length by simpa using c)];by_cases t1:cx a=cx b
  .have e:fP (cx a) (cx b)=0:=by unfold fP;rw[db ω,db ω]
   rw[e,db δ,db (show¬cx a≠cx b by simpa using t1),<-acJ c];split<;>omega
  .rw[dA (show fP (cx a) (cx b)≠0 by unfold fP;split<;>(try split)<;>omega),dA t1,aN];unfold fP;split<;>(try split)<;>omega
 .rw[dA (show fP (a.length:N) b.length≠0 by unfold fP;split<;>(try split)<;>omega),dA c,aN];unfold fP;split<;>(try split)<;>omega
end
set_option maxHeartbeats 1000000
noncomputable section
def BH:=NO f164
def tJ:=NO f111
def vH(t:I (N×N))(k:E)(n:N):bD:={n:=25,sl:=[(0,pl t),(3,iv n),(4,iv k)],bF:=[],next:=64}
def acK:=IN 164 [.list ao cY] [.int .i64] D (λd=>ey d.1) λd=>(cx d.1,())
def xJ:=aA [acK]
def HE:I E:=[1,1,1,0,1,0,0]
section
variable(a b:I (N×N))(k:E)
def p4:bD:={n:=76,sl:=[(0,pl a),(1,pl b),(5,iv k)],bF:=[],next:=64}
def ayv(r:dF)(c:(k:N)<(a.length:N))(d:k<a.length)(h3:k<b.length)(h4:¬(a.getD k (0,0)).1=(b.getD k (0,0)).1)(e:(bP ((a.getD k (0,0)).1<(b.getD k (0,0)).1))=(r)):
  bw xJ (fl tJ HE) (p4 a b k) 7 f111 D (bv r):=
 wy [ag c,ag d,aa (aI (v:=iv ((a.getD k ((0:N),(0:N))).1))),ag h3,aa (aI (v:=iv ((b.getD k ((0:N),(0:N))).1))),aa (eX.mpr h4),av e] 136929742032108279628046337
def ayw(r:dF)(c:(k:N)<(a.length:N))(d:k<a.length)(h3:k<b.length)(h4:(a.getD k (0,0)).1=(b.getD k (0,0)).1)(e:¬(a.getD k (0,0)).2=(b.getD k (0,0)).2)(f:(bP ((a.getD k (0,0)).2<(b.getD k (0,0)).2))=(r)):
  bw xJ (fl tJ HE) (p4 a b k) 13 f111 D (bv r):=
 wy [ag c,ag d,aa (aI (v:=iv ((a.getD k ((0:N),(0:N))).1))),ag h3,aa (aI (v:=iv ((b.getD k ((0:N),(0:N))).1))),aa (cS.mpr h4),aa (aI (v:=iv ((a.getD k ((0:N),(0:N))).2))),aa (aI (v:=iv ((b.getD k ((0:N),(0:N))).2))),aa (eX.mpr e),av f] 861422853671211696369911553501235519489
end
def acL:=IN 111 [.list ao cY,.list ao cY] [.bool] D (λd=>ey d.1&&ey d.2.1) λd=>(eU d.1 d.2.1,())
def ayA(l:I (N×N))(h:ey l=D):Holds em D 164 [pl l] (iv (cx l)):=by
 have d:=ba;obtain⟨z,hp⟩:=LU h;refine bK BH func164 λw F=>?_
 refine cE d 3 (wy [] 0:cL (aA []) (fl BH []) 3 25 [pl l] 1 .normal [] (vH l 0 0)) ?_;refine c_q {k:E//k<=l.length} 0 (cat BH [1,1,0,1,0,0]) ((fl BH []).drop 4) (λk=>vH l k.1 (cx (l.take k.1))) (λk=>l.length-k.1) ⟨0,gt _⟩ ?_;rintro⟨k,g⟩;have g:k<=l.length:=g;by_cases e:k<l.length
 .have m:l.getD k (0,0)∈l:=by rw[ap,iw e];exact ra _
  have t:=hp _ m;have u:=Tj (l:=l.take k) λp j=>hp p (wT j)
  have o:((l.take k).length:N)<=1000:=by rw[er];omega
  have c:aR (aA []) (fl BH [1,1,0,1,0,0]) (vH l k (cx (l.take k))) 3 .normal [] (vH l (k+1) ((cx (l.take k))+(g0 l k).1+(g0 l k).2)):=wy [ag (ω:(k:N)<(l.length:N)),ag e,aa (aI (v:=iv ((l.getD k ((0:N),(0:N))).1))),yi (ω:i6 ((cx (l.take k))+(l.getD k (0,0)).1)),aa (aI (v:=iv ((l.getD k ((0:N),(0:N))).2))),yi (ω:i6 ((cx (l.take k))+(l.getD k (0,0)).1+(l.getD k (0,0)).2)),yi (ω:i6 ((k:N)+1))] 127811767166050305;have f:cx (l.take k)+(l.getD k (0,0)).1+(l.getD k (0,0)).2=cx (l.take (k+1)):=by
   rw[acI (0,0) e,Ti];show _=_+((l.getD k (0,0)).1+(l.getD k (0,0)).2+0);omega
  rw[f]at c;refine aT (s:=vH l k (cx (l.take k))) d c ?_;exact⟨⟨k+1,e⟩,by show l.length-(k+1)<l.length-k;omega,rfl,rfl⟩
 .refine aT (s:=vH l k (cx (l.take k))) d (wy [az (ω:¬(k:N)<(l.length:N))] 1:aR (aA []) (fl BH [1,1,0,1,0,0]) (vH l k (cx (l.take k))) 2 (.exit 0) [] (vH l k (cx (l.take k)))) ?_;refine bY (cg ?_);have c:bw (aA []) ((fl BH []).drop 4) (vH l k (cx (l.take k))) 1 f164 D (iv (cx (l.take k))):=wy [] 0;have f:l.take k=l:=eG ω;rw[f]at c ⊢;exact bM (s:=vH l k (cx l)) d c
def ayB:acK.Ok em:=λ⟨l,_⟩ h=>ayA l h
def Ly(a b:I (N×N))(k:E)(c:k<a.length)(d:k<b.length):iG (a.drop k) (b.drop k)=if(a.getD k (0,0)).1≠(b.getD k (0,0)).1 then bP ((a.getD k (0,0)).1<(b.getD k (0,0)).1)else if(a.getD k (0,0)).2≠(b.getD k (0,0)).2 then bP ((a.getD k (0,0)).2<(b.getD k (0,0)).2)else iG (a.drop (k+1)) (b.drop (k+1)):=by
 have e:a.getD k (0,0)=a[k]:=j3 c;have f:b.getD k (0,0)=b[k]:=j3 d;rw[kl c,kl d,iG,e,f]
def ayC(a b:I (N×N))(l:ey a=D)(m:ey b=D):Holds em D 111 [pl a,pl b] (bv (eU a b)):=by
 have d:bI em (bJ xJ):=uA ayB;have z:=(LU l).1;refine bK tJ func111 λw F=>?_
 by_cases j:a.length=b.length
 .by_cases h:cx a=cx b
  .have t:eU a b=iG a b:=by unfold eU;rw[db (by simpa using j),db (by simpa using h)]
   rw[t];refine cE d 6 (wy [aa (cS.mpr (ω:(a.length:N)=(b.length:N))),aa l,aa m,aa (cS.mpr h)] 1060993:cL xJ (fl tJ []) 6 76 [pl a,pl b] 4 .normal [] (p4 a b 0)) ?_;refine c_q {k:E//k<=a.length/\iG (a.drop k) (b.drop k)=iG a b} 0 (cat tJ HE) ((fl tJ []).drop 7) (λk=>p4 a b k.1) (λk=>a.length-k.1) ⟨0,gt _,rfl⟩ ?_;rintro⟨k,o,c⟩;have o:k<=a.length:=o;have c:iG (a.drop k) (b.drop k)=iG a b:=c;by_cases f:k<a.length
   .rw[Ly a b k f ω]at c;by_cases e:(a.getD k (0,0)).1=(b.getD k (0,0)).1
    .rw[db (by simpa using e)]at c;by_cases g:(a.getD k (0,0)).2=(b.getD k (0,0)).2
     .rw[db (by simpa using g)]at c;refine aT (s:=p4 a b k) d (wy [ag (ω:(k:N)<(a.length:N)),ag f,aa (aI (v:=iv ((a.getD k ((0:N),(0:N))).1))),ag (ω:k<b.length),aa (aI (v:=iv ((b.getD k ((0:N),(0:N))).1))),aa (cS.mpr e),aa (aI (v:=iv ((a.getD k ((0:N),(0:N))).2))),aa (aI (v:=iv ((b.getD k ((0:N),(0:N))).2))),aa (cS.mpr g),yi (ω:i6 ((k:N)+1))] 12555922460089976152518303745:aR xJ (fl tJ HE) (p4 a b k) 9 .normal [] (p4 a b (k+1))) ?_;exact⟨⟨k+1,f,c⟩,by show a.length-(k+1)<a.length-k;omega,rfl,rfl⟩
     .rw[dA g]at c;exact bM (s:=p4 a b k) d (ayw a b k _ ω f ω e g c)
    .rw[dA e]at c;exact bM (s:=p4 a b k) d (ayv a b k _ ω f ω e c)
   .refine aT (s:=p4 a b k) d (wy [az (ω:¬(k:N)<(a.length:N))] 1:aR xJ (fl tJ HE) (p4 a b k) 2 (.exit 0) [] (p4 a b k)) ?_;refine bY (cg ?_);have u:iG a b=ao:=by
     rw[<-c,pB ω];unfold iG;rfl
    rw[u];exact bM (s:=p4 a b k) d (wy [] 0:bw xJ ((fl tJ []).drop 7) (p4 a b k) 1 f111 D (bv ao))
  .exact bt d 9 (wy [aa (cS.mpr (ω:(a.length:N)=(b.length:N))),aa l,aa m,aa (eX.mpr h),av (show(bP (cx a<cx b))=(eU a b) from by unfold eU;rw[db (by simpa using j),dA h])] 346853224577:bk xJ (fl tJ []) 9 76 [pl a,pl b] 6 f111 D (bv (eU a b)))
 .exact bt d 9 (wy [aa (eX.mpr (ω:¬(a.length:N)=(b.length:N))),av (show(bP ((a.length:N)<(b.length:N)))=(eU a b) from by unfold eU;rw[dA j];exact decide_eq_decide.2 ω)] 129:bk xJ (fl tJ []) 9 76 [pl a,pl b] 3 f111 D (bv (eU a b)))
def ayD:acL.Ok em:=λ⟨a,b,_⟩ h=>by
 have h:(ey a&&ey b)=D:=h;rw[ae]at h;exact ayC a b h.1 h.2
end
end
--PLAIN
def acM(x:I (N×N)):∀l,(iH x l).Perm (x::l)
 |[]=>by unfold iH;exact DP _
 |y::r=>by
  unfold iH;split
  .exact((acM x r).cons y).trans (I.Perm.swap _ _ _)
  .exact DP _
def acN(l:I (I (N×N))):(rG l).Perm l:=by
 have d:∀(l s:I (I (N×N))),(l.foldl (λs x=>iH x s) s).Perm (l++s):=by
  intro l;induction l with
  |nil=>exact λs=>DP _
  |cons x r c=>
   intro s;exact(c (iH x s)).trans ((I.Perm.append_left r (acM x s)).trans I.perm_middle)
 simpa[rG]using d l []
--END
section
open Go.RowKit Sv Go.Proofs.Tryz
section
variable[Sv.Ground]{X:Ext}{P:fd}{w0:du}{F:Env}{n:E}{T:au af}{H:ai}{a:Zq}{w:du}{B:E}{ρ ρ':Env}
def Sat.Tk{i s n':E}{e:ed}{cs:I af}{t:aq}{xs:I t.den}{cap:aY}(c5:T.get s=O (.slice i 0 n' cap))(hi:H.get i=O (.cells e cs D ao ao))(c3:t.qY n' (cut cs 0 (n'*t.size))=O xs)(l:dK (n'*t.size) cs.length=D)
  (c4:mR X P w0 F n T H a w):mR X P w0 F n (T.set s (O (.bh ao t xs))) (H.drop i) a w:=by
 obtain⟨⟨ρ,c,c0,a6,b1⟩,a3,a5⟩:=c4;have e7:∀{ρ':Env},cR ρ ρ'->(∀i,ρ' i=ρ i)->(∀b A,ρ'.fz b=O A->(∃e a1,w.heap[b]? =O (.cells A e a1))/\∀k kk d,k≠i->H.get k=O kk->ρ k=O (b,d)->kk.fq=D)->bl P w0.heap.size ρ' (H.drop i) w:=λ{ρ'} J C Q=>by
  have m:∀k kk,(H.drop i).get k=O kk->k≠i/\H.get k=O kk:=λk kk h=>by
   rw[ai.qd]at h;split at h
   .cases h
   .rename_i h2;exact⟨λh=>h2 h.symm,h⟩
  refine⟨λk kk h=>?_,λi1 i2 k1 k2 b c1 c2 f j u M=>?_,λk kk h=>c.H.lt k kk (m k kk h).2,c.H.base,λb A h=>⟨(Q b A h).1,λk kk d f j=>?_⟩⟩
  .obtain⟨b,d,W,e1,z,e3,a'⟩:=c.H.blk k kk (m k kk h).2;exact⟨b,d,W,by rw[C];exact e1,z,e3.mono J,a'⟩
  .rw[C]at u M;exact c.H.inj _ _ _ _ _ _ _ (m _ _ f).2 (m _ _ j).2 u M
  .rw[C]at j;exact(Q b A h).2 k kk d (m k kk f).1 (m k kk f).2 j
 have e0:∀{ρ':Env},cR ρ ρ'->(∀y,Den ρ (.slice i 0 n' cap) y->Den ρ' (.bh ao t xs) y)->lC ρ' (T.set s (O (.bh ao t xs))) n a.tmps:=λ{ρ'} J c7=>⟨c.T.size,λk=>by
  rw[au.gS];have G:=c.T.get k;by_cases V:s=k
  .subst V;rw[dA rfl];rw[c5]at G;exact c7 _ G
  .rw[db V];exact G.mono J⟩
 obtain⟨b,d,W,o,_,_,a2⟩:=c.H.blk i _ hi;obtain⟨g,f',a0,z2,z3,z4,_,e9⟩:=nO c.H hi o;obtain rfl:=z2 rfl;have g':=b5 l;have a4:=(z3.drop 0).take (n'*t.size);obtain⟨e',b2⟩:=aq.Ci c3 a4;have U:=t.jF xs;have b4:ρ.fz b=bs:=by
  cases d':ρ.fz b with
  |none=>rfl
  |some A=>
   have:=(c.H.fz b A d').2 i _ d hi o;cases this
 clear l;have l:cR ρ ⟨ρ.at',λq=>if q=b then O g else ρ.fz q⟩:=⟨λ_ _ h=>h,λq A h=>by
  show(if q=b then O g else ρ.fz q)=O A;by_cases hq:q=b
  .subst hq;rw[b4]at h;cases h
  .rw[db hq];exact h⟩
 refine⟨⟨⟨ρ.at',λq=>if q=b then O g else ρ.fz q⟩,⟨e0 l λy c9=>?_,e7 l (λ_=>rfl) (λq A h=>?_),c.G.mono l⟩,c0,λq A h=>?_,b1.re l (aC _) (λ_ a9=>Pd (λ_=>rfl) a9) λq A h=>by
  have h:(if q=b then O g else ρ.fz q)=O A:=h;by_cases hq:q=b
  .exact .inr ⟨i,_,d,hi,rfl,hq ▸ o⟩
  .rw[db hq]at h;exact .inl h⟩,a3,a5⟩
 .obtain⟨b',L,k,f,_,u,rfl⟩:=c9.jv;rw[o]at f;cases f;subst b2;refine .bh (A:=g) (b:=b) (off:=0) (by show(if b=b then O g else _)=_;rw[dA rfl]) (by rw[U];omega) rfl ?_ u (λe=>by cases e);have z:((g.toList.take cs.length).drop 0).take (xs.length*t.size)=(g.toList.drop 0).take (t.flat xs).length:=by
   rw[U,iW,iW,KE,ns ω]
  rw[<-z];exact e'.mono l
 .have h:(if q=b then O g else ρ.fz q)=O A:=h;by_cases hq:q=b
  .subst hq;rw[dA rfl]at h;cases h;exact⟨⟨_,_,a0⟩,λk kk L b3 f j=>absurd (c.H.inj k i kk _ q L d f hi j o) b3⟩
  .rw[db hq]at h;exact⟨(c.H.fz q A h).1,λk kk d _ f j=>(c.H.fz q A h).2 k kk d f j⟩
 .have h:(if q=b then O g else ρ.fz q)=O A:=h;by_cases hq:q=b
  .subst hq;exact .inr (a2 rfl)
  .rw[db hq]at h;exact a6 q A h
def bp.Tk{Q:sC->au af->ai->Prop}{l:I mN}(d:l≠[]){i s n':E}{e:ed}{cs:I af}{t:aq}{xs:I t.den}{cap:aY}(j:T.get s=O (.slice i 0 n' cap))(hi:H.get i=O (.cells e cs D ao ao))(g:t.qY n' (cut cs 0 (n'*t.size))=O xs)(f:dK (n'*t.size) cs.length=D)
  (c:bc X P w0 F n l (T.set s (O (.bh ao t xs))) (H.drop i) Q):bc X P w0 F n l T H Q:=by
 cases l with
 |nil=>exact absurd rfl d
 |cons m l=>exact λa w h k=>c a w (Sat.Tk j hi g f h) k
end
end
section
open Go.RowKit Sv Go.Proofs.Tryz
set_option maxHeartbeats 1000000
noncomputable section
abbrev xK:aq:= .list ao (.int .i64)
def Tl:I (I N):=[]
abbrev qT(l:I (I N)):af:= .bh ao (.list ao (.int .i64)) l
abbrev Tm(j:E)(l:I (I N)):af:= .bZ 98 xK j 0 l.length (bO l.length)
abbrev Tn(l:I (I N)):gB:= .opt 98 xK l
def gH:=NO f108
def BI:I E:=[1,1,0,1,0,0]
def aV9:I E:=[1,1,0,1,0,0,1,0,0]
def HF:I E:=[1,1,0,1,0,0,1,0,0,1,0,1,0,0]
def LV:I E:=[1,1,0,1,0,0,1,0,0,1,0,1,0,0,1,0,0]
def HG:I E:=[1,1,0,1,0,0,1,0,0,1,0,1,0,0,1,0,0,1,0,0]
section
variable(s:I (N×N))(n:E)
def HH:bD:={n:=62,sl:=[(0,pl s),(1,iv n),(5,.slice 64 0 1 (.known 1)),(6,iv (0:E))],bF:=[(64,.blk (.cells 98 [.raw (.slice bs 0 0)] D ao ao))],next:=65}
def lq(c:I (I N))(i:E):bD:={n:=62,sl:=[(0,pl s),(1,iv n),(5,qT c),(6,iv i)],bF:=[],next:=64}
def HJ(c:I (I N))(i:E):bD:={n:=62,sl:=[(0,pl s),(1,iv n),(5,Tm 64 c),(6,iv i)],bF:=[(64,Tn c)],next:=65}
def qU(d:I (I N))(i:E)(c:I (I N))(k:E):bD:={n:=62,sl:=[(0,pl s),(1,iv n),(5,qT d),(6,iv i),(7,Tm 64 c),(8,iv k)],bF:=[(64,Tn c)],next:=65}
def oh(d:I (I N))(i:E)(c:I (I N))(k j:E):bD:={n:=62,sl:=[(0,pl s),(1,iv n),(5,qT d),(6,iv i),(7,Tm 64 c),(8,iv k),(9,iv j)],bF:=[(64,Tn c)],next:=65}
def ayE:
  cL (aA []) (fl gH []) 3 62 [pl s,iv n] 1 .normal [(64,64,bs)] (HH s n):=
 wy [] 0
def ayF(c:I (I N))(i:E)(d:(i:N)<(n:N)):
  di (aA []) (fl gH BI) 2 (lq s n c i) 3 .normal [] (lq s n c i):=
 wy [ag d] 1
def ayG(c:I (I N))(i:E)(d:¬(i:N)<(n:N)):
  di (aA []) (fl gH BI) 2 (lq s n c i) 2 (.exit 0) [] (lq s n c i):=
 wy [az d] 1
def ayH(c:I (I N))(i:E)(d:Tl.length=(0))(e:(Tl)=([])):
  di (aA []) (fl gH aV9) 2 (lq s n c i) 1 .normal [] (qU s n c i Tl 0):=
 wy [av d,av e] 137455730688
def ayI(c d:I (I N))(i k:E)(e:(k:N)<(c.length:N)):
  di (aA []) (fl gH HF) 2 (qU s n c i d k) 3 .normal [(64,64,bs)] (qU s n c i d k):=
 wy [ag e] 1
def ayJ(c d:I (I N))(i k:E)(e:¬(k:N)<(c.length:N)):
  di (aA []) (fl gH HF) 2 (qU s n c i d k) 2 (.exit 2) [(64,64,bs)] (qU s n c i d k):=
 wy [az e] 1
def ayK(d c:I (I N))(i k:E):
  di (aA []) (fl gH LV) 1 (qU s n d i c k) 1 .normal [(64,64,bs)] (oh s n d i c k 0):=
 wy [] 0
def ayL(d c:I (I N))(i k j:E)(e:(j:N)<(s.length:N))(l:j<s.length)(h3:(i:N)=0)(h4:k<d.length)(m:(d.getD k []).length=0)(o:1<=1000000)(t:1=(bu (.int .i64) bs++[(s.getD j (0,0)).1]).length)(u:c.length+1<=1000000)(z:i6 ((j:N)+1))(f:(c.length+1)=(c++[[(s.getD j (0,0)).1]]).length)(g:(aY.full)=(bO (c++[[(s.getD j (0,0)).1]]).length))(h:(c++[bu (.int .i64) bs++[(s.getD j (0,0)).1]])=(c++[[(s.getD j (0,0)).1]])):
  aR (aA []) (fl gH HG) (oh s n d i c k j) 79873 .normal [(64,70,bs)] (oh s n d i (c++[[(g0 s j).1]]) k (j+1)):=
 wy [ag e,ag l,aa (aL (gw.mpr h3)),cT h3,ag h4,aa (yg m),aa (show(bounded ((0:E)+(1:E)) (8:E))=D from(by simp only[bC]<;>exact kB o ω)),aa (show(dd ((0:E)+(1:E)) (bu (.int .i64) bs++[(s.getD j ((0:N),(0:N))).1]).length)=D from(by simp only[bC]<;>exact yg t)),yk 98 xK c,l8 24 u,yi z,av f,av g,pF em 98 (aq.list ao (.int .i64)) (show(bu xK (a8 98 xK c)++[bu (.int .i64) bs++[(s.getD j ((0:N),(0:N))).1]])=(c++[[(s.getD j ((0:N),(0:N))).1]])from(by simp only[a7]<;>exact h))] 6039049753533092991584963071862254390094698730020735708095523955941377
def ayM(c d:I (I N))(i k j:E)(g:(j:N)<(s.length:N))(o:j<s.length)(h3:¬(i:N)=0)(h4:k<c.length)(t:i6 ((i:N)-1))(u:0<=(i:N)-1)(z:((i:N)-1).toNat<(c.getD k []).length)(A:(s.getD j (0,0)).1>=(c.getD k []).getD ((i:N)-1).toNat 0)(C:(dd (c.getD k []).length 0)=ao)(h:(c.getD k []).length<=1000000)(l:(mI 3 (.int .i64) (O (bn.own 3 (.int .i64) (bu (.int .i64) bs++c.getD k []))) (c.getD k []).length aY.full)=D)(m:(c.getD k []).length+1<=1000000)(e:(c.getD k []).length+1=(bu (.int .i64) bs++c.getD k []++[(s.getD j (0,0)).1]).length)(f:d.length+1<=1000000)(G:i6 ((j:N)+1))(J:(d.length+1)=(d++[c.getD k []++[(s.getD j (0,0)).1]]).length)(L:(aY.full)=(bO (d++[c.getD k []++[(s.getD j (0,0)).1]]).length))(M:(d++[bu (.int .i64) bs++c.getD k []++[(s.getD j (0,0)).1]])=(d++[c.getD k []++[(s.getD j (0,0)).1]])):
  aR (aA []) (fl gH HG) (oh s n c i d k j) 71679 .normal [(64,70,bs)] (oh s n c i (d++[c.getD k []++[(g0 s j).1]]) k (j+1)):=
 wy [ag g,ag o,aa (aL (fB.mpr h3)),ag h4,yi t,ag u,ag z,yn h3,ag A,aa C,aa (show(bounded ((0:E)+(c.getD k []).length) (8:E))=D from(by simp only[bC]<;>exact kB h ω)),aa (show(mI (3:E) (.int .i64) (O (bn.own (3:E) (.int .i64) (bu (.int .i64) bs++c.getD k []))) ((0:E)+(c.getD k []).length) aY.full)=D from(by simp only[bC]<;>exact l)),aa (show(bounded ((0:E)+(c.getD k []).length+(1:E)) (8:E))=D from(by simp only[bC]<;>exact kB m ω)),aa (show(dd ((0:E)+(c.getD k []).length+(1:E)) (bu (.int .i64) bs++c.getD k []++[(s.getD j ((0:N),(0:N))).1]).length)=D from(by simp only[bC]<;>exact yg e)),yk 98 xK d,l8 24 f,yi G,av J,av L,pF em 98 (aq.list ao (.int .i64)) (show(bu xK (a8 98 xK d)++[bu (.int .i64) bs++c.getD k []++[(s.getD j ((0:N),(0:N))).1]])=(d++[c.getD k []++[(s.getD j ((0:N),(0:N))).1]])from(by simp only[a7]<;>exact M))] 37942891339797558882467533191377763236392633000376264899900542486150556285710114817
def ayN(c d:I (I N))(i k j:E)(e:(j:N)<(s.length:N))(f:j<s.length)(h3:¬(i:N)=0)(h4:k<c.length)(g:i6 ((i:N)-1))(h:0<=(i:N)-1)(l:((i:N)-1).toNat<(c.getD k []).length)(m:¬(s.getD j (0,0)).1>=(c.getD k []).getD ((i:N)-1).toNat 0)(o:i6 ((j:N)+1)):
  aR (aA []) (fl gH HG) (oh s n c i d k j) 10239 .normal [(64,64,bs)] (oh s n c i d k (j+1)):=
 wy [ag e,ag f,aa (aL (fB.mpr h3)),ag h4,yi g,ag h,ag l,yn h3,az m,yi o] 13481814251459937903777918808264286209
def ayO(d c:I (I N))(i k j:E)(e:¬(j:N)<(s.length:N)):
  aR (aA []) (fl gH HG) (oh s n d i c k j) 2 (.exit 4) [(64,64,bs)] (oh s n d i c k j):=
 wy [az e] 1
def ayP(d c:I (I N))(i k j:E)(e:i6 ((k:N)+1)):
  aR (aA []) ((fl gH HF).drop 3) (oh s n d i c k j) 1 .normal [(64,64,bs)] (qU s n d i c (k+1)):=
 wy [yi e] 1
def ayQ(d c:I (I N))(i k:E):
  aR (aA []) ((fl gH aV9).drop 3) (qU s n d i c k) 1 .normal [(64,64,bs)] (HJ s n c i):=
 wy [] 0
def ayR(c:I (I N))(i:E)(d:i6 ((i:N)+1)):
  aR (aA []) ((fl gH BI).drop 3) (lq s n c i) 1 .normal [] (lq s n c (i+1)):=
 wy [yi d] 1
def ayS(c:I (I N))(i:E):
  bw (aA []) ((fl gH []).drop 4) (lq s n c i) 1 f108 ao (qT c):=
 wy [] 0
end
section
variable(S:I N)(i:E)
def lu(l:I N)(j:E):I (I N):=((S.take j).filter λt=>decide (i=0)||decide (l.getD (i-1) 0<=t)).map λt=>l++[t]
def om(c:I (I N))(k:E):I (I N):=(c.take k).flatMap λl=>lu S i l S.length
def acO:om S i (cw S i) (cw S i).length=cw S (i+1):=by
 unfold om lu;rw[dx,dx];rfl
def acP(c:I (I N)){k:E}(h:k<c.length):om S i c (k+1)=om S i c k++lu S i (c.getD k []) S.length:=by
 unfold om;rw[wL,ap,iw h,Lt];simp
def ayT(l:I N){j:E}(h:j<S.length):lu S i l (j+1)=lu S i l j++if i=0\/l.getD (i-1) 0<=S[j]then [l++[S[j]]]else []:=by
 unfold lu;rw[wL,iw h,I.filter_append,B'];congr 1;by_cases c:i=0\/l.getD (i-1) 0<=S[j]
 .rw[dA c];have:(bP (i=0)||decide (l.getD (i-1) 0<=S[j]))=D:=by
   rw[qh,aN,aN];exact c
  simp only[da.toList_some,Z5,this,if_true,I.filter_nil,Li,I.map_nil]
 .rw[db c];have:(bP (i=0)||decide (l.getD (i-1) 0<=S[j]))=ao:=by
   rw[dF.or_eq_false_iff,Ô,Ô];exact⟨λe=>c (.inl e),λe=>c (.inr e)⟩
  simp only[da.toList_some,Z5,this,I.filter_nil,I.map_nil];rfl
def acQ(l:I N)(j:E):(lu S i l j).length<=S.length:=by
 unfold lu;rw[mG];refine cD (I.length_filter_le _ _) ?_;rw[er];omega
end
def To(S:I N)(i:E)(c:I (I N)):∀k,k<=c.length->(om S i c k).length<=k*S.length
 |0,_=>by simp[om]
 |k+1,h=>by
  have d:=To S i c k ω;have e:=acQ S i (c.getD k []) S.length;rw[acP S i c ω,fQ,Gz,E.one_mul];omega
def Tp(S:I N):∀n,(cw S n).length<=S.length^n
 |0=>by simp[cw]
 |n+1=>by
  rw[<-acO,C'];exact cD (To S n (cw S n) _ (aC _)) (Hr _ (Tp S n))
def ayU{L n i:E}(h:L^n<=1000)(hi:i<=n):L^i<=1000:=by
 rcases Hi L with rfl |c
 .rcases Hi i with rfl |d
  .decide
  .rw[E.zero_pow d];decide
 .exact cD (Q3 c hi) h
def ayV(s:I (N×N))(n:E):fit em [] 62 ((HH s n).T.set 5 (O (qT [[]]))) ((HH s n).H.drop 64) (lq s n [[]] 0):=by
 have e:fit em [] 62 ((HH s n).T.set 5 (O (qT [[]]))) ((HH s n).H.drop 64) (lq s n [[]] 0)=((s=s)/\((n:N)=(n:N))/\(([[]]:I (I N))=[[]])/\((0:N)=((0:E):N))/\True):=by kernel_rfl
 exact e.mpr ⟨rfl,rfl,rfl,rfl,trivial⟩
def ayW(s:I (N×N))(n:E)(c:I (I N))(i:E):fit em [] 62 ((HJ s n c i).T.set 5 (O (qT c))) ((HJ s n c i).H.drop 64) (lq s n c i):=by
 have e:fit em [] 62 ((HJ s n c i).T.set 5 (O (qT c))) ((HJ s n c i).H.drop 64) (lq s n c i)=((s=s)/\((n:N)=(n:N))/\(c=c)/\((i:N)=(i:N))/\True):=by kernel_rfl
 exact e.mpr ⟨rfl,rfl,rfl,rfl,trivial⟩
def LW{P:fd}{w0:du}{F:Env}{n:E}{T:au af}{H:ai}{Q:sC->au af->ai->Prop}{l:I mN}(e:l=[])(h:Q .normal T H):bp P w0 F n l T H Q:=by
 rw[e];exact h
def ayX:(fl gH LV).drop 2=[]:=by kernel_rfl
def acR:(fl gH BI).drop 3≠[]:=λh=>by
 have:((fl gH BI).drop 3).isEmpty=ao:=by kernel_rfl
 rw[h]at this;cases this
def acS:(fl gH []).drop 3≠[]:=λh=>by
 have:((fl gH []).drop 3).isEmpty=ao:=by kernel_rfl
 rw[h]at this;cases this
def ayY(l:I N):mI 3 (aq.int iz) (O (bn.own 3 (aq.int iz) (bu (aq.int iz) bs++l))) l.length aY.full=D:=by
 show(dd 3 3&&(bP (aq.int iz=aq.int iz)&&(dd l.length l.length&&D)))=D;rw[zX,zX,ay rfl];rfl
section
variable(s:I (N×N))
def ayZ(n:E)(d:s.length<=40)(f:n<=4)(hp:s.length^n<=1000):Holds em ao 108 [pl s,iv n] (qT (cw (s.map ql) n)):=by
 have d:=ba;obtain⟨S,l⟩:∃S,s.map ql=S:=⟨_,rfl⟩;rw[l];have Q:S.length=s.length:=by rw[<-l,mG]
 have U:∀j (o:j<S.length),S[j]=(g0 s j).1:=λj o=>by
  have W:j<s.length:=by omega
  subst l;rw[I.getElem_map];simp[ap,W]
 refine bK gH func108 λw F=>?_
 refine cE d 3 (ayE s n) ?_;refine bp.Tk acS (i:=64) (s:=5) (n':=1) (t:= .list ao (.int .i64)) (xs:=[[]]) (cap:= .known 1) (cs:=[.raw (.slice bs 0 0)]) (e:=98) (by kernel_rfl) (by kernel_rfl) (by kernel_rfl) (by kernel_rfl) ?_;refine bp.qu acS (s:=lq s n [[]] 0) (ayV s n) ?_;refine c_q {i:E//i<=n} 0 (cat gH BI) ((fl gH []).drop 4) (λi=>lq s n (cw S i.1) i.1) (λi=>n-i.1) ⟨0,gt _⟩ ?_;rintro⟨i,u⟩;have u:i<=n:=u;by_cases f:i<n
 .refine dH (s:=lq s n (cw S i) i) d 2 (ayF s n _ i ω) ?_;refine ga (id:=1) (c:=cat gH aV9) (rest:=(fl gH BI).drop 3) (by kernel_rfl) ?_;have f:(cw S i).length<=1000:=cD (Tp S i) (by rw[Q];exact ayU hp u);refine dH (s:=lq s n (cw S i) i) d 2 (ayH s n (cw S i) i rfl rfl) ?_;refine c_q {k:E//k<=(cw S i).length} 2 (cat gH HF) ((fl gH aV9).drop 3) (λk=>qU s n (cw S i) i (om S i (cw S i) k.1) k.1) (λk=>(cw S i).length-k.1) ⟨0,gt _⟩ ?_;rintro⟨k,z⟩;have z:k<=(cw S i).length:=z;have f:=To S i (cw S i) k z;have f:k*S.length<=1000*40:=E.mul_le_mul ω ω;by_cases g:k<(cw S i).length
  .have f:=(JD i _).1 (ra g);have h:((cw S i).getD k []).length=i:=by rw[ap,iw g];exact f.1
   refine dH (s:=qU s n (cw S i) i (om S i (cw S i) k) k) d 2 (ayI s n _ _ i k ω) ?_;refine ga (id:=3) (c:=cat gH LV) (rest:=(fl gH HF).drop 3) (by kernel_rfl) ?_;refine dH (s:=qU s n (cw S i) i (om S i (cw S i) k) k) d 1 (ayK s n _ _ i k) ?_;have V:om S i (cw S i) k=om S i (cw S i) k++lu S i ((cw S i).getD k []) 0:=by simp[lu]
   rw[V];refine c_q {j:E//j<=s.length} 4 (cat gH HG) ((fl gH LV).drop 2) (λj=>oh s n (cw S i) i (om S i (cw S i) k++lu S i ((cw S i).getD k []) j.1) k j.1) (λj=>s.length-j.1) ⟨0,gt _⟩ ?_;rintro⟨j,J⟩;have J:j<=s.length:=J;have f:=acQ S i ((cw S i).getD k []) j;have f:(om S i (cw S i) k++lu S i ((cw S i).getD k []) j).length<=50000:=by rw[fQ];omega
   generalize l:om S i (cw S i) k=A at*;by_cases C:j<s.length
   .have f:=ayT S i ((cw S i).getD k []) (show j<S.length by omega);rw[U j ω]at f;by_cases M:i=0
    .rw[dA (.inl M)]at f;have G:(cw S i).getD k []=[]:=ix ω;refine aT (s:=oh s n (cw S i) i (A++lu S i ((cw S i).getD k []) j) k j) d (ayL s n (cw S i) (A++lu S i ((cw S i).getD k []) j) i k j ω C ω g ω ω rfl ω ω (AA _ _) (by simp[bO]) rfl) ?_;rw[G,ts]at f;exact⟨⟨j+1,by omega⟩,by simp;omega,by rw[G,f,ot],by rw[G,f,ot]⟩
    .have L:((i:N)-1).toNat=i-1:=by omega
     by_cases h:((cw S i).getD k []).getD (i-1) 0<=(g0 s j).1
     .rw[dA (.inr h)]at f;refine aT (s:=oh s n (cw S i) i (A++lu S i ((cw S i).getD k []) j) k j) d (ayM s n (cw S i) (A++lu S i ((cw S i).getD k []) j) i k j ω C ω g ω ω ω (by rw[L];exact h) (by cases m:dd ((cw S i).getD k []).length 0 with |true=>exact absurd (ac m) ω|false=>rfl) ω (ayY _) ω (by show _=((cw S i).getD k []++[(g0 s j).1]).length;simp) ω ω (AA _ _) (by simp[bO]) rfl) ?_;exact⟨⟨j+1,by omega⟩,by simp;omega,by rw[f,ot],by rw[f,ot]⟩
     .rw[db (λo=>o.elim M h),mS]at f;refine aT (s:=oh s n (cw S i) i (A++lu S i ((cw S i).getD k []) j) k j) d (ayN s n (cw S i) (A++lu S i ((cw S i).getD k []) j) i k j ω C ω g ω ω ω (by rw[L];exact h) ω) ?_;exact⟨⟨j+1,by omega⟩,by simp;omega,by rw[f],by rw[f]⟩
   .refine aT (s:=oh s n (cw S i) i (A++lu S i ((cw S i).getD k []) j) k j) d (ayO s n _ _ i k j ω) ?_;refine bY (cg ?_);refine LW ayX ?_;obtain rfl:j=S.length:=by omega
    refine aT (s:=oh s n (cw S i) i (A++lu S i ((cw S i).getD k []) S.length) k S.length) d (ayP s n _ _ i k _ ω) ?_;have m:=acP S i (cw S i) g;rw[l]at m;exact⟨⟨k+1,by omega⟩,by simp;omega,by rw[m],by rw[m]⟩
  .refine dH (s:=qU s n (cw S i) i (om S i (cw S i) k) k) d 2 (ayJ s n _ _ i k ω) ?_;refine bY (bY (cg ?_));obtain rfl:k=(cw S i).length:=by omega
   rw[acO];refine aT (s:=qU s n (cw S i) i (cw S (i+1)) (cw S i).length) d (ayQ s n _ _ i _) ?_;refine bp.Aw acR (i:=64) (s:=5) (e2:=98) (t:=xK) (xs:=cw S (i+1)) (cap:=bO (cw S (i+1)).length) (by kernel_rfl) (by kernel_rfl) ?_;refine bp.qu acR (s:=lq s n (cw S (i+1)) i) (ayW s n _ i) ?_;refine aT (s:=lq s n (cw S (i+1)) i) d (ayR s n _ i ω) ?_;exact⟨⟨i+1,by omega⟩,by simp;omega,rfl,rfl⟩
 .refine dH (s:=lq s n (cw S i) i) d 2 (ayG s n _ i ω) ?_;refine bY (bY (cg ?_));obtain rfl:i=n:=by omega
  exact bM (s:=lq s i (cw S i) i) d (ayS s i _ i)
def Eg(n:N):dF:=bP (s.length<=40)&&(bP (0<=n)&&(bP (n<=4)&&bP (s.length^n.toNat<=1000)))
def kg(n:N):I (I N):=cw (s.map ql) n.toNat
end
def acT:=IN 108 [.list ao cY,.int .i64] [.list ao (.list ao (.int .i64))] ao (λd=>Eg d.1 d.2.1) λd=>(kg d.1 d.2.1,())
def acU{s:I (N×N)}{n:N}:Eg s n=D↔s.length<=40/\0<=n/\n<=4/\s.length^n.toNat<=1000:=by
 unfold Eg;simp only[ae,aN]
def ay2(s:I (N×N))(n:N)(h:Eg s n=D):Holds em ao 108 [pl s,iv n] (qT (kg s n)):=by
 obtain⟨c,d,h3,h4⟩:=acU.1 h;obtain⟨m,rfl⟩:∃m:E,n=(m:N):=⟨n.toNat,by omega⟩;exact ayZ s m c ω h4
def ay3:acT.Ok em:=λ⟨s,n,_⟩ h=>ay2 s n h
end
end
end Go.Proofs.YtdajfemhnlpegaaGreatDoor
namespace Go.Proofs.YtdajfemhnlpegaaGreatDoor
open Go.RowKit Sv Go.Proofs.Tryz
section
set_option maxHeartbeats 1000000
noncomputable section
abbrev dO:aq:= .list ao cY
def Tr:I (I (N×N)):=[]
abbrev LX(l:I (I (N×N))):af:= .bh ao dO l
abbrev LY(j:E)(l:I (I (N×N))):af:= .bZ 26 dO j 0 l.length (bO l.length)
abbrev LZ(l:I (I (N×N))):gB:= .opt 26 dO l
def eS:=NO f52
def kR:=aA [acT,Po,Xe,S9,Xa,acL]
def di9:I E:=[1,1,0,1,0,0]
def bw9:I E:=[1,1,0,1,0,0,1,0,0]
def HK:I E:=[1,1,0,1,0,0,1,0,0,1,1,0,0]
def L0:I E:=[1,1,0,1,0,0,1,0,0,1,1,0,0,1,0,0]
def Eh:I E:=[1,1,0,1,0,0,1,0,0,1,1,0,0,1,0,0,1,0,0]
def za:I E:=[1,1,0,1,0,0,1,0,0,1,1,0,0,1,0,0,1,0,0,1,0,0]
def L1:I E:=[1,1,0,1,0,0,1,0,0,1,1,0,0,1,0,0,1,0,0,1,0,0,1,1,1,1,0,0]
section
variable(s:I (N×N))(p:E)
def qV(c:I (I (N×N)))(n:E):bD:={n:=92,sl:=[(0,pl s),(1,iv p),(5,LY 64 c),(6,iv n)],bF:=[(64,LZ c)],next:=65}
def qW(c:I (I (N×N)))(n:E)(d:I (I N))(i:E):bD:={n:=92,sl:=[(0,pl s),(1,iv p),(5,LY 64 c),(6,iv n),(7,qT d),(8,iv i)],bF:=[(64,LZ c)],next:=65}
def iI(c:I (I (N×N)))(n:E)(d:I (I N))(i k:E):bD:={n:=92,sl:=[(0,pl s),(1,iv p),(5,LY 64 c),(6,iv n),(7,qT d),(8,iv i),(9,iv k)],bF:=[(64,LZ c)],next:=65}
def lV(c:I (I (N×N)))(n:E)(d:I (I N))(i k:E)(j:N):bD:={n:=92,sl:=[(0,pl s),(1,iv p),(5,LY 64 c),(6,iv n),(7,qT d),(8,iv i),(9,iv k),(11,iv j)],bF:=[(64,LZ c)],next:=65}
def ay4(c:Tr.length=(0))(d:(Tr)=([])):
  cL kR (fl eS []) 3 92 [pl s,iv p] 1 .normal [] (qV s p Tr 0):=
 wy [av c,av d] 33558528
def ay5(c:I (I (N×N)))(n:E)(d:(n:N)<=(p:N)):
  di kR (fl eS di9) 2 (qV s p c n) 3 .normal [(64,64,bs)] (qV s p c n):=
 wy [ag d] 1
def ay6(c:I (I (N×N)))(n:E)(d:¬(n:N)<=(p:N)):
  di kR (fl eS di9) 2 (qV s p c n) 2 (.exit 0) [(64,64,bs)] (qV s p c n):=
 wy [az d] 1
def ay7(c:I (I (N×N)))(n:E)(d:(Eg s (n:N))=D):
  di kR (fl eS bw9) 2 (qV s p c n) 1 .normal [(64,64,bs)] (qW s p c n (kg s n) 0):=
 wy [aa d] 1
def ay8(d:I (I (N×N)))(n:E)(c:I (I N))(i:E)(e:(i:N)<(c.length:N)):
  di kR (fl eS HK) 2 (qW s p d n c i) 3 .normal [(64,64,bs)] (qW s p d n c i):=
 wy [ag e] 1
def ay9(d:I (I (N×N)))(n:E)(c:I (I N))(i:E)(e:¬(i:N)<(c.length:N)):
  di kR (fl eS HK) 2 (qW s p d n c i) 2 (.exit 2) [(64,64,bs)] (qW s p d n c i):=
 wy [az e] 1
def aza(d:I (I (N×N)))(n:E)(c:I (I N))(i:E):
  di kR (fl eS L0) 1 (qW s p d n c i) 1 .normal [(64,64,bs)] (iI s p d n c i 0):=
 wy [] 0
def azb(d:I (I (N×N)))(n:E)(c:I (I N))(i k:E)(e:(k:N)<(c.length:N)):
  di kR (fl eS Eh) 2 (iI s p d n c i k) 3 .normal [(64,64,bs)] (iI s p d n c i k):=
 wy [ag e] 1
def azc(d:I (I (N×N)))(n:E)(c:I (I N))(i k:E)(e:¬(k:N)<(c.length:N)):
  di kR (fl eS Eh) 2 (iI s p d n c i k) 2 (.exit 4) [(64,64,bs)] (iI s p d n c i k):=
 wy [az e] 1
def azd(e:I (I (N×N)))(n:E)(c:I (I N))(i k:E)(f:i<c.length)(g:k<c.length)(h3:(ym (c.getD i []) (c.getD k []))=D)(h4:(bQ (c.getD i []) (c.getD k [])).length<=100)(h:(bQ (c.getD i []) (c.getD k [])).length<=1000000)(d:(ip (bQ (c.getD i []) (c.getD k [])) (tf (bQ (c.getD i []) (c.getD k []))))=ao):
  di kR (fl eS za) 5 (iI s p e n c i k) 112 (.exit 5) [(64,64,bs)] (iI s p e n c i k):=
 wy [ag f,aa (aI (v:=af.bh ao (.int .i64) (c.getD i []))),ag g,aa (aI (v:=af.bh ao (.int .i64) (c.getD k []))),aa h3,ag h4,ag h,aa (aL (b8 (d))),aa (b8 (d))] 2758461691290517499813952
def aze(e:I (I (N×N)))(n:E)(c:I (I N))(i k:E)(f:i<c.length)(g:k<c.length)(h3:(ym (c.getD i []) (c.getD k []))=D)(h4:(bQ (c.getD i []) (c.getD k [])).length<=100)(h:(bQ (c.getD i []) (c.getD k [])).length<=1000000)(d:(ip (bQ (c.getD i []) (c.getD k [])) (tf (bQ (c.getD i []) (c.getD k []))))=D)(j:(bP (s.length<=1000000)&&bP ((bQ (c.getD i []) (c.getD k [])).length<=1000000))=D)(l:(qC s (bQ (c.getD i []) (c.getD k [])))=ao):
  di kR (fl eS za) 5 (iI s p e n c i k) 111 (.exit 5) [(64,64,bs)] (iI s p e n c i k):=
 wy [ag f,aa (aI (v:=af.bh ao (.int .i64) (c.getD i []))),ag g,aa (aI (v:=af.bh ao (.int .i64) (c.getD k []))),aa h3,ag h4,ag h,aa (aL (b8 (d))),aa j,aa (b8 (d)),aa (b8 (l))] 13813229515880393421694705728
def azf(d:I (I (N×N)))(n:E)(c:I (I N))(i k:E)(f:i<c.length)(l:k<c.length)(h3:(ym (c.getD i []) (c.getD k []))=D)(h4:(bQ (c.getD i []) (c.getD k [])).length<=100)(m:(bQ (c.getD i []) (c.getD k [])).length<=1000000)(e:(ip (bQ (c.getD i []) (c.getD k [])) (tf (bQ (c.getD i []) (c.getD k []))))=D)(o:(bP (s.length<=1000000)&&bP ((bQ (c.getD i []) (c.getD k [])).length<=1000000))=D)(t:(qC s (bQ (c.getD i []) (c.getD k [])))=D)(u:d.length+1<=1000000)(g:i6 ((↑(d.length+1):N)-1))(h:(d.length+1)=(d++[bQ (c.getD i []) (c.getD k [])]).length)(j:(aY.full)=(bO (d++[bQ (c.getD i []) (c.getD k [])]).length)):
  di kR (fl eS za) 5 (iI s p d n c i k) 143 .normal [(64,66,bs)] (lV s p (d++[bQ (c.getD i []) (c.getD k [])]) n c i k d.length):=
 wy [ag f,aa (aI (v:=af.bh ao (.int .i64) (c.getD i []))),ag l,aa (aI (v:=af.bh ao (.int .i64) (c.getD k []))),aa h3,ag h4,ag m,aa (aL (b8 (e))),aa o,aa (b8 (e)),aa (b8 (t)),yk 26 dO d,l8 24 u,yi g,av h,av j,av (show((↑(d.length+(1:E)):N)-(1:N))=(d.length:N)from ω),pH 26 (aq.list ao cY) (Hj (d++[bQ (c.getD i []) (c.getD k [])]))] 1791487287295394549701064077796856810829526357384330485824
def azh(c:I (I (N×N)))(n:E)(d:I (I N))(i k:E)(j:N)(e:j>0)(g:0<=j)(h3:j.toNat<c.length)(h4:i6 (j-1))(h:0<=j-1)(f:(j-1).toNat<c.length)(l:(ey (c.getD j.toNat [])&&ey (c.getD (j-1).toNat []))=D)(m:(eU (c.getD j.toNat []) (c.getD (j-1).toNat []))=ao):
  aR kR (fl eS L1) (lV s p c n d i k j) 6143 (.exit 6) [(64,64,bs)] (lV s p c n d i k j):=
 wy [aa (aK (ay e)),ag g,ag h3,jf 26 dO h3,aa (aI (v:=af.bh ao (aq.pair (.int .i64) (.int .i64)) ((bu dO (a8 26 dO c)).getD ((0:E)+j.toNat) []))),yi h4,ag h,ag f,jf 26 dO f,aa (aI (v:=af.bh ao (aq.pair (.int .i64) (.int .i64)) ((bu dO (a8 26 dO c)).getD ((0:E)+(j-(1:N)).toNat) []))),aa (show(ey ((bu dO (a8 26 dO c)).getD ((0:E)+j.toNat) [])&&ey ((bu dO (a8 26 dO c)).getD ((0:E)+(j-(1:N)).toNat) []))=D from(by simp only[a7,bC]<;>exact l)),ag e,aa (show(eU ((bu dO (a8 26 dO c)).getD ((0:E)+j.toNat) []) ((bu dO (a8 26 dO c)).getD ((0:E)+(j-(1:N)).toNat) []))=ao from(by simp only[a7,bC]<;>exact m))] 4596110399295647389640130780814810735448129
def azi(c d:I (I (N×N)))(n:E)(e:I (I N))(i k:E)(j:N)(f:j>0)(o:0<=j)(h3:j.toNat<c.length)(h4:i6 (j-1))(t:0<=j-1)(g:(j-1).toNat<c.length)(u:(ey (c.getD j.toNat [])&&ey (c.getD (j-1).toNat []))=D)(z:(eU (c.getD j.toNat []) (c.getD (j-1).toNat []))=D)(A:(bx 26 dO (O (bn.own 26 (aq.list ao cY) (c.set j.toNat (c.getD (j-1).toNat [])))) (j-1).toNat)=D)(h:c.length=d.length)(l:(bO c.length)=(bO d.length))(m:((c.set j.toNat (c.getD (j-1).toNat [])).set (j-1).toNat (c.getD j.toNat []))=(d)):
  aR kR (fl eS L1) (lV s p c n e i k j) 8191 .normal [(64,64,bs)] (lV s p d n e i k (j-1)):=
 wy [aa (aK (ay f)),ag o,ag h3,jf 26 dO h3,aa (aI (v:=af.bh ao (aq.pair (.int .i64) (.int .i64)) ((bu dO (a8 26 dO c)).getD ((0:E)+j.toNat) []))),yi h4,ag t,ag g,jf 26 dO g,aa (aI (v:=af.bh ao (aq.pair (.int .i64) (.int .i64)) ((bu dO (a8 26 dO c)).getD ((0:E)+(j-(1:N)).toNat) []))),aa (show(ey ((bu dO (a8 26 dO c)).getD ((0:E)+j.toNat) [])&&ey ((bu dO (a8 26 dO c)).getD ((0:E)+(j-(1:N)).toNat) []))=D from(by simp only[a7,bC]<;>exact u)),ag f,aa (show(eU ((bu dO (a8 26 dO c)).getD ((0:E)+j.toNat) []) ((bu dO (a8 26 dO c)).getD ((0:E)+(j-(1:N)).toNat) []))=D from(by simp only[a7,bC]<;>exact z)),aa (show(bx 26 dO (O (bn.own 26 (aq.list ao cY) ((bu dO (a8 26 dO c)).set ((0:E)+j.toNat) ((bu dO (a8 26 dO c)).getD ((0:E)+(j-(1:N)).toNat) [])))) ((0:E)+(j-(1:N)).toNat))=D from(by simp only[a7,bC]<;>exact A)),av h,av l,pF em 26 (aq.list ao cY) (show(((bu dO (a8 26 dO c)).set ((0:E)+j.toNat) ((bu dO (a8 26 dO c)).getD ((0:E)+(j-(1:N)).toNat) [])).set ((0:E)+(j-(1:N)).toNat) ((bu dO (a8 26 dO c)).getD ((0:E)+j.toNat) []))=(d)from(by simp only[a7,bC]<;>exact m))] 9077944902790019911412769990968755490763558479963323924816850157631017268759413455463133194227777
def acV(d:I (I (N×N)))(n:E)(c:I (I N))(i k:E)(e:i6 ((k:N)+1)):
  aR kR ((fl eS Eh).drop 3) (iI s p d n c i k) 1 .normal [(64,64,bs)] (iI s p d n c i (k+1)):=
 wy [yi e] 1
def azj(d:I (I (N×N)))(n:E)(c:I (I N))(i k:E)(j:N)(e:i6 ((k:N)+1)):
  aR kR ((fl eS Eh).drop 3) (lV s p d n c i k j) 1 .normal [(64,64,bs)] (iI s p d n c i (k+1)):=
 wy [yi e] 1
def azk(d:I (I (N×N)))(n:E)(c:I (I N))(i k:E)(e:i6 ((i:N)+1)):
  aR kR ((fl eS HK).drop 3) (iI s p d n c i k) 1 .normal [(64,64,bs)] (qW s p d n c (i+1)):=
 wy [yi e] 1
def azl(c:I (I (N×N)))(n:E)(d:I (I N))(i:E)(e:i6 ((n:N)+1)):
  aR kR ((fl eS di9).drop 3) (qW s p c n d i) 1 .normal [(64,64,bs)] (qV s p c (n+1)):=
 wy [yi e] 1
def azm(c:I (I (N×N)))(n:E)(d:(c)=((c.drop 0).take c.length))(e:c.length=0\/bx 26 dO (a8 26 dO c) (0+c.length-1)=D)(h3:ao=D->c.length≠0):
  bw kR ((fl eS []).drop 4) (qV s p c n) 1 f52 ao (LX c):=
 wy [nU (an (rr c.length) (an (show(c)=(((bu dO (a8 26 dO c)).drop (0:E)).take c.length)from(by simp only[a7]<;>exact d)) (an e h3)))] 1
end
end
set_option maxHeartbeats 1000000
noncomputable section
abbrev nB:=I (I (N×N))
section
variable(s:I (N×N))
def BJ(d v:I N):dF:=ip (bQ d v) (tf (bQ d v))&&qC s (bQ d v)
def iT(c:I (I N))(d:I N)(k:E):nB:=((c.take k).filter (BJ s d)).map (bQ d)
def mF(c:I (I N))(i:E):nB:=(c.take i).flatMap λd=>iT s c d c.length
def jB(n:E):nB:=(I.range n).flatMap λm:E=>mF s (kg s (m:N)) (kg s (m:N)).length
def oo(p:N):nB:=(rG (jB s (p.toNat+1))).reverse
def azn(c:I (I N))(d:I N){k:E}(h:k<c.length):iT s c d (k+1)=iT s c d k++if BJ s d (c.getD k [])=D then [bQ d (c.getD k [])]else []:=by
 unfold iT;rw[wL,ap,iw h,I.filter_append,B'];congr 1;by_cases e:BJ s d c[k]=D
 .simp[e]
 .simp[e]
def acW(c:I (I N)){i:E}(h:i<c.length):mF s c (i+1)=mF s c i++iT s c (c.getD i []) c.length:=by
 unfold mF;rw[wL,ap,iw h,Lt];simp
def acX(n:E):jB s (n+1)=jB s n++mF s (kg s n) (kg s n).length:=by
 unfold jB;rw[I.range_succ,Lt];simp
def acY(c:I (I N))(d:I N)(k:E):(iT s c d k).length<=c.length:=by
 unfold iT;rw[mG];refine cD (I.length_filter_le _ _) ?_;rw[er];omega
end
def IR(s:I (N×N))(c:I (I N)):∀i,i<=c.length->(mF s c i).length<=i*c.length
 |0,_=>by simp[mF]
 |i+1,h=>by
  have d:=IR s c i ω;have e:=acY s c (c.getD i []) c.length;rw[acW s c ω,fQ,Gz,E.one_mul];omega
def LE(l:nB)(x:I (N×N)):rG (l++[x])=iH x (rG l):=by unfold rG;rw[I.foldl_append];rfl
def azo(A B:nB)(x y:I (N×N)):(((A++[y])++x::B).set (A.length+1) y).set A.length x=A++x::y::B:=by
 induction A with
 |nil=>rfl
 |cons a A c=>
  show a::(((A++[y])++x::B).set (A.length+1) y).set A.length x=a::(A++x::y::B);rw[c]
def acZ(A B:nB)(x:I (N×N)):(A++x::B).getD A.length []=x:=by
 simp[ap]
def tz(s:I (N×N))(n:N):dF:=bP (cJ s=0)&&(bP (0<=n)&&(bP (n<=4)&&bP (s.length^n.toNat<=100)))
def HL{s:I (N×N)}{n:N}:tz s n=D↔cJ s=0/\0<=n/\n<=4/\s.length^n.toNat<=100:=by
 unfold tz;simp only[ae,aN]
def azp{L n i:E}(h:L^n<=100)(hi:i<=n):L^i<=100:=by
 rcases Hi L with rfl |c
 .rcases Hi i with rfl |d
  .decide
  .rw[E.zero_pow d];decide
 .exact cD (Q3 c hi) h
def L2{s:I (N×N)}{p n:E}(f:cJ s=0)(h4:p<=4)(hp:s.length^p<=100)(j:n<=p):Eg s n=D/\(kg s n).length<=100/\∀d∈kg s n,d.length=n/\∀t∈d,6<=t/\t<=400:=by
 have l:=xq f;have e:=azp hp j;refine⟨acU.2 ⟨by omega,by omega,by omega,by rw[kh];omega⟩,?_,λd h=>?_⟩
 .refine cD (Tp _ _) ?_;rw[mG,kh];exact e
 .obtain⟨g,_,h3⟩:=(JD _ d).1 h;refine⟨by rw[g,kh],λt m=>?_⟩;obtain⟨q,hq,rfl⟩:=rK.1 (h3 t m);obtain⟨k,c,rfl⟩:=I.mem_iff_getElem.1 hq;have:=(l.2.2 k c).1;rwa[j3 c]at this
def ac0{d v:I N}(c:d.length=v.length)(h4:d.length<=4)(e:∀t∈d,6<=t/\t<=400)(f:∀t∈v,6<=t/\t<=400):ey (bQ d v)=D:=by
 have g:=congrArg jC (zip_fst c);rw[mG]at g;unfold ey;rw[ae,aN,ky];refine⟨by omega,λq hq=>?_⟩;have h:=e q.1 (by rw[<-zip_fst c];exact sL hq);have j:=f q.2 (by rw[<-AF c];exact sL hq);simp only[ae,aN];omega
def ac1:bI em (bJ kR):=dw (aV ay3 (aV W1 (aV WF (aV acs (aV akL (aV ayD eH))))))
def azq:(fl eS L0).drop 2=[]:=by kernel_rfl
def azr:(fl eS bw9).drop 3=[]:=by kernel_rfl
def azs:(fl eS za).drop 6=[]:=by kernel_rfl
def azt{s:I (N×N)}{p n:E}{c:I (I N)}{i k:E}{l:nB}{x:I (N×N)}(a':ey x=D)(t:∀y∈l,ey y=D)(d:l.length<=100000){w:du}{F:Env}{Q:sC->au af->ai->Prop}
  (hq:∀j:N,Q .normal (lV s p (iH x l.reverse).reverse n c i k j).T (lV s p (iH x l.reverse).reverse n c i k j).H):
  bp em w F 92 ((fl eS za).drop 5) (lV s p (l++[x]) n c i k l.length).T (lV s p (l++[x]) n c i k l.length).H Q:=by
 have G:=ac1;refine c_q {q:nB×nB//l=q.1++q.2/\iH x l.reverse=q.2.reverse++iH x q.1.reverse} 6 (cat eS L1) ((fl eS za).drop 6) (λq=>lV s p (q.1.1++x::q.1.2) n c i k (q.1.1.length:E)) (λq=>q.1.1.length) ⟨(l,[]),by simp,by simp⟩ ?_;rintro⟨⟨z,B⟩,e,d⟩;have e:l=z++B:=e;have d:iH x l.reverse=B.reverse++iH x z.reverse:=d;have V:∀{j:N}{u:nB},u=(iH x l.reverse).reverse->bp em w F 92 ((fl eS za).drop 6) (lV s p u n c i k j).T (lV s p u n c i k j).H Q:=λ{j u} W=>by
  rw[W];exact LW azs (hq j)
 rcases I.eq_nil_or_concat z with o|⟨A,y,o⟩
 .subst o;refine aT (s:=lV s p ([]++x::B) n c i k (0:E)) G (wy [aa (aK (ab (δ:¬(0:E)>0))),az (δ:¬(0:E)>0)] 2324143350556659777:aR kR (fl eS L1) (lV s p ([]++x::B) n c i k (0:E)) 4096 (.exit 6) [(64,64,bs)] (lV s p ([]++x::B) n c i k (0:E))) ?_;refine bY (cg (V ?_));rw[d];show x::B=(B.reverse++[x]).reverse;simp
 .rw[I.concat_eq_append]at o;subst o;have j:y∈l:=by rw[e];simp
  have f:((A++[y])++x::B).length<=200000:=by
   have:=congrArg jC e;simp at this ⊢;omega
  have J:((A++[y]).length:N)-1=(A.length:E):=by simp
  have f:(((A++[y]).length:E):N).toNat=A.length+1:=by simp
  have g:((((A++[y]).length:E):N)-1).toNat=A.length:=by simp
  have h:((A++[y])++x::B).getD (A.length+1) []=x:=by
   have:=acZ (A++[y]) B x;rwa[show(A++[y]).length=A.length+1 by simp]at this
  have m:((A++[y])++x::B).getD A.length []=y:=by
   have:=acZ A (x::B) y;rwa[show A++y::x::B=(A++[y])++x::B by simp]at this
  have L:(((A++[y]).length:E):N).toNat<((A++[y])++x::B).length:=by rw[f];simp
  have C:((((A++[y]).length:E):N)-1).toNat<((A++[y])++x::B).length:=by rw[g];simp
  have U:(((A++[y]).length:E):N)>0:=by simp
  have M:(ey (((A++[y])++x::B).getD (((A++[y]).length:E):N).toNat [])&&ey (((A++[y])++x::B).getD ((((A++[y]).length:E):N)-1).toNat []))=D:=by
   rw[f,g,h,m];exact dN a' (t y j)
  have j:iH x (A++[y]).reverse=if eU x y=D then y::iH x A.reverse else x::y::A.reverse:=by
   rw[I.reverse_append];rfl
  rw[j]at d;cases t:eU x y with
  |true=>
   rw[t,dA rfl]at d;refine aT (X:=mQ) (s:=lV s p ((A++[y])++x::B) n c i k ((A++[y]).length:E)) G (azi s p ((A++[y])++x::B) (A++x::y::B) n c i k ((A++[y]).length:E) U ω L ω ω C M (by rw[f,g,h,m];exact t) ?_ τ τ (by rw[f,g,h,m];exact azo A B x y)) ?_
   .rw[zP];exact ay (by rw[cm];exact C)
   .refine⟨⟨(A,y::B),by rw[e];simp,by rw[d];simp⟩,by simp,?_,?_⟩
    .rw[J]
    .rw[J]
  |false=>
   rw[t]at d;refine aT (X:=mQ) (s:=lV s p ((A++[y])++x::B) n c i k ((A++[y]).length:E)) G (azh s p ((A++[y])++x::B) n c i k ((A++[y]).length:E) U ω L ω ω C M (by rw[f,g,h,m];exact t)) ?_;refine bY (cg (V ?_));rw[d];simp
def ez(L:nB):nB:=(rG L).reverse
def HM(L:nB):(ez L).length=L.length:=by unfold ez;rw[I.length_reverse];exact(acN L).length_eq
def IS{L:nB}{y:I (N×N)}(h:y∈ez L):y∈L:=(acN L).mem_iff.1 (I.mem_reverse.1 h)
def azu(L:nB)(x:I (N×N)):(iH x (ez L).reverse).reverse=ez (L++[x]):=by unfold ez;rw[LE,I.reverse_reverse]
section
variable{s:I (N×N)}{p n:E}(Z:cJ s=0)(Y:p<=4)(hp:s.length^p<=100)
def ac2(g:n<=p){d:I N}(f:d∈kg s n){k:E}:∀y∈iT s (kg s n) d k,ey y=D:=λy h=>by
 obtain⟨v,e,rfl⟩:=rK.1 h;have e:=wT (xF.1 e).1;have c:=(L2 Z Y hp g).2.2;exact ac0 (by rw[(c d f).1,(c v e).1]) (by rw[(c d f).1];omega) (c d f).2 (c v e).2
def ac3(e:n<=p){i:E}:∀y∈mF s (kg s n) i,ey y=D:=λy c=>by
 obtain⟨f,d,c⟩:=sp.1 c;exact ac2 Z Y hp e (wT d) y c
def azv(e:n<=p+1):∀y∈jB s n,ey y=D:=λy c=>by
 obtain⟨m,d,c⟩:=sp.1 c;exact ac3 Z Y hp (by have:=DJ.1 d;omega) y c
def IT(d:n<=p){i:E}(hi:i<=(kg s n).length):(mF s (kg s n) i).length<=10000:=by
 have e:=IR s (kg s n) i hi;have c:=(L2 Z Y hp d).2.1;have h3:i*(kg s n).length<=100*100:=E.mul_le_mul ω c;omega
end
def Tu{s:I (N×N)}{p:E}(c:cJ s=0)(h4:p<=4)(hp:s.length^p<=100):∀n,n<=p+1->(jB s n).length<=n*10000
 |0,_=>by simp[jB]
 |n+1,h=>by
  have d:=Tu c h4 hp n ω;have e:=IT c h4 hp (show n<=p by omega) (aC (kg s n).length);rw[acX,fQ];omega
def azw(s:I (N×N))(p:E)(t:cJ s=0)(h4:p<=4)(hp:s.length^p<=100):Holds em ao 52 [pl s,iv p] (LX (oo s p)):=by
 have g:=ac1;have e1:=(xq t).2.1;refine bK eS func52 λw F=>?_
 refine cE g 3 (ay4 s p rfl rfl) ?_;refine c_q {n:E//n<=p+1} 0 (cat eS di9) ((fl eS []).drop 4) (λn=>qV s p (ez (jB s n.1)) n.1) (λn=>p+1-n.1) ⟨0,gt _⟩ ?_;rintro⟨n,M⟩;have M:n<=p+1:=M;by_cases g2:n<p+1
 .have Q:n<=p:=by omega
  obtain⟨d',e2,b1⟩:=L2 t h4 hp Q;have g1:=Tu t h4 hp n M;have o6:=azv t h4 hp M;have c3:=λi (A:i<=(kg s n).length)=>IT t h4 hp Q A
  have c4:=λi=>ac3 t h4 hp Q (i:=i)
  have c5:=λe (j:e∈kg s n) k=>ac2 t h4 hp Q j (k:=k)
  have a2:=acX s n;have e3:n*10000<=50000:=by omega
  refine dH (s:=qV s p (ez (jB s n)) n) g 2 (ay5 s p _ n ω) ?_;refine ga (id:=1) (c:=cat eS bw9) (rest:=(fl eS di9).drop 3) (by kernel_rfl) ?_;refine dH (s:=qV s p (ez (jB s n)) n) g 2 (ay7 s p (ez (jB s n)) n d') ?_;generalize kg s n=d at*;generalize e7:jB s n=f at*;rw[show ez f=ez (f++mF s d 0) by simp[mF]];refine c_q {i:E//i<=d.length} 2 (cat eS HK) ((fl eS bw9).drop 3) (λi=>qW s p (ez (f++mF s d i.1)) n d i.1) (λi=>d.length-i.1) ⟨0,gt _⟩ ?_;rintro⟨i,A⟩;have A:i<=d.length:=A;by_cases z:i<d.length
  .refine dH (s:=qW s p (ez (f++mF s d i)) n d i) g 2 (ay8 s p _ n d i ω) ?_;refine ga (id:=3) (c:=cat eS L0) (rest:=(fl eS HK).drop 3) (by kernel_rfl) ?_;refine dH (s:=qW s p (ez (f++mF s d i)) n d i) g 1 (aza s p _ n d i) ?_;have U:=acW s d z;have b4:d.getD i []∈d:=by rw[ap,iw z];exact ra _
   have e9:=c3 i A;have c':=c4 i;have a3:=c5 _ b4;obtain⟨c9,a9⟩:=b1 _ b4;have a4:=acY s d (d.getD i []);have a5:=λk (V:k<d.length)=>azn s d (d.getD i []) V
   obtain⟨e,j⟩:∃e,d.getD i []=e:=⟨_,rfl⟩;rw[j]at U a3 c9 a9 a4 a5;generalize f':mF s d i=h at*;rw[show ez (f++h)=ez (f++h++iT s d e 0) by simp[iT]];refine c_q {k:E//k<=d.length} 4 (cat eS Eh) ((fl eS L0).drop 2) (λk=>iI s p (ez (f++h++iT s d e k.1)) n d i k.1) (λk=>d.length-k.1) ⟨0,gt _⟩ ?_;rintro⟨k,b'⟩;have b':k<=d.length:=b';by_cases C:k<d.length
   .have c0:d.getD k []∈d:=by rw[ap,iw C];exact ra _
    obtain⟨g3,e0⟩:=b1 _ c0;have G:=a5 k C;have g':=a4 k;have c1:=a3 k;refine dH (s:=iI s p (ez (f++h++iT s d e k)) n d i k) g 2 (azb s p _ n d i k ω) ?_;refine ga (id:=5) (c:=cat eS za) (rest:=(fl eS Eh).drop 3) (by kernel_rfl) ?_;have b2:(bQ e (d.getD k [])).length=n:=by
     have:=congrArg jC (zip_fst (show e.length=(d.getD k []).length by omega));rw[mG]at this;omega
    have J:ym (d.getD i []) (d.getD k [])=D:=by
     rw[j];unfold ym;rw[ae,aN,aN];omega
    have c2:=ac0 (show e.length=(d.getD k []).length by omega) ω a9 e0;have a6:(bP (s.length<=1000000)&&bP ((bQ (d.getD i []) (d.getD k [])).length<=1000000))=D:=by
     rw[j,b2];exact dN (ay ω) (ay ω)
    have a1:(bQ (d.getD i []) (d.getD k [])).length<=100:=by rw[j,b2];omega
    have a0:(bQ (d.getD i []) (d.getD k [])).length<=1000000:=by omega
    have W:∀{X:nB},X=f++h++iT s d e (k+1)->∃o:{k:E//k<=d.length},d.length-o.1<d.length-k/\(iI s p (ez X) n d i (k+1)).T=(iI s p (ez (f++h++iT s d e o.1)) n d i o.1).T/\(iI s p (ez X) n d i (k+1)).H=(iI s p (ez (f++h++iT s d e o.1)) n d i o.1).H:=λ{X} L=>
     ⟨⟨k+1,by omega⟩,by show d.length-(k+1)<d.length-k;omega,by rw[L],by rw[L]⟩
    by_cases u:BJ s e (d.getD k [])=D
    .rw[dA u]at G;unfold BJ at u;rw[ae]at u;have b3:=azf s p (ez (f++h++iT s d e k)) n d i k z C J a1 a0 (by rw[j];exact u.1) a6 (by rw[j];exact u.2) (by rw[HM];simp;omega) (by rw[HM];simp;omega) τ (by simp[bO]);rw[j]at b3;refine dH (s:=iI s p (ez (f++h++iT s d e k)) n d i k) g 5 b3 ?_;refine azt (l:=ez (f++h++iT s d e k)) c2 (λy m=>?_) (by rw[HM];simp;omega) λo=>?_
     .have m:=IS m;rw[I.mem_append,I.mem_append]at m;rcases m with(m|m)|m
      .exact o6 y m
      .exact c' y m
      .exact c1 y m
     .rw[azu];refine aT (X:=mQ) (s:=lV s p (ez (f++h++iT s d e k++[bQ e (d.getD k [])])) n d i k o) g (azj s p _ n d i k o ω) ?_;exact W (by rw[G];simp)
    .rw[db u,mS]at G;cases a':ip (bQ e (d.getD k [])) (tf (bQ e (d.getD k [])))with
     |false=>
      refine dH (s:=iI s p (ez (f++h++iT s d e k)) n d i k) g 5 (azd s p _ n d i k z C J a1 a0 (by rw[j];exact a')) ?_;refine bY (cg ?_);exact aT (X:=mQ) (s:=iI s p (ez (f++h++iT s d e k)) n d i k) g (acV s p _ n d i k ω) (W (by rw[G]))
     |true=>
      have e':qC s (bQ e (d.getD k []))=ao:=by
       cases c7:qC s (bQ e (d.getD k []))with
       |false=>rfl
       |true=>exact absurd (by unfold BJ;rw[a',c7];rfl) u
      refine dH (s:=iI s p (ez (f++h++iT s d e k)) n d i k) g 5 (aze s p _ n d i k z C J a1 a0 (by rw[j];exact a') a6 (by rw[j];exact e')) ?_;refine bY (cg ?_);exact aT (X:=mQ) (s:=iI s p (ez (f++h++iT s d e k)) n d i k) g (acV s p _ n d i k ω) (W (by rw[G]))
   .refine dH (s:=iI s p (ez (f++h++iT s d e k)) n d i k) g 2 (azc s p _ n d i k ω) ?_;refine bY (bY (cg ?_));refine LW azq ?_;obtain rfl:k=d.length:=by omega
    refine aT (s:=iI s p (ez (f++h++iT s d e d.length)) n d i d.length) g (azk s p _ n d i _ ω) ?_;exact⟨⟨i+1,by omega⟩,by show d.length-(i+1)<d.length-i;omega,by rw[U,ot],by rw[U,ot]⟩
  .refine dH (s:=qW s p (ez (f++mF s d i)) n d i) g 2 (ay9 s p _ n d i ω) ?_;refine bY (bY (cg ?_));refine LW azr ?_;obtain rfl:i=d.length:=by omega
   refine aT (s:=qW s p (ez (f++mF s d d.length)) n d d.length) g (azl s p _ n d _ ω) ?_;exact⟨⟨n+1,by omega⟩,by show p+1-(n+1)<p+1-n;omega,by rw[a2],by rw[a2]⟩
 .refine dH (s:=qV s p (ez (jB s n)) n) g 2 (ay6 s p _ n ω) ?_;refine bY (bY (cg ?_));obtain rfl:n=p+1:=by omega
  have L:oo s p=ez (jB s (p+1)):=by unfold oo ez;rw[kh]
  rw[L];refine bM (s:=qV s p (ez (jB s (p+1))) (p+1)) g (azm s p (ez (jB s (p+1))) _ τ ?_ (by intro V;cases V));by_cases J:(ez (jB s (p+1))).length=0
  .exact .inl J
  .exact .inr (by rw[eK];exact ay ω)
def ac8:=IN 52 [.list ao cY,.int .i64] [.list ao (.list ao cY)] ao (λd=>tz d.1 d.2.1) λd=>(oo d.1 d.2.1,())
def azE(s:I (N×N))(n:N)(h:tz s n=D):Holds em ao 52 [pl s,iv n] (LX (oo s n)):=by
 obtain⟨c,d,h3,h4⟩:=HL.1 h;obtain⟨m,rfl⟩:∃m:E,n=(m:N):=⟨n.toNat,by omega⟩;exact azw s m c ω h4
def azF:ac8.Ok em:=λ⟨s,n,_⟩ h=>azE s n h
end
set_option maxHeartbeats 1000000
noncomputable section
noncomputable def nD(t:I (N×N))(q:cl):(N×I N)×(N×I N):=if fO (oa (ny t) q).1<0 then AS (oa (ny t) q)else oa (ny t) q
def ac9:=IN 57 [.list ao cY,e6] [e6] ao (λd=>nx d.1&&vG 5 d.2.1) λd=>(nD d.1 d.2.1,())
def ada:bI em (bJ Tc):=dw (aV axv (aV aae (aV Rk (aV Rl eH))))
def sa{t:I (N×N)}{q:cl}{r:qA}(h:ij t=0)(g:QR 5 q r):QR 11 (nD t q) (if fX t-r<0 then-(fX t-r)else fX t-r)/\QR 11 (oa (ny t) q) (fX t-r):=by
 have e:=(ub h).1;have c:QR 11 (oa (ny t) q) (fX t-r):=arD e g δ;have s:=ZV c;refine⟨?_,c⟩;unfold nD;by_cases d:fX t-r<0
 .rw[dA d]at s ⊢;rw[dA ω];exact Id c δ
 .rw[db d]at s ⊢;rw[db (by rw[s];split<;>decide)];exact c
def azG:ac9.Ok em:=λ⟨t,q,_⟩ h=>by
 have h:(nx t&&vG 5 q)=D:=h;rw[ae]at h;have f:ij t=0:=cC h.1;have g:=uc.1 h.2;have j:=(sa f g).2;have d:(okQ 20000 (ny t)&&okQ 20000 q)=D:=dN ((ub f).1.mono δ).ok (g.mono δ).ok;have e:aH (oa (ny t) q).1=D:=kG δ j.o1;show Holds em ao 57 [pl t,ct q] (ct (nD t q));refine bK Ta func57 λw F=>?_
 unfold nD;by_cases c:fO (oa (ny t) q).1<0
 .rw[dA c];exact bt ada 9 (wy [aa (h.1:(nx t)=D),aa (aI (v:=ct q)),aa d,aa e,ag c] 280314519681:bk Tc (fl Ta []) 9 16 [pl t,ct q] 3 Tryz.f57 ao (ct (AS (oa (ny t) q))))
 .rw[db c];exact bt ada 9 (wy [aa (h.1:(nx t)=D),aa (aI (v:=ct q)),aa d,aa e,az c] 5436612737:bk Tc (fl Ta []) 9 16 [pl t,ct q] 2 Tryz.f57 ao (ct (oa (ny t) q)))
noncomputable def eT(a:AT):N:=if ckR a=0 then(if toQ a<=0 then 3 else 0)else ckR a
def adf:=IN 44 [.str] [.int .i64] D (λd=>decide (d.1.size<=24)) λd=>(eT d.1,())
def azH:bI em (bJ LR):=dw (aV awR (aV RA (aV Rk eH)))
def adg:adf.Ok em:=λ⟨a,_⟩ h=>by
 have m:a.size<=24:=cC h;have e:a.size<=1000000000:=by omega
 have d:=azH;show Holds em D 44 [sv a] (iv (eT a));refine bK LN func44 λw F=>?_
 unfold eT;by_cases c:ckR a=0
 .rw[dA c];have f:=IO9 m c;have l:=kG (show 2<=100000 by decide) f.qr.o1;have s:=ZV f.qr;by_cases g:toQ a<=0
  .rw[dA g];refine bp.ret known mixed d 9 _ (axV a e c f.fr l (by
    rw[s];by_cases j:toQ a<0
    .rw[dA j];decide
    .rw[db j,dA (by grind)];decide)) λT H h=>h
  .rw[db g];refine bp.ret known mixed d 9 _ (axW a e c f.fr l (by
    rw[s,db (by grind),db (by grind)];decide)) λT H h=>h
 .rw[db c];exact bt d 9 (wy [ag e,aa (eX.mpr c)] 129:bk LR (fl LN []) 9 13 [sv a] 3 Tryz.f44 D (iv (ckR a)))
def c8(L:N):E->N
 |0=>1
 |i+1=>(c8 L i*(L+(i:N))).tdiv ((i:N)+1)
def oX(L n:N):N:=if n<0\/n>4 then 3 else if c8 L n.toNat>1000 then 21 else 0
def adh:=IN 45 [.list ao cY,.int .i64] [.int .i64] D (λd=>decide (jC (α:=N×N) d.1<=40)) λd=>(oX (jC (α:=N×N) d.1) d.2.1,())
def azI{L:N}(m:0<=L)(o:L<=40):(0<=c8 L 0/\c8 L 0<=1)/\(0<=c8 L 1/\c8 L 1<=50)/\(0<=c8 L 2/\c8 L 2<=2500)/\(0<=c8 L 3/\c8 L 3<=125000)/\(0<=c8 L 4/\c8 L 4<=6250000):=by
 have step:∀(i:E)(B:N),i<=3->0<=c8 L i/\c8 L i<=B->0<=c8 L (i+1)/\c8 L (i+1)<=B*50:=λi B t g=>by
  have j:c8 L (i+1)=(c8 L i*(L+(i:N))).tdiv ((i:N)+1):=rfl;have p:0<=c8 L i*(L+(i:N)):=kv g.1 ω;have b:c8 L i*(L+(i:N))<=B*50:=tj g.2 ω ω ω;rw[j,ku p];have l:=vb (b:=(i:N)+1) p;exact⟨jN p ω,by omega⟩
 have c:0<=c8 L 0/\c8 L 0<=1:=⟨show(0:N)<=1 by decide,show(1:N)<=1 by decide⟩;have d:=step 0 1 δ c;have e:=step 1 50 δ d;have f:=step 2 2500 δ e;have h:=step 3 125000 δ f;exact⟨c,d,e,f,h⟩
def L3{L:N}(c:0<=L)(d:L<=40){i:E}(hi:i<=4):0<=c8 L i/\c8 L i<=6250000:=by
 obtain⟨a,b,e,f,g⟩:=azI c d
 match i,hi with
 |0,_=>omega
 |1,_=>omega
 |2,_=>omega
 |3,_=>omega
 |4,_=>omega
def adi(l:I (N×N))(n:N)(z:l.length<=40):Holds em D 45 [pl l,iv n] (iv (oX l.length n)):=by
 have d:=ba;refine bK vE func45 λw F=>?_
 unfold oX;by_cases c:n<0
 .rw[dA (Hg c)];exact bt d 5 (wy [aa (aL (ay c)),ag c] 8257:bk (aA []) (fl vE []) 5 29 [pl l,iv n] 28 Tryz.f45 D (iv 3))
 by_cases f:n>4
 .rw[dA (Jn f)];exact bt d 5 (wy [aa (aL (ab c)),az c,ag f] 794689:bk (aA []) (fl vE []) 5 29 [pl l,iv n] 27 Tryz.f45 D (iv 3))
 rw[db ω];refine cE d 5 (wy [aa (aL (ab c)),az c,az f] 794689:cL (aA []) (fl vE []) 5 29 [pl l,iv n] 19 .normal [] (tw l n 0 1)) ?_;refine c_q {i:E//i<=n.toNat} 0 (cat vE Td) ((fl vE []).drop 6) (λi=>tw l n i.1 (c8 l.length i.1)) (λi=>n.toNat-i.1) ⟨0,gt _⟩ ?_;rintro⟨i,j⟩;have j:i<=n.toNat:=j;have h:=L3 (L:=l.length) ω ω (i:=i) ω;by_cases o:i<n.toNat
 .have m: -9223372036854775808<=c8 l.length i*((l.length:N)+(i:N))/\c8 l.length i*((l.length:N)+(i:N))<=9223372036854775807:=by
   have p:0<=c8 l.length i*((l.length:N)+(i:N)):=kv h.1 ω;have b:c8 l.length i*((l.length:N)+(i:N))<=6250000*50:=tj h.2 ω ω ω;omega
  have t:=ax0 l n i (c8 l.length i) ω ω m ω (by
   have u:=L3 (L:=l.length) ω ω (i:=i+1) ω;have g:c8 l.length (i+1)=(c8 l.length i*((l.length:N)+(i:N))).tdiv ((i:N)+1):=rfl;rw[<-g];omega)
  refine aT (s:=tw l n i (c8 l.length i)) d t ?_;exact⟨⟨i+1,o⟩,by show n.toNat-(i+1)<n.toNat-i;omega,rfl,rfl⟩
 .refine aT (s:=tw l n i (c8 l.length i)) d (wy [az (ω:¬(i:N)<n)] 1:aR (aA []) (fl vE Td) (tw l n i (c8 l.length i)) 2 (.exit 0) [] (tw l n i (c8 l.length i))) ?_;refine bY (cg ?_);have g:i=n.toNat:=by omega
  subst g;by_cases e:c8 l.length n.toNat>1000
  .rw[dA e];exact bM (s:=tw l n n.toNat (c8 l.length n.toNat)) d (wy [ag e] 1:bw (aA []) ((fl vE []).drop 6) (tw l n n.toNat (c8 l.length n.toNat)) 3 Tryz.f45 D (iv 21))
  .rw[db e];exact bM (s:=tw l n n.toNat (c8 l.length n.toNat)) d (wy [az e] 1:bw (aA []) ((fl vE []).drop 6) (tw l n n.toNat (c8 l.length n.toNat)) 2 Tryz.f45 D (iv 0))
def azK:adh.Ok em:=λ⟨l,n,_⟩ h=>adi l n (cC h)
def L4:=NO Tryz.f136
def adj:=NO Tryz.f82
def L5:=aA [Hx]
def azL(s:AT)(c:jT s<0)(d:ea 1<=s.size)(h3:(s.extract (ea 1) s.size)=(s.extract 1 s.size)):
  bk L5 (fl L4 []) 9 14 [sv s] 3 Tryz.f136 D (sv (s.extract 1 s.size)):=
 wy [ag c,ag d,ag (by omega:s.size<=s.size),av h3] 4345823296
noncomputable def HO(s:AT):AT:=aW (-toQ s)
def adk:=IN 136 [.str] [.str] D (λd=>dz d.1) λd=>(HO d.1,())
def adl:=aA [adk,abI]
noncomputable def BK(s t:AT):AT:=aW (toQ s-toQ t)
def Tw:=IN 82 [.str,.str] [.str] D (λd=>dz d.1&&dz d.2.1) λd=>(BK d.1 d.2.1,())
end
set_option maxHeartbeats 1000000
noncomputable section
def oq(r:qA):I hN:=if r.den=1 then []else 47::Lib.decDigits r.den
def Tx(r:qA):ak (aW r)=(if bP (r.num<0)then 45::(Lib.decDigits r.num.natAbs++oq r)else Lib.decDigits r.num.natAbs++oq r):=by
 have e:ak (aW r)=Lib.itoa r.num++oq r:=by
  unfold aW oq;by_cases c:r.den=1
  .rw[dA c,dA c,mS];exact nv _
  .rw[db c,db c,<-Dec.xp]
 rw[e,nn];by_cases d:r.num<0
 .rw[ay d];rfl
 .rw[ab d];rfl
def L6{r:qA}(h:r.num<0):ak (aW r)=45::(Lib.decDigits r.num.natAbs++oq r):=by rw[Tx,ay h];rfl
def HP{r:qA}(h:¬r.num<0):ak (aW r)=Lib.decDigits r.num.natAbs++oq r:=by rw[Tx,ab h];rfl
def azP:aW 0=eQ #[48]:=by
 refine kE ?_;show ak (aW 0)=_;rw[HP δ];show Lib.decDigits 0++oq 0=[48];rw[vq δ];unfold oq;rw[dA δ];rfl
def L7(r:qA):jT (aW r)=if r<0 then-1 else if r=0 then 0 else 1:=by
 by_cases f:r<0
 .have g:=Bj.2 f;have c:=L6 g;rw[dA f];unfold jT;have h:aW r≠eQ #[48]:=λe=>by
   rw[e]at c;have:(48:hN)=45:=(P9 c).1;cases this
  rw[db h,dA];refine⟨by rw[eD,c];simp,?_⟩;show((ak (aW r)).getD 0 0).toNat=45;rw[c];rfl
 .rw[db f];have g:¬r.num<0:=λl=>f (Bj.1 l)
  by_cases d:r=0
  .rw[dA d,d,azP];unfold jT;rw[dA rfl]
  .rw[db d];have o:r.num≠0:=λe=>d (qA.num_eq_zero.1 e)
   have c:=HP g;have j:=SN r.num.natAbs;obtain⟨u,m⟩:=SP (R:=oq r) j (xE r.num.natAbs);unfold jT;have h:aW r≠eQ #[48]:=λe=>by
    rw[e]at c;have c:[48]=Lib.decDigits r.num.natAbs++oq r:=c;cases hq:Lib.decDigits r.num.natAbs with
    |nil=>exact j hq
    |cons b t=>
     rw[hq]at c;have:=Dec.arY r.num.natAbs ω b t hq;rw[<-(P9 c).1]at this;exact this rfl
   rw[db h,db];rintro⟨_,hq⟩;have hq:((ak (aW r)).getD 0 0).toNat=45:=hq;rw[c]at hq;exact m hq
def adm{r:qA}(h:r.num<0):(aW r).extract 1 (aW r).size=aW (-r):=by
 refine kE ?_;rw[Rt];show(ak (aW r)).drop 1=ak (aW (-r));rw[L6 h,HP (show¬(-r).num<0 by rw[Ts];omega)];unfold oq;rw[Ts,ó,P3];rfl
def azQ{r:qA}(h:0<r.num):eQ #[45]++aW r=aW (-r):=by
 refine kE ?_;rw[nW];show [45]++ak (aW r)=ak (aW (-r));rw[HP ω,L6 (show(-r).num<0 by rw[Ts];omega)];unfold oq;rw[Ts,ó,P3];rfl
def adn{k:E}{r:qA}(h:pY k r):pY k (-r):=by
 obtain⟨c,d⟩:=h;exact⟨by rw[Ts,P3];exact c,by rw[ó];exact d⟩
def Ty:bI em (bJ L5):=uA LJ
def azR{k:E}{r:qA}(c:k<=10000)(h:pY k r):(aW r).size<=1000000:=by
 have d:=Lx h.1;have e:=Lx h.2;rw[eD,Tx];have:(oq r).length<=9*k+2:=by unfold oq;split<;>simp;omega
 split
 .rw[la,fQ];omega
 .rw[fQ];omega
def azS:adk.Ok em:=λ⟨s,_⟩ h=>by
 obtain⟨r,k,rfl,l,j⟩:=BA.1 h;have z:=azR l j;have c:=L7 r;show Holds em D 136 [sv (aW r)] (sv (aW (-toQ (aW r))));rw[io l j];refine bK L4 func136 λw F=>?_
 by_cases f:r<0
 .rw[dA f]at c;have g:=Bj.2 f;have t:=L6 g;have e:=azL (aW r) ω (by rw[eD,t];show 1<=_;simp) rfl;rw[adm g]at e;exact bt Ty 9 e
 .rw[db f]at c;by_cases d:r=0
  .rw[dA d]at c;rw[d,show(-0:qA)=0 from rfl];rw[d]at c;exact bt Ty 9 (wy [az (ω:¬jT (aW 0)<0),cT c] 524352:bk L5 (fl L4 []) 9 14 [sv (aW 0)] 6 Tryz.f136 D (sv (aW 0)))
  .rw[db d]at c;have g:¬r.num<0:=λh=>f (Bj.1 h)
   have u:r.num≠0:=λo=>d (qA.num_eq_zero.1 o)
   have m:(eQ #[45]).size=1:=rfl;have e:bk L5 (fl L4 []) 9 14 [sv (aW r)] 4 Tryz.f136 D (sv (eQ #[45]++(aW r))):=wy [az (ω:¬jT (aW r)<0),yn (ω:¬jT (aW r)=0),ag (show(eQ #[45]).size+(aW r).size<=9223372036854775807 from by rw[m];omega)] 50856000;rw[azQ ω]at e;exact bt Ty 9 e
def azT:bI em (bJ adl):=dw (aV azS (aV avq eH))
def ado:Tw.Ok em:=λ⟨s,t,_⟩ h=>by
 have h:(dz s&&dz t)=D:=h;rw[ae]at h;obtain⟨r,k,rfl,d,c⟩:=BA.1 h.2;have e:HO (aW r)=aW (-r):=by unfold HO;rw[io d c]
 have f:bk adl (fl adj []) 9 9 [sv s,sv (aW r)] 1 Tryz.f82 D (sv (aW (toQ s+toQ (HO (aW r))))):=wy [aa (h.2:(dz (aW r))=D),aa (show(dz s&&dz (HO (aW r)))=D from by rw[h.1,e,Ec d (adn c)];rfl)] 129;rw[e,io d (adn c)]at f;show Holds em D 82 [sv s,sv (aW r)] (sv (aW (toQ s-toQ (aW r))));rw[io d c,qA.sub_eq_add_neg];refine bK adj func82 λw F=>?_
 exact bt azT 9 f
attribute [local irreducible] mkR vZ okZ aW j9 kd qB ptN ptD okA
end
end
section
noncomputable section
def adp:=NO Tryz.f32
noncomputable def vI(a b:AT):N:=jT (BK a b)
def adq:=aA [Tw,Hx]
def adr:=IN 32 [.str,.str] [.int .i64] D (λd=>dz d.1&&dz d.2.1) λd=>(vI d.1 d.2.1,())
def azV:bI em (bJ adq):=dw (aV ado (aV LJ eH))
def azW:adr.Ok em:=λ⟨a,b,_⟩ h=>by
 have h:(dz a&&dz b)=D:=h;show Holds em D 32 [sv a,sv b] (iv (vI a b));refine bK adp func32 λw F=>?_
 exact bt azV 3 (wy [aa h,av (rfl:(jT (BK a b))=(vI a b))] 8193:bk adq (fl adp []) 3 9 [sv a,sv b] 1 Tryz.f32 D (iv (vI a b)))
def azX{k m:E}{r s:qA}(c:k<=10000)(d:m<=10000)(h:pY k r)(g:pY m s):vI (aW r) (aW s)=if r-s<0 then-1 else if r-s=0 then 0 else 1:=by
 unfold vI BK;rw[io c h,io d g];exact L7 _
end
set_option maxHeartbeats 1000000
noncomputable section
def BL:=NO Tryz.f72
def HQ:=aA [abH,SL]
noncomputable def jq(t:I (N×N)):AT:=aW (fX t)
def ads:=IN 72 [.list ao cY] [.str] D (λd=>nx d.1) λd=>(jq d.1,())
noncomputable def L8(t:I (N×N))(s:AT)(k:E):AT:=aW (toQ s*toQ (aW (gp (g0 t k).1 (g0 t k).2)))
def vJ(t:I (N×N))(s:AT)(k:E):bD:={n:=25,sl:=[(0,pl t),(3,sv s),(4,iv k)],bF:=[],next:=64}
def adt:=NO Tryz.f53
def adu:=aA [ads,Tw,ab9]
noncomputable def kp(t:I (N×N))(a:AT):AT:=BE (BK (jq t) a)
def adv:=IN 53 [.list ao cY,.str] [.str] D (λd=>nx d.1&&(dz (jq d.1)&&dz d.2.1)) λd=>(kp d.1 d.2.1,())
def xL:=NO Tryz.f15
def Ei:=aA [ac8,adv,adr]
section
variable(s:I (N×N))(a:AT)(n:N)
def oY(c:I (I (N×N)))(b i:E):bD:={n:=38,sl:=[(0,pl s),(1,sv a),(2,iv n),(7,LX c),(8,iv b),(9,iv i)],bF:=[],next:=64}
def az3(c:(tz s n)=D):
  cL Ei (fl xL []) 4 38 [pl s,sv a,iv n] 1 .normal [] (oY s a n (oo s n) 0 1):=
 wy [aa c] 1
def az4(c:I (I (N×N)))(b i:E)(d:(i:N)<(c.length:N))(e:i<c.length)(h3:(nx (c.getD i [])&&(dz (jq (c.getD i []))&&dz a))=D)(h4:b<c.length)(f:(nx (c.getD b [])&&(dz (jq (c.getD b []))&&dz a))=D)(g:(dz (kp (c.getD i []) a)&&dz (kp (c.getD b []) a))=D)(h:vI (kp (c.getD i []) a) (kp (c.getD b []) a)<0)(j:i6 ((i:N)+1)):
  aR Ei (fl xL [1,1,1,0,1,0,0]) (oY s a n c b i) 7 .normal [] (oY s a n c i (i+1)):=
 wy [ag d,ag e,aa (aI (v:=af.bh ao (aq.pair (.int .i64) (.int .i64)) (c.getD i []))),aa h3,ag h4,aa (aI (v:=af.bh ao (aq.pair (.int .i64) (.int .i64)) (c.getD b []))),aa f,aa g,ag h,yi j] 47897098803758221762561
def UP(c:I (I (N×N)))(b i:E)(d:(i:N)<(c.length:N))(e:i<c.length)(h3:(nx (c.getD i [])&&(dz (jq (c.getD i []))&&dz a))=D)(h4:b<c.length)(f:(nx (c.getD b [])&&(dz (jq (c.getD b []))&&dz a))=D)(g:(dz (kp (c.getD i []) a)&&dz (kp (c.getD b []) a))=D)(h:¬vI (kp (c.getD i []) a) (kp (c.getD b []) a)<0)(j:i6 ((i:N)+1)):
  aR Ei (fl xL [1,1,1,0,1,0,0]) (oY s a n c b i) 5 .normal [] (oY s a n c b (i+1)):=
 wy [ag d,ag e,aa (aI (v:=af.bh ao (aq.pair (.int .i64) (.int .i64)) (c.getD i []))),aa h3,ag h4,aa (aI (v:=af.bh ao (aq.pair (.int .i64) (.int .i64)) (c.getD b []))),aa f,aa g,az h,yi j] 47897098803758221762561
def az5(c:I (I (N×N)))(b i:E)(d:¬(i:N)<(c.length:N)):
  aR Ei (fl xL [1,1,1,0,1,0,0]) (oY s a n c b i) 2 (.exit 0) [] (oY s a n c b i):=
 wy [az d] 1
def az6(c:I (I (N×N)))(b i:E)(d:b<c.length):
  bw Ei ((fl xL []).drop 5) (oY s a n c b i) 1 Tryz.f15 ao (pl (c.getD b [])):=
 wy [ag d] 64
end
def zb:=NO Tryz.f51
def HR:=NO Tryz.f13
def L9:=NO Tryz.f12
def vK:=NO Tryz.f8
def rW(L n:N)(s i:N):bD:={n:=23,sl:=[(0,iv L),(1,iv n),(5,iv s),(6,iv i)],bF:=[],next:=64}
def az8(L n s i r:N)(c:i<=n)(d:i6 (L+i))(h3:i6 (L+i-1))(h4:i6 (s*(L+i-1)))(e:i≠0)(f:i6 (ej (s*(L+i-1)) i))(g:¬ej (s*(L+i-1)) i>1000)(h:i6 (i+1))(j:(ej (s*(L+i-1)) i)=(r)):
  aR (aA []) (fl zb [1,1,0,1,0,0]) (rW L n s i) 5 .normal [] (rW L n r (i+1)):=
 wy [ag c,yi d,yi h3,yi h4,ag e,yi f,az g,yi h,av j] 10376329213397446785
def az9(L n s i:N)(c:i<=n)(d:i6 (L+i))(h3:i6 (L+i-1))(h4:i6 (s*(L+i-1)))(e:i≠0)(f:i6 (ej (s*(L+i-1)) i))(g:ej (s*(L+i-1)) i>1000):
  bw (aA []) (fl zb [1,1,0,1,0,0]) (rW L n s i) 7 Tryz.f51 D (iv 1001):=
 wy [ag c,yi d,yi h3,yi h4,ag e,yi f,ag g] 487563735169
def sb(L:N):E->E->N
 |0,i=>c8 L i
 |k+1,i=>if c8 L (i+1)>1000 then 1001 else sb L k (i+1)
def xM(L n:N):N:=sb L n.toNat 0
def adw:=IN 51 [.int .i64,.int .i64] [.int .i64] D (λd=>(bP (0<=d.1)&&bP (d.1<=40))&&(bP (0<=d.2.1)&&bP (d.2.1<=4))) λd=>(xM d.1 d.2.1,())
def HS:=aA [adw]
def kS(L n:N):N:=if n<0\/n>4 then 3 else if xM L n>1000 then 21 else 0
def Tz:=IN 13 [.list ao cY,.int .i64] [.int .i64] D (λd=>decide (jC (α:=N×N) d.1<=40)) λd=>(kS (jC (α:=N×N) d.1) d.2.1,())
def Ma:=aA [abN,Hx,Pq]
def adx:=IN 12 [.str] [.int .i64] D (λd=>decide (d.1.size<=24)) λd=>(eT d.1,())
def vL:=aA [Pe,Tz]
def nE(s:I (N×N))(n:N):dF:=bP (s.length<=40)&&(bP (cJ s≠0)||(bP (kS s.length n≠0)||(bP (n<2)||((bP (s.length<=5)&&bP (n=2))||((bP (s.length<=3)&&bP (n=3))||decide (s.length<=2))))))
def ady:=IN 8 [.list ao cY,.int .i64] [.bool] D (λd=>D) λd=>(nE d.1 d.2.1,())
section
variable(s:I (N×N))(n:N)(r:dF)
def aAj(c:(s.length:N)>40)(d:(ao)=(r)):
  bk vL (fl vK []) 9 42 [pl s,iv n] 3 Tryz.f8 D (bv r):=
 wy [ag c,av d] 129
def aAk(d:¬(s.length:N)>40)(c:¬cJ s=0)(h3:(D)=(r)):
  bk vL (fl vK []) 9 42 [pl s,iv n] 1824 Tryz.f8 D (bv r):=
 wy [az d,aa (aL (eX.mpr c)),aa (eX.mpr c),av h3] 295147905387692826625
def aAl(d:¬(s.length:N)>40)(c:cJ s=0)(h3:s.length<=40)(h4:¬kS (s.length:N) n=0)(e:(D)=(r)):
  bk vL (fl vK []) 9 42 [pl s,iv n] 1822 Tryz.f8 D (bv r):=
 wy [az d,aa (aL (cS.mpr c)),ag h3,aa (cS.mpr c),aa (aL (eX.mpr h4)),aa (eX.mpr h4),av e] 33063574406215468851201
def aAm(d:¬(s.length:N)>40)(c:cJ s=0)(h3:s.length<=40)(h4:kS (s.length:N) n=0)(e:n<2)(f:(D)=(r)):
  bk vL (fl vK []) 9 42 [pl s,iv n] 1758 Tryz.f8 D (bv r):=
 wy [az d,aa (aL (cS.mpr c)),ag h3,aa (cS.mpr c),aa (aL (cS.mpr h4)),aa (cS.mpr h4),ag e,av f] 38302449723148981510145
def aAn(f:¬(s.length:N)>40)(c:cJ s=0)(h3:s.length<=40)(h4:kS (s.length:N) n=0)(g:¬n<2)(d:(s.length:N)<=5)(e:n=2)(h:(D)=(r)):
  bk vL (fl vK []) 9 42 [pl s,iv n] 12852446 Tryz.f8 D (bv r):=
 wy [az f,aa (aL (cS.mpr c)),ag h3,aa (cS.mpr c),aa (aL (cS.mpr h4)),aa (cS.mpr h4),az g,aa (aK (ay d)),ag d,aa (aL (gw.mpr e)),cT e,av h] 17126972327304015097073059744531568274098888705
def aAo(h:¬(s.length:N)>40)(c:cJ s=0)(h3:s.length<=40)(h4:kS (s.length:N) n=0)(l:¬n<2)(d:(s.length:N)<=5)(e:¬n=2)(f:(s.length:N)<=3)(g:n=3)(j:(D)=(r)):
  bk vL (fl vK []) 9 42 [pl s,iv n] 102759646 Tryz.f8 D (bv r):=
 wy [az h,aa (aL (cS.mpr c)),ag h3,aa (cS.mpr c),aa (aL (cS.mpr h4)),aa (cS.mpr h4),az l,aa (aK (ay d)),ag d,aa (aL (fB.mpr e)),aa (aK (ay f)),ag f,yn e,aa (aL (gw.mpr g)),cT g,av j] 6075299916954066373058368351036617874367025202601985
def aAp(h:¬(s.length:N)>40)(c:cJ s=0)(h3:s.length<=40)(h4:kS (s.length:N) n=0)(l:¬n<2)(d:(s.length:N)<=5)(e:¬n=2)(f:(s.length:N)<=3)(g:¬n=3)(j:(bP ((s.length:N)<=2))=(r)):
  bk vL (fl vK []) 9 42 [pl s,iv n] 98565342 Tryz.f8 D (bv r):=
 wy [az h,aa (aL (cS.mpr c)),ag h3,aa (cS.mpr c),aa (aL (cS.mpr h4)),aa (cS.mpr h4),az l,aa (aK (ay d)),ag d,aa (aL (fB.mpr e)),aa (aK (ay f)),ag f,yn e,aa (aL (fB.mpr g)),yn g,av j] 6075299916954066373058368351036617874367025202601985
def aAq(g:¬(s.length:N)>40)(c:cJ s=0)(h3:s.length<=40)(h4:kS (s.length:N) n=0)(h:¬n<2)(d:(s.length:N)<=5)(e:¬n=2)(f:¬(s.length:N)<=3)(j:(bP ((s.length:N)<=2))=(r)):
  bk vL (fl vK []) 9 42 [pl s,iv n] 97123550 Tryz.f8 D (bv r):=
 wy [az g,aa (aL (cS.mpr c)),ag h3,aa (cS.mpr c),aa (aL (cS.mpr h4)),aa (cS.mpr h4),az h,aa (aK (ay d)),ag d,aa (aL (fB.mpr e)),aa (aK (ab f)),az f,yn e,av j] 5238021872789994700925373604990649129472662404866049
def aAr(f:¬(s.length:N)>40)(c:cJ s=0)(h3:s.length<=40)(h4:kS (s.length:N) n=0)(g:¬n<2)(d:¬(s.length:N)<=5)(e:¬(s.length:N)<=3)(h:(bP ((s.length:N)<=2))=(r)):
  bk vL (fl vK []) 9 42 [pl s,iv n] 97116382 Tryz.f8 D (bv r):=
 wy [az f,aa (aL (cS.mpr c)),ag h3,aa (cS.mpr c),aa (aL (cS.mpr h4)),aa (cS.mpr h4),az g,aa (aK (ab d)),az d,aa (aK (ab e)),az e,av h] 4489733029940436961271637342767281660040480438099969
end
def adz:=NO f104
def adA:=aA [ac9,KY,acB,HA]
def vM(q:cl)(x y:I (N×N)):N:=dL [xg (nD x q) (nD y q),rV x y]
def Mb(r:qA):qA:=if r<0 then-r else r
noncomputable def nG(q:cl)(t:I (N×N)):qA:=Mb (fX t-wv q)
def aAt:bI em (bJ adA):=dw (aV azG (aV Rn (aV ayl (aV Th eH))))
def adB{t:I (N×N)}(h:ij t=0):ey t=D:=by
 obtain⟨e,d⟩:=K3 h;unfold ey;rw[ae,aN,ky];refine⟨by omega,λp hp=>?_⟩;obtain⟨k,c,rfl⟩:=I.mem_iff_getElem.1 hp;have:=d k c;rw[j3 c]at this;simp only[ae,aN];omega
section
variable{x y:I (N×N)}{q:cl}(Z:ij x=0)(Y:ij y=0)(hq:vG 5 q=D)
def aAu:Holds em D 104 [pl x,pl y,.e9 e6 [q] 0 0] (iv (vM q x y)):=by
 have g:=uc.1 hq;refine bK adz func104 λw F=>?_
 exact bt aAt 3 (wy [aa (aI (v:=ct (qm [q] (0:E) (((0:N),[]),(0:N),[])))),aa (dN (ay Z) hq:(nx x&&vG 5 (qm [q] 0 ((0,[]),0,[])))=D),aa (dN (ay Y) hq:(nx y&&vG 5 (qm [q] 0 ((0,[]),0,[])))=D),aa (dN ((sa Z g).1.mono δ).ok ((sa Y g).1.mono δ).ok:(okQ 20000 (nD x (qm [q] 0 ((0,[]),0,[])))&&okQ 20000 (nD y (qm [q] 0 ((0,[]),0,[]))))=D),aa (dN (adB Z) (adB Y):(ey x&&ey y)=D),ag (show jC [xg (nD x (qm [q] 0 ((0,[]),0,[]))) (nD y (qm [q] 0 ((0,[]),0,[]))),rV x y]<=1000000 from by show 2<=1000000;decide),av (rfl:(dL [xg (nD x (qm [q] 0 ((0,[]),0,[]))) (nD y (qm [q] 0 ((0,[]),0,[]))),rV x y])=(vM q x y))] 1997061058990209:bk adA (fl adz []) 3 18 [pl x,pl y,.e9 e6 [q] 0 0] 1 f104 D (iv (vM q x y)))
def aAv:bP (vM q x y<0)=i7 (nG q) x y:=by
 have g:=uc.1 hq;have c:=arE (sa Z g).1 (sa Y g).1;have l:vM q x y=if xg (nD x q) (nD y q)≠0 then xg (nD x q) (nD y q)else if rV x y≠0 then rV x y else 0:=rfl
 have j:=ayn x y;rw[l];have d1:nG q x=if fX x-wv q<0 then-(fX x-wv q)else fX x-wv q:=rfl
 have d2:nG q y=if fX y-wv q<0 then-(fX y-wv q)else fX y-wv q:=rfl
 rw[<-d1,<-d2]at c;unfold i7;by_cases d:nG q x<nG q y
 .rw[dA d]at c;rw[c,ay d];rfl
 .rw[db d]at c;rw[ab d];by_cases e:nG q x=nG q y
  .rw[dA e]at c;rw[c,ay e,dF.false_or,py];cases f:eU x y with
   |true=>
    have:=j.2 f;rw[db δ,dA ω];exact ay this
   |false=>
    refine ab λh=>?_
    rw[db δ]at h;have:¬rV x y<0:=λk=>by rw[j.1 k]at f;cases f
    split at h<;>omega
  .rw[db e]at c;rw[c,ab e];rfl
end
end
def adC{s:I (N×N)}(h:wd s):∀(n k:E),k+n<=s.length->m8 s n k=0
 |0,_,_=>rfl
 |n+1,k,d=>by
  have c:=RV.1 h k ω;unfold m8;rw[db (by
   unfold JE;rw[ab (show¬(g0 s k).1<1 by omega),ab (show¬(g0 s k).1>400 by omega),ab (show¬(g0 s k).2<1 by omega),ab (show¬(g0 s k).2>400 by omega)];decide)]
  exact adC h n (k+1) ω
def TA{s:I (N×N)}(h4:s.length<=4)(h:wd s):ij s=0:=by
 unfold ij;rw[db ω];exact adC h _ _ ω
noncomputable section
end
end
end Go.Proofs.YtdajfemhnlpegaaGreatDoor
namespace Go.Proofs.YtdajfemhnlpegaaGreatDoor
open Go.RowKit
def adD{w:du}{f l n c:E}{e:ed}{U:da wu}{vs:I Value}(h:w.ownsRow f e l (.slice U n c) n vs){b:E}(u:b<f\/w.heap.size<=b):O b≠(Value.slice U n c).ownBlock:=by
 rcases h.2 with⟨d,_⟩|⟨g,o,t,d,z,j,_⟩
 .cases d;intro h;cases h
 .cases d;have m:g<w.heap.size:=(cy.1 j).1;intro h;have h:O b=O g:=h;injection h with h
  omega
def vN{w:du}{c d f n:E}{e:ed}{v:Value}{vs:I Value}(h:w.ownsRow c e f v n vs)(u:d<=c):w.ownsRow d e f v n vs:=by
 refine⟨h.1,?_⟩;rcases h.2 with o|⟨l,g,j,rfl,z,m,t⟩
 .exact .inl o
 .exact .inr ⟨l,g,j,rfl,by omega,m,t⟩
def aAw{w:du}{c f n:E}{e:ed}{v:Value}{vs:I Value}(h:w.ownsRow c e f v n vs)(o:Obj):(w.alloc o).ownsRow c e f v n vs:=by
 refine⟨h.1,?_⟩;rcases h.2 with m|⟨g,j,l,rfl,u,d,t⟩
 .exact .inl m
 .exact .inr ⟨g,j,l,rfl,u,(I' w o g (cy.1 d).1).trans d,t⟩
def Mc{W:du}{d j n c:E}{e:ed}{A:da wu}{vs:I Value}(h:W.ownsRow d e j (.slice A n c) n vs){b:E}(f:O b=(Value.slice A n c).ownBlock):d<=b/\b<W.heap.size:=by
 constructor
 .rcases E.lt_or_ge b d with g|g
  .exact absurd f (adD h (.inl g))
  .exact g
 .rcases E.lt_or_ge b W.heap.size with g|g
  .exact g
  .exact absurd f (adD h (.inr g))
structure aX(O_q:E->Prop)(W W':du):Prop where
 os:W'.os=W.os
 tape:W'.tape=W.tape
 output:W'.output=W.output
 size:W.heap.size<=W'.heap.size
 block:∀k,k<W.heap.size->¬O_q k->W'.heap[k]? =W.heap[k]?
def aX.refl(c:E->Prop)(W:du):aX c W W:=⟨rfl,rfl,rfl,aC _,λ_ _ _=>rfl⟩
def aX.trans{c e:E->Prop}{A B C:du}(h:aX c A B)(k:aX e B C)(g:∀b,b<A.heap.size->e b->c b):aX c A C:=
 ⟨k.os.trans h.os,k.tape.trans h.tape,k.output.trans h.output,cD h.size k.size,λi d f=>(k.block i (iy d h.size) λj=>f (g i d j)).trans (h.block i d f)⟩
def aX.then{c:E->Prop}{A B C:du}(h:aX c A B)(k:aX c B C):aX c A C:=h.trans k λ_ _ e=>e
def aX.mono{d c:E->Prop}{A B:du}(h:aX d A B)(e:∀b,d b->c b):aX c A B:=⟨h.os,h.tape,h.output,h.size,λi g j=>h.block i g λf=>j (e i f)⟩
def aX.alloc{c:E->Prop}{A B:du}(h:aX c A B)(o:Obj):aX c A (B.alloc o):=
 ⟨h.os,h.tape,h.output,by simp;have:=h.size;omega,λi d e=>(I' B o i (iy d h.size)).trans (h.block i d e)⟩
def aX.setCell{c:E->Prop}{A B:du}(h:aX c A B){p:wu}(hp:c p.block)(u:Value):aX c A (B.setCell p u):=
 ⟨h.os,h.tape,h.output,by simp[du.setCell];exact h.size,λi f d=>(YW B p u i λe=>d (e ▸ hp)).trans (h.block i f d)⟩
def aX.putObj{c:E->Prop}{A B:du}(h:aX c A B){l:E}(hp:c l)(o:Obj):aX c A (B.putObj l o):=
 have g:=grownBy_putObj' B l o
 ⟨g.os.trans h.os,g.tape.trans h.tape,g.output.trans h.output,cD h.size g.size,λi d f=>(g.block i (iy d h.size) λe=>f (by injection e with e;rw[e];exact hp)).trans (h.block i d f)⟩
def aX.drew{c:E->Prop}{A B:du}(h:aX c A B):aX c A B.drew:=⟨h.os,h.tape,h.output,h.size,h.block⟩
def aX.drewN{c:E->Prop}{A B:du}(h:aX c A B)(n:E):aX c A (B.drewN n):=⟨h.os,h.tape,h.output,h.size,h.block⟩
def aX.grown{c:E->Prop}{A B C:du}{f:da E}(h:aX c A B)(g:B.grownBy C f)(l:∀r,f=O r->c r):aX c A C:=
 ⟨g.os.trans h.os,g.tape.trans h.tape,g.output.trans h.output,cD h.size g.size,λi d e=>(g.block i (iy d h.size) λj=>e (l i j.symm)).trans (h.block i d e)⟩
def aX.after{c:E->Prop}{A B C:du}(h:aX c A B)(k:Below B.heap.size B C):aX c A C:=
 ⟨k.os.trans h.os,k.tape.trans h.tape,k.output.trans h.output,cD h.size k.size,λi d e=>(k.block i (iy d h.size)).trans (h.block i d e)⟩
def aX.below{c:E->Prop}{A B:du}{n:E}(h:aX c A B)(d:∀b,c b->n<=b)(g:n<=A.heap.size):Below n A B:=
 ⟨h.os,h.tape,h.output,h.size,λi f=>h.block i ω λe=>by have:=d i e;omega⟩
def aX.blk{c:E->Prop}{A B:du}(h:aX c A B){b:E}{t:ed}{cs:fh Value}(d:bH A b t cs)(e:¬c b):bH B b t cs:=(h.block b d.lt e).trans d
def aX.own{c:E->Prop}{A B:du}(h:aX c A B){d j n:E}{e:ed}{v:Value}{vs:I Value}(g:A.ownsRow d e j v n vs)(l:∀b,O b=v.ownBlock->¬c b):B.ownsRow d e j v n vs:=
 Df g λb f=>h.block b (g.lt b f.symm).2 (l b f)
def adE{n m:E}{P:fd}{l:E}{f:ya}{e:fh Value}{c d:mN}{w:du}{R:Ending->du->Prop}(h:RoundIn pI n P l f e c d w R):RoundIn pI m P l f e c d w R:=
 ⟨h.1,λg j _=>h.2 g j (room_wide _)⟩
abbrev b7(α:Type):=da wu×E×I α
structure HT(α:Type) where
 et:ed
 sz:E
 HD:I α->I Value
section
variable{α:Type}(K:HT α)
def eJ(x:b7 α):Value:= .slice x.1 x.2.2.length x.2.1
structure nH(B:E)(O_q:E->Prop)(G:I α->Prop)(x:b7 α)(W:du):Prop where
 own:W.ownsRow B K.et K.sz (eJ x) x.2.2.length (K.HD x.2.2)
 Ej:∀b,O b=(eJ x).ownBlock->O_q b
 good:G x.2.2
def eA(c:E->Prop)(x:b7 α):E->Prop:=λb=>c b/\O b≠(eJ x).ownBlock
def tK(J:I (b7 α)->(E->Prop)->du->Prop):Prop:=
 ∀g (c e:E->Prop) d f,J g c d->aX c d f->(∀b,e b->c b\/d.heap.size<=b)->J g e f
def zc(P:fd)(g:ya)(lb:fh Value)(R iU:E->Prop)(G:I α->Prop)(S:I (I α)->Prop)(w:du):Prop:=
 ∀(l:E)(J:I (b7 α)->(E->Prop)->du->Prop)(W:du),Below w.heap.size w W->tK J->
  (∀h x c d,J h c d->(∀b,c b->iU b\/W.heap.size<=b)->(∀b,c b->b<d.heap.size)->nH K W.heap.size c G x d->
    YieldAt pI 0 P l #[eJ x] d λf e=>f=.returned (.bool D)/\J (h++[x]) (eA c x) e/\aX (λb=>¬(eA c x b\/R b)) d e)->
  J [] iU W->GC pI 0 P g (#[.func (.yield l) #[] #[]]++lb) W λf e=>(∃v,f=.returned v)/\∃j c,S (j.map λx=>x.2.2)/\J j c e
def HU(e:I (b7 α)->(E->Prop)->du->Prop)(R c:E->Prop)(xs:I (b7 α))(W:du):sC->Zq->du->Prop
 |.normal,_,d=>e xs c d/\aX (λb=>¬(c b\/R b)) W d
 |_,_,_=>lm
def aAx{n:E}{P:fd}{g:gn}{ps:fh Tmp}{assign body:mN}{Q:sC->Zq->du->Prop}{a:Zq}{w:du}{gf:E}{lb:fh Value}{R iU:E->Prop}{G:I α->Prop}{S:I (I α)->Prop}{w0:du}
  (hg:a.eval g=.func (.func gf) #[] lb) (eg:∀args w,(Ki gf args).run P w=.ok (.enter gf args) w) (hseq:zc K P gf lb R iU G S w0) (hb0:Below w0.heap.size w0 w) (hps:ps.size=1) (ze:∀b,iU b->b<w.heap.size) (hR:∀b,R b->b<w.heap.size)
  (I_q:I (b7 α)->(E->Prop)->du->Prop) (hI:tK I_q) (h0:I_q [] iU w) (a₁:b7 α->Zq)
  (hassign:∀(l:E)(x:b7 α)(W:du)(K:Zq->du->Prop),K (a₁ x) W->assign.wpIn (wI.wide.inRound l) 0 P (sC.then K (λ_ _ _=>lm)) {tmps:=(ps.zip #[eJ x]).foldl (λt (p,v)=>t.setIfInBounds p v) a.tmps,defers:=[]} W)
  (hbody:∀(l:E)(pre:I (b7 α))(x:b7 α)(O_q:E->Prop)(W:du),I_q pre O_q W->(∀b,O_q b->iU b\/w.heap.size<=b)->(∀b,O_q b->b<W.heap.size)->nH K w.heap.size O_q G x W->body.wpIn (wI.wide.inRound l) 0 P (HU I_q R (eA O_q x) (pre++[x]) W) (a₁ x) W)
  (hdone:∀(D_q:E)(xs:I (b7 α))(O_q:E->Prop)(W:du),w.heap.size<=D_q->O_q D_q->S (xs.map λx=>x.2.2)->I_q xs O_q W->W.heap[D_q]? =O (.deferred (O []))->Q .normal {a with defers:={target:= .collected D_q,args:= #[]}::a.defers} W):
  (Oz g ps assign body).wpIn pI n P Q a w:=by
 refine wpIn_rangeFunc ?_;intro fn hfn;obtain⟨rec,dh⟩:∃rec:LoopState->da mN->Loop,rec=λst pe=>{state:=st,pending:=pe,fn,tmps:=a.tmps,params:=ps,assign,body,defers:=w.heap.size}:=⟨_,rfl⟩
 obtain⟨bS,jU⟩:∃bS,(w.alloc (.deferred (O []))).alloc (.loop (rec .ready bs))=bS:=⟨_,rfl⟩;have hs1:bS.heap.size=w.heap.size+2:=by rw[<-jU];simp
 have A9:bS.heap[w.heap.size+1]? =O (.loop (rec .ready bs)):=by
  rw[<-jU];have:=JC (w.alloc (.deferred (O []))) (.loop (rec .ready bs));rwa[du.size_alloc]at this
 have TB:bS.heap[w.heap.size]? =O (.deferred (O [])):=by
  rw[<-jU];exact(I' _ _ _ τ).trans (JC w _)
 have ht1:aX iU w bS:=by rw[<-jU];exact((aX.refl _ w).alloc _).alloc _
 have c9:Below w0.heap.size w0 bS:=by
  rw[<-jU];exact hb0.trans ((((qg _ w).alloc (aC _) _).alloc τ _).mono hb0.size)
 have hrun:=run_enterLoop_outer (P:=P) (w:=w) fn a.tmps ps assign body;refine⟨w.heap.size+1,[{target:= .collected w.heap.size,args:= #[]}],bS,{target:= .fn (.func gf) lb,args:= #[.func (.yield (w.heap.size+1)) #[] #[]]},bS,gf,
  #[.func (.yield (w.heap.size+1)) #[] #[]]++lb,bS,?_,?_,?_,?_,λh=>by simp[pI]at h,?_⟩
 .rw[<-jU,dh];exact hrun
 .simp only[WK,hg];simp[go_sem]
 .intro f' hf';trivial
 .simp[invoke,go_sem,eg]
 . -- the iterator's contract, where what the caller knows has the loop's own two blocks among those that turn
   refine(Dg (hseq (w.heap.size+1)
    (λpre O_q W=>(∀b,O_q b->iU b\/w.heap.size+2<=b)/\I_q pre (λb=>b=w.heap.size\/b=w.heap.size+1\/O_q b) W/\W.heap[w.heap.size+1]? =O (.loop (rec .ready bs))/\W.heap[w.heap.size]? =O (.deferred (O [])))
    bS c9 ?abides ?round ⟨λb hb=>.inl hb,hI _ _ _ _ _ h0 ht1 (λb hb=>by rcases hb with rfl |rfl |hb<;>first |(right;omega)|exact .inl hb),A9,TB⟩)).mono ?behind
   case abides=>
    rintro pre O_q O' A B ⟨hlo,hi,hl,hk⟩ ht dI;have hne:∀b,b=w.heap.size\/b=w.heap.size+1->¬O_q b:=λb hb e=>by rcases hlo b e with h|h<;>first |omega |(have:=ze b h;omega)
    have hlt:w.heap.size+1<A.heap.size:=(cy.1 hl).1;refine⟨λb hb=>?_,hI _ _ _ _ _ hi (ht.mono λb hb=>.inr (.inr hb)) (λb hb=>?_),(ht.block _ hlt (hne _ (.inr rfl))).trans hl,(ht.block _ ω (hne _ (.inl rfl))).trans hk⟩
    .rcases dI b hb with h|h
     .exact hlo b h
     .right;omega
    .rcases hb with rfl |rfl |hb
     .exact .inl (.inl rfl)
     .exact .inl (.inr (.inl rfl))
     .rcases dI b hb with h|h
      .exact .inl (.inr (.inr h))
      .exact .inr h
   case round=>
    rintro pre x O_q W ⟨hlo,hi,hl,hk⟩ hlo2 ki cA;have hne:∀b,b=w.heap.size\/b=w.heap.size+1->¬O_q b:=λb hb e=>by rcases hlo b e with h|h<;>first |omega |(have:=ze b h;omega)
    have hlt:w.heap.size+1<W.heap.size:=(cy.1 hl).1;have hy:=run_yield (P:=P) (args:= #[eJ x]) hl (by rw[dh];exact hps.symm);rw[dh]at hy;have AL:(ċ (w.heap.size+1)).run P W=.ok () (W.putObj (w.heap.size+1) (.loop (rec .busy bs))):=by
     have:=run_beginRound (P:=P) hl (by rw[dh]);rw[dh]at this ⊢;exact this
    refine⟨fn,_,assign,body,hy,roundIn_of_wpIn hfn (hassign _ x W _ ⟨_,AL,?_⟩)⟩;have iD:(W.putObj (w.heap.size+1) (.loop (rec .busy bs))).heap[w.heap.size+1]? =O (.loop (rec .busy bs)):=yP hlt;have hk2:(W.putObj (w.heap.size+1) (.loop (rec .busy bs))).heap[w.heap.size]? =O (.deferred (O [])):=(hV ω).trans hk;have ht2:aX (λb=>b=w.heap.size\/b=w.heap.size+1\/O_q b) W (W.putObj (w.heap.size+1) (.loop (rec .busy bs))):=(aX.refl _ W).putObj (.inr (.inl rfl)) _;have kF:=ht2.size;have hi2:=hI _ _ _ _ _ hi ht2 (λb hb=>.inl hb);have k6:∀b,O_q b->(W.putObj (w.heap.size+1) (.loop (rec .busy bs))).heap[b]? =W.heap[b]? :=λb hb=>hV λe=>hne b (.inr e) hb
    have hr2:∀b,R b->(W.putObj (w.heap.size+1) (.loop (rec .busy bs))).heap[b]? =W.heap[b]? :=λb hb=>hV (by have:=hR b hb;omega)
    have xN:nH K w.heap.size (λb=>b=w.heap.size\/b=w.heap.size+1\/O_q b) G x (W.putObj (w.heap.size+1) (.loop (rec .busy bs))):=by
     refine⟨vN (Df cA.own λb hb=>hV λe=>?_) ω,λb hb=>.inr (.inr (cA.Ej b hb)),cA.good⟩;have:=(cA.own.lt b hb.symm).1;omega
    have rM:∀b,O b=(eJ x).ownBlock->w.heap.size+2<=b:=λb hb=>by have:=(cA.own.lt b hb.symm).1;omega
    have hD:eA (λb=>b=w.heap.size\/b=w.heap.size+1\/O_q b) x w.heap.size:=⟨.inl rfl,λe=>by have:=rM _ e;omega⟩;have hL:eA (λb=>b=w.heap.size\/b=w.heap.size+1\/O_q b) x (w.heap.size+1):=⟨.inr (.inl rfl),λe=>by have:=rM _ e;omega⟩;have zf:∀b,eA O_q x b->eA (λb=>b=w.heap.size\/b=w.heap.size+1\/O_q b) x b:=λb hb=>⟨.inr (.inr hb.1),hb.2⟩
    refine zS (hbody _ pre x _ _ hi2 (λb hb=>?lo2) (λb hb=>?up2) xN) ?after
    case lo2=>
     rcases hb with rfl |rfl |hb
     .right;omega
     .right;omega
     .rcases hlo b hb with h|h
      .exact .inl h
      .right;omega
    case up2=>
     rcases hb with rfl |rfl |hb
     .omega
     .omega
     .have:=ki b hb;omega
    generalize W.putObj (w.heap.size+1) (.loop (rec .busy bs))=dr at*;rintro e a3 kj hp;cases e with
    |normal=>
     obtain⟨Ek,jr⟩:=hp;have tL:kj.heap[w.heap.size+1]? =O (.loop (rec .busy bs)):=(jr.block _ (cy.1 iD).1 (λh=>h (.inl hL))).trans iD;have zg:kj.heap[w.heap.size]? =O (.deferred (O [])):=(jr.block _ (cy.1 hk2).1 (λh=>h (.inl hD))).trans hk2;have hr:=run_endRound (P:=P) bs tL;rw[dh]at hr;have fY:aX (λb=>b=w.heap.size+1) kj (kj.putObj (w.heap.size+1) (.loop (rec .ready bs))):=(aX.refl (λb=>b=w.heap.size+1) kj).putObj (l:=w.heap.size+1) rfl _;refine⟨_,_,hr,rfl,⟨λb hb=>hlo b hb.1,hI _ _ _ _ _ Ek (by rw[dh]at fY;exact fY.mono λb hb=>hb ▸ hL) (λb hb=>.inl (by rcases hb with rfl |rfl |hb;exact hD;exact hL;exact zf b hb)),by rw[dh];exact yP (cy.1 tL).1,(hV ω).trans zg⟩,?_⟩;rw[dh]at fY;refine⟨fY.os.trans (jr.os.trans ht2.os),fY.tape.trans (jr.tape.trans ht2.tape),fY.output.trans (jr.output.trans ht2.output),cD ht2.size (cD jr.size fY.size),λb hb dI=>?_⟩;have hO:eA O_q x b\/R b:=G4 dI;rcases hO with hO|hO
     .exact(hV λe=>hne b (.inr e) hO.1).trans ((jr.block b ω λh=>h (.inl (zf b hO))).trans (k6 b hO.1))
     .exact(hV (by have:=hR b hO;omega)).trans ((jr.block b ω λh=>h (.inr hO)).trans (hr2 b hO))
    |ret=>exact hp.elim
    |exit id=>exact hp.elim
    |goto t=>exact hp.elim
    |panic ch=>exact hp.elim
    |outgrown=>exact hp.elim
   case behind=>
    rintro e dr ⟨⟨v,rfl⟩,xs,O_q,hS,hlo,hi,hl,hk⟩;have fY:aX (λb=>b=w.heap.size\/b=w.heap.size+1\/O_q b) dr (dr.putObj (w.heap.size+1) (.loop (rec .exhausted bs))):=(aX.refl _ dr).putObj (.inr (.inl rfl)) _;exact⟨bs,_,by have:=run_endLoop (P:=P) hl (by rw[dh];simp);rw[dh]at this ⊢;exact this,hdone _ xs _ _ ω (.inl rfl) hS (hI _ _ _ _ _ hi fY (λb hb=>.inl hb)) ((hV ω).trans hk)⟩
end
end Go.Proofs.YtdajfemhnlpegaaGreatDoor
namespace Go.Proofs.YtdajfemhnlpegaaGreatDoor
open Go.RowKit Go.Shelf Sv
section
attribute [local go_sem] Oper.semAt_some
def aAy(A:da wu)(n c:E)(w:du)(hn:n<=1000000)(hc:n<=c):
  DG Tryz.prog 155 #[.slice A n c] w λe w'=>e=.returned (.slice A n n)/\w=w':=by
 have h0:(0:N)<=(n:N):=by omega
 have h1:(n:N)<=(c:N):=by omega
 have h2:(n:N)<=(n:N):=by omega
 go_enter Tryz.func155,Tryz.ntmps155
 go_wp2_with fail
 go_ret
 exact⟨rfl,rfl⟩
end
section
attribute [local go_sem] Oper.semAt_some
def jO.turns{w w':du}{b n:E}{f:N->N}{T:E->Prop}(h:jO w b n f)(t:aX T w w')(o:¬T b):jO w' b n f:=by
 have m:=h.lt;obtain⟨c,⟨e,d,l,F,u,j⟩,g,h3⟩:=h;exact⟨c,⟨e,d,(t.block b m o).trans l,F,u,j⟩,g,h3⟩
def El:HT N:={et:=3,sz:=1,HD:=b9}
structure tM(R:E->Prop)(ei dB cc n cO mn kc:E)(ek:da wu)(kinds:I N)(left:N->N)(W:du):Prop where
 n:bH W ei 3 #[.int .i64 (n:N)]
 k:bH W dB 98 #[.slice ek kinds.length kc]
 l:bH W cc 86 #[.map (O cO)]
 m:jO W cO mn left
 r:∀j (h:j<kinds.length),∃kb off,ek=O ⟨kb,off,bs⟩/\R kb/\kb<W.heap.size/\W.cell? ⟨kb,off+j,bs⟩=O (.int .i64 kinds[j])
 rn:R ei
 rk:R dB
 rl:R cc
 rm:R cO
def tM.turns{R T:E->Prop}{ei dB f n e z o:E}{g:da wu}{u:I N}{left:N->N}{W d:du}(h:tM R ei dB f n e z o g u left W)(t:aX T W d)(c:∀b,R b->¬T b):tM R ei dB f n e z o g u left d:=by
 refine⟨t.blk h.n (c _ h.rn),t.blk h.k (c _ h.rk),t.blk h.l (c _ h.rl),h.m.turns t (c _ h.rm),λJ G=>?_,h.rn,h.rk,h.rl,h.rm⟩;obtain⟨m,L,A,j,l,h3⟩:=h.r J G;refine⟨m,L,A,j,iy l t.size,?_⟩;have C:=t.block m l (c _ j);rw[<-h3];simp only[Hf,C]
structure zh(ei dB cc B cP:E)(W:du):Prop where
 y:bH W B 189 #[.func (.yield cP) #[] #[]]
 h:bH W (B+1) 190 #[.func (.func 154) #[] #[.pointer (O ⟨ei,0,bs⟩),.pointer (O ⟨B,0,bs⟩),.pointer (O ⟨dB,0,bs⟩),.pointer (O ⟨cc,0,bs⟩),.pointer (O ⟨B+1,0,bs⟩)]]
def zh.turns{T:E->Prop}{ei dB d B cP:E}{W c:du}(h:zh ei dB d B cP W)(t:aX T W c)(e:¬T B)(f:¬T (B+1)):zh ei dB d B cP c:=⟨t.blk h.y e,t.blk h.h f⟩
def QP(J:I (b7 N)->(E->Prop)->du->Prop)(R e:E->Prop)(B:E)(pre:I (b7 N))(ps:I (I N))(W d:du):Prop:=
 ∃f c,f.map (λx:b7 N=>x.2.2)=ps/\J (pre++f) c d/\(∀b,e b->c b)/\(∀b,c b->B<=b)/\(∀b,c b->b<d.heap.size)/\aX (λb=>¬(e b\/R b)) W d
end
section
attribute [local go_sem] Oper.semAt_some
def noGoto_ret{Q:sC->Zq->du->Prop}{a:Zq}{w:du}(h:Q .ret a w):sC.noGoto Q .ret a w:=h
set_option maxHeartbeats 4000000
def adF(R:E->Prop)(G:I N->Prop)(B cP:E)(J:I (b7 N)->(E->Prop)->du->Prop):Prop:=
 ∀f x c d,J f c d->(∀b,c b->B<=b)->(∀b,c b->b<d.heap.size)->nH El B c G x d->
   YieldAt pI 0 Tryz.prog cP #[eJ x] d λg e=>g=.returned (.bool D)/\J (f++[x]) (eA c x) e/\aX (λb=>¬(eA c x b\/R b)) d e
def aAz{R iJ:E->Prop}{G:I N->Prop}{ei dB cc B cP n cO mn kc:E}{ek:da wu}{kinds:I N}{left:N->N}{J:I (b7 N)->(E->Prop)->du->Prop}
  (hY:adF R G B cP J) (hn:n<=1000) (ch:I N) (hch:ch.length=n) (bR:G ch) (O_q:E->Prop) (pre:I (b7 N)) (W:du) (js:da wu) (gc:E) (rX:E)
  (hS:tM R ei dB cc n cO mn kc ek kinds left W) (dI:zh ei dB cc B cP W) (hown:W.ownsRow B 3 1 (.slice js ch.length gc) ch.length (b9 ch)) (hin:∀b,O b=(Value.slice js ch.length gc).ownBlock->O_q b)
  (hlo:∀b,O_q b->B<=b) (hhi:∀b,O_q b->b<W.heap.size) (hK:∀b,iJ b->O_q b/\O b≠(Value.slice js ch.length gc).ownBlock) (hJ:J pre O_q W):
  GC pI 0 Tryz.prog 154 #[.int .i64 (rX:N),.slice js ch.length gc,.pointer (O ⟨ei,0,bs⟩),.pointer (O ⟨B,0,bs⟩),.pointer (O ⟨dB,0,bs⟩),.pointer (O ⟨cc,0,bs⟩),.pointer (O ⟨B+1,0,bs⟩)] W λe W'=>e=.returned (.bool D)/\QP J R iJ B pre [ch] W W':=by
 have x0:=hS.n.cell 0;have x1:=dI.y.cell 0;subst hch;have c9:((ch.length:N)==(ch.length:N))=D:=by simp
 have Md:=Lib.hid (⟨hK,hlo,hhi⟩:(∀b,iJ b->O_q b/\O b≠(Value.slice js ch.length gc).ownBlock)/\(∀b,O_q b->B<=b)/\(∀b,O_q b->b<W.heap.size));obtain⟨fn,tmps,assign,body,hy,hR⟩:=hY pre (js,gc,ch) O_q W hJ hlo hhi ⟨hown,hin,bR⟩;dsimp only[eJ]at hy;clear hS dI hown hin hK hJ hlo hhi hY bR;refine callsIn_of_wp Tryz.func154 rfl trivial ?_ rfl;simp only[Tryz.ntmps154,I.size_toArray,la,IJ,E.reduceAdd,E.reduceSub,UU,U0,I.push_toArray,I.append_toArray,ts,Aj]
 gi_wp2_with ((first |refine⟨rfl,?_⟩|skip);refine(adE hR).mono ?_;rintro e kj ⟨rfl,BM,zg⟩)
 all_goals (try gi_wp2)
 all_goals (try refine noGoto_ret ?_)
 all_goals (try go_ret)
 all_goals
  exact⟨rfl,[(js,gc,ch)],eA O_q (js,gc,ch),rfl,BM,λb hb=>Md.out.1 b hb,λb hb=>Md.out.2.1 b hb.1,λb hb=>iy (Md.out.2.2 b hb.1) zg.size,zg.mono λb h g=>h (g.imp (λg=>Md.out.1 b g) id)⟩
