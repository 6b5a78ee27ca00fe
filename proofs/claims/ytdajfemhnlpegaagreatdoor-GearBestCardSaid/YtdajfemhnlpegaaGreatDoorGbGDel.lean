import Derived.Test.YtdajfemhnlpegaaGreatDoorGbA12
open Array renaming toList->uU,replicate_succ->UU,replicate_zero->U0,getElem?_setIfInBounds->pp
open Bool renaming false->ao,true->D,true_and->py,eq_false_iff->wz,and_false->Ù,not_eq_true'->Gp,rec->jh
open ByteArray renaming mk->eQ
open Classical renaming propDecidable->KR
open Go renaming Exit->sC,World->du,FuncId->ya,Calls->DG,cell_of_row->Ì,Addr->wu,Builtin->na,Act->Zq,callsIn_wide->wQ
open Go.Act renaming eval->ç
open Go.Proofs.Tryz renaming prog->em
open Go.RowKit.Below renaming heap_setCell->YW
open Int renaming toNat->ea,tdiv->ej,gcd->fo,gcd_pos_of_ne_zero_right->sq,gcd_dvd_right->D8,ediv_nonneg->jN,ediv_le_self->vb,gcd_dvd_left->Tq,tdiv_eq_ediv_of_nonneg->ku,le_ediv_of_mul_le->Cm,natAbs_neg->P3,pow_zero->PK,pow_succ->hP,natCast_nonneg->lx,toNat_natCast->kh,natAbs_mul->Kc,mul_pos->G8,le_refl->vc,mul_comm->iN,mul_le_mul->tj
open List renaming toArray->qK,append_nil->mS,length_nil->IJ,all_eq_true->ky,drop_zero->iW,take_left'->z9,drop_drop->PM,drop_left'->R',take_succ_cons->uZ,drop_succ_cons->WY,eq_nil_of_length_eq_zero->ix,take_zero->GD,getElem_mem->ra,length_eq_one_iff->Jz,mem_map->rK,mem_singleton->kD,length_cons->la,cons_append->Aj,drop_eq_nil_of_le->pB,length->jC,nil_append->ts,getElem?_take->ly
open List.cons renaming inj->P9
open Nat renaming beq->dd,zero_le->gt
open Option renaming some->O,none->bs
open Prod renaming fst->ql,snd->rL
open Rat renaming divInt->gp,num_divInt_den->tb
open UInt8 renaming toNat->lK,toNat_inj->QL
open _root_ renaming Bool->dF,Int->N,UInt8->hN,decide->bP,Nat->E,if_pos->dA,if_neg->db,ByteArray->ft,List->I,Rat->qA,decide_eq_true_iff->vk,or_false->Xz,Array->fh,Option->da,cond->oi
set_option linter.defProp false
set_option linter.unusedSimpArgs false
set_option linter.unusedVariables false
set_option maxRecDepth 100000
set_option linter.unusedSectionVars false
namespace Go.Proofs.YtdajfemhnlpegaaGreatDoor
open Go.RowKit Sv Go.Proofs.Tryz
noncomputable section
def rS:=NO f200
def SK:=NO f132
def vB:=aA [F0,PB]
def PP:=aA [Pz,JP]
def lr(u:AT)(n:dF)(k:N):bD:={n:=54,sl:=[(5,sv u),(6,bv n),(7,iv k)],bF:=[],next:=64}
section
variable(s:AT)(Z:¬(s.size:N)>20)(Y:(s.size:N)>0)(h3:ea 0<s.size)
def auV(h4:¬(↑(lK (s.data.toList.getD (ea 0) (0:hN))):N)=45)(h5:s.size<=1000000000):
  cL vB (fl rS []) 8 54 [sv s] 94 .normal [] (lr s ao (bE (ak s))):=
 wy [az Z,aa (aK (ay Y)),ag h3,ag Y,yn h4,ag h5,av (fB.mpr h4)] 8072161649416478849
def auW(h4:(↑(lK (s.data.toList.getD (ea 0) (0:hN))):N)=45)(h5:ea 1<=s.size)(h6:(s.extract (ea 1) s.size).size<=1000000000)(h7:(s.extract (ea 1) s.size)=(s.extract 1 s.size))(h8:(↑(bE (s.extract (ea 1) s.size).data.toList):N)=(↑(bE (s.extract 1 s.size).data.toList):N)):
  cL vB (fl rS []) 8 54 [sv s] 126 .normal [] (lr (s.extract 1 s.size) D (bE (ak (s.extract 1 s.size)))):=
 wy [az Z,aa (aK (ay Y)),ag h3,ag Y,cT h4,ag h5,ag (by omega:s.size<=s.size),ag h6,av h7,av (gw.mpr h4),av h8] 215836358573926683810734209
end
section
variable(u:AT)(k:N)(Z:¬k>9)(Y:i6 ((u.size:N)-k))(h3:¬(u.size:N)-k>10)(h4:0<=k)(h5:k.toNat<=u.size)(h6:(bP ((u.extract 0 k.toNat).size<=17)&&cj (u.extract 0 k.toNat).data.toList)=D)
def auZ(h7:¬k<(u.size:N)):
  bw vB ((fl rS []).drop 8) (lr u ao k) 543 f200 D (.tuple [iv (bA (ak (u.extract 0 k.toNat))),iv 1,bv D]):=
 wy [aa (aL (ab Z)),yi Y,az Z,az h3,ag h4,ag h5,aa h6,az h7] 38302359651223005827137
def au0(h7:k<(u.size:N))(h8:i6 (k+1))(h9:0<=k+1)(h10:(k+1).toNat<=u.size)(h11:(bP ((u.extract (k+1).toNat u.size).size<=17)&&cj (u.extract (k+1).toNat u.size).data.toList)=D):
  bw vB ((fl rS []).drop 8) (lr u ao k) 671 f200 D (.tuple [iv (bA (ak (u.extract 0 k.toNat))),iv (bA (ak (u.extract (k+1).toNat u.size))),bv D]):=
 wy [aa (aL (ab Z)),yi Y,az Z,az h3,ag h4,ag h5,aa h6,ag h7,yi h8,ag h9,ag h10,ag (by omega:u.size<=u.size),aa h11] 66882382688987832236781586354241
def au1(h7:¬k<(u.size:N))(h8:i6 (0-bA (u.extract 0 k.toNat).data.toList)):
  bw vB ((fl rS []).drop 8) (lr u D k) 799 f200 D (.tuple [iv (0-bA (ak (u.extract 0 k.toNat))),iv 1,bv D]):=
 wy [aa (aL (ab Z)),yi Y,az Z,az h3,ag h4,ag h5,aa h6,az h7,yi h8] 174123620384157824163516481
def au2(h7:k<(u.size:N))(h8:i6 (k+1))(h9:0<=k+1)(h10:(k+1).toNat<=u.size)(h11:(bP ((u.extract (k+1).toNat u.size).size<=17)&&cj (u.extract (k+1).toNat u.size).data.toList)=D)(h12:i6 (0-bA (u.extract 0 k.toNat).data.toList)):
  bw vB ((fl rS []).drop 8) (lr u D k) 927 f200 D (.tuple [iv (0-bA (ak (u.extract 0 k.toNat))),iv (bA (ak (u.extract (k+1).toNat u.size))),bv D]):=
 wy [aa (aL (ab Z)),yi Y,az Z,az h3,ag h4,ag h5,aa h6,ag h7,yi h8,ag h9,ag h10,ag (by omega:u.size<=u.size),aa h11,yi h12] 290835506460639335029944576022679617
end
abbrev Eb(z:N):N:=if 0-z>z then 0-z else z
abbrev y5:AT:=⟨#[45]⟩
section
variable(n d:N)(Z:¬n< -4000000000000000000)(Y:¬n>4000000000000000000)(h3:¬d< -4000000000000000000)(h4:¬d>4000000000000000000)(h5:¬d<0)(h6:i6 (0-n))(h7:(bP ((0:aq.den (.int .i64))<=if 0-n>n then 0-n else n)&&bP ((0:aq.den (.int .i64))<=d))=D)(h8:(bG n d)≠0)(h9:i6 (ej n (bG n d)))(h10:i6 (ej d (bG n d)))(h11:ej n (bG n d)<0)(h12:i6 (0-ej n (bG n d)))(dR:(bP ((0:aq.den (.int .i64))<=if 0-ej n (bG n d)>ej n (bG n d)then 0-ej n (bG n d)else ej n (bG n d))&&(bP ((if 0-ej n (bG n d)>ej n (bG n d)then 0-ej n (bG n d)else ej n (bG n d))<=(9223372036854775807:aq.den (.int .i64)))&&bP (1<=(20:aq.den (.int .i64)))))=D)(gX:(eQ (#[(45:hN)])).size+(eQ (qK (cN 20 (if 0-ej n (bG n d)>ej n (bG n d)then 0-ej n (bG n d)else ej n (bG n d)) 1 []))).size<=9223372036854775807)
def au3(c:¬ej d (bG n d)>1)(e:((eQ (#[(45:hN)]))++(eQ (qK (cN 20 (if 0-ej n (bG n d)>ej n (bG n d)then 0-ej n (bG n d)else ej n (bG n d)) 1 []))))=((eQ (#[(45:hN)]))++(eQ (qK (cN 20 (if 0-ej n (bG n d)>ej n (bG n d)then 0-ej n (bG n d)else ej n (bG n d)) 1 []))))):
  bk PP (fl SK []) 30 61 [iv n,iv d] 10459 f132 D (sv (y5++mE (Eb (ej n (fo (Eb n) d))) 1)):=
 wy [aa (aL (ab Z)),az Z,aa (aL (ab Y)),az Y,aa (aL (ab h3)),az h3,az h4,az h5,yi h6,aa h7,ag h8,yi h9,yi h10,ag h11,yi h12,aa dR,ag gX,az c,av e] 105000044317847363205758449615782206513217
def au4(e:ej d (bG n d)>1)(f:((eQ (#[(45:hN)]))++(eQ (qK (cN 20 (if 0-ej n (bG n d)>ej n (bG n d)then 0-ej n (bG n d)else ej n (bG n d)) 1 [])))).size+(eQ (#[(47:hN)])).size<=9223372036854775807)(g:(bP ((0:aq.den (.int .i64))<=ej d (bG n d))&&(bP (ej d (bG n d)<=(9223372036854775807:aq.den (.int .i64)))&&bP (1<=(20:aq.den (.int .i64)))))=D)(h:((eQ (#[(45:hN)]))++(eQ (qK (cN 20 (if 0-ej n (bG n d)>ej n (bG n d)then 0-ej n (bG n d)else ej n (bG n d)) 1 [])))++(eQ (#[(47:hN)]))).size+(eQ (qK (cN 20 (ej d (bG n d)) 1 []))).size<=9223372036854775807)(c:((eQ (#[(45:hN)]))++(eQ (qK (cN 20 (if 0-ej n (bG n d)>ej n (bG n d)then 0-ej n (bG n d)else ej n (bG n d)) 1 [])))++(eQ (#[(47:hN)]))++(eQ (qK (cN 20 (ej d (bG n d)) 1 []))))=((eQ (#[(45:hN)]))++(eQ (qK (cN 20 (if 0-ej n (bG n d)>ej n (bG n d)then 0-ej n (bG n d)else ej n (bG n d)) 1 [])))++(eQ (#[(47:hN)]))++(eQ (qK (cN 20 (ej d (bG n d)) 1 []))))):
  bk PP (fl SK []) 30 61 [iv n,iv d] 14555 f132 D (sv (y5++mE (Eb (ej n (fo (Eb n) d))) 1++jQ++mE (ej d (fo (Eb n) d)) 1)):=
 wy [aa (aL (ab Z)),az Z,aa (aL (ab Y)),az Y,aa (aL (ab h3)),az h3,az h4,az h5,yi h6,aa h7,ag h8,yi h9,yi h10,ag h11,yi h12,aa dR,ag gX,ag e,ag f,aa g,ag h,av c] 31874838871619119136349477082024326987223146561
end
section
variable(s:AT)
def vC:E:=bE (ak (bW s))
def G6:N:=bA (ak ((bW s).extract 0 (vC s)))
def G7:N:=if vC s<(bW s).size then bA (ak ((bW s).extract (vC s+1) (bW s).size))else 1
def qB:dF:=bP (s.size<=20)&&(bP (vC s<=9)&&bP ((bW s).size-vC s<=10))
def kd:dF:=(bP (0<s.size)&&bP (s.size<=800000))&&(cj (ak ((bW s).extract 0 (vC s)))&&cj (ak ((bW s).extract (vC s+1) (bW s).size)))
def kP:N:=if qB s then bz (ck s) (G6 s)else 0
def hM:N:=if qB s then G7 s else 0
end
def abw:=IN 200 [.str] [.int .i64,.int .i64,.bool] D (λd=>kd d.1) λd=>(kP d.1,hM d.1,qB d.1,())
def SL:=IN 132 [.int .i64,.int .i64] [.str] D (λd=>(bP (-4000000000000000000<=d.1)&&bP (d.1<=4000000000000000000))&&(bP (0<d.2.1)&&bP (d.2.1<=4000000000000000000))) λd=>(aW (gp d.1 d.2.1),())
def abx:bI em (bJ vB):=dw (aV PC (aV Xx eH))
def aby:bI em (bJ PP):=dw (aV Xu (aV PE eH))
abbrev SM(a b:N)(c:dF):sC->au af->ai->Prop:=ew em D f200 (.tuple [iv a,iv b,bv c])
def au5(u:AT)(n:dF)(A:u.size<=20)(p:cj (ak (u.extract 0 (bE (ak u))))=D)(h2:cj (ak (u.extract (bE (ak u)+1) u.size))=D)(w:du)(F:Sv.Env):
  bp em w F 54 ((fl rS []).drop 8) (lr u n (bE (ak u))).T (lr u n (bE (ak u))).H (if bE (ak u)<=9/\u.size-bE (ak u)<=10 then SM (bz n (bA (ak (u.extract 0 (bE (ak u)))))) (if bE (ak u)<u.size then bA (ak (u.extract (bE (ak u)+1) u.size))else 1) D else SM 0 0 ao):=by
 have e:=abx;have f:bE (ak u)<=u.size:=by rw[eD];exact nd _
 generalize bE (ak u)=k at*;have h:(k:N).toNat=k:=by omega
 have m:((k:N)+1).toNat=k+1:=by omega
 have G:=mW u 0 k f;have H:=mW u (k+1) u.size (aC _);by_cases r:k<=9
 .by_cases q:u.size-k<=10
  .rw[dA ⟨r,q⟩];have g:(bP ((u.extract 0 k).size<=17)&&cj (ak (u.extract 0 k)))=D:=by rw[p,ay ω];rfl
   have o:(bP ((u.extract (k+1) u.size).size<=17)&&cj (ak (u.extract (k+1) u.size)))=D:=by rw[h2,ay ω];rfl
   have C:=xD p;have B:(10:N)^(u.extract 0 k).size<=10^9:=j5 δ ω;have z:(10:N)^9=1000000000:=rfl;by_cases t:k<u.size
   .rw[dA t];cases n with
    |false=>
     have c:=au0 u (k:N) ω ω ω ω;rw[h,m]at c;exact bM (s:=lr u ao k) e (c f g ω ω ω ω o)
    |true=>
     have c:=au2 u (k:N) ω ω ω ω;rw[h,m]at c;have c:=c f g ω ω ω ω o (by show-9223372036854775808<=0-bA (ak (u.extract 0 k))/\0-bA (ak (u.extract 0 k))<=9223372036854775807;omega);rw[N.zero_sub]at c;exact bM (s:=lr u D k) e c
   .rw[db t];cases n with
    |false=>
     have c:=auZ u (k:N) ω ω ω ω;rw[h]at c;exact bM (s:=lr u ao k) e (c f g ω)
    |true=>
     have c:=au1 u (k:N) ω ω ω ω;rw[h]at c;have c:=c f g ω (by show-9223372036854775808<=0-bA (ak (u.extract 0 k))/\0-bA (ak (u.extract 0 k))<=9223372036854775807;omega);rw[N.zero_sub]at c;exact bM (s:=lr u D k) e c
  .rw[db λl=>q l.2];exact bM (s:=lr u n k) e (wy [aa (aL (ab (ω:¬(k:N)>9))),yi (ω:i6 ((u.size:N)-(k:N))),az (ω:¬(k:N)>9),ag (ω:(u.size:N)-(k:N)>10)] 17799452037185:bw vB ((fl rS []).drop 8) (lr u n (k:N)) 223 f200 D (.tuple [iv 0,iv 0,bv ao]))
 .rw[db λl=>r l.1];exact bM (s:=lr u n k) e (wy [aa (aL (ay (ω:(k:N)>9))),ag (ω:(k:N)>9)] 2164527169:bw vB ((fl rS []).drop 8) (lr u n (k:N)) 224 f200 D (.tuple [iv 0,iv 0,bv ao]))
def au6(s:AT)(h:kd s=D):Holds em D 200 [sv s] (.tuple [iv (if qB s then bz (ck s) (G6 s)else 0),iv (if qB s then G7 s else 0),bv (qB s)]):=by
 have p:=abx;unfold kd at h;rw[ae,ae,ae,aN,aN]at h;obtain⟨⟨g,A⟩,r,h2⟩:=h;refine bK rS func200 λw F=>?_
 by_cases m:s.size<=20
 .have q:∀u n,bW s=u->ck s=n->u.size<=20->bp em w F 54 ((fl rS []).drop 8) (lr u n (bE (ak u))).T (lr u n (bE (ak u))).H (SM (if qB s then bz (ck s) (G6 s)else 0) (if qB s then G7 s else 0) (qB s)):=λu n c e z=>by
   unfold G6 G7 qB vC at*;rw[c]at r h2 ⊢;rw[e,ay m,py];have l:=au5 u n z r h2 w F;by_cases f:bE (ak u)<=9/\u.size-bE (ak u)<=10
   .rw[dA f]at l;rw[ay f.1,ay f.2];exact l
   .rw[db f]at l;have o:(bP (bE (ak u)<=9)&&bP (u.size-bE (ak u)<=10))=ao:=by
     rw[wz];intro h;rw[ae,aN,aN]at h;exact f h
    rw[o];exact l
  by_cases t:(cr s 0).toNat=45
  .have c:ck s=D:=by unfold ck;rw[ay g,ay t];rfl
   have e:bW s=s.extract 1 s.size:=by unfold bW;rw[c]
   have B:=mW s 1 s.size (aC _);refine cE p 8 (auW s ω ω (by show 0<s.size;exact g) (by show((cr s 0).toNat:N)=45;omega) (by show 1<=s.size;omega) (by show(s.extract 1 s.size).size<=_;omega) rfl rfl) ?_;exact q _ _ e c ω
  .have c:ck s=ao:=by unfold ck;rw[ay g,ab t];rfl
   have e:bW s=s:=by unfold bW;rw[c]
   refine cE p 8 (auV s ω ω (by show 0<s.size;exact g) (by show¬((cr s 0).toNat:N)=45;omega) ω) ?_;exact q _ _ e c m
 .have o:qB s=ao:=by unfold qB;rw[ab m];rfl
  rw[o];exact bt p 4 (wy [ag (ω:(s.size:N)>20)] 1:bk vB (fl rS []) 4 54 [sv s] 3 f200 D (.tuple [iv 0,iv 0,bv ao]))
def au7:abw.Ok em:=λ⟨s,_⟩ h=>au6 s h
def s0{n:dF}{x d g:N}(f:0<d)(m:0<=x)(h:(fo x d:N)=g):(aW (gp (bz n x) d)).data.toList=Lib.itoa (bz n (x/g))++(if d/g>1 then 47::Lib.itoa (d/g)else []):=by
 obtain⟨c,r2⟩:=abp (n:=n) (x:=x) f;rw[h]at c r2;have l:0<(gp (bz n x) d).den:=(gp (bz n x) d).den_pos;unfold aW;by_cases e:d/g>1
 .rw[db ω,dA e,c,r2]
 .rw[dA ω,db e,nv,c,mS]
def au8(n d:N)(c: -4000000000000000000<=n)(U:n<=4000000000000000000)(l:0<d)(M:d<=4000000000000000000):Holds em D 132 [iv n,iv d] (sv (aW (gp n d))):=by
 have P:0<fo n d:=sq _ ω;have Q:(fo n d:N)<=d:=N.le_of_dvd l (D8 ..);by_cases m:0<=n
 .have V:=aly n d m U l M;have e:yw (n/fo n d) (d/fo n d)=aW (gp n d):=kE (by
   have r:0<=n/(fo n d:N):=jN m ω;have F:n/(fo n d:N)<=n:=vb _ m;have o:0<=d/(fo n d:N):=jN ω ω;have G:d/(fo n d:N)<=d:=vb _ ω;have:=s0 (n:=ao) (x:=n) l m rfl;show cN 20 _ 1 []++_=_;have H:bz ao n=n:=rfl;rw[H]at this;rw[this,GP r ω,GP o ω];rfl)
  rw[<-e];exact V
 .obtain⟨x,rfl⟩:∃x,n= -x:=⟨-n,by omega⟩;have S:(if(0:N)- -x> -x then(0:N)- -x else-x)=x:=by rw[dA ω];omega
  have f:=au3 (-x) d;have g:=au4 (-x) d;have J:fo (-x) d=fo x d:=N.neg_gcd;unfold Eb at f g;simp only[bG,S]at f g;rw[J]at P Q;have c:(fo x d:N)<=x:=N.le_of_dvd ω (Tq ..);have t1:ej (-x) (fo x d:N)= -(x/(fo x d:N)):=by rw[N.neg_tdiv,ku ω]
  have t2:ej d (fo x d:N)=d/(fo x d:N):=ku ω;simp only[t1,t2]at f g;have r:1<=x/(fo x d:N):=Cm ω ω;have F:x/(fo x d:N)<=x:=vb _ ω;have o:0<=d/(fo x d:N):=jN ω ω;have G:d/(fo x d:N)<=d:=vb _ ω;have c:=s0 (n:=D) (x:=x) l ω rfl;have K:bz D x= -x:=rfl;have B:bz D (x/(fo x d:N))= -(x/(fo x d:N)):=rfl;rw[K,B]at c;have h:(1:N)<=(fo x d:N):=by omega
  generalize (fo x d:N)=t at*;generalize x/t=y at*;generalize d/t=z at*;have T:(if(0:N)- -y> -y then(0:N)- -y else-y)=y:=by rw[dA ω];omega
  simp only[T]at f g;have q:=GP (n:=y) ω ω;have L:=GP (n:=z) o ω;have A:Lib.itoa (-y)=45::Lib.itoa y:=by rw[itoa_neg ω,Bu ω,P3]
  rw[A]at c;have W:=mc 20 y 1 [];have X:=mc 20 z 1 [];have h:=JQ (cN 20 y 1 []);have h:=JQ (cN 20 z 1 []);simp only[IJ,bC]at W X;have p:(bP ((0:N)<=x)&&bP ((0:N)<=d))=D:=by rw[ay ω,ay ω];rfl
  have w:(bP ((0:N)<=y)&&(bP (y<=(9223372036854775807:N))&&bP ((1:N)<=20)))=D:=by rw[ay ω,ay ω];rfl
  have C:(bP ((0:N)<=z)&&(bP (z<=(9223372036854775807:N))&&bP ((1:N)<=20)))=D:=by rw[ay ω,ay ω];rfl
  refine bK SK func132 λh F=>?_
  by_cases h:z>1
  .rw[dA h]at c;have e:aW (gp (-x) d)=y5++mE y 1++jQ++mE z 1:=kE (by
    rw[c,nW,nW,nW];show _=[45]++cN 20 y 1 []++[47]++cN 20 z 1 [];rw[q,L];simp)
   rw[e];have l:(y5++mE y 1).size=1+(cN 20 y 1 []).length:=by rw[ft.size_append];rfl
   have m:(y5++mE y 1++jQ).size=1+(cN 20 y 1 []).length+1:=by rw[ft.size_append,l];rfl
   exact bt aby 30 (g ω ω ω ω ω ω p ω ω ω ω ω w (by show 1+(cN 20 y 1 []).length<=_;omega) h (by show(y5++mE y 1).size+1<=_;omega) C (by show(y5++mE y 1++jQ).size+(cN 20 z 1 []).length<=_;omega) trivial)
  .rw[db h,mS]at c;have e:aW (gp (-x) d)=y5++mE y 1:=kE (by
    rw[c,nW];show _=[45]++cN 20 y 1 [];rw[q];rfl)
   rw[e];exact bt aby 30 (f ω ω ω ω ω ω p ω ω ω ω ω w (by show 1+(cN 20 y 1 []).length<=_;omega) h trivial)
def abB:SL.Ok em:=λ⟨n,d,_⟩ h=>by
 have h:((bP (-4000000000000000000<=n)&&bP (n<=4000000000000000000))&&(bP (0<d)&&bP (d<=4000000000000000000)))=D:=h;rw[ae,ae,ae,aN,aN,aN,aN]at h;exact au8 n d h.1.1 h.1.2 h.2.1 h.2.2
def Lu:=NO Tryz.f131
def Lv:=NO Tryz.f135
def By:=pJ [aaZ,aa0] (aA [abw,SL,SG,abk,R3,Sy])
abbrev pX(s:AT):dF×I N:=mkR (ptN s)
abbrev lp(s:AT):dF×I N:=mkR (ptD s)
section
variable(a b:AT)(Z:(kd a)=D)(Y:(kd b)=D)
def avb(h3:(qB a)=D)(h4:(qB b)=D)(h5:i6 (kP a*kP b))(h6:i6 (hM a*hM b))(h7:(bP ((-4000000000000000000:aq.den (.int .i64))<=kP a*kP b)&&bP (kP a*kP b<=(4000000000000000000:aq.den (.int .i64)))&&(bP ((0:aq.den (.int .i64))<hM a*hM b)&&bP (hM a*hM b<=(4000000000000000000:aq.den (.int .i64)))))=D):
  bk By (fl Lu []) 30 (Tryz.f131.ntmps) [sv a,sv b] 15 Tryz.f131 D (sv (aW (gp (kP a*kP b) (hM a*hM b)))):=
 wy [aa Z,aa Y,aa (aK (h3)),aa h3,aa h4,yi h5,yi h6,aa h7] 35671935824001
def avc(h3:(qB a)=ao)(h4:(j9 a)=D)(h5:(j9 b)=D)(h6:(okZ (mkR (ptN a))&&okZ (mkR (ptN b)))=D)(h7:(okZ (mkR (ptD a))&&okZ (mkR (ptD b)))=D)(h8:(okZ (mkR (vZ (mkR (ptN a))*vZ (mkR (ptN b))))&&(okZ (mkR (vZ (mkR (ptD a))*vZ (mkR (ptD b))))&& !Nat.beq (mkR (vZ (mkR (ptD a))*vZ (mkR (ptD b)))).2.length 0))=D):
  bk By (fl Lu []) 30 (Tryz.f131.ntmps) [sv a,sv b] 8 Tryz.f131 D (sv (aW (gp (vZ (mkR (vZ (pX a)*vZ (pX b)))) (vZ (mkR (vZ (lp a)*vZ (lp b))))))):=
 wy [aa Z,aa Y,aa (aK (h3)),aa h3,aa h4,aa h5,aa (aI (v:=af.agg [af.raw (Value.bool (mkR (ptN a)).1),af.bh ao (.int .i64) (mkR (ptN a)).2])),aa (aI (v:=af.agg [af.raw (Value.bool (mkR (ptN b)).1),af.bh ao (.int .i64) (mkR (ptN b)).2])),aa h6,aa (aI (v:=af.agg [af.raw (Value.bool (mkR (ptD a)).1),af.bh ao (.int .i64) (mkR (ptD a)).2])),aa (aI (v:=af.agg [af.raw (Value.bool (mkR (ptD b)).1),af.bh ao (.int .i64) (mkR (ptD b)).2])),aa h7,aa h8] 16328711509674594756421759105
def ave(h3:(qB a)=D)(h4:(qB b)=D)(h5:i6 (kP a*hM b))(h6:i6 (kP b*hM a))(h7:i6 (kP a*hM b+kP b*hM a))(h8:i6 (hM a*hM b))(h9:(bP ((-4000000000000000000:aq.den (.int .i64))<=kP a*hM b+kP b*hM a)&&bP (kP a*hM b+kP b*hM a<=(4000000000000000000:aq.den (.int .i64)))&&(bP ((0:aq.den (.int .i64))<hM a*hM b)&&bP (hM a*hM b<=(4000000000000000000:aq.den (.int .i64)))))=D):
  bk By (fl Lv []) 30 (Tryz.f135.ntmps) [sv a,sv b] 15 Tryz.f135 D (sv (aW (gp (kP a*hM b+kP b*hM a) (hM a*hM b)))):=
 wy [aa Z,aa Y,aa (aK (h3)),aa h3,aa h4,yi h5,yi h6,yi h7,yi h8,aa h9] 182712931821039745
def avf(h3:(qB a)=ao)(h4:(j9 a)=D)(h5:(j9 b)=D)(h6:(okZ (mkR (ptN a))&&okZ (mkR (ptD b)))=D)(h7:(okZ (mkR (ptN b))&&okZ (mkR (ptD a)))=D)(h8:(okZ (mkR (vZ (mkR (ptN a))*vZ (mkR (ptD b))))&&okZ (mkR (vZ (mkR (ptN b))*vZ (mkR (ptD a)))))=D)(h9:(okZ (mkR (ptD a))&&okZ (mkR (ptD b)))=D)(h10:(okZ (mkR (vZ (mkR (vZ (mkR (ptN a))*vZ (mkR (ptD b))))+vZ (mkR (vZ (mkR (ptN b))*vZ (mkR (ptD a))))))&&(okZ (mkR (vZ (mkR (ptD a))*vZ (mkR (ptD b))))&& !Nat.beq (mkR (vZ (mkR (ptD a))*vZ (mkR (ptD b)))).2.length 0))=D):
  bk By (fl Lv []) 30 (Tryz.f135.ntmps) [sv a,sv b] 8 Tryz.f135 D (sv (aW (gp (vZ (mkR (vZ (mkR (vZ (pX a)*vZ (lp b)))+vZ (mkR (vZ (pX b)*vZ (lp a)))))) (vZ (mkR (vZ (lp a)*vZ (lp b))))))):=
 wy [aa Z,aa Y,aa (aK (h3)),aa h3,aa h4,aa h5,aa (aI (v:=af.agg [af.raw (Value.bool (mkR (ptN a)).1),af.bh ao (.int .i64) (mkR (ptN a)).2])),aa (aI (v:=af.agg [af.raw (Value.bool (mkR (ptD b)).1),af.bh ao (.int .i64) (mkR (ptD b)).2])),aa h6,aa (aI (v:=af.agg [af.raw (Value.bool (mkR (ptN b)).1),af.bh ao (.int .i64) (mkR (ptN b)).2])),aa (aI (v:=af.agg [af.raw (Value.bool (mkR (ptD a)).1),af.bh ao (.int .i64) (mkR (ptD a)).2])),aa h7,aa h8,aa h9,aa h10] 21723757664092254386358743102598938459181691009
def avg(h3:(qB a)=D)(h4:(qB b)=ao)(h5:(j9 a)=D)(h6:(j9 b)=D)(h7:(okZ (mkR (ptN a))&&okZ (mkR (ptD b)))=D)(h8:(okZ (mkR (ptN b))&&okZ (mkR (ptD a)))=D)(h9:(okZ (mkR (vZ (mkR (ptN a))*vZ (mkR (ptD b))))&&okZ (mkR (vZ (mkR (ptN b))*vZ (mkR (ptD a)))))=D)(h10:(okZ (mkR (ptD a))&&okZ (mkR (ptD b)))=D)(h11:(okZ (mkR (vZ (mkR (vZ (mkR (ptN a))*vZ (mkR (ptD b))))+vZ (mkR (vZ (mkR (ptN b))*vZ (mkR (ptD a))))))&&(okZ (mkR (vZ (mkR (ptD a))*vZ (mkR (ptD b))))&& !Nat.beq (mkR (vZ (mkR (ptD a))*vZ (mkR (ptD b)))).2.length 0))=D):
  bk By (fl Lv []) 30 (Tryz.f135.ntmps) [sv a,sv b] 11 Tryz.f135 D (sv (aW (gp (vZ (mkR (vZ (mkR (vZ (pX a)*vZ (lp b)))+vZ (mkR (vZ (pX b)*vZ (lp a)))))) (vZ (mkR (vZ (lp a)*vZ (lp b))))))):=
 wy [aa Z,aa Y,aa (aK (h3)),aa h3,aa h4,aa h5,aa h6,aa (aI (v:=af.agg [af.raw (Value.bool (mkR (ptN a)).1),af.bh ao (.int .i64) (mkR (ptN a)).2])),aa (aI (v:=af.agg [af.raw (Value.bool (mkR (ptD b)).1),af.bh ao (.int .i64) (mkR (ptD b)).2])),aa h7,aa (aI (v:=af.agg [af.raw (Value.bool (mkR (ptN b)).1),af.bh ao (.int .i64) (mkR (ptN b)).2])),aa (aI (v:=af.agg [af.raw (Value.bool (mkR (ptD a)).1),af.bh ao (.int .i64) (mkR (ptD a)).2])),aa h8,aa h9,aa h10,aa h11] 23173660082079261249656049484261917645415133313
end
--{
def xE(u:E):cj (Lib.decDigits u)=D:=by
 unfold cj;rw[ky];intro b e;obtain⟨c,h2⟩:=Dec.RO u b e;rw[ay c,ay h2];rfl
def Lw(u:E):bA (Lib.decDigits u)=(u:N):=by
 induction u using Nat.strongRecOn with
 |_ u c=>
  by_cases h:u<10
  .rw[vq h,PI,Dec.DV u h];show(((48+u:E):N)-48)*10^0+0=_;rw[PK];omega
  .rw[Bn h,SB,c _ ω,PI,Dec.DV _ ω];show((u/10:E):N)*10^1+((((48+u%10:E):N)-48)*10^0+0)=_;rw[PK,hP,PK];omega
def SN(u:E):Lib.decDigits u≠[]:=λe=>by
 have:=Dec.aah u;rw[e]at this;cases this
def Lx{u k:E}(h:(u:N)<1000000000^k):(Lib.decDigits u).length<=9*k+1:=by
 have:=Sz (jk (lx u)).1;rw[(jk (lx u)).2.2,kh]at this;have h2:=Ln (lx u) h;omega
def abC{u:E}(h:(Lib.decDigits u).length<=9):(u:N)<1000000000:=by
 have c:=Da (s:=⟨(Lib.decDigits u).toArray⟩) (by rw[show ak ⟨(Lib.decDigits u).toArray⟩=Lib.decDigits u from rfl];exact xE u) (Lib.decDigits u).length (aC _);rw[show ak ⟨(Lib.decDigits u).toArray⟩=Lib.decDigits u from rfl,dx,Lw]at c;have h2:(10:N)^(Lib.decDigits u).length<=10^9:=j5 δ h;have:(10:N)^9=1000000000:=rfl;omega
def SP{L R:I hN}(c:L≠[])(e:cj L=D):L++R≠[]/\((L++R).getD 0 0).toNat≠45:=by
 cases L with
 |nil=>exact absurd rfl c
 |cons b l=>
  rw[Db,ae,ae,aN,aN]at e;refine⟨by simp,?_⟩;show b.toNat≠45;omega
def abD{s:AT}{neg:dF}{M:I hN}(h:M≠[]/\(M.getD 0 0).toNat≠45)(c:ak s=if neg then 45::M else M):ck s=neg/\ak (bW s)=M/\0<s.size:=by
 have l:0<M.length:=I.length_pos_iff.2 h.1;cases neg with
 |true=>
  have c:ak s=45::M:=c;have g:s.size=M.length+1:=by rw[eD,c];rfl
  have f:(cr s 0).toNat=45:=by show((ak s).getD 0 0).toNat=45;rw[c];rfl
  have e:ck s=D:=by unfold ck;rw[ay ω,ay f];rfl
  refine⟨e,?_,by omega⟩;unfold bW;rw[e];show ak (s.extract 1 s.size)=M;rw[fw,c,g,eG τ];rfl
 |false=>
  have c:ak s=M:=c;have g:s.size=M.length:=by rw[eD,c]
  have f:¬(cr s 0).toNat=45:=by show¬((ak s).getD 0 0).toNat=45;rw[c];exact h.2
  have e:ck s=ao:=by unfold ck;rw[ab f,Ù]
  refine⟨e,?_,by omega⟩;unfold bW;rw[e];exact c
def avh{neg:dF}{M:I hN}:bE (if neg then 45::M else M)=bE M+(if neg then 1 else 0):=by
 cases neg with
 |true=>
  show(if(45:hN).toNat=47 then 0 else bE M+1)=bE M+1;rw[db δ]
 |false=>rfl
def nn(n:N):Lib.itoa n=if bP (n<0)then 45::Lib.decDigits n.natAbs else Lib.decDigits n.natAbs:=by
 by_cases h:n<0
 .rw[itoa_neg h,ay h];rfl
 .rw[Bu h,ab h];rfl
def abE{s:AT}{n:N}(h:ak s=Lib.itoa n):nw s=n/\cj (ak (bW s))=D:=by
 have c:=SP (R:=[]) (SN n.natAbs) (xE n.natAbs);rw[mS]at c;obtain⟨f,h2,h3⟩:=abD (neg:=bP (n<0)) c (by rw[h];exact nn n);unfold nw;rw[f,h2,Lw];refine⟨?_,xE _⟩;by_cases e:n<0
 .rw[ay e];show-(n.natAbs:N)=n;omega
 .rw[ab e];show(n.natAbs:N)=n;omega
def pY(k:E)(r:qA):Prop:=(r.num.natAbs:N)<1000000000^k/\(r.den:N)<1000000000^k
structure abF(s:AT)(r:qA):Prop where
 kr:kd s=D
 pt:j9 s=D
 n:ptN s=r.num
 d:ptD s=r.den
 q:qB s=D->kP s=r.num/\hM s=r.den/\(r.num.natAbs:N)<1000000000/\(r.den:N)<1000000000
def G9{r:qA}{k:E}(a3:k<=10000)(h:pY k r):abF (aW r) r:=by
 obtain⟨S,Q⟩:=h;have a2:0<r.den:=r.den_pos;obtain⟨T,f⟩:∃T:I hN,T=if r.den=1 then []else 47::Lib.decDigits r.den:=⟨_,rfl⟩
 have U:=SP (R:=T) (SN r.num.natAbs) (xE r.num.natAbs);have g:ak (aW r)=if bP (r.num<0)then 45::(Lib.decDigits r.num.natAbs++T)else Lib.decDigits r.num.natAbs++T:=by
  have L:ak (aW r)=Lib.itoa r.num++T:=by
   rw[f];unfold aW;by_cases c:r.den=1
   .rw[dA c,dA c,mS];exact nv _
   .rw[db c,db c,<-Dec.xp]
  rw[L,nn];by_cases e:r.num<0
  .rw[ay e];rfl
  .rw[ab e];rfl
 obtain⟨W,o,X⟩:=abD U g;have a0:=Lx S;have a':=Lx Q;have a1:T.length<=9*k+2:=by rw[f];split<;>simp;omega
 have w:bE (Lib.decDigits r.num.natAbs++T)=(Lib.decDigits r.num.natAbs).length:=by
  rw[f];split
  .rw[mS];exact XB _ (xE _)
  .exact XC _ _ (xE _)
 have q:(aW r).size=(if bP (r.num<0)then 1 else 0)+((Lib.decDigits r.num.natAbs).length+T.length):=by
  rw[eD,g];by_cases e:r.num<0
  .rw[ay e];simp;omega
  .rw[ab e];simp
 have z:(aW r).size<=800000:=by rw[q];split<;>omega
 -- the text without its sign
 have t:(bW (aW r)).size=(Lib.decDigits r.num.natAbs).length+T.length:=by rw[eD,o,fQ]
 have p:vC (aW r)=(Lib.decDigits r.num.natAbs).length:=by unfold vC;rw[o,w]
 have C:ak ((bW (aW r)).extract 0 (Lib.decDigits r.num.natAbs).length)=Lib.decDigits r.num.natAbs:=by rw[fw,o,iW,z9];rfl
 have F:ak ((bW (aW r)).extract ((Lib.decDigits r.num.natAbs).length+1) (bW (aW r)).size)=T.drop 1:=by
  rw[fw,o,t,<-fQ,dx,<-PM,R'];rfl
 have H:cj (T.drop 1)=D:=by
  rw[f];split
  .rfl
  .exact xE _
 have J:kd (aW r)=D:=by
  unfold kd;rw[p,C,F,H,xE,ay X,ay z];rfl
 -- the text with its sign
 have m:bE (ak (aW r))=(if bP (r.num<0)then 1 else 0)+(Lib.decDigits r.num.natAbs).length:=by
  rw[g,avh,w];omega
 have y1:ak ((aW r).extract 0 (bE (ak (aW r))))=Lib.itoa r.num:=by
  rw[fw,iW,m,g,nn];by_cases e:r.num<0
  .rw[ay e];show I.take (1+_) (45::_)=45::_;rw[E.add_comm,uZ,z9];rfl
  .rw[ab e];show I.take (0+_) (Lib.decDigits r.num.natAbs++T)=Lib.decDigits r.num.natAbs;rw[bC,z9];rfl
 have G:ak ((aW r).extract (bE (ak (aW r))+1) (aW r).size)=T.drop 1:=by
  have K:(aW r).size=(ak (aW r)).length:=eD _;rw[fw,m,K,dx,g];by_cases e:r.num<0
  .rw[ay e];show I.drop (1+_+1) (45::_)=_;rw[E.add_right_comm,E.add_comm 1,E.add_assoc,E.add_comm,WY,E.add_comm,<-PM,R'];rfl
  .rw[ab e];show I.drop (0+_+1) (Lib.decDigits r.num.natAbs++T)=_;rw[bC,<-PM,R'];rfl
 obtain⟨v1,v2⟩:=abE y1;have B:r.den≠1->nw ((aW r).extract (bE (ak (aW r))+1) (aW r).size)=r.den/\cj (ak (bW ((aW r).extract (bE (ak (aW r))+1) (aW r).size)))=D:=λc=>abE (n:=(r.den:N)) (by rw[G,f,db c,Dec.xp];rfl)
 have P:cj (ak (bW ((aW r).extract (bE (ak (aW r))+1) (aW r).size)))=D:=by
  by_cases c:r.den=1
  .have A:ak ((aW r).extract (bE (ak (aW r))+1) (aW r).size)=[]:=by rw[G,f,dA c];rfl
   have M:ck ((aW r).extract (bE (ak (aW r))+1) (aW r).size)=ao:=by
    unfold ck;rw[ab (by rw[eD,A];decide)];rfl
   unfold bW;rw[M];show cj (ak _)=D;rw[A];rfl
  .exact(B c).2
 refine⟨J,?_,v1,?_,λl=>?_⟩
 .unfold j9;rw[ay z,v2,P];rfl
 .unfold ptD;by_cases c:r.den=1
  .rw[db (by rw[m,q,f,dA c];simp),c];rfl
  .rw[dA (by rw[m,q,f,db c];simp)];exact(B c).1
 .have V:=l;unfold qB at l;rw[p,t,ae,ae,aN,aN,aN]at l;unfold kP hM G6 G7;rw[V,p,W,C,F,t,Lw];refine⟨?_,?_,abC l.2.1,?_⟩
  .show bz _ _=_;by_cases e:r.num<0
   .rw[ay e];show-(r.num.natAbs:N)=_;omega
   .rw[ab e];show(r.num.natAbs:N)=_;omega
  .rw[dA rfl];by_cases c:r.den=1
   .rw[db (by rw[f,dA c];simp),c];rfl
   .rw[dA (by rw[f,db c];simp),f,db c];exact Lw _
  .by_cases c:r.den=1
   .omega
   .refine abC ?_;have h3:=l.2.2;rw[f,db c]at h3;simp at h3;omega
--}
def Bz(s:AT):Prop:=∃(r:qA)(k:E),s=aW r/\k<=10000/\pY k r
noncomputable def dz(s:AT):dF:= @bP (Bz s) (KR _)
def toQ(s:AT):qA:=gp (ptN s) (ptD s)
def abH:=IN 131 [.str,.str] [.str] D (λd=>dz d.1&&dz d.2.1) λd=>(aW (toQ d.1*toQ d.2.1),())
def abI:=IN 135 [.str,.str] [.str] D (λd=>dz d.1&&dz d.2.1) λd=>(aW (toQ d.1+toQ d.2.1),())
--{
def BA{s:AT}:dz s=D↔Bz s:= @vk _ (KR _)
def wt{s:AT}{r:qA}(F:abF s r):toQ s=r:=by
 unfold toQ;rw[F.n,F.d];exact tb r
def Ec{r:qA}{k:E}(c:k<=10000)(h:pY k r):dz (aW r)=D:=BA.2 ⟨r,k,rfl,c,h⟩
def io{r:qA}{k:E}(c:k<=10000)(h:pY k r):toQ (aW r)=r:=wt (G9 c h)
def Ed:bI em (bJ By):=uE (λe c=>by
 simp only[cQ,iL,Xz]at c;rcases c with rfl |rfl
 .exact aug
 .exact auh) (dw λe c=>by
 simp only[cQ,iL,Xz]at c;rcases c with rfl |rfl |rfl |rfl |rfl |rfl
 .exact au7
 .exact abB
 .exact abo
 .exact auU
 .exact aaD
 .exact abc)
def dN{a b:dF}(h:a=D)(g:b=D):(a&&b)=D:=by rw[h,g];rfl
section
variable{x y:N}{i j:E}(Z:(x.natAbs:N)<1000000000^i)(Y:(y.natAbs:N)<1000000000^j)
def BB:((x*y).natAbs:N)<1000000000^(i+j):=by
 rw[Kc,N.natCast_mul];exact Ix (lx _) (lx _) Z Y
def avk:((x+y).natAbs:N)<1000000000^(max i j+1):=by
 have:=add_lt Z Y;have h2:(x+y).natAbs<=x.natAbs+y.natAbs:=N.natAbs_add_le x y;omega
end
def He{x y:N}(e:(x.natAbs:N)<1000000000)(f:(y.natAbs:N)<1000000000): -1000000000000000000<=x*y/\x*y<=1000000000000000000:=by
 have c:x.natAbs*y.natAbs<=999999999*999999999:=E.mul_le_mul ω ω;have h2:(x*y).natAbs=x.natAbs*y.natAbs:=Kc x y;rw[<-h2]at c;omega
def abJ{z:N}(h:z≠0):(!(dd (mkR z).2.length 0))=D:=by
 rw[Gp];cases c:dd (mkR z).2.length 0 with
 |false=>rfl
 |true=>
  have e:aJ (z.natAbs:N)=[]:=ix (ac c);have:=(La (lx _)).1 e;omega
def np(d:E):((d:N).natAbs:N)=(d:N):=by omega
attribute [local irreducible] mkR vZ okZ aW j9 kd qB ptN ptD okA
def avl(a b:AT)(M:Bz a)(P:Bz b):Holds em D 131 [sv a,sv b] (sv (aW (toQ a*toQ b))):=by
 obtain⟨r,i,rfl,Q,w⟩:=M;obtain⟨s,j,rfl,S,z⟩:=P;have F:=G9 Q w;have G:=G9 S z;obtain⟨B,r2⟩:=w;obtain⟨C,s2⟩:=z;rw[wt F,wt G];have W:0<r.den:=r.den_pos;have T:0<s.den:=s.den_pos;have L:0<(r.den:N)*(s.den:N):=G8 ω ω;have t:r*s=gp (r.num*s.num) (r.den*s.den):=by rw[<-qA.divInt_mul_divInt,tb,tb]
 have h:okZ (mkR (ptN (aW r)))=D:=by rw[F.n];exact mD B ω
 have l:okZ (mkR (ptN (aW s)))=D:=by rw[G.n];exact mD C ω
 have f:okZ (mkR (ptD (aW r)))=D:=by rw[F.d];exact mD (k:=i) (by rw[np];exact r2) ω
 have g:okZ (mkR (ptD (aW s)))=D:=by rw[G.d];exact mD (k:=j) (by rw[np];exact s2) ω
 have m:okZ (mkR (vZ (mkR (ptN (aW r)))*vZ (mkR (ptN (aW s)))))=D:=by rw[eR,eR,F.n,G.n];exact mD (BB B C) ω
 have o:okZ (mkR (vZ (mkR (ptD (aW r)))*vZ (mkR (ptD (aW s)))))=D:=by rw[eR,eR,F.d,G.d];exact mD (BB (i:=i) (j:=j) (by rw[np];exact r2) (by rw[np];exact s2)) ω
 have p:(!(dd (mkR (vZ (mkR (ptD (aW r)))*vZ (mkR (ptD (aW s))))).2.length 0))=D:=by rw[eR,eR,F.d,G.d];exact abJ ω
 have q:gp (vZ (mkR (vZ (pX (aW r))*vZ (pX (aW s))))) (vZ (mkR (vZ (lp (aW r))*vZ (lp (aW s)))))=r*s:=by
  unfold pX lp;rw[eR,eR,eR,eR,eR,eR,F.n,F.d,G.n,G.d,t]
 refine bK Lu func131 λc U=>?_
 cases c:qB (aW r)with
 |false=>
  rw[<-q];exact bt Ed 30 (avc (aW r) (aW s) F.kr G.kr c F.pt G.pt (dN h l) (dN f g) (dN m (dN o p)))
 |true=>
  cases e:qB (aW s)with
  |false=>
   rw[<-q];exact bt Ed 30 (wy [aa (F.kr:(kd (aW r))=D),aa (G.kr:(kd (aW s))=D),aa (aK (c)),aa c,aa e,aa (F.pt:(j9 (aW r))=D),aa (G.pt:(j9 (aW s))=D),aa (aI (v:=af.agg [af.raw (Value.bool (mkR (ptN (aW r))).1),af.bh ao (.int .i64) (mkR (ptN (aW r))).2])),aa (aI (v:=af.agg [af.raw (Value.bool (mkR (ptN (aW s))).1),af.bh ao (.int .i64) (mkR (ptN (aW s))).2])),aa (dN h l:(okZ (mkR (ptN (aW r)))&&okZ (mkR (ptN (aW s))))=D),aa (aI (v:=af.agg [af.raw (Value.bool (mkR (ptD (aW r))).1),af.bh ao (.int .i64) (mkR (ptD (aW r))).2])),aa (aI (v:=af.agg [af.raw (Value.bool (mkR (ptD (aW s))).1),af.bh ao (.int .i64) (mkR (ptD (aW s))).2])),aa (dN f g:(okZ (mkR (ptD (aW r)))&&okZ (mkR (ptD (aW s))))=D),aa (dN m (dN o p):(okZ (mkR (vZ (mkR (ptN (aW r)))*vZ (mkR (ptN (aW s)))))&&(okZ (mkR (vZ (mkR (ptD (aW r)))*vZ (mkR (ptD (aW s)))))&& !Nat.beq (mkR (vZ (mkR (ptD (aW r)))*vZ (mkR (ptD (aW s))))).2.length 0))=D)] 17586301390853393765909934209:bk By (fl Lu []) 30 (Tryz.f131.ntmps) [sv (aW r),sv (aW s)] 11 Tryz.f131 D (sv (aW (gp (vZ (mkR (vZ (pX (aW r))*vZ (pX (aW s))))) (vZ (mkR (vZ (lp (aW r))*vZ (lp (aW s)))))))))
  |true=>
   obtain⟨f1,f2,f3,f4⟩:=F.q c;obtain⟨H,J,K,V⟩:=G.q e;have X:=He f3 K;have f:=He (x:=r.den) (y:=s.den) ω ω;have A:=avb (aW r) (aW s) F.kr G.kr c e;rw[f1,f2,H,J,<-t]at A;exact bt Ed 30 (A ω ω (dN (dN (ay (show(-4000000000000000000:N)<=r.num*s.num by omega)) (ay (show r.num*s.num<=(4000000000000000000:N) by omega))) (dN (ay L) (ay (show(r.den:N)*(s.den:N)<=(4000000000000000000:N) by omega)))))
def avo:abH.Ok em:=λ⟨a,b,_⟩ h=>by
 have h:(dz a&&dz b)=D:=h;rw[ae]at h;exact avl a b (BA.1 h.1) (BA.1 h.2)
def avp(a b:AT)(T:Bz a)(U:Bz b):Holds em D 135 [sv a,sv b] (sv (aW (toQ a+toQ b))):=by
 obtain⟨r,i,rfl,V,J⟩:=T;obtain⟨s,j,rfl,W,K⟩:=U;have F:=G9 V J;have G:=G9 W K;obtain⟨m,r2⟩:=J;obtain⟨o,s2⟩:=K;rw[wt F,wt G];have c:0<r.den:=r.den_pos;have X:0<s.den:=s.den_pos;have S:0<(r.den:N)*(s.den:N):=G8 ω ω;have f:((r.den:N).natAbs:N)<1000000000^i:=by rw[np];exact r2
 have g:((s.den:N).natAbs:N)<1000000000^j:=by rw[np];exact s2
 have C:r+s=gp (r.num*s.den+s.num*r.den) (r.den*s.den):=by rw[<-qA.divInt_add_divInt _ _ ω ω,tb,tb]
 have p:okZ (mkR (ptN (aW r)))=D:=by rw[F.n];exact mD m ω
 have q:okZ (mkR (ptN (aW s)))=D:=by rw[G.n];exact mD o ω
 have c:okZ (mkR (ptD (aW r)))=D:=by rw[F.d];exact mD f ω
 have e:okZ (mkR (ptD (aW s)))=D:=by rw[G.d];exact mD g ω
 have A:okZ (mkR (vZ (mkR (ptN (aW r)))*vZ (mkR (ptD (aW s)))))=D:=by rw[eR,eR,F.n,G.d];exact mD (BB m g) ω
 have H:okZ (mkR (vZ (mkR (ptN (aW s)))*vZ (mkR (ptD (aW r)))))=D:=by rw[eR,eR,G.n,F.d];exact mD (BB o f) ω
 have t:okZ (mkR (vZ (mkR (vZ (mkR (ptN (aW r)))*vZ (mkR (ptD (aW s)))))+vZ (mkR (vZ (mkR (ptN (aW s)))*vZ (mkR (ptD (aW r)))))))=D:=by
  rw[eR,eR,eR,eR,eR,eR,F.n,G.d,G.n,F.d];exact mD (avk (BB m g) (BB o f)) ω
 have w:okZ (mkR (vZ (mkR (ptD (aW r)))*vZ (mkR (ptD (aW s)))))=D:=by rw[eR,eR,F.d,G.d];exact mD (BB f g) ω
 have z:(!(dd (mkR (vZ (mkR (ptD (aW r)))*vZ (mkR (ptD (aW s))))).2.length 0))=D:=by rw[eR,eR,F.d,G.d];exact abJ ω
 have B:gp (vZ (mkR (vZ (mkR (vZ (pX (aW r))*vZ (lp (aW s))))+vZ (mkR (vZ (pX (aW s))*vZ (lp (aW r))))))) (vZ (mkR (vZ (lp (aW r))*vZ (lp (aW s)))))=r+s:=by
  unfold pX lp;rw[eR,eR,eR,eR,eR,eR,eR,eR,F.n,F.d,G.n,G.d,C]
 refine bK Lv func135 λg f=>?_
 cases h:qB (aW r)with
 |false=>
  rw[<-B];exact bt Ed 30 (avf (aW r) (aW s) F.kr G.kr h F.pt G.pt (dN p e) (dN q c) (dN A H) (dN c e) (dN t (dN w z)))
 |true=>
  cases l:qB (aW s)with
  |false=>
   rw[<-B];exact bt Ed 30 (avg (aW r) (aW s) F.kr G.kr h l F.pt G.pt (dN p e) (dN q c) (dN A H) (dN c e) (dN t (dN w z)))
  |true=>
   obtain⟨f1,f2,f3,f4⟩:=F.q h;obtain⟨M,P,Q,c⟩:=G.q l;have c:=He (y:=(s.den:N)) f3 ω;have c:=He (y:=(r.den:N)) Q ω;have c:=He (x:=r.den) (y:=s.den) ω ω;have L:=ave (aW r) (aW s) F.kr G.kr h l;rw[f1,f2,M,P,<-C]at L;exact bt Ed 30 (L ω ω ω ω (dN (dN (ay (show(-4000000000000000000:N)<=r.num*(s.den:N)+s.num*(r.den:N) by omega)) (ay (show r.num*(s.den:N)+s.num*(r.den:N)<=(4000000000000000000:N) by omega))) (dN (ay S) (ay (show(r.den:N)*(s.den:N)<=(4000000000000000000:N) by omega)))))
def avq:abI.Ok em:=λ⟨a,b,_⟩ h=>by
 have h:(dz a&&dz b)=D:=h;rw[ae]at h;exact avp a b (BA.1 h.1) (BA.1 h.2)
--}
end
noncomputable section
def xG:=NO f119
def Hl:=NO f63
def pZ(s:AT)(k:E):bD:={n:=20,sl:=[(0,sv s),(3,iv k)],bF:=[],next:=64}
abbrev Ho:I E:=[1,0,1,0,0]
section
variable(s:AT)(k:E)(Z:(k:N)<(s.size:N))(Y:k<s.size)
def avs(h3:(↑(lK (s.data.toList.getD k (0:hN))):N)<48):
  bw (aA []) (fl xG Ho) (pZ s k) 225 f119 D (bv ao):=
 wy [ag Z,ag Y,aa (aL (ay h3)),ag h3] 17801616826369
def avt(h3:¬(↑(lK (s.data.toList.getD k (0:hN))):N)<48)(h4:(↑(lK (s.data.toList.getD k (0:hN))):N)>57):
  bw (aA []) (fl xG Ho) (pZ s k) 223 f119 D (bv ao):=
 wy [ag Z,ag Y,aa (aL (ab h3)),az h3,ag h4] 5837518341367668737
def avu(h3:¬(↑(lK (s.data.toList.getD k (0:hN))):N)<48)(h4:¬(↑(lK (s.data.toList.getD k (0:hN))):N)>57)(h5:i6 ((k:N)+1)):
  aR (aA []) (fl xG Ho) (pZ s k) 159 .normal [] (pZ s (k+1)):=
 wy [ag Z,ag Y,aa (aL (ab h3)),az h3,az h4,yi h5] 448559376110396907521
end
def abL:=IN 119 [.str] [.bool] D (λd=>decide (d.1.size<=1000000000)) λd=>(cj (ak d.1),())
def Hp:=aA [abL]
def avy(s:AT)(c:¬(s.size:N)=0)(h2:(s.size:N)>1)(h3:ea 0<s.size)(h4:(↑(lK (s.data.toList.getD (ea 0) (0:hN))):N)=48):
  bk Hp (fl Hl []) 9 18 [sv s] 3583 f63 D (bv ao):=
 wy [aa (aL (fB.mpr c)),aa (aK (ay h2)),ag h3,ag h2,yn c,cT h4] 28707764055255273443393
def cU(s:AT):dF:=bP (0<s.size)&&((bP (s.size<=1)|| !(bP ((cr s 0).toNat=48)))&&cj (ak s))
def abM:=IN 63 [.str] [.bool] D (λd=>decide (d.1.size<=1000000000)) λd=>(cU d.1,())
def avB(s:AT)(q:s.size<=1000000000):Holds em D 119 [sv s] (bv (cj (ak s))):=by
 have c:=ba;have r:=eD s;refine bK xG func119 λw F=>?_
 refine cE c 2 (wy [] 0:cL (aA []) (fl xG []) 2 20 [sv s] 1 .normal [] (pZ s 0)) ?_;refine c_q {k:E//k<=s.size/\cj ((ak s).take k)=D} 0 (cat xG Ho) ((fl xG []).drop 3) (λk=>pZ s k.1) (λk=>s.size-k.1) ⟨0,gt _,by rw[GD];rfl⟩ ?_;rintro⟨k,p,f⟩;by_cases e:k<s.size
 .have l:cr s k∈ak s:=by rw[AK ω];exact ra _
  have g:¬(48<=(cr s k).toNat/\(cr s k).toNat<=57)->cj (ak s)=ao:=λm=>by
   rw[wz];intro h;have:=ky.1 h _ l;rw[ae,aN,aN]at this;exact m this
  by_cases o:(cr s k).toNat<48
  .rw[g ω];exact bM (s:=pZ s k) c (avs s k ω e (by show((cr s k).toNat:N)<48;omega))
  .by_cases h2:57<(cr s k).toNat
   .rw[g ω];exact bM (s:=pZ s k) c (avt s k ω e (by show¬((cr s k).toNat:N)<48;omega) (by show((cr s k).toNat:N)>57;omega))
   .refine aT (s:=pZ s k) c (avu s k ω e (by show¬((cr s k).toNat:N)<48;omega) (by show¬((cr s k).toNat:N)>57;omega) ω) ?_;refine⟨⟨k+1,e,?_⟩,by show s.size-(k+1)<s.size-k;omega,rfl,rfl⟩;rw[JO ω,Lr];refine⟨f,?_⟩;show cj [cr s k]=D;rw[Db,ay ω,ay ω];rfl
 .refine aT (s:=pZ s k) c (wy [az (ω:¬(k:N)<(s.size:N))] 1:aR (aA []) (fl xG Ho) (pZ s k) 2 (.exit 0) [] (pZ s k)) ?_;refine bY (cg ?_);rw[eG ω]at f;rw[f];exact bM (s:=pZ s k) c (wy [] 0:bw (aA []) ((fl xG []).drop 3) (pZ s k) 1 f119 D (bv D))
def avC:abL.Ok em:=λ⟨s,_⟩ h=>avB s (cC h)
def avD:bI em (bJ Hp):=dw (aV avC eH)
def avE(s:AT)(f:s.size<=1000000000):Holds em D 63 [sv s] (bv (cU s)):=by
 have c:=avD;refine bK Hl func63 λw F=>?_
 unfold cU;by_cases g:s.size=0
 .rw[ab (show¬0<s.size by omega),dF.false_and];exact bt c 9 (wy [aa (aL (gw.mpr (ω:(s.size:N)=0))),cT (ω:(s.size:N)=0)] 2164527169:bk Hp (fl Hl []) 9 18 [sv s] 224 f63 D (bv ao))
 .rw[ay (show 0<s.size by omega),py];by_cases e:s.size<=1
  .rw[ay e,dF.true_or,py];exact bt c 9 (wy [aa (aL (fB.mpr (ω:¬(s.size:N)=0))),aa (aK (ab (ω:¬(s.size:N)>1))),az (ω:¬(s.size:N)>1),yn (ω:¬(s.size:N)=0),ag f] 369007788030825861185:bk Hp (fl Hl []) 9 18 [sv s] 2191 f63 D (bv (cj (ak s))))
  .rw[ab e,dF.false_or];by_cases h2:(cr s 0).toNat=48
   .rw[ay h2,dF.not_true,dF.false_and];exact bt c 9 (avy s ω ω (by show 0<s.size;omega) (by show((cr s 0).toNat:N)=48;omega))
   .rw[ab h2,dF.not_false,py];exact bt c 9 (wy [aa (aL (fB.mpr (ω:¬(s.size:N)=0))),aa (aK (ay (ω:(s.size:N)>1))),ag (show ea 0<s.size from by show 0<s.size;omega),ag (ω:(s.size:N)>1),yn (ω:¬(s.size:N)=0),yn (show ¬(↑(lK (s.data.toList.getD (ea 0) (0:hN))):N)=48 from by show¬((cr s 0).toNat:N)=48;omega),ag f] 2144327948380856329179201:bk Hp (fl Hl []) 9 18 [sv s] 2559 f63 D (bv (cj (ak s))))
def avF:abM.Ok em:=λ⟨s,_⟩ h=>avE s (cC h)
def jR:=NO Tryz.f17
def ge:=aA [F0,abM,SG,Sr]
section
variable(s u:AT)(k:N)
def dX:bD:={n:=96,sl:=[(0,sv s),(3,sv u),(4,iv k)],bF:=[],next:=64}
def avJ(c:0<=k)(h2:k.toNat<=u.size)(h3:(u.extract 0 k.toNat).size<=1000000000)(h4:(cU (u.extract 0 k.toNat))=ao):
  bw ge ((fl jR []).drop 5) (dX s u k) 224 Tryz.f17 D (iv 1):=
 wy [ag c,ag h2,ag h3,aa (aL (b8 (h4))),aa (b8 (h4))] 91215763881074689
def avK(c:0<=k)(h2:k.toNat<=u.size)(h3:(u.extract 0 k.toNat).size<=1000000000)(h4:(cU (u.extract 0 k.toNat))=D)(h5:ea 0<s.size)(h6:(↑(lK (s.data.toList.getD (ea 0) (0:hN))):N)=45)(h7:((u.extract 0 k.toNat).data).toList=((eQ (#[(48:hN)])).data).toList):
  bw ge ((fl jR []).drop 5) (dX s u k) 7167 Tryz.f17 D (iv 1):=
 wy [ag c,ag h2,ag h3,aa (aL (b8 (h4))),ag h5,aa (aK (gw.mpr h6)),cT h6,aa (b8 (h4)),ag h7] 12131497851667756158528324735890890753
def avL(c:0<=k)(h2:k.toNat<=u.size)(h3:(u.extract 0 k.toNat).size<=1000000000)(h4:(cU (u.extract 0 k.toNat))=D)(h5:ea 0<s.size)(h6:(↑(lK (s.data.toList.getD (ea 0) (0:hN))):N)=45)(h7:¬((u.extract 0 k.toNat).data).toList=((eQ (#[(48:hN)])).data).toList):
  di ge ((fl jR []).drop 5) 2 (dX s u k) 5119 .normal [] (dX s u k):=
 wy [ag c,ag h2,ag h3,aa (aL (b8 (h4))),ag h5,aa (aK (gw.mpr h6)),cT h6,aa (b8 (h4)),az h7] 12131497851667756158528324735890890753
def avM(c:0<=k)(h2:k.toNat<=u.size)(h3:(u.extract 0 k.toNat).size<=1000000000)(h4:(cU (u.extract 0 k.toNat))=D)(h5:ea 0<s.size)(h6:¬(↑(lK (s.data.toList.getD (ea 0) (0:hN))):N)=45):
  di ge ((fl jR []).drop 5) 2 (dX s u k) 4367 .normal [] (dX s u k):=
 wy [ag c,ag h2,ag h3,aa (aL (b8 (h4))),ag h5,aa (aK (fB.mpr h6)),yn h6,aa (b8 (h4))] 642570093814208610386670526465
def avO(c:k<(u.size:N))(h2:i6 (k+1))(h3:0<=k+1)(h4:(k+1).toNat<=u.size)(h5:(u.extract (k+1).toNat u.size).size<=1000000000)(h6:(cU (u.extract (k+1).toNat u.size))=ao):
  bw ge ((fl jR []).drop 7) (dX s u k) 32534655 Tryz.f17 D (iv 1):=
 wy [aa (aK (ay c)),yi h2,ag h3,ag h4,ag (by omega:u.size<=u.size),ag h5,aa (aL (b8 (h6))),aa (b8 (h6)),ag c] 52615486191605234386183578337711327053139317100609
def avP(c:k<(u.size:N))(h2:i6 (k+1))(h3:0<=k+1)(h4:(k+1).toNat<=u.size)(h5:(u.extract (k+1).toNat u.size).size<=1000000000)(h6:(cU (u.extract (k+1).toNat u.size))=D)(h7:((u.extract (k+1).toNat u.size).data).toList=((eQ (#[(48:hN)])).data).toList):
  bw ge ((fl jR []).drop 7) (dX s u k) 32530431 Tryz.f17 D (iv 1):=
 wy [aa (aK (ay c)),yi h2,ag h3,ag h4,ag (by omega:u.size<=u.size),ag h5,aa (aL (b8 (h6))),aa (b8 (h6)),aa (aL (ay h7)),ag h7,ag c] 1094229182170043027733640569609741686283412839940049342529
def avQ(c:k<(u.size:N))(h2:i6 (k+1))(h3:0<=k+1)(h4:(k+1).toNat<=u.size)(h5:(u.extract (k+1).toNat u.size).size<=1000000000)(h6:(cU (u.extract (k+1).toNat u.size))=D)(h7:¬((u.extract (k+1).toNat u.size).data).toList=((eQ (#[(48:hN)])).data).toList)(h8:((u.extract (k+1).toNat u.size).data).toList=((eQ (#[(49:hN)])).data).toList):
  bw ge ((fl jR []).drop 7) (dX s u k) 31449087 Tryz.f17 D (iv 1):=
 wy [aa (aK (ay c)),yi h2,ag h3,ag h4,ag (by omega:u.size<=u.size),ag h5,aa (aL (b8 (h6))),aa (b8 (h6)),aa (aL (ab h7)),az h7,ag c,ag h8] 1282105618965331399306456053895005741220147403057679523796635619393
def avR(c:k<(u.size:N))(h2:i6 (k+1))(h3:0<=k+1)(h4:(k+1).toNat<=u.size)(h5:(u.extract (k+1).toNat u.size).size<=1000000000)(h6:(cU (u.extract (k+1).toNat u.size))=D)(h7:¬((u.extract (k+1).toNat u.size).data).toList=((eQ (#[(48:hN)])).data).toList)(h8:¬((u.extract (k+1).toNat u.size).data).toList=((eQ (#[(49:hN)])).data).toList):
  di ge ((fl jR []).drop 7) 2 (dX s u k) 23060479 .normal [] (dX s u k):=
 wy [aa (aK (ay c)),yi h2,ag h3,ag h4,ag (by omega:u.size<=u.size),ag h5,aa (aL (b8 (h6))),aa (b8 (h6)),aa (aL (ab h7)),az h7,ag c,az h8] 1282105618965331399306456053895005741220147403057679523796635619393
def avW(c:k<(u.size:N))(h2:(j9 u)=D)(h3:(okA (mkR (ptN u)).2&&okA (mkR (ptD u)).2)=D)(h4:¬(↑(aJ (↑(fo (ah (mkR (ptN u)).2) (ah (mkR (ptD u)).2)):N)).length:N)=1):
  bw ge ((fl jR []).drop 11) (dX s u k) 225 Tryz.f17 D (iv 1):=
 wy [ag c,aa h2,aa h3,aa (aL (eX.mpr h4)),aa (eX.mpr h4)] 22269473599617
def avX(c:k<(u.size:N))(h2:(j9 u)=D)(h3:(okA (mkR (ptN u)).2&&okA (mkR (ptD u)).2)=D)(h4:(↑(aJ (↑(fo (ah (mkR (ptN u)).2) (ah (mkR (ptD u)).2)):N)).length:N)=1)(h5:ea 0<(aJ (↑(fo (ah (mkR (ptN u)).2) (ah (mkR (ptD u)).2)):N)).length)(h6:¬(aJ (↑(fo (ah (mkR (ptN u)).2) (ah (mkR (ptD u)).2)):N)).getD (ea 0) 0=1):
  bw ge ((fl jR []).drop 11) (dX s u k) 223 Tryz.f17 D (iv 1):=
 wy [ag c,aa h2,aa h3,aa (aL (cS.mpr h4)),ag h5,aa (cS.mpr h4),aa (eX.mpr h6)] 8179680759063261313
def avY(c:k<(u.size:N))(h2:(j9 u)=D)(h3:(okA (mkR (ptN u)).2&&okA (mkR (ptD u)).2)=D)(h4:(↑(aJ (↑(fo (ah (mkR (ptN u)).2) (ah (mkR (ptD u)).2)):N)).length:N)=1)(h5:ea 0<(aJ (↑(fo (ah (mkR (ptN u)).2) (ah (mkR (ptD u)).2)):N)).length)(h6:(aJ (↑(fo (ah (mkR (ptN u)).2) (ah (mkR (ptD u)).2)):N)).getD (ea 0) 0=1):
  bw ge ((fl jR []).drop 11) (dX s u k) 159 Tryz.f17 D (iv 0):=
 wy [ag c,aa h2,aa h3,aa (aL (cS.mpr h4)),ag h5,aa (cS.mpr h4),aa (cS.mpr h6)] 8179680759063261313
end
def Ee(neg:dF)(u:AT)(k:E):N:=
 if cU (u.extract 0 k)=ao then 1
 else if neg=D/\ak (u.extract 0 k)=[48]then 1
 else if k<u.size/\(cU (u.extract (k+1) u.size)=ao\/ak (u.extract (k+1) u.size)=[48]\/ak (u.extract (k+1) u.size)=[49])then 1
 else if 600<k\/601+k<u.size then 4
 else if k<u.size/\fo (bA (ak (u.extract 0 k))) (bA (ak (u.extract (k+1) u.size)))≠1 then 1
 else 0
def ckR(s:AT):N:=Ee (ck s) (bW s) (bE (ak (bW s)))
def abN:=IN 17 [.str] [.int .i64] D (λd=>decide (d.1.size<=1000000000)) λd=>(ckR d.1,())
--{
def abO:bI em (bJ ge):=dw (aV PC (aV avF (aV abo (aV aa2 eH))))
def SR{t:AT}(h:cj (ak t)=D):ck t=ao/\bW t=t:=by
 have e:ck t=ao:=by
  unfold ck;by_cases c:0<t.size
  .have f:cr t 0∈ak t:=by rw[AK (by rw[<-eD];exact c)];exact ra _
   have:=ky.1 h _ f;rw[ae,aN,aN]at this;rw[ab (show¬(cr t 0).toNat=45 by omega),Ù]
  .rw[ab c];rfl
 refine⟨e,?_⟩;unfold bW;rw[e]
def abP{t:AT}(h:cj (ak t)=D):nw t=bA (ak t):=by
 obtain⟨c,h2⟩:=SR h;unfold nw;rw[c,h2];rfl
def LB:∀n:E,(10:N)^n<=1000000000^n
 |0=>by simp
 |n+1=>by
  rw[hP,hP];have c:=LB n;have h2:=eE (b:=10) δ n;omega
def abQ{z:N}(h:0<=z):ah (mkR z).2=z:=by
 show ah (aJ (z.natAbs:N))=z;rw[(jk (lx _)).2.2];omega
def abR{t:AT}(h:cj (ak t)=D)(c:t.size<=100000):okA (mkR (bA (ak t))).2=D:=by
 have e:=xD h;have h2:=LB t.size;show okA (aJ ((bA (ak t)).natAbs:N))=D;exact Lo (k:=t.size) (lx _) ω c
def y6{t:AT}(h:cU t=D):cj (ak t)=D/\0<t.size:=by
 unfold cU at h;rw[ae,ae,aN]at h;exact⟨h.2.2,h.1⟩
abbrev SS(e:N):sC->au af->ai->Prop:=ew em D f17 (iv e)
def SU(s u:AT)(neg:dF)(c':u.size<=1000000000)(a9:0<u.size->0<s.size)(V:neg=D↔(0<s.size/\(cr s 0).toNat=45))(w:du)(F:Sv.Env):
  bp em w F 96 ((fl jR []).drop 5) (dX s u (bE (ak u))).T (dX s u (bE (ak u))).H (SS (Ee neg u (bE (ak u)))):=by
 have c:=abO;have o:bE (ak u)<=u.size:=by rw[eD];exact nd _
 obtain⟨k,m⟩:∃k,bE (ak u)=k:=⟨_,rfl⟩;rw[m]at o ⊢;have a1:(k:N).toNat=k:=by omega
 have a5:((k:N)+1).toNat=k+1:=by omega
 have c0:=mW u 0 k o;have c1:=mW u (k+1) u.size (aC _);have b3:((eQ (#[(48:hN)])).data).toList=[48]:=rfl;have b4:((eQ (#[(49:hN)])).data).toList=[49]:=rfl;unfold Ee;cases z:cU (u.extract 0 k)with
 |false=>
  rw[dA rfl];have a':=avJ s u (k:N) ω;rw[a1]at a';exact bM (s:=dX s u k) c (a' o ω z)
 |true=>
  rw[db δ];obtain⟨r,c2⟩:=y6 z;have J:0<s.size:=a9 ω
  -- behind the second part
  have a3:(¬(k<u.size/\(cU (u.extract (k+1) u.size)=ao\/ak (u.extract (k+1) u.size)=[48]\/ak (u.extract (k+1) u.size)=[49])))->bp em w F 96 ((fl jR []).drop 9) (dX s u k).T (dX s u k).H (SS (if 600<k\/601+k<u.size then 4 else if k<u.size/\fo (bA (ak (u.extract 0 k))) (bA (ak (u.extract (k+1) u.size)))≠1 then 1 else 0)):=λg=>by
   by_cases h6:600<k
   .rw[dA (.inl h6)];exact bM (s:=dX s u k) c (wy [aa (aL (ay (ω:(k:N)>600))),ag (ω:(k:N)>600)] 138529738817:bw ge ((fl jR []).drop 9) (dX s u (k:N)) 448 Tryz.f17 D (iv 4))
   .by_cases h7:601+k<u.size
    .rw[dA (.inr h7)];exact bM (s:=dX s u k) c (wy [aa (aL (ab (ω:¬(k:N)>600))),yi (ω:i6 ((u.size:N)-(k:N))),yi (ω:i6 ((u.size:N)-(k:N)-1)),az (ω:¬(k:N)>600),ag (ω:(u.size:N)-(k:N)-1>600)] 91202497766756417:bw ge ((fl jR []).drop 9) (dX s u (k:N)) 447 Tryz.f17 D (iv 4))
    .rw[db ω];refine dH (s:=dX s u k) c 2 (wy [aa (aL (ab (ω:¬(k:N)>600))),yi (ω:i6 ((u.size:N)-(k:N))),yi (ω:i6 ((u.size:N)-(k:N)-1)),az (ω:¬(k:N)>600),az (ω:¬(u.size:N)-(k:N)-1>600)] 91202497766756417:di ge ((fl jR []).drop 9) 2 (dX s u (k:N)) 319 .normal [] (dX s u (k:N))) ?_;by_cases f:k<u.size
     .have t:cj (ak (u.extract (k+1) u.size))=D:=by
       cases e:cU (u.extract (k+1) u.size)with
       |false=>exact absurd ⟨f,.inl e⟩ g
       |true=>exact(y6 e).1
      have P:j9 u=D:=by
       unfold j9;rw[m,(SR r).2,(SR t).2,r,t,ay ω];rfl
      have e1:ptN u=bA (ak (u.extract 0 k)):=by unfold ptN;rw[m];exact abP r
      have e2:ptD u=bA (ak (u.extract (k+1) u.size)):=by unfold ptD;rw[m,dA f];exact abP t
      have o1:=abR r ω;have o2:=abR t ω;have b1:=xD r;have b2:=xD t;have W:=avW s u (k:N) ω P;have X:=avX s u (k:N) ω P;have L:=avY s u (k:N) ω P;rw[e1,e2,abQ b1.1,abQ b2.1]at W X L;generalize bA (ak (u.extract 0 k))=A at*;generalize bA (ak (u.extract (k+1) u.size))=B at*;have Q:=dN o1 o2;by_cases M:fo A B=1
      .rw[db (λh=>h.2 M)];have e3:aJ ((fo A B:E):N)=[1]:=by
        rw[M];have h11:fT [(1:N)]:=λk m=>by
         obtain rfl:k=0:=by simpa using m.symm
         show(1:N)≠0;decide
        have:=K9 (l:=[(1:N)]) (.cons (show(0:N)<=1/\(1:N)<1000000000 by decide) .nil) h11;rw[show ah [(1:N)]=1 from wW _ _]at this;exact this
       rw[e3]at L;exact bM (s:=dX s u k) c (L Q rfl δ rfl)
      .rw[dA ⟨f,M⟩];by_cases a2:((aJ ((fo A B:E):N)).length:N)=1
       .refine bM (s:=dX s u k) c (X Q a2 (by show 0<_;omega) λh=>?_);obtain⟨K,U⟩:∃K,aJ ((fo A B:E):N)=[K]:=Jz.1 ω;have h:(aJ ((fo A B:E):N)).getD 0 0=1:=h;rw[U]at h;have h:K=1:=h;have b':=(jk (lx (fo A B))).2.2;rw[U,h,show ah [(1:N)]=1 from wW _ _]at b';omega
       .exact bM (s:=dX s u k) c (W Q a2)
     .rw[db (λh=>f h.1)];exact bM (s:=dX s u k) c (wy [az (ω:¬(k:N)<(u.size:N))] 1:bw ge ((fl jR []).drop 11) (dX s u (k:N)) 2 Tryz.f17 D (iv 0))
  -- the second part
  have a4:bp em w F 96 ((fl jR []).drop 7) (dX s u k).T (dX s u k).H (SS (if k<u.size/\(cU (u.extract (k+1) u.size)=ao\/ak (u.extract (k+1) u.size)=[48]\/ak (u.extract (k+1) u.size)=[49])then 1 else if 600<k\/601+k<u.size then 4 else if k<u.size/\fo (bA (ak (u.extract 0 k))) (bA (ak (u.extract (k+1) u.size)))≠1 then 1 else 0)):=by
   by_cases f:k<u.size
   .have T:=avO s u (k:N) ω ω ω;have C:=avP s u (k:N) ω ω ω;have p:=avQ s u (k:N) ω ω ω;have q:=avR s u (k:N) ω ω ω;rw[a5]at T C p q;cases e:cU (u.extract (k+1) u.size)with
    |false=>
     rw[dA ⟨f,.inl rfl⟩];exact bM (s:=dX s u k) c (T ω ω e)
    |true=>
     by_cases h8:ak (u.extract (k+1) u.size)=[48]
     .rw[dA ⟨f,.inr (.inl h8)⟩];exact bM (s:=dX s u k) c (C ω ω e h8)
     .by_cases h9:ak (u.extract (k+1) u.size)=[49]
      .rw[dA ⟨f,.inr (.inr h9)⟩];exact bM (s:=dX s u k) c (p ω ω e h8 h9)
      .have g:¬(k<u.size/\(cU (u.extract (k+1) u.size)=ao\/ak (u.extract (k+1) u.size)=[48]\/ak (u.extract (k+1) u.size)=[49])):=λh=>by
        rcases h.2 with h|h|h
        .rw[e]at h;cases h
        .exact h8 h
        .exact h9 h
       have S:=g;rw[e]at S;rw[db S];refine dH (s:=dX s u k) c 2 (q ω ω e h8 h9) ?_;exact a3 g
   .have g:¬(k<u.size/\(cU (u.extract (k+1) u.size)=ao\/ak (u.extract (k+1) u.size)=[48]\/ak (u.extract (k+1) u.size)=[49])):=λh=>f h.1
    rw[db g];refine dH (s:=dX s u k) c 2 (wy [aa (aK (ab (ω:¬(k:N)<(u.size:N)))),az (ω:¬(k:N)<(u.size:N))] 2324143350556659777:di ge ((fl jR []).drop 7) 2 (dX s u (k:N)) 4096 .normal [] (dX s u (k:N))) ?_;exact a3 g
  have C:=avK s u (k:N) ω;have p:=avL s u (k:N) ω;have q:=avM s u (k:N) ω;rw[a1]at C p q;by_cases a0:(cr s 0).toNat=45
  .have a6:neg=D:=V.2 ⟨J,a0⟩;have G:((cr s 0).toNat:N)=45:=by omega
   by_cases H:ak (u.extract 0 k)=[48]
   .rw[dA ⟨a6,H⟩];exact bM (s:=dX s u k) c (C o ω z J G H)
   .rw[db (λh=>H h.2)];refine dH (s:=dX s u k) c 2 (p o ω z J G H) ?_;exact a4
  .have G:¬((cr s 0).toNat:N)=45:=by omega
   rw[db (λh=>a0 (V.1 h.1).2)];refine dH (s:=dX s u k) c 2 (q o ω z J G) ?_;exact a4
def avZ(s:AT)(g:s.size<=1000000000):Holds em D 17 [sv s] (iv (ckR s)):=by
 have m:=abO;refine bK jR func17 λw F=>?_
 unfold ckR;by_cases e:0<s.size
 .by_cases l:(cr s 0).toNat=45
  .have c:ck s=D:=by unfold ck;rw[ay e,ay l];rfl
   have f:bW s=s.extract 1 s.size:=by unfold bW;rw[c]
   have o:=mW s 1 s.size (aC _);rw[c,f];refine cE m 5 (wy [aa (aK (ay (ω:(s.size:N)>0))),ag (show ea 0<s.size from by show 0<s.size;exact e),ag (ω:(s.size:N)>0),cT (show(↑(lK (s.data.toList.getD (ea 0) (0:hN))):N)=45 from by show((cr s 0).toNat:N)=45;omega),ag (show ea 1<=s.size from by show 1<=s.size;omega),ag (by omega:s.size<=s.size),ag (show(s.extract (ea 1) s.size).size<=1000000000 from by show(s.extract 1 s.size).size<=_;omega),av (rfl:(s.extract (ea 1) s.size)=(s.extract 1 s.size)),av (rfl:(↑(bE (s.extract (ea 1) s.size).data.toList):N)=(↑(bE (s.extract 1 s.size).data.toList):N))] 2757870205940449109606465:cL ge (fl jR []) 5 96 [sv s] 63 .normal [] (dX s (s.extract 1 s.size) (bE (ak (s.extract 1 s.size))))) ?_;exact SU s _ D ω (λ_=>e) ⟨λ_=>⟨e,l⟩,λ_=>rfl⟩ w F
  .have c:ck s=ao:=by unfold ck;rw[ay e,ab l];rfl
   have f:bW s=s:=by unfold bW;rw[c]
   rw[c,f];refine cE m 5 (wy [aa (aK (ay (ω:(s.size:N)>0))),ag (show ea 0<s.size from by show 0<s.size;exact e),ag (ω:(s.size:N)>0),yn (show ¬(↑(lK (s.data.toList.getD (ea 0) (0:hN))):N)=45 from by show¬((cr s 0).toNat:N)=45;omega),ag g] 22268348989505:cL ge (fl jR []) 5 96 [sv s] 47 .normal [] (dX s s (bE (ak s)))) ?_;exact SU s s ao g id ⟨λh=>(by cases h),λh=>absurd h.2 l⟩ w F
 .have c:ck s=ao:=by unfold ck;rw[ab e];rfl
  have f:bW s=s:=by unfold bW;rw[c]
  rw[c,f];refine cE m 5 (wy [aa (aK (ab (ω:¬(s.size:N)>0))),az (ω:¬(s.size:N)>0),ag g] 3221753921:cL ge (fl jR []) 5 96 [sv s] 32 .normal [] (dX s s (bE (ak s)))) ?_;exact SU s s ao g id ⟨λh=>(by cases h),λh=>absurd h.1 e⟩ w F
attribute [local irreducible] ckR
def TO:abN.Ok em:=λ⟨s,_⟩ h=>by
 have h:bP (s.size<=1000000000)=D:=h;exact avZ s (cC h)
--}
end
def SV:∀{l:I N},(∀x∈l,1<=x/\x<=400)->xu l<=400^l.length
 |[],_=>vc 1
 |x::l,h=>by
  have e:=h x (gb ..);have h2:=SV (l:=l) λy c=>h y (gQ _ c)
  have h3:=K4 (l:=l) λy c=>(h y (gQ _ c)).1
  show x*xu l<=400^(l.length+1);rw[hP,iN (400^l.length)];exact tj e.2 h2 ω δ
def abT{t:I (N×N)}(h:wd t):∀x∈t.map ql,1<=x/\x<=400:=λx e=>by
 obtain⟨q,c,rfl⟩:=rK.1 e;exact(h q c).1
def abU{t:I (N×N)}(h:wd t):∀x∈t.map rL,1<=x/\x<=400:=λx e=>by
 obtain⟨q,c,rfl⟩:=rK.1 e;exact(h q c).2
def av0{n:E}(h:n<=4):(400:N)^n<=25600000000:=by
 have:n=0\/n=1\/n=2\/n=3\/n=4:=by omega
 rcases this with e|e|e|e|e<;>rw[e]<;>decide
def av1{t:I (N×N)}(c:wd t)(h4:t.length<=4):yT (fX t):=by
 have h:=K4 λx e=>(abU c x e).1
 have f:=SV (abU c);have f0:=K4 λx e=>(abT c x e).1
 have f1:=SV (abT c);rw[mG]at f f1;have g:=av0 h4;rw[aau];exact aav ω ω ω
noncomputable section
def xH:=NO f166
def LD:=NO f113
def p0(s:AT)(k:E):bD:={n:=22,sl:=[(0,sv s),(5,iv s.size),(6,iv k)],bF:=[],next:=64}
abbrev Hs:I E:=[1,0,1,0,0]
section
variable(s:AT)(k:E)(Z:(k:N)<(s.size:N))(Y:k<s.size)
def av3(h3:(↑(lK (s.data.toList.getD k (0:hN))):N)<48):
  bw (aA []) (fl xH Hs) (p0 s k) 225 f166 D (bv ao):=
 wy [ag Z,ag Y,aa (aL (ay h3)),ag h3] 17801616826369
def av4(h3:¬(↑(lK (s.data.toList.getD k (0:hN))):N)<48)(h4:(↑(lK (s.data.toList.getD k (0:hN))):N)>57):
  bw (aA []) (fl xH Hs) (p0 s k) 223 f166 D (bv ao):=
 wy [ag Z,ag Y,aa (aL (ab h3)),az h3,ag h4] 5837518341367668737
def av5(h3:¬(↑(lK (s.data.toList.getD k (0:hN))):N)<48)(h4:¬(↑(lK (s.data.toList.getD k (0:hN))):N)>57)(h5:i6 ((k:N)+1)):
  aR (aA []) (fl xH Hs) (p0 s k) 159 .normal [] (p0 s (k+1)):=
 wy [ag Z,ag Y,aa (aL (ab h3)),az h3,az h4,yi h5] 448559376110396907521
end
def abV:=IN 166 [.str] [.bool] D (λd=>decide (d.1.size<=1000000000)) λd=>(cj (ak d.1)&&bP (0<d.1.size),())
def LF:=aA [abV]
def abW:=IN 113 [.str] [.bool] D (λd=>decide (d.1.size<=1000000000)) λd=>(cU d.1,())
def awb(s:AT)(t:s.size<=1000000000):Holds em D 166 [sv s] (bv (cj (ak s)&&bP (0<s.size))):=by
 have c:=ba;have w:=eD s;refine bK xH func166 λz F=>?_
 refine cE c 2 (wy [] 0:cL (aA []) (fl xH []) 2 22 [sv s] 1 .normal [] (p0 s 0)) ?_;refine c_q {k:E//k<=s.size/\cj ((ak s).take k)=D} 0 (cat xH Hs) ((fl xH []).drop 3) (λk=>p0 s k.1) (λk=>s.size-k.1) ⟨0,gt _,by rw[GD];rfl⟩ ?_;rintro⟨k,r,g⟩;by_cases f:k<s.size
 .have o:cr s k∈ak s:=by rw[AK ω];exact ra _
  have h:¬(48<=(cr s k).toNat/\(cr s k).toNat<=57)->cj (ak s)=ao:=λp=>by
   rw[wz];intro m;have:=ky.1 m _ o;rw[ae,aN,aN]at this;exact p this
  by_cases q:(cr s k).toNat<48
  .rw[h ω];exact bM (s:=p0 s k) c (av3 s k ω f (by show((cr s k).toNat:N)<48;omega))
  .by_cases h2:57<(cr s k).toNat
   .rw[h ω];exact bM (s:=p0 s k) c (av4 s k ω f (by show¬((cr s k).toNat:N)<48;omega) (by show((cr s k).toNat:N)>57;omega))
   .refine aT (s:=p0 s k) c (av5 s k ω f (by show¬((cr s k).toNat:N)<48;omega) (by show¬((cr s k).toNat:N)>57;omega) ω) ?_;refine⟨⟨k+1,f,?_⟩,by show s.size-(k+1)<s.size-k;omega,rfl,rfl⟩;rw[JO ω,Lr];refine⟨g,?_⟩;show cj [cr s k]=D;rw[Db,ay ω,ay ω];rfl
 .refine aT (s:=p0 s k) c (wy [az (ω:¬(k:N)<(s.size:N))] 1:aR (aA []) (fl xH Hs) (p0 s k) 2 (.exit 0) [] (p0 s k)) ?_;refine bY (cg ?_);rw[eG ω]at g;have l:(cj (ak s)&&bP (0<s.size))= !(bP (ak s=[])):=by
   rw[g,py];by_cases e:ak s=[]
   .rw[ay e,ab (by rw[eD,e];decide)];rfl
   .rw[ab e,ay (by rw[eD];exact I.length_pos_iff.2 e)];rfl
  rw[l];exact bM (s:=p0 s k) c (wy [] 0:bw (aA []) ((fl xH []).drop 3) (p0 s k) 1 f166 D (bv (!(bP (ak s=[])))))
def awc:abV.Ok em:=λ⟨s,_⟩ h=>awb s (cC h)
def P1:bI em (bJ LF):=dw (aV awc eH)
def awd(s:AT)(o:s.size<=1000000000):Holds em D 113 [sv s] (bv (cU s)):=by
 have m:=P1;refine bK LD func113 λw F=>?_
 cases c:cj (ak s)&&bP (0<s.size)with
 |false=>
  have g:cU s=ao:=by
   rw[wz];intro l;obtain⟨h,h2⟩:=y6 l;rw[h,ay h2]at c;cases c
  rw[g];exact bt m 9 (wy [ag o,aa (aK (c)),aa c] 3255312513:bk LF (fl LD []) 9 14 [sv s] 32 f113 D (bv ao))
 |true=>
  have e:=c;rw[ae,aN]at e;by_cases f:ak s=[48]
  .have g:cU s=D:=by
    unfold cU;have h:s.size=1:=by rw[eD,f];rfl
    rw[e.1,ay e.2,ay (show s.size<=1 by omega)];rfl
   rw[g];exact bt m 9 (wy [ag o,aa (aK (c)),aa (aL (ay f)),ag f,aa c] 91206897977794689:bk LF (fl LD []) 9 14 [sv s] 967 f113 D (bv D))
  .have g:cU s= !(bP (((cr s 0).toNat:N)=48)):=by
    unfold cU;rw[e.1,ay e.2,py,dF.and_true];by_cases h:s.size<=1
    .rw[ay h,dF.true_or];have q:¬((cr s 0).toNat:N)=48:=λl=>f (by
      obtain⟨b,p⟩:∃b,ak s=[b]:=Jz.1 (by rw[<-eD];omega);have h2:(b.toNat:N)=48:=by
       have h3:(((ak s).getD 0 0).toNat:N)=48:=l;rw[p]at h3;exact h3
      rw[p];congr 1;exact QL.1 (by show b.toNat=48;omega))
     rw[ab q];rfl
    .rw[ab h,dF.false_or];congr 1;by_cases h4:(cr s 0).toNat=48
     .rw[ay h4,ay ω]
     .rw[ab h4,ab ω]
   rw[g];exact bt m 9 (wy [ag o,aa (aK (c)),aa (aL (ab f)),ag (show ea 0<s.size from by show 0<s.size;exact e.2),az f,aa c,av (rfl:((↑(lK (s.data.toList.getD (ea 0) (0:hN))):N) != 48)=(!decide ((↑(lK (s.data.toList.getD 0 (0:hN))):N)=48)))] 33505088736196987199617:bk LF (fl LD []) 9 14 [sv s] 895 f113 D (bv (!(bP (((cr s 0).toNat:N)=48)))))
def awe:abW.Ok em:=λ⟨s,_⟩ h=>awd s (cC h)
attribute [local irreducible] ckR
end
noncomputable section
def SW:=NO f222
def SX:=NO f165
def abX:=NO f112
def awf(s:AT)(c:¬(s.size:N)>=(↑(eQ (#[(45:hN)])).size:N)):
  bk (aA []) (fl SW []) 9 18 [sv s,sv fW] 128 f222 D (bv ao):=
 wy [aa (aK (ab c)),az c] 138529738817
def awg(s:AT)(c:(s.size:N)>=(↑(eQ (#[(45:hN)])).size:N))(h2:(eQ (#[(45:hN)])).size<=s.size)(h3:(bP ((s.extract 0 (eQ (#[(45:hN)])).size).data.toList=((eQ (#[(45:hN)])).data).toList))=(ck s)):
  bk (aA []) (fl SW []) 9 18 [sv s,sv fW] 255 f222 D (bv (ck s)):=
 wy [aa (aK (ay c)),ag h2,ag c,av h3] 4666015224418275393
def LG:=IN 222 [.str,.str] [.bool] D (λd=>decide (d.2.1=fW)) λd=>(ck d.1,())
def SY:=IN 165 [.str,.str] [.str,.bool] D (λd=>decide (d.2.1=fW)) λd=>(bW d.1,ck d.1,())
def abY:=IN 112 [.str,.str] [.str,.bool] D (λd=>decide (d.2.1=fW)) λd=>(bW d.1,ck d.1,())
def SZ:=NO f115
def awm(s:AT):Holds em D 222 [sv s,sv fW] (bv (ck s)):=by
 have c:(eQ (#[(45:hN)])).size=1:=rfl;refine bK SW func222 λw F=>?_
 by_cases e:0<s.size
 .refine bt ba 9 (awg s (by rw[c];omega) (by rw[c];omega) ?_);rw[c,show uU (s.extract 0 1).data=(ak s).take 1 from by rw[show uU (s.extract 0 1).data=ak (s.extract 0 1)from rfl,fw,iW]];show bP ((ak s).take 1=[45])=ck s;unfold ck;rw[ay e,py];cases g:ak s with
  |nil=>rw[eD,g]at e;cases e
  |cons b r=>
   have l:cr s 0=b:=by show(ak s).getD 0 0=b;rw[g];rfl
   rw[l];show bP ([b]=[45])=_;by_cases h:b.toNat=45
   .have:b=45:=QL.1 h;subst this;rfl
   .rw[ab h,ab (λf=>h (by rw[(P9 f).1];rfl))]
 .have f:ck s=ao:=by unfold ck;rw[ab e];rfl
  rw[f];exact bt ba 9 (awf s (by rw[c];omega))
def awn:LG.Ok em:=λ⟨s,p,_⟩ h=>by
 have h:bP (p=fW)=D:=h;rw[cC h];exact awm s
def awo(s:AT):Holds em D 165 [sv s,sv fW] (.tuple [sv (bW s),bv (ck s)]):=by
 have f:bI em (bJ (aA [LG])):=dw λh g=>by rw[kD.1 g];exact awn
 refine bK SX func165 λw F=>?_
 cases c:ck s with
 |true=>
  have e:bW s=s.extract 1 s.size:=by unfold bW;rw[c]
  have l:0<s.size:=by unfold ck at c;rw[ae,aN]at c;exact c.1
  rw[e];exact bt f 9 (wy [ag (rfl:(eQ (#[(45:hN)]))=(eQ (#[(45:hN)]))),aa (b8 (c)),ag (show(eQ (#[(45:hN)])).size<=s.size from by show 1<=s.size;omega),ag (by omega:s.size<=s.size),av (rfl:(s.extract (eQ (#[(45:hN)])).size s.size)=(s.extract 1 s.size))] 5436604545:bk (aA [LG]) (fl SX []) 9 15 [sv s,sv fW] 2 f165 D (.tuple [sv (s.extract 1 s.size),bv D]))
 |false=>
  have e:bW s=s:=by unfold bW;rw[c]
  rw[e];exact bt f 9 (wy [ag (rfl:(eQ (#[(45:hN)]))=(eQ (#[(45:hN)]))),aa (b8 (c))] 129:bk (aA [LG]) (fl SX []) 9 15 [sv s,sv fW] 3 f165 D (.tuple [sv s,bv ao]))
def awp:SY.Ok em:=λ⟨s,p,_⟩ h=>by
 have h:bP (p=fW)=D:=h;rw[cC h];exact awo s
def T0:abY.Ok em:=λ⟨s,p,_⟩ h=>by
 have h:bP (p=fW)=D:=h;rw[cC h];have c:bI em (bJ (aA [SY])):=dw λf e=>by rw[kD.1 e];exact awp
 refine bK abX func112 λw F=>?_
 exact bt c 9 (wy [ag (rfl:(eQ (#[(45:hN)]))=(eQ (#[(45:hN)])))] 1:bk (aA [SY]) (fl abX []) 9 11 [sv s,sv fW] 1 f112 D (.tuple [sv (bW s),bv (ck s)]))
def jS:=NO f54
def Ht(l:I N):dF:=I.isEmpty l
def abZ:=IN 115 [eV] [.int .i64,.bool] D (λd=>D) λd=>(d.1.1,Ht d.1.2,())
def kQ:=aA [Rw,abY,abW,Rv,KN,abZ]
def dj(u d:AT)(fr c:dF):bD:={n:=71,sl:=[(4,sv d),(5,bv fr),(6,sv u),(7,bv c)],bF:=[],next:=64}
section
variable(u d:AT)(Z:dF)(Y:(ld u)=D)(h2:(ld d)=D)(h3:(aH (gO u)&&aH (gO d))=D)
def awH(h4:(Ht (e5 (gO u) (gO d)).2)=ao):
  bw kQ ((fl jS []).drop 7) (dj u d D Z) 57 f54 D (iv 1):=
 wy [aa Y,aa h2,aa h3,aa (aL (b8 (h4))),aa (b8 (h4))] 22269406224448
def awI(h4:(Ht (e5 (gO u) (gO d)).2)=D)(h5:¬(e5 (gO u) (gO d)).1=1):
  bw kQ ((fl jS []).drop 7) (dj u d D Z) 55 f54 D (iv 1):=
 wy [aa Y,aa h2,aa h3,aa (aL (b8 (h4))),aa (b8 (h4)),aa (eX.mpr h5)] 1711119266488384
def awJ(h4:(Ht (e5 (gO u) (gO d)).2)=D)(h5:(e5 (gO u) (gO d)).1=1):
  bw kQ ((fl jS []).drop 7) (dj u d D Z) 39 f54 D (iv 0):=
 wy [aa Y,aa h2,aa h3,aa (aL (b8 (h4))),aa (b8 (h4)),aa (cS.mpr h5)] 1711119266488384
end
def awK:abZ.Ok em:=λ⟨⟨z,l⟩,_⟩ _=>by
 show Holds em D 115 [aP (z,l)] (.tuple [iv z,bv (Ht l)]);refine bK SZ func115 λw F=>?_
 cases l with
 |nil=>exact bt ba 9 (wy [aa (aI (v:=iv (z))),aa (aI (v:=af.bh D aF []))] 129:bk (aA []) (fl SZ []) 9 (f115.ntmps) [aP (z,[])] 1 f115 D (.tuple [iv z,bv D]))
 |cons x r=>exact bt ba 9 (wy [aa (aI (v:=iv (z))),aa (aI (v:=af.bh D aF (x::r))),av (aK ((rfl:(x::r).isEmpty=ao)))] 786561:bk (aA []) (fl SZ []) 9 (f115.ntmps) [aP (z,x::r)] 1 f115 D (.tuple [iv z,bv ao]))
end
def S0:∀l:I hN,(∀b∈l.take (bE l),b≠47)/\(bE l<l.length->l=l.take (bE l)++47::l.drop (bE l+1))
 |[]=>⟨λb h=>(by cases h),λh=>(by cases h)⟩
 |b::r=>by
  obtain⟨m,h2⟩:=S0 r;by_cases c:b.toNat=47
  .have e:bE (b::r)=0:=by unfold bE;rw[dA c]
   have g:b=47:=QL.1 c;rw[e];exact⟨λf h=>(by cases h),λ_=>(by rw[g];rfl)⟩
  .have e:bE (b::r)=bE r+1:=by show(if b.toNat=47 then 0 else bE r+1)=_;rw[db c]
   rw[e];refine⟨λf h=>?_,λh=>?_⟩
   .rw[uZ]at h;rcases cQ.1 h with rfl |h
    .exact λe=>c (by rw[e];rfl)
    .exact m f h
   .have h:=h2 (by rw[la]at h;omega);rw[uZ,WY,Aj];exact congrArg (b:: ·) h
def S1(l:I hN):Lib.cut l [47]=(l.take (bE l),l.drop (bE l+1),bP (bE l<l.length)):=by
 obtain⟨c,h2⟩:=S0 l;by_cases h:bE l<l.length
 .have f:=h2 h;have e:=abi (l:=l.take (bE l)) (r:=l.drop (bE l+1)) c;rw[<-f]at e;rw[e,ay h]
 .have g:l.length<=bE l:=by omega
  rw[eG g]at c ⊢;rw[abh c,pB ω,ab h]
def ab0{s:AT}(h:cj (ak s)=D):∀k,k<=(ak s).length->Lib.decFrom 0 ((ak s).take k)=O (bA ((ak s).take k)).toNat
 |0,_=>by rw[GD];rfl
 |k+1,o=>by
  have m:=ab0 h k ω;have p:=Da h k ω;have l:cr s k∈ak s:=by rw[AK ω];exact ra _
  have g:=ky.1 h _ l;rw[ae,aN,aN]at g;have e:cr s k=hN.ofNat (48+((cr s k).toNat-48)):=by
   rw[show 48+((cr s k).toNat-48)=(cr s k).toNat by omega];simp
  have c:=Dec.RP _ 0 _ ((cr s k).toNat-48) ω m;rw[<-e]at c;have f:(ak s).take (k+1)=(ak s).take k++[cr s k]:=JO ω;rw[PA ω,f,c];congr 1;omega
def ab1{s:AT}(h:cj (ak s)=D):Lib.decFrom 0 (ak s)=O (bA (ak s)).toNat:=by
 have:=ab0 h (ak s).length (aC _);rw[dx]at this;exact this
def S2(s:AT):ak (ke s jQ)=(ak s).take (bE (ak s)):=by
 show(Lib.cut (ak s) [47]).1=_;rw[S1]
def P2(s:AT):ak (xn s jQ)=(ak s).drop (bE (ak s)+1):=by
 show(Lib.cut (ak s) [47]).2.1=_;rw[S1]
def ab2(s:AT):qN s jQ=bP (bE (ak s)<(ak s).length):=by
 show(Lib.cut (ak s) [47]).2.2=_;rw[S1]
def Hu(s:AT):(ck s=D/\ak s=45::ak (bW s))\/(ck s=ao/\bW s=s/\∀b r,ak s=b::r->b.toNat≠45):=by
 cases c:ck s with
 |true=>
  left;refine⟨rfl,?_⟩;have f:bW s=s.extract 1 s.size:=by unfold bW;rw[c]
  unfold ck at c;rw[ae,aN,aN]at c;rw[f,fw,eD,dx];cases e:ak s with
  |nil=>rw[eD,e]at c;exact absurd c.1 δ
  |cons b r=>
   have h2:(cr s 0).toNat=45:=c.2;have h3:cr s 0=b:=by show(ak s).getD 0 0=b;rw[e];rfl
   rw[h3]at h2;have:b=45:=QL.1 h2;rw[this];rfl
 |false=>
  right;refine⟨rfl,by unfold bW;rw[c],λb r e h=>?_⟩;have h3:cr s 0=b:=by show(ak s).getD 0 0=b;rw[e];rfl
  unfold ck at c;rw[ay (by rw[eD,e];exact E.succ_pos _),h3,ay h]at c;cases c
def awM{s:AT}(h:∀b r,ak s=b::r->b.toNat≠45):ck s=ao/\bW s=s:=by
 rcases Hu s with⟨_,h2⟩|⟨c,h2,_⟩
 .exact absurd rfl (h 45 _ h2)
 .exact⟨c,h2⟩
def awN(s:AT):bW (ke s jQ)=(bW s).extract 0 (bE (ak (bW s)))/\xn s jQ=(bW s).extract (bE (ak (bW s))+1) (bW s).size/\qN s jQ=bP (bE (ak (bW s))<(bW s).size)/\ck (ke s jQ)=ck s:=by
 rcases Hu s with⟨e,h2⟩|⟨e,h2,h3⟩
 .have g:bE (ak s)=bE (ak (bW s))+1:=by
   rw[h2];show(if(45:hN).toNat=47 then 0 else bE (ak (bW s))+1)=_;rw[db δ]
  have o:ak (ke s jQ)=45::(ak (bW s)).take (bE (ak (bW s))):=by rw[S2,g,h2,uZ]
  rcases Hu (ke s jQ)with⟨r,l⟩|⟨_,_,w⟩
  .rw[o]at l;refine⟨kE ?_,kE ?_,?_,by rw[r,e]⟩
   .show ak _=ak _;rw[fw,iW];exact(P9 l).2.symm
   .show ak _=ak _;rw[P2,fw,eD,dx,g,h2,WY]
   .rw[ab2,g,h2,eD,la];by_cases m:bE (ak (bW s))<(ak (bW s)).length
    .rw[ay m,ay ω]
    .rw[ab m,ab ω]
  .exact absurd rfl (w 45 _ o)
 .have q:ck (ke s jQ)=ao/\bW (ke s jQ)=ke s jQ:=awM λb A c=>by
   rw[S2]at c;cases f:ak s with
   |nil=>rw[f]at c;rw[I.take_nil]at c;cases c
   |cons h t=>
    have h4:=h3 h t f;rw[f]at c;cases p:bE (h::t)with
    |zero=>rw[p]at c;cases c
    |succ z=>
     rw[p,uZ]at c;rw[<-(P9 c).1];exact h4
  rw[q.1,q.2,e,h2];refine⟨kE ?_,kE ?_,?_,rfl⟩
  .show ak _=ak _;rw[S2,fw,iW]
  .show ak _=ak _;rw[P2,fw,eD,dx]
  .rw[ab2,eD]
noncomputable section
def ab3:=IN 54 [.str] [.int .i64] D (λd=>decide (d.1.size<=1000000000)) λd=>(ckR d.1,())
--{
def S3:bI em (bJ kQ):=dw (aV If (aV T0 (aV awe (aV Z6 (aV Rc (aV awK eH))))))
def ab4{u:AT}(h:cj (ak u)=D):Lib.hasPrefix (ak u) [45]=ao:=Dec.aaj _ λb c=>by
 have:=ky.1 h b c;rw[ae,aN,aN]at this;exact this
def ab5:∀n:E,(10:N)^n<=18446744073709551616^n
 |0=>by simp
 |n+1=>by
  rw[hP,hP];have c:=ab5 n;have h2:=eE (b:=10) δ n;omega
def ab6{u:AT}(h:cj (ak u)=D)(q:u.size<=600):ld u=D/\gO u=bg (bA (ak u))/\aH (bg (bA (ak u)))=D/\ax (bg (bA (ak u)))=bA (ak u):=by
 have p:=xD h;have c:(tD u fW).data.toList=ak u:=by
  show Lib.trimPrefix (ak u) [45]=ak u;unfold Lib.trimPrefix;rw[ab4 h];rfl
 have e:xk u=bA (ak u):=by
  unfold xk;rw[c,ab1 h];show((bA (ak u)).toNat:N)=_;omega
 have g:DS u=bA (ak u):=by
  unfold DS;rw[show rN u fW=ao from ab4 h,e];rfl
 have l:((bA (ak u)).natAbs:N)<18446744073709551616^u.size:=by
  have o:=ab5 u.size;omega
 obtain⟨f,m⟩:=nh (n:=100000) (N.lt_of_lt_of_le l (j5 δ ω));refine⟨?_,by unfold gO;rw[g],f,m⟩;unfold ld;rw[c,ab1 h,e];exact f
def Hv(u d:AT)(fr c:dF):N:=
 if cU u=ao then 1
 else if c=D/\ak u=[48]then 1
 else if fr=D/\(cU d=ao\/ak d=[48]\/ak d=[49])then 1
 else if 600<u.size\/600<d.size then 4
 else if fr=D/\fo (bA (ak u)) (bA (ak d))≠1 then 1
 else 0
def awO{t:AT}{k:E}{c:dF}(f:k<=t.size):Hv (t.extract 0 k) (t.extract (k+1) t.size) (bP (k<t.size)) c=Ee c t k:=by
 have g:=mW t 0 k f;have h:=mW t (k+1) t.size (aC _);unfold Hv Ee;simp only[aN];have e:(600<(t.extract 0 k).size\/600<(t.extract (k+1) t.size).size)↔(600<k\/601+k<t.size):=by omega
 simp only[e]
def LH(u d:AT)(fr c:dF)(T:cj (ak u)=D)(M:fr=D->cj (ak d)=D)(w:du)(F:Sv.Env):
  bp em w F 71 ((fl jS []).drop 5) (dj u d fr c).T (dj u d fr c).H (ew em D f54 (iv (if 600<u.size\/600<d.size then 4 else if fr=D/\fo (bA (ak u)) (bA (ak d))≠1 then 1 else 0))):=by
 have e:=S3;by_cases K:600<u.size
 .rw[dA (.inl K)];exact bM (s:=dj u d fr c) e (wy [aa (aL (ay (ω:(u.size:N)>600))),ag (ω:(u.size:N)>600)] 528449:bw kQ ((fl jS []).drop 5) (dj u d fr c) 56 f54 D (iv 4))
 .by_cases h2:600<d.size
  .rw[dA (.inr h2)];exact bM (s:=dj u d fr c) e (wy [aa (aL (ab (ω:¬(u.size:N)>600))),az (ω:¬(u.size:N)>600),ag (ω:(d.size:N)>600)] 50860097:bw kQ ((fl jS []).drop 5) (dj u d fr c) 55 f54 D (iv 4))
  .rw[db ω];refine dH (s:=dj u d fr c) e 2 (wy [aa (aL (ab (ω:¬(u.size:N)>600))),az (ω:¬(u.size:N)>600),az (ω:¬(d.size:N)>600)] 50860097:di kQ ((fl jS []).drop 5) 2 (dj u d fr c) 39 .normal [] (dj u d fr c)) ?_;cases fr with
   |false=>
    rw[db (λq=>by cases q.1)];exact bM (s:=dj u d ao c) e (wy [] 0:bw kQ ((fl jS []).drop 7) (dj u d ao c) 2 f54 D (iv 0))
   |true=>
    obtain⟨o,A,B,C⟩:=ab6 T ω;obtain⟨p,G,H,J⟩:=ab6 (M rfl) ω;have l:=awH u d c o p;have m:=awI u d c o p;have h:=awJ u d c o p;rw[A,G]at l m h;have P:e5 (bg (bA (ak u))) (bg (bA (ak d)))=bg (fo (bA (ak u)) (bA (ak d))):=by unfold e5;rw[C,J]
    have Q:e5 ((bg (bA (ak u))).1,(bg (bA (ak u))).2) ((bg (bA (ak d))).1,(bg (bA (ak d))).2)=bg (fo (bA (ak u)) (bA (ak d))):=P;rw[Q]at l m h;have r:=dN B H;generalize fo (bA (ak u)) (bA (ak d))=g at*;by_cases t:g=1
    .rw[db (λq=>q.2 t)];have f:bg ((g:E):N)=(1,[]):=by rw[t];exact uS δ
     rw[f]at h;exact bM (s:=dj u d D c) e (h r rfl rfl)
    .rw[dA ⟨rfl,t⟩];by_cases z:(-9223372036854775807:N)<=(g:N)/\(g:N)<=9223372036854775807
     .have f:bg ((g:E):N)=((g:N),[]):=uS z;rw[f]at m;exact bM (s:=dj u d D c) e (m r rfl (by show¬(g:N)=1;omega))
     .have f:bg ((g:E):N)=(if(g:N)<0 then-1 else 1,gL 18446744073709551616 (g:N).natAbs):=by unfold bg;rw[db z]
      rw[f]at l;refine bM (s:=dj u d D c) e (l r ?_);show I.isEmpty (gL 18446744073709551616 ((g:N).natAbs:N))=ao;have S:=YE (b:=18446744073709551616) δ (show(0:N)<((g:N).natAbs:N) by omega);cases L:gL 18446744073709551616 ((g:N).natAbs:N)with
      |nil=>exact absurd L S
      |cons x U=>rfl
def awP(u d:AT)(fr m:dF)(g:u.size<=1000000000)(o:d.size<=1000000000)(w:du)(F:Sv.Env):
  bp em w F 71 ((fl jS []).drop 3) (dj u d fr m).T (dj u d fr m).H (ew em D f54 (iv (Hv u d fr m))):=by
 have l:=S3;unfold Hv;cases c:cU u with
 |false=>
  rw[dA rfl];exact bM (s:=dj u d fr m) l (wy [ag g,aa (aL (b8 (c))),aa (b8 (c))] 50864257:bw kQ ((fl jS []).drop 3) (dj u d fr m) 904 f54 D (iv 1))
 |true=>
  rw[db δ];have p:=(y6 c).1;by_cases f:m=D/\ak u=[48]
  .rw[dA f];obtain⟨rfl,r⟩:=f;exact bM (s:=dj u d fr D) l (wy [ag g,aa (aL (b8 (c))),aa (b8 (c)),aa (aL (ay r)),ag r] 373619764182850216065:bw kQ ((fl jS []).drop 3) (dj u d fr D) 7231 f54 D (iv 1))
  .rw[db f];cases fr with
   |false=>
    rw[db (λh=>by cases h.1)];cases m with
    |false=>
     refine dH (s:=dj u d ao ao) l 2 (wy [ag g,aa (aL (b8 (c))),aa (b8 (c))] 13196287025281:di kQ ((fl jS []).drop 3) 2 (dj u d ao ao) 1114515 .normal [] (dj u d ao ao)) ?_;exact LH u d ao ao p (λh=>by cases h) w F
    |true=>
     refine dH (s:=dj u d ao D) l 2 (wy [ag g,aa (aL (b8 (c))),aa (b8 (c)),aa (aL (ab (λh=>f ⟨rfl,h⟩:¬(u.data).toList=((eQ (#[(48:hN)])).data).toList))),az (λh=>f ⟨rfl,h⟩:¬(u.data).toList=((eQ (#[(48:hN)])).data).toList)] 103866219580300204314230564067483777:di kQ ((fl jS []).drop 3) 2 (dj u d ao D) 1114559 .normal [] (dj u d ao D)) ?_;exact LH u d ao D p (λh=>by cases h) w F
   |true=>
    cases e:cU d with
    |false=>
     rw[dA ⟨rfl,.inl rfl⟩];cases m with
     |false=>exact bM (s:=dj u d D ao) l (wy [ag g,aa (aL (b8 (c))),aa (b8 (c)),ag o,aa (aL (b8 (e))),aa (b8 (e))] 1947513652482217575232953206710401:bw kQ ((fl jS []).drop 3) (dj u d D ao) 116629395 f54 D (iv 1))
     |true=>exact bM (s:=dj u d D D) l (wy [ag g,aa (aL (b8 (c))),aa (b8 (c)),aa (aL (ab (λh=>f ⟨rfl,h⟩:¬(u.data).toList=((eQ (#[(48:hN)])).data).toList))),ag o,aa (aL (b8 (e))),aa (b8 (e)),az (λh=>f ⟨rfl,h⟩:¬(u.data).toList=((eQ (#[(48:hN)])).data).toList)] 730840021646247853707080807151523503615250538625:bw kQ ((fl jS []).drop 3) (dj u d D D) 116629439 f54 D (iv 1))
    |true=>
     have q:=(y6 e).1;by_cases h8:ak d=[48]
     .rw[dA ⟨rfl,.inr (.inl h8)⟩];cases m with
      |false=>exact bM (s:=dj u d D ao) l (wy [ag g,aa (aL (b8 (c))),aa (b8 (c)),ag o,aa (aL (b8 (e))),aa (b8 (e)),aa (aL (ay h8)),ag h8] 2788197950501923681896353591526425951740033:bw kQ ((fl jS []).drop 3) (dj u d D ao) 116588435 f54 D (iv 1))
      |true=>exact bM (s:=dj u d D D) l (wy [ag g,aa (aL (b8 (c))),aa (b8 (c)),aa (aL (ab (λh=>f ⟨rfl,h⟩:¬(u.data).toList=((eQ (#[(48:hN)])).data).toList))),ag o,aa (aL (b8 (e))),aa (b8 (e)),aa (aL (ay h8)),ag h8,az (λh=>f ⟨rfl,h⟩:¬(u.data).toList=((eQ (#[(48:hN)])).data).toList)] 913530863046102819659576943611420643593858064513:bw kQ ((fl jS []).drop 3) (dj u d D D) 116588479 f54 D (iv 1))
     .by_cases h9:ak d=[49]
      .rw[dA ⟨rfl,.inr (.inr h9)⟩];cases m with
       |false=>exact bM (s:=dj u d D ao) l (wy [ag g,aa (aL (b8 (c))),aa (b8 (c)),ag o,aa (aL (b8 (e))),aa (b8 (e)),aa (aL (ab h8)),az h8,ag h9] 52614061732110455557256335874139780234039523287169:bw kQ ((fl jS []).drop 3) (dj u d D ao) 115277715 f54 D (iv 1))
       |true=>exact bM (s:=dj u d D D) l (wy [ag g,aa (aL (b8 (c))),aa (b8 (c)),aa (aL (ab (λh=>f ⟨rfl,h⟩:¬(u.data).toList=((eQ (#[(48:hN)])).data).toList))),ag o,aa (aL (b8 (e))),aa (b8 (e)),aa (aL (ab h8)),az h8,az (λh=>f ⟨rfl,h⟩:¬(u.data).toList=((eQ (#[(48:hN)])).data).toList),ag h9] 65219602905605831220621709583127873508454889955457:bw kQ ((fl jS []).drop 3) (dj u d D D) 115277759 f54 D (iv 1))
      .rw[db (λh=>by
        rcases h.2 with h|h|h
        .cases h
        .exact h8 h
        .exact h9 h)]
       cases m with
       |false=>
        refine dH (s:=dj u d D ao) l 2 (wy [ag g,aa (aL (b8 (c))),aa (b8 (c)),ag o,aa (aL (b8 (e))),aa (b8 (e)),aa (aL (ab h8)),az h8,az h9] 52614061732110455557256335874139780234039523287169:di kQ ((fl jS []).drop 3) 2 (dj u d D ao) 81723283 .normal [] (dj u d D ao)) ?_;exact LH u d D ao p (λ_=>q) w F
       |true=>
        refine dH (s:=dj u d D D) l 2 (wy [ag g,aa (aL (b8 (c))),aa (b8 (c)),aa (aL (ab (λh=>f ⟨rfl,h⟩:¬(u.data).toList=((eQ (#[(48:hN)])).data).toList))),ag o,aa (aL (b8 (e))),aa (b8 (e)),aa (aL (ab h8)),az h8,az (λh=>f ⟨rfl,h⟩:¬(u.data).toList=((eQ (#[(48:hN)])).data).toList),az h9] 65219602905605831220621709583127873508454889955457:di kQ ((fl jS []).drop 3) 2 (dj u d D D) 81723327 .normal [] (dj u d D D)) ?_;exact LH u d D D p (λ_=>q) w F
def awQ(s:AT)(q:s.size<=1000000000):Holds em D 54 [sv s] (iv (ckR s)):=by
 have o:=S3;refine bK jS func54 λw F=>?_
 obtain⟨g,h,l,f⟩:=awN s;have c:bE (ak (bW s))<=(bW s).size:=by rw[eD];exact nd _
 have r:(bW s).size<=s.size:=by
  rcases Hu s with⟨_,h2⟩|⟨_,h2,_⟩
  .have:=congrArg jC h2;rw[la,<-eD,<-eD]at this;omega
  .rw[h2];exact aC _
 have p:vn s=D:=ay ω;have e:cL kQ (fl jS []) 3 71 [sv s] 1 .normal [] (dj (bW (ke s jQ)) (xn s jQ) (qN s jQ) (ck (ke s jQ))):=wy [aa p,ag (rfl:(eQ (#[(45:hN)]))=(eQ (#[(45:hN)])))] 129;rw[g,h,l,f]at e;have m:ckR s=Hv ((bW s).extract 0 (bE (ak (bW s)))) ((bW s).extract (bE (ak (bW s))+1) (bW s).size) (bP (bE (ak (bW s))<(bW s).size)) (ck s):=(awO c).symm;rw[m];refine cE o 3 e ?_;exact awP _ _ _ _ (by rw[mW _ _ _ c];omega) (by rw[mW _ _ _ (aC _)];omega) w F
attribute [local irreducible] ckR
def awR:ab3.Ok em:=λ⟨s,_⟩ h=>by
 have h:bP (s.size<=1000000000)=D:=h;exact awQ s (cC h)
--}
end
section
set_option maxHeartbeats 4000000
noncomputable section
def smI2(a:bf):dF:=I.isEmpty (α:=N) a.2&&jL a.1
abbrev sl(l:I AT):af:= .bh ao .str l
abbrev LI(f:ya):af:= .raw (.func (.func f) #[] #[])
def VH(l:I AT):dF:=bP (l.length<=1000)&&l.all λs=>decide (s.size<=1000000000)&&bP (ckR s=0)
noncomputable def awS(t:I (N×N)):(N×I N)×(N×I N):=xo t t.length
def US(s:AT):Prop:=∃r,yT r/\s=aW r
def ab7{r:qA}(h:yT r):toQ (aW r)=r:=io (k:=2) δ ⟨by have:=h.1;show(r.num.natAbs:N)<1000000000000000000;omega,by have:=h.2;show(r.den:N)<1000000000000000000;omega⟩
attribute [local irreducible] AU AX cW txS okTx smI2 aW toQ jb VH okQ
attribute [local semireducible] AU AX cW txS okTx smI2 aW toQ jb VH okQ
def ub{t:I (N×N)}(h:ij t=0):QR 5 (awS t) (fX t)/\wd t/\t.length<=4:=by
 obtain⟨c,h2⟩:=K3 h;have q:=RN h2 t.length (aC _);rw[ar8]at q;exact⟨q.mono ω,RV.2 h2,c⟩
end
end
noncomputable section
def Hw:=NO f19
def awT:=NO f206
def S4:=NO f83
def jT(s:AT):N:=if s=eQ #[48]then 0 else if 0<s.size/\(cr s 0).toNat=45 then-1 else 1
def S5{a b:AT}(h:a.data.toList=b.data.toList):a=b:=by
 cases a;cases b;simp at h;rw[h]
def awY(s:AT):Holds em D 19 [sv s] (iv (jT s)):=by
 have e:=ba;refine bK Hw func19 λw F=>?_
 unfold jT;by_cases c:s=eQ #[48]
 .rw[dA c];exact bt e 9 (wy [ag (congrArg ak c:(s.data).toList=((eQ #[48]).data).toList)] 1:bk (aA []) (fl Hw []) 9 13 [sv s] 3 f19 D (iv 0))
 .rw[db c];by_cases f:0<s.size
  .by_cases h2:(cr s 0).toNat=45
   .rw[dA ⟨f,h2⟩];exact bt e 9 (wy [az (λh=>c (S5 h):¬(s.data).toList=((eQ #[48]).data).toList),aa (aK (ay (ω:(s.size:N)>0))),ag (ω:ea 0<s.size),ag (ω:(s.size:N)>0),cT (show(↑(lK (s.data.toList.getD (ea 0) (0:hN))):N)=45 from by show((cr s 0).toNat:N)=45;omega)] 22267308286081:bk (aA []) (fl Hw []) 9 13 [sv s] 126 f19 D (iv (-1)))
   .rw[db λh=>h2 h.2];exact bt e 9 (wy [az (λh=>c (S5 h):¬(s.data).toList=((eQ #[48]).data).toList),aa (aK (ay (ω:(s.size:N)>0))),ag (ω:ea 0<s.size),ag (ω:(s.size:N)>0),yn (show ¬(↑(lK (s.data.toList.getD (ea 0) (0:hN))):N)=45 from by show¬((cr s 0).toNat:N)=45;omega)] 22267308286081:bk (aA []) (fl Hw []) 9 13 [sv s] 94 f19 D (iv 1))
  .rw[db λh=>f h.1];exact bt e 9 (wy [az (λh=>c (S5 h):¬(s.data).toList=((eQ #[48]).data).toList),aa (aK (ab (ω:¬(s.size:N)>0))),az (ω:¬(s.size:N)>0)] 50864257:bk (aA []) (fl Hw []) 9 13 [sv s] 64 f19 D (iv 1))
def Hx:=IN 19 [.str] [.int .i64] D (λd=>D) λd=>(jT d.1,())
def awZ:=aA [F0]
def S6:=aA [Hx]
def BE(s:AT):AT:=if jT s<0 then s.extract 1 s.size else s
def aEE(s:AT)(c:s.size<=1000000000)(h2:¬(↑(bE s.data.toList):N)=(s.size:N))(h3:i6 ((↑(bE s.data.toList):N)+1))(h4:((↑(bE s.data.toList):N)+1).toNat<=s.size)(h5:(s.extract ((↑(bE s.data.toList):N)+1).toNat s.size)=(s.extract (bE s.data.toList+1) s.size)):
  bk awZ (fl awT []) 9 14 [sv s] 2 f206 D (sv (s.extract (bE (ak s)+1) s.size)):=
 wy [ag c,yn h2,yi h3,ag h4,ag (by omega:s.size<=s.size),av h5] 417752690817
def LJ:Hx.Ok em:=λ⟨s,_⟩ _=>awY s
def ab8:bI em (bJ S6):=uA LJ
def ab9:=IN 83 [.str] [.str] D (λd=>D) λd=>(BE d.1,())
def aw2{s:AT}(h:jT s<0):0<s.size:=by
 unfold jT at h;split at h
 .exact absurd h δ
 .split at h
  .rename_i c;exact c.1
  .exact absurd h δ
def aw3:ab9.Ok em:=λ⟨s,_⟩ _=>by
 show Holds em D 83 [sv s] (sv (BE s));refine bK S4 func83 λw F=>?_
 unfold BE;by_cases c:jT s<0
 .rw[dA c];exact bt ab8 9 (wy [ag c,ag (show ea 1<=s.size from by have:=aw2 c;omega),ag (by omega:s.size<=s.size),av (rfl:(s.extract (ea 1) s.size)=(s.extract 1 s.size))] 4345823296:bk S6 (fl S4 []) 9 9 [sv s] 3 f83 D (sv (s.extract 1 s.size)))
 .rw[db c];exact bt ab8 9 (wy [az c] 64:bk S6 (fl S4 []) 9 9 [sv s] 2 f83 D (sv s))
end
set_option maxRecDepth 100000 in
set_option maxHeartbeats 4000000 in
def aw4(g k:E)(x y:N)(cur:fh Value)(w:du)(hb:w.heap[g]? =O (.cells cur 3 (0,0)))(h0:cur[0]? =O (.int .i64 x))(h1:cur[1]? =O (.int .i64 y))(hk:2<=k):
  DG em 78 #[.slice (O ⟨g,0,bs⟩) 2 k,.int .i64 0,.int .i64 1] w λe w'=>e=.returned (.slice (O ⟨g,0,bs⟩) 1 k)/\w'=(w.drew.setCells g 0 [.int .i64 y]).setCells g 1 [.int .i64 0]:=by
 obtain⟨i0,lX,AP,Dh,Ga⟩:=info_parts Tryz.JX;have c0:w.cell? ⟨g,0,bs⟩=O (.int .i64 x):=by rw[Ì _ _ 0 cur _ _ hb];exact h0
 have c1:w.cell? ⟨g,1,bs⟩=O (.int .i64 y):=by rw[Ì _ _ 1 cur _ _ hb];exact h1
 have f0:w.frozen? ⟨g,0,bs⟩=ao:=by simp[du.frozen?,hb]
 have f1:w.frozen? ⟨g,1,bs⟩=ao:=by simp[du.frozen?,hb]
 have k1:¬k=1:=by omega
 have k0:0<=k:=by omega
 have aEF:1<=k:=by omega
 refine calls_of_wp func78 rfl ?_;simp only[Tryz.ntmps78,I.size_toArray,la,IJ,E.reduceAdd,E.reduceSub,UU,U0,I.push_toArray,I.append_toArray,ts,Aj]
 go_wp2_with fail
 have s1:=Lib.hid (show∀t u,[Value.int .i64 y][t]? =O u->w.drew.cell? ((⟨g,1,bs⟩:wu).add t)=O u from λt u hu=>by
  cases t with
  |zero=>simp at hu;subst hu;exact c1
  |succ t=>simp at hu)
 have s2:=Lib.hid (show∀t,t<[Value.int .i64 y].length->(w.drew.cell? ⟨g,0+0*1+t,bs⟩).isSome=D/\w.drew.frozen? ⟨g,0+0*1+t,bs⟩=ao from λt ht=>by
  obtain rfl:t=0:=by simpa using ht
  exact⟨by show(w.cell? _).isSome=D;rw[c0];rfl,f0⟩)
 have s3:=Lib.hid (show∀u∈[Value.int .i64 y],u.oneCell'=D from λu hu=>by simp at hu;subst hu;rfl);obtain⟨bS,jU⟩:∃bS,bS=w.drew.setCells g (0+0*1) [.int .i64 y]:=⟨_,rfl⟩;have hW:=Lib.hid jU;have b1:bH bS g 3 (cur.setIfInBounds 0 (.int .i64 y)):=by rw[jU];exact(bH.drew hb).set 0 _
 have e1:(cur.setIfInBounds 0 (Value.int .i64 y))[1]? =O (.int .i64 y):=by rw[pp];simpa using h1
 have w1:bS.cell? ⟨g,1,bs⟩=O (.int .i64 y):=by rw[b1.cell 1];exact e1
 have hc1:∀j,j<1->(bS.cell? ⟨g,1+j,bs⟩).isSome=D:=λj hj=>by
  obtain rfl:j=0:=by omega
  rw[E.add_zero,w1];rfl
 have AM:∀j,j<1->bS.frozen? ⟨g,1+j,bs⟩=ao:=λj hj=>b1.frozen _
 have ri:∀w,(zeroValue 3).run em w=.ok (.int .i64 0) w:=λw=>Fj (by simp[ou,lX,AP]) w
 have jg:∀ty,(na.clear_ #[98] ty #[.slice (O ⟨g,1,bs⟩) 1 (k-1)]).run em bS=.ok (.tuple #[]) (bS.setCells g 1 [.int .i64 0]):=λty=>
  Lib.run_clear_slice bS _ _ ty _ Tryz.underlying98 ri rfl rfl g 1 1 (k-1) δ hc1 AM
 clear jU;have mx:prog.follows .mixedOrders=D:=mixed
 go_region_law_o (refine step_append_room rfl (.tmp 22) (.tmp 25) 98 rfl 3 i0 1 Tryz.underlying98 lX Dh g 0 0 k (by simp[ç,Zq.put]) ⟨g,1,bs⟩ 1 (k-1) [.int .i64 y] (by simp[ç,Zq.put]) rfl s1.out s3.out ω s2.out ?_;rw[<-hW.out])
 go_wp2
 go_ret
 exact⟨rfl,by rw[hW.out]⟩
noncomputable section
def acd(i:E)(H:ai)(c:da bn):aM:=match c with
 |some (.cells e [.raw (.int .i64 _),.raw (.int .i64 y)] ao ao ao)=>oi (dd e 3) (.ok (.slice i 0 1 .full) (H.set i (.cells e [.raw (.int .i64 y)] ao ao ao))) .no
 |_=>.no
def S7(args:I af)(H:ai):aM:=match args with
 |[.slice i 0 2 .full,.raw (.int .i64 0),.raw (.int .i64 1)]=>acd i H (H.get i)
 |_=>.no
def LK:fe:=λf c H=>@jh (λ_=>aM) (bJ RL f c H) (S7 c H) (dd f 78)
def zd{args:I af}{H:ai}{v:af}{H':ai}(h:S7 args H=.ok v H'):∃i x y,args=[.slice i 0 2 .full,.raw (.int .i64 0),.raw (.int .i64 1)]/\H.get i=O (.cells 3 [.raw (.int .i64 x),.raw (.int .i64 y)] ao ao ao)/\
  v=.slice i 0 1 .full/\H'=H.set i (.cells 3 [.raw (.int .i64 y)] ao ao ao):=by
 unfold S7 at h;split at h
 .rename_i i;unfold acd at h;split at h
  .rename_i e x y f;cases c:dd e 3 with
   |false=>rw[c]at h;cases h
   |true=>
    rw[c]at h;obtain rfl:=ac c;cases h;exact⟨i,x,y,rfl,f,rfl,rfl⟩
  .cases h
 .cases h
def aw5:bI em LK where
 mono l M K v L h:=by
  unfold LK at h;cases c:dd l 78 with
  |false=>rw[c]at h;exact RM.mono _ _ _ _ _ h
  |true=>
   rw[c]at h;obtain⟨i,x,y,_,_,_,rfl⟩:=zd h;exact aC _
 dc l M K v L h J t H w m p P B W:=by
  unfold LK at h;cases c:dd l 78 with
  |false=>rw[c]at h;exact RM.dc _ _ _ _ _ h J t H w m p P B W
  |true=>
   rw[c]at h;obtain rfl:=ac c;obtain⟨i,x,y,rfl,C,rfl,rfl⟩:=zd h
   match H,B with
   |[c,e,f],.cons d0 (.cons d1 (.cons d2 .nil))=>
    obtain⟨g,Q,k,f,q,c,rfl⟩:=d0.jv;have q:k=Q:=q;subst q;rw[d1.cu,d2.cu];obtain⟨ys,e,z,m,A,_,o,h⟩:=nO p C f;have m:=m rfl;subst m;have o:=o rfl;have G:ys[0]? =O (.int .i64 x):=by
     obtain⟨l,e,r⟩:=A.get (i:=0) rfl;rw[r.cu]at e;simpa using e
    have h:ys[1]? =O (.int .i64 y):=by
     obtain⟨l,e,r⟩:=A.get (i:=1) rfl;rw[r.cu]at e;simpa using e
    refine Dg (n:=0) (wQ.2 ((aw4 g k x y ys w z G h c).mono ?_));rintro e c ⟨rfl,rfl⟩;have S:bH (w.drew.setCells g 0 [.int .i64 y]) g 3 (ys.setIfInBounds 0 (.int .i64 y)):=(bH.drew z).set 0 _;have U:bH ((w.drew.setCells g 0 [.int .i64 y]).setCells g 1 [.int .i64 0]) g 3 ((ys.setIfInBounds 0 (.int .i64 y)).setIfInBounds 1 (.int .i64 0)):=S.set 1 _;have V:∀j,j≠g->((w.drew.setCells g 0 [.int .i64 y]).setCells g 1 [.int .i64 0]).heap[j]? =w.heap[j]? :=λj F=>(YW _ _ _ j F).trans (YW _ _ _ j F)
    have e:aE t [af.raw (Value.int .i64 y)] (((ys.setIfInBounds 0 (Value.int .i64 y)).setIfInBounds 1 (.int .i64 0)).toList.take [af.raw (Value.int .i64 y)].length):=by
     have T:(((ys.setIfInBounds 0 (Value.int .i64 y)).setIfInBounds 1 (.int .i64 0)).toList.take [af.raw (Value.int .i64 y)].length)=[.int .i64 y]:=by
      have c:0<ys.size:=(cy.1 G).1;refine I.ext_getElem? λj=>?_
      rw[ly];cases j with
      |zero=>simp[c]
      |succ j=>simp
     rw[T];exact .cons (.raw _) .nil
    obtain⟨c,h⟩:=xX p C f rfl (k:= .cells 3 [.raw (.int .i64 y)] ao ao ao) ((w.drew.setCells g 0 [.int .i64 y]).setCells g 1 [.int .i64 0]) _ rfl rfl rfl (by show(du.setCell (du.setCell w.drew ⟨g,0,bs⟩ _) ⟨g,1,bs⟩ _).heap.size=_;simp[du.setCell]) U V
     ⟨_,_,rfl,λ_=>rfl,e,(λX=>by cases X),λ_=>⟨g,k,f,by simpa using o⟩⟩
    exact⟨_,t,rfl,.slice f rfl ω,c,h⟩
