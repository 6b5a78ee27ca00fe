import Derived.Test.YtdajfemhnlpegaaGreatDoorGbVDv3
import Derived.Lib.SmallJoins
open Array renaming length_toList->KQ
open BitVec renaming toNat->ru,ofInt->gF
open Bool renaming true->D,false->ao,or_eq_true->qh,not_eq_true'->Gp
open Go renaming World->du,IntKind->be,Program->fd,FuncId->ya,callsIn_wide->wQ
open Go.IntKind renaming wrap->ca,i64->iz
open Go.Lib renaming decFrom->vm,digitVal->YY
open Go.Proofs.Tryz renaming prog->em
open Go.RowKit.Below renaming refl->qg
open Go.World renaming cell?->Hf
open Int renaming mul_pos->G8,pow_succ->hP,mul_lt_mul_of_pos_right->sk,toNat_natCast->kh,mul_nonneg->kv,pow_add->yL,mul_assoc->km,lt_of_mul_lt_mul_left->PQ,ediv_nonneg->jN,ediv_lt_iff_lt_mul->pA,mul_add->oB,mul_one->Cu,tdiv->ej,tmod->gl,emod_add_mul_ediv->jp,neg_mul->H7,mul_comm->iN,sub_mul->sZ,one_mul->mT,mul_zero->Vh,ediv_le_self->vb,tdiv_eq_ediv_of_nonneg->ku,tmod_eq_emod_of_nonneg->lU,gcd->fo,gcd_pos_of_ne_zero_right->sq,gcd_dvd_left->Tq,gcd_dvd_right->D8,natAbs_mul->Kc,natAbs_dvd_natAbs->î,eq_of_mul_eq_mul_right->Õ,fdiv->nZ,toNat->ea,fdiv_eq_ediv_of_nonneg->D7,pow_zero->PK,toNat_of_nonneg->ZY
open List renaming drop_zero->iW,length_eq_one_iff->Jz,length_cons->la,take_succ_cons->uZ,drop_succ_cons->WY,mem_singleton->kD,eq_nil_of_length_eq_zero->ix,length->jC,length_nil->IJ
open Nat renaming beq_refl->zX,ble->dK,beq->dd,min_eq_left->ns,gcd_comm->SI,le_succ->QZ,pow_succ->C',zero_mul->CB,mul_le_mul_right->Hr,pow_le_pow_right->Q3
open Nat.Coprime renaming dvd_of_dvd_mul_left->SJ
open Option renaming some->O,none->bs,isSome_iff_exists->DF
open Prod renaming fst->ql,snd->rL
open Rat renaming divInt->gp,divInt_eq_divInt_iff->ï,num_divInt_den->tb
open _root_ renaming List->I,Int->N,Nat->E,if_neg->db,if_pos->dA,Bool->dF,decide->bP,Rat->qA,min->XR,BitVec->kx,Option->da,UInt8->hN,or_false->Xz,ByteArray->ft,Array->fh,False->lm
set_option linter.defProp false
set_option linter.unusedSimpArgs false
set_option linter.unusedVariables false
set_option maxRecDepth 100000
set_option linter.unusedSectionVars false
namespace Go.Proofs.YtdajfemhnlpegaaGreatDoor
open Go.RowKit Sv Go.Proofs.Tryz
noncomputable section
def ap1{a v:I N}{s n m:E}{f:N}(a1:aS 18446744073709551616 a)(b1:aS 18446744073709551616 v)(b':s<=63)(K:v.length=n)(g':2<=n)(f':m+n=a.length+1)(g3:1<=m)(e9:a.length<=300000)
  (L:aj v=f*2^s) (a2:0<f) (c9:18446744073709551616^(n-1)<=f) (u5:9223372036854775808<=v.getD (n-1) 0) (w:du) (F:Sv.Env):
  bp em w F 137 ((fl hG []).drop 11) (ni a v (c6 a s) (cZ m) s m).T (ni a v (c6 a s) (cZ m) s m).H (QW (gL 18446744073709551616 (aj a/f)) (gL 18446744073709551616 (aj a%f))):=by
 have B:=KH;have r:(0:N)<2^s:=eE δ _;have e7:(2:N)^s<=2^63:=j5 δ b';have e3:(2:N)^63=9223372036854775808:=rfl;have P:0<aj v:=by rw[L];exact G8 a2 r
 have T:aj v<18446744073709551616^n:=by rw[<-K];exact gY δ b1
 have b2:0<=aj a:=iq δ a1;have X:aj a<18446744073709551616^a.length:=gY δ a1;have c7:aj a*2^s<18446744073709551616^(a.length+1):=by
  rw[hP];have h1:=ar (show(2:N)^s<=18446744073709551616 by omega) b2;have h2:=sk X (show(0:N)<18446744073709551616 by decide);omega
 have W:aj (c6 a s)=aj a*2^s:=by
  unfold c6;rw[kh];exact Gs δ _ _ (kv b2 (cI r)) c7
 have c':(c6 a s).length=a.length+1:=by unfold c6;exact A5 _ _ _
 have a':aS 18446744073709551616 (c6 a s):=by unfold c6;exact Gr δ _ _
 have c4:∀k,(cZ m).getD k 0=0:=λk=>by
  unfold cZ;rw[ap,I.getElem?_replicate];split<;>rfl
 refine c_q {x:I N×I N×E//x.2.2<=m/\x.1.length=a.length+1/\aS 18446744073709551616 x.1/\x.2.1.length=m/\aS 18446744073709551616 x.2.1/\aj (x.1.drop x.2.2)<aj v/\aj x.1+aj v*aj x.2.1=aj a*2^s/\∀j,j<x.2.2->x.2.1.getD j 0=0} 2 (cat hG KF) ((fl hG []).drop 12) (λx=>ni a v x.1.1 x.1.2.1 s x.1.2.2) (λx=>x.1.2.2)
  ⟨(c6 a s,cZ m,m),aC _,c',a',iQ _,Dr _,?_,?_,λj _=>c4 j⟩ ?_
 .show aj ((c6 a s).drop m)<aj v;have h1:=uN 18446744073709551616 (c6 a s) m ω;have h2:=iq (b:=18446744073709551616) δ (a'.take m);have h3:18446744073709551616^m*aj ((c6 a s).drop m)<=aj a*2^s:=by rw[<-W];unfold aj;omega
  have h4:aj a*2^s<18446744073709551616^m*aj v:=by
   have e1:(18446744073709551616:N)^a.length=18446744073709551616^m*18446744073709551616^(n-1):=by rw[<-yL,show m+(n-1)=a.length by omega]
   have c1:=sk X r;have c2:=iK c9 (cI r);have c3:=ar c2 (cI (eE (b:=18446744073709551616) δ m));rw[<-L,<-km,<-e1]at c3;omega
  exact PQ (show 18446744073709551616^m*aj ((c6 a s).drop m)<18446744073709551616^m*aj v by omega) (cI (eE δ m))
 .show aj (c6 a s)+aj v*aj (cZ m)=_;have:aj (cZ m)=0:=Gh _ m;rw[this,W];omega
 rintro⟨⟨u,q,k⟩,a4,G,d,M,t,e,H,J⟩;have a4:k<=m:=a4;have G:u.length=a.length+1:=G;have d:aS 18446744073709551616 u:=d;have M:q.length=m:=M;have t:aS 18446744073709551616 q:=t;have e:aj (u.drop k)<aj v:=e;have H:aj u+aj v*aj q=aj a*2^s:=H;have J:∀j,j<k->q.getD j 0=0:=J;cases k with
 |zero=>
  refine aT (s:=ni a v u q s 0) B (apR a v u q s 0 ω) ?_;refine bY (cg ?_);rw[iW]at e;have e0:0<=aj u:=iq δ d;obtain⟨g1,g2⟩:=QA (A:=aj a) (b:=f) (V:=aj v) (S:=2^s) (U:=aj u) (q:=aj q) r a2 L H e0 e;rw[g1,<-ml t];refine dH (s:=ni a v u q s 0) B 1 (OF a v u q s 0) ?_;rw[K];exact apY d t b' ω ω ω ω g2 (fC _ ω) (N.lt_trans e T) w F
 |succ j=>
  have c:(((j+1:E):N)-1).toNat=j:=by omega
  have l:(((j+1:E):N)-1+v.length+1).toNat=j+(n+1):=by omega
  have z:j+(n+1)-j=n+1:=by omega
  have e':(((j+1:E):N)-1-1)=(j:N)-1:=by omega
  obtain⟨w1,w2,w3⟩:=Qz (b:=18446744073709551616) δ d (j:=j) (n:=n) (V:=aj v) ω (cI T) e;have b3:aj (tv u j (n+1))<18446744073709551616*aj v:=by unfold tv aj;rw[<-w1];exact w2
  have a9:yJ u j (n+1) v=D:=by
   unfold yJ;rw[jA.2 d,jA.2 b1,ay (show 2<=v.length by omega),K,zX,ay (show n<=1000000 by omega),ay u5,ay b3];rfl
  obtain⟨n1,n2,n3,b4⟩:=YP (b:=18446744073709551616) δ d (j:=j) (n:=n) (V:=aj v) ω P (cI T) e (u':=im u j (n+1) v) rfl;have c5:0<=aj (tv u j (n+1)):=iq δ ((d.drop j).take _);have e2:0<=kK u j (n+1) v:=jN c5 (cI P);have c0:kK u j (n+1) v<18446744073709551616:=(pA P).2 b3;have a0:∃y:{x:I N×I N×E//x.2.2<=m/\x.1.length=a.length+1/\aS 18446744073709551616 x.1/\x.2.1.length=m/\aS 18446744073709551616 x.2.1/\aj (x.1.drop x.2.2)<aj v/\aj x.1+aj v*aj x.2.1=aj a*2^s/\∀j,j<x.2.2->x.2.1.getD j 0=0},y.1.2.2<j+1/\
    (DH a v (im u j (n+1) v) (q.set j (kK u j (n+1) v)) s (j+1)).T=(ni a v y.1.1 y.1.2.1 s y.1.2.2).T/\(DH a v (im u j (n+1) v) (q.set j (kK u j (n+1) v)) s (j+1)).H=(ni a v y.1.1 y.1.2.1 s y.1.2.2).H:=by
   refine⟨⟨(im u j (n+1) v,q.set j (kK u j (n+1) v),j),by show j<=m;omega,by show(im u j (n+1) v).length=_;omega,n2,by show(q.set j _).length=m;rw[cm];exact M,t.set ⟨e2,c0⟩,b4,?_,λi C=>?_⟩,gR _,?_,rfl⟩
   .show aj (im u j (n+1) v)+aj v*aj (q.set j (kK u j (n+1) v))=_;have d':aj (q.set j (kK u j (n+1) v))=aj q+18446744073709551616^j*kK u j (n+1) v:=by
     unfold aj;rw[i8 _ _ _ _ ω,J j (gR _),N.sub_zero]
    have Q0:aj (im u j (n+1) v)+18446744073709551616^j*kK u j (n+1) v*aj v=aj u:=n3;rw[d',<-H,<-Q0];generalize aj (im u j (n+1) v)=x1;generalize kK u j (n+1) v=x2;generalize (18446744073709551616:N)^j=x3;generalize aj q=g4;generalize aj v=g5;grind
   .have C:i<j:=C;show(q.set j _).getD i 0=0;rw[qM,db ω];exact J i ω
   .show(DH a v _ _ s (j+1)).T=(ni a v _ _ s j).T;unfold DH ni;rw[e']
  have a5:u.length=(im u j (n+1) v).length:=by omega
  have a6:∀i Q,i<u.length->1<=Q->(bx 178 aF (O (.own 178 aF u)) i&&dK 1 Q)=D:=λi Q C G=>by rw[zP,ay C,aw G];rfl
  have p:(((0+1:E):N)-1+v.length+1).toNat=n+1:=by omega
  by_cases a3:j=0
  .subst a3;refine aT (s:=ni a v u q s 1) B (apP a v u q s 1 ω ω ω ω (by rw[p];omega) rfl (by rw[p];exact a6 _ _ ω ω) (by rw[p];exact a9) (by rw[c];omega) ω (by rw[p];exact a5) (by rw[cm]) (by rw[cm])) ?_;rw[p,c];exact a0
  .refine bp.all (s:=ni a v u q s (j+1)) known mixed B _ (apQ a v u q s (j+1) ω ω ω ω (by rw[l];omega) (by
    rw[c];cases hb:dd j 0 with
    |false=>rfl
    |true=>exact absurd (ac hb) a3) (by rw[l,c];omega) (by
    rw[l,c,z];exact a6 _ _ ω ω) (by rw[l,c,z];exact a9) (by rw[c];omega) ω (by rw[l,c,z];exact a5) (by rw[cm]) (by rw[cm])) (by kernel_rfl) ?_
   rw[l,c,z];exact a0
def Kx(a b:I N)(h:Bf a b=D):Holds em ao 177 [bN a,bN b] (.tuple [bN (iR a b),bN (gN a b)]):=by
 have i:=KH;unfold Bf pP at h;simp only[ae,aN,jA,gk]at h;obtain⟨⟨⟨c,M⟩,⟨hb,t⟩,d⟩,e,C,a0⟩:=h;have S:pP a b=D:=by
  unfold pP;rw[jA.2 c,gk.2 M,jA.2 hb,gk.2 t,ay d];rfl
 have W:0<=aj a:=iq δ c;have G:0<=aj b:=iq δ hb;refine bK hG func177 λa' H=>?_
 by_cases l:aj a<aj b
 .have d:iR a b=[]:=by unfold iR;rw[N.ediv_eq_zero_of_lt W l];exact anI δ
  have e:gN a b=a:=by unfold gN;rw[N.emod_eq_of_lt W l];exact(ik δ c M rfl).symm
  rw[d,e];exact bt i 3 (wy [aa S,ag (show mZ (aj a) (aj b)<0 from by unfold mZ;rw[dA l];decide)] 129:bk mA (fl hG []) 3 137 [bN a,bN b] 3 f177 ao (.tuple [bN [],bN a]))
 .refine cE i 4 (wy [aa S,az (show ¬mZ (aj a) (aj b)<0 from by unfold mZ;rw[db l];split<;>decide)] 129:cL mA (fl hG []) 4 137 [bN a,bN b] 2 .normal [] (u0 a b)) ?_;obtain⟨n,z⟩:∃n,b.length=n+1:=⟨b.length-1,by omega⟩;have w:=hb.get δ n;have d:=t n z;cases n with
  |zero=>
   obtain⟨y,rfl⟩:∃y,b=[y]:=Jz.1 z;have e:y≠0:=d;have d:0<=y/\y<18446744073709551616:=w;refine Zd (X:=mQ) (o:= .tmp 23) (x:=cat hG GA) (y:= .skip) (rest:=(fl hG []).drop 5) (by kernel_rfl) (by kernel_rfl) ?_;refine bp.mono (λe T d F=>?_) (apW c ω C a' H);obtain⟨rfl,F⟩:=F;exact F
  |succ m=>
   refine dH (s:=u0 a b) i 1 (wy [yn (ω:¬(b.length:N)=1)] 1:di mA ((fl hG []).drop 4) 1 (u0 a b) 2 .normal [] (u0 a b)) ?_;obtain⟨s,M,F,K,p⟩:=YR (x:=b.getD (m+1) 0) ω;have L:((b.length:N)-1).toNat=m+1:=by omega
   have e:(0:N)<2^s:=eE δ _;have d:=uY (u:=b) (n:=m+1) z;have d:=iq (b:=18446744073709551616) δ (hb.take (m+1));have d:=gY (b:=18446744073709551616) δ (hb.take (m+1));rw[er,ns ω]at d;have B:=eE (b:=18446744073709551616) δ (m+1);have P:18446744073709551616^(m+1)<=aj b:=vx δ hb t z
   -- the divisor, shifted up, has as many words
   have q:(b.getD (m+1) 0+1)*2^s<=18446744073709551616:=by
    have f:(18446744073709551616:N)=2^(64-s)*2^s:=by rw[<-yL,show 64-s+s=64 by omega];rfl
    have d:b.getD (m+1) 0<2^(64-s):=N.lt_of_mul_lt_mul_right (show b.getD (m+1) 0*2^s<2^(64-s)*2^s by rw[<-f];exact p) (cI e);rw[f];exact iK ω (cI e)
   have r:aj b*2^s<18446744073709551616^(m+2):=by
    have d:aj b<18446744073709551616^(m+1)*(b.getD (m+1) 0+1):=by rw[oB,Cu];unfold aj at*;omega
    have f:=sk d e;have h3:=ar q (cI B);rw[km]at f;rw[hP];omega
   have p:aj (c6 b s)=aj b*2^s:=by
    unfold c6;rw[kh];refine Gs δ _ _ (kv G (cI e)) ?_;have:=j5 (b:=18446744073709551616) δ (show m+2<=b.length+1 by omega);omega
   have z:aS 18446744073709551616 (c6 b s):=by unfold c6;exact Gr δ _ _
   have q:(c6 b s).length=m+3:=by unfold c6;rw[A5];omega
   have q:=ml z;rw[p]at q;have V:0<=aj b*2^s:=kv G (cI e);obtain⟨p,A,z⟩:=uO (b:=18446744073709551616) δ V;have A:aj (eF (c6 b s))=aj b*2^s:=by rw[q];exact z
   have U:(eF (c6 b s)).length=m+2:=by
    have d:=Ds (b:=18446744073709551616) δ V r;rw[<-q]at d;by_cases r:m+2<=(eF (c6 b s)).length
    .omega
    .have f:=gY (b:=18446744073709551616) δ p;rw[<-q]at f;have h3:=j5 (b:=18446744073709551616) δ (show(eF (c6 b s)).length<=m+1 by omega);have Q:=ar (show(1:N)<=2^s by omega) G;unfold aj at A P Q;omega
   have J:aS 18446744073709551616 (eF (c6 b s)):=by rw[q];exact p
   have q:9223372036854775808<=(eF (c6 b s)).getD (m+2-1) 0:=by
    have d:=uY (u:=eF (c6 b s)) (n:=m+1) U;have f:=gY (b:=18446744073709551616) δ (J.take (m+1));rw[er,ns ω]at f;have h3:18446744073709551616^(m+1)*(b.getD (m+1) 0*2^s)<=aj b*2^s:=by
     rw[<-km];exact iK (by unfold aj at*;omega) (cI e)
    have Q:=ar K (cI B);show _<=(eF (c6 b s)).getD (m+1) 0;rw[A]at d;have d:18446744073709551616^(m+1)*9223372036854775808<18446744073709551616^(m+1)*((eF (c6 b s)).getD (m+1) 0+1):=by
     rw[oB,Cu];unfold aj at*;omega
    have:=PQ d (cI B);omega
   have d:m+2<=a.length:=by
    refine E.not_lt.1 λd=>?_
    exact l (yA δ c hb t ω)
   have K:∀r:I N,aS 18446744073709551616 r->r.length<=300000->Ba r (s:N)=D:=λr d e=>by
    unfold Ba;rw[jA.2 d,ay (show r.length<=400000 by omega),ay (show(0:N)<=(s:N) by omega),ay (show(s:N)<64 by omega)];rfl
   have T:((c6 b s).drop 0).take (c6 b s).length=c6 b s:=by simp
   have p:eM (b.getD ((b.length:N)-1).toNat 0)=(s:N):=by rw[L];exact M
   refine bp.st (s:=u0 a b) known mixed i 2 _ (apN a b (eF (c6 b s)) s ω ω ω (by rw[L];exact yI.2 w) (by rw[p];exact K b hb a0) (by
    rw[p];have:bx 178 aF (O (.own 178 aF (c6 b s))) ((c6 b s).length-1)=D:=by rw[zP];exact ay ω
    rw[qh];exact .inr this) (by rw[p,T];omega) p (by rw[p,T])) (by kernel_rfl) ?_
   have w:((a.length:N)-(eF (c6 b s)).length+1).toNat=a.length-(m+2)+1:=by omega
   refine dH (s:=QV a (eF (c6 b s)) s) i 4 (apO a (eF (c6 b s)) s (a.length-(m+2)+1) (K a c C) ω ω ω (by rw[w];omega) rfl (by rw[w,iQ]) (by rw[w]) (by rw[iQ]) ω (by rw[w];exact A0 _) (by rw[iQ])) ?_;exact ap1 c J F U ω ω ω C A ω (by rw[show m+2-1=m+1 by omega];exact P) q a' H
def ap7:Ze.Ok em:=λ⟨a,b,_⟩ h=>Kx a b h
def xd:=NO f168
def Do:=aA [Qh,Qi,Ze,yH,Kt,A2]
abbrev KJ:Sv.Ren:=[(64,64,bs),(65,65,bs),(66,66,bs),(67,67,bs)]
section
variable(a b:bf)
def xe:bD:={n:=84,sl:=[(2,.ptr 64 0),(3,.ptr 65 0),(4,.ptr 66 0),(5,.ptr 67 0)],bF:=[(64,th a),(65,th b),(66,b0),(67,b0)],next:=68}
def mB:N×I N:=bg (br (cv a) (iR (aB a) (aB b)))
def ji:N×I N:=bg (br (cv a) (gN (aB a) (aB b)))
def Zj(c:a.2.isEmpty=D)(d:b.2.isEmpty=D)(h3:¬a.1= -9223372036854775808)(e:b.1≠0)(f:i6 (ej a.1 b.1))(i:¬gl a.1 b.1<0):
  bk Do (fl xd []) 3 84 [aP a,aP b] 1535 f168 ao (.tuple [aP (ej a.1 b.1,[]),aP (gl a.1 b.1,[])]):=
 wy [aa (aK (aK (c))),aa (aK (c)),aa (aK (aK (d))),aa (aK (d)),aa (eX.mpr h3),aa (aI (v:=iv (a.1))),aa (aI (v:=iv (b.1))),ag e,yi f,az i] 802322401637226796831279157313
def aqc(d:(aH a)=D)(l:(aH b)=D)(h3:(Bf (aB a) (aB b))=D)(m:(jz (iR (aB a) (aB b))&&lM (iR (aB a) (aB b)))=D)(p:(jz (gN (aB a) (aB b))&&lM (gN (aB a) (aB b)))=D)(q:(aH (bg (br (cv a) (gN (aB a) (aB b)))))=D)(r:fO (bg (br (cv a) (gN (aB a) (aB b))))<0)(s:(aH (bg (br (cv a) (iR (aB a) (aB b))))&&aH (1,[]))=D)(t:(aH (bg (br (cv a) (gN (aB a) (aB b))))&&aH b)=D)(e:(ll (bg (br (cv a) (iR (aB a) (aB b)))) (1,[])).1=(ll (mB a b) (1,[])).1)(f:(ll (bg (br (cv a) (iR (aB a) (aB b)))) (1,[])).2=(ll (mB a b) (1,[])).2)(i:(dE (bg (br (cv a) (gN (aB a) (aB b)))) b).1=(dE (ji a b) b).1)(c:(dE (bg (br (cv a) (gN (aB a) (aB b)))) b).2=(dE (ji a b) b).2):
  bw Do ((fl xd []).drop 3) (xe a b) 3 f168 ao (.tuple [aP (ll (mB a b) (1,[])),aP (dE (ji a b) b)]):=
 wy [aa d,aa l,aa h3,aa m,aa p,aa q,ag r,aa (aI (v:=aP (bg (br (cv a) (iR (aB a) (aB b)))))),aa s,aa (aI (v:=aP (bg (br (cv a) (gN (aB a) (aB b)))))),aa (aI (v:=aP b)),aa t,aa (aI (v:=aP (ll (bg (br (cv a) (iR (aB a) (aB b)))) ((1:N),[])))),aa (aI (v:=aP (dE (bg (br (cv a) (gN (aB a) (aB b)))) b))),av e,av f,av i,av c] 6366022754155619780025161810062091830177921
def aqd(c:(aH a)=D)(f:(aH b)=D)(h3:(Bf (aB a) (aB b))=D)(i:(jz (iR (aB a) (aB b))&&lM (iR (aB a) (aB b)))=D)(l:(jz (gN (aB a) (aB b))&&lM (gN (aB a) (aB b)))=D)(m:(aH (bg (br (cv a) (gN (aB a) (aB b)))))=D)(p:¬fO (bg (br (cv a) (gN (aB a) (aB b))))<0)(q:(bg (br (cv a) (iR (aB a) (aB b)))).1=(mB a b).1)(r:(bg (br (cv a) (iR (aB a) (aB b)))).2=(mB a b).2)(d:(bg (br (cv a) (gN (aB a) (aB b)))).1=(ji a b).1)(e:(bg (br (cv a) (gN (aB a) (aB b)))).2=(ji a b).2):
  bw Do ((fl xd []).drop 3) (xe a b) 2 f168 ao (.tuple [aP (mB a b),aP (ji a b)]):=
 wy [aa c,aa f,aa h3,aa i,aa l,aa m,az p,aa (aI (v:=aP (bg (br (cv a) (iR (aB a) (aB b)))))),aa (aI (v:=aP (bg (br (cv a) (gN (aB a) (aB b)))))),av q,av r,av d,av e] 3986500662194803160658049
noncomputable def fp:N×I N:=if jM a&&(jM b&& !(a.1== -9223372036854775808))then bg (ax a/ax b)else if ax (ji a b)<0 then ll (mB a b) (1,[])else mB a b
noncomputable def n6:N×I N:=bg (ax a%ax b)
def u9:dF:=(aH a&&aH b)&&bP (0<ax b)
end
def KK:=IN 168 [eV,eV] [eV,eV] ao (λd=>u9 d.1 d.2.1) λd=>(fp d.1 d.2.1,(n6 d.1 d.2.1,()))
def Zk:bI em (bJ Do):=dw (aV YG (aV YI (aV ap7 (aV A4 (aV Qs (aV Dy eH))))))
def Zl{n:E}{a b:bf}(h:cn n a=D)(g:cn n b=D)(hb:0<ax b):
  0<=aj (aB a)/aj (aB b)/\0<=aj (aB a)%aj (aB b)/\aj (aB a)%aj (aB b)<ax b/\aj (aB b)=ax b/\
  ((0<=ax a/\ax (mB a b)=ax a/ax b/\ax (ji a b)=ax a%ax b/\¬ax (ji a b)<0)\/
   (ax (ji a b)<0/\ax (mB a b)-1=ax a/ax b/\ax (ji a b)+ax b=ax a%ax b)\/
   (¬ax (ji a b)<0/\ax (mB a b)=ax a/ax b/\ax (ji a b)=ax a%ax b)):=by
 obtain⟨_,_,F,w,_⟩:=n4 h;obtain⟨_,_,G,H,_⟩:=n4 g;have f:aj (aB b)=ax b:=by omega
 have s:0<=aj (aB a)/aj (aB b):=jN ω ω;have p:=fC (aj (aB a)) (show aj (aB b)≠0 by omega);have B:=fZ (aj (aB a)) (show 0<aj (aB b) by omega);have C:=jp (aj (aB a)) (aj (aB b));have d:ax (mB a b)=br (cv a) (iR (aB a) (aB b)):=val_mk _;have c:ax (ji a b)=br (cv a) (gN (aB a) (aB b)):=val_mk _;have u:aj (iR (aB a) (aB b))=aj (aB a)/aj (aB b):=mt s;have i:aj (gN (aB a) (aB b))=aj (aB a)%aj (aB b):=mt p;refine⟨s,p,by omega,f,?_⟩;unfold br at d c;cases e:cv a
 .rw[e]at d c;have d:ax (mB a b)=aj (iR (aB a) (aB b)):=d;have c:ax (ji a b)=aj (gN (aB a) (aB b)):=c;have x:¬ax a<0:=λy=>by rw[w.2 y]at e;cases e
  have m:aj (aB a)=ax a:=by omega
  refine .inl ⟨by omega,by rw[d,u,m,f],by rw[c,i,m,f],by rw[c,i];omega⟩
 .rw[e]at d c;have d:ax (mB a b)= -aj (iR (aB a) (aB b)):=d;have c:ax (ji a b)= -aj (gN (aB a) (aB b)):=c;have x:=w.1 e;have m:aj (aB a)= -ax a:=by omega
  rw[u]at d;rw[i]at c;rw[f]at d c C B p s;generalize aj (aB a)/ax b=q at*;generalize aj (aB a)%ax b=A at*;by_cases J:A=0
  .obtain⟨z,r⟩:=A6 (U:=ax a) (V:=ax b) (t:= -q) hb (by rw[H7,iN q];omega) (by rw[H7,iN q];omega);rw[H7,iN q]at r;exact .inr (.inr ⟨by omega,by omega,by omega⟩)
  .have l:(-q-1)*ax b= -(ax b*q)-ax b:=by rw[sZ,mT,H7,iN q]
   obtain⟨z,r⟩:=A6 (U:=ax a) (V:=ax b) (t:= -q-1) hb (by rw[l];omega) (by rw[l];omega);rw[l]at r;exact .inr (.inl ⟨by omega,by omega,by omega⟩)
def Q4{n:E}{a b:bf}(h:cn n a=D)(g:cn n b=D)(hb:0<ax b):ax (fp a b)=ax a/ax b:=by
 obtain⟨_,_,_,_,e⟩:=Zl h g hb;unfold fp;split
 .exact val_mk _
 .split
  .rename_i d;rw[val_sub];have c:ax (1,[])=1:=rfl;rw[c];omega
  .omega
def Q5(a b:bf):ax (n6 a b)=ax a%ax b:=val_mk _
def Zn(x:N){y:N}(d:0<y):(x/y).natAbs<=x.natAbs:=by
 have l:=jp x y;have m:=fC x (show y≠0 by omega);have h3:=fZ x d;by_cases e:0<=x
 .have c:0<=x/y:=jN e ω;have:=iK (show 1<=y by omega) c;omega
 .have c:x/y<= -1:=by
   have:x/y<0:=(pA d).2 ω;omega
  have f:=ar (show x/y+1<=0 by omega) (show 0<=y-1 by omega);rw[Vh]at f;have i:(y-1)*(x/y+1)=y*(x/y)+y-x/y-1:=by grind
  omega
def Zo{n:E}{a b:bf}(h:cn n a=D)(g:cn n b=D)(hb:0<ax b)(i:1<=n):cn n (fp a b)=D:=by
 have c:=Q4 h g hb;have m:=mj h i;have p:=Zn (ax a) hb;have d:∀z:N,z=ax a/ax b->(z.natAbs:N)<18446744073709551616^n:=λz l=>by subst l;omega
 unfold fp at c ⊢;split
 .exact(nh (d _ rfl)).1
 .rename_i f;rw[db f]at c;split
  .rename_i e;rw[dA e,val_sub]at c;exact Gn (by rw[fg];exact d _ ω)
  .rename_i e;rw[db e]at c;unfold mB at c ⊢;rw[val_mk]at c;exact(nh (d _ c)).1
section
variable{n:E}{a b:bf}(g:cn n b=D)(hb:0<ax b)(Z:1<=n)
def Zp:((ax a%ax b).natAbs:N)<18446744073709551616^n:=by
 have c:=fC (ax a) (show ax b≠0 by omega);have d:=fZ (ax a) hb;have h3:=mj g Z;omega
def aqe:cn n (n6 a b)=D:=(nh (Zp g hb Z)).1
end
section
variable(a b:bf)(h:aH a=D)(g:aH b=D)(hb:0<ax b)
def Q6(u:¬(jM a&&(jM b&& !(a.1== -9223372036854775808)))=D)(w:du)(F:Sv.Env):
  bp em w F 84 ((fl xd []).drop 3) (xe a b).T (xe a b).H (ew em ao f168 (.tuple [aP (fp a b),aP (n6 a b)])):=by
 have t:=Zk;obtain⟨m,l,c,x,X⟩:=Zl h g hb;obtain⟨B,C,G,J,K⟩:=n4 h;obtain⟨M,P,Q,S,U⟩:=n4 g;have r:Bf (aB a) (aB b)=D:=by
  unfold Bf;have z:1<=(aB b).length:=by
   cases y:aB b with
   |nil=>rw[y]at x;have:aj []=0:=rfl;omega
   |cons _ _=>simp
  rw[show pP (aB a) (aB b)=D from Qm h g,ay z,ay (show(aB a).length<=300000 by omega),ay (show(aB b).length<=300000 by omega)];rfl
 have q:=Dw m;have p:=Dw l;have W:=mj h δ;have V:=mj g δ;have L:aj (aB a)/aj (aB b)<=aj (aB a):=vb _ ω;have okQ:aH (mB a b)=D:=by
  refine(nh ?_).1;rw[Qk (cv a) (w:=iR (aB a) (aB b)) (uO (b:=18446744073709551616) δ m).1,show aj (iR (aB a) (aB b))=_ from mt m];omega
 have d:aH (ji a b)=D:=by
  refine(nh ?_).1;rw[Qk (cv a) (w:=gN (aB a) (aB b)) (uO (b:=18446744073709551616) δ l).1,show aj (gN (aB a) (aB b))=_ from mt l];omega
 by_cases c:ax (ji a b)<0
 .have e:fp a b=ll (mB a b) (1,[]):=by unfold fp;rw[db u,dA c]
  have i:ax (dE (ji a b) b)=ax a%ax b:=by rw[Dt];omega
  have f:dE (ji a b) b=n6 a b:=by
   have A:aH (dE (ji a b) b)=D:=Gn (by rw[<-Dt,i];exact Zp g hb δ);have:=H4 A (by rw[i];have:=fC (ax a) (show ax b≠0 by omega);omega);rw[i]at this;exact this
  rw[e,<-f];have one:aH ((1:N),([]:I N))=D:=rfl;exact bM (s:=xe a b) t (aqc a b h g r q p d (by unfold fO;exact N.lt_of_le_of_lt (N.le_of_eq (Kk c)) δ) (by rw[ae];exact⟨okQ,one⟩) (by rw[ae];exact⟨d,g⟩) rfl rfl rfl rfl)
 .have e:fp a b=mB a b:=by unfold fp;rw[db u,db c]
  have f:ji a b=n6 a b:=by
   unfold n6;have:ax (ji a b)=ax a%ax b:=by omega
   rw[<-this];unfold ji;rw[val_mk]
  rw[e,<-f];exact bp.iC (s:=xe a b) known mixed t _ (aqd a b h g r q p d (by
   show¬mh (ax (ji a b))<0;unfold mh;rw[db c];split<;>decide) rfl rfl rfl rfl) λT H h=>h
def aqf:Holds em ao 168 [aP a,aP b] (.tuple [aP (fp a b),aP (n6 a b)]):=by
 have f:=Zk;refine bK xd func168 λw F=>?_
 by_cases c:a.2=[]
 .have K:=A3 h c;by_cases d:b.2=[]
  .have S:=A3 g d;by_cases i:a.1= -9223372036854775808
   .refine cE f 3 (wy [aa (aK (aK ((dW.2 c:a.2.isEmpty=D)))),aa (aK ((dW.2 c:a.2.isEmpty=D))),aa (aK (aK ((dW.2 d:b.2.isEmpty=D)))),aa (aK ((dW.2 d:b.2.isEmpty=D))),aa (cS.mpr i)] 1425176500113473:cL Do (fl xd []) 3 84 [aP a,aP b] 767 .normal KJ (xe a b)) (Q6 a b h g hb (λe=>?_) w F);simp only[ae,Gp,fB]at e;exact e.2.2 i
   .have u:=qI c;have m:=qI d;rw[m]at hb;have B:(jM a&&(jM b&& !(a.1== -9223372036854775808)))=D:=by
     rw[dW.2 c,dW.2 d,fB.2 i];rfl
    have C:=N.tmod_add_mul_tdiv a.1 b.1;have l:=fC a.1 (show b.1≠0 by omega);have l:=fZ a.1 hb;have L:=jp a.1 b.1;have J:=Zn a.1 hb;have z:fp a b=(a.1/b.1,[]):=by
     unfold fp;rw[dA B,u,m];exact uS ω
    have A:n6 a b=(a.1%b.1,[]):=by
     unfold n6;rw[u,m];exact uS ω
    rw[z,A];by_cases x:0<=a.1
    .have l:a.1.tdiv b.1=a.1/b.1:=ku x;have q:a.1.tmod b.1=a.1%b.1:=lU x;have:=bp.ret (P:=em) (w0:=w) (F:=F) (X:=mQ) known mixed f 3 _ (Zj a b (dW.2 c) (dW.2 d) i ω (by rw[l];omega) (by rw[q];omega)) λT H h=>h
     rw[l,q]at this;exact this
    .have l:a.1.tdiv b.1= -((-a.1)/b.1):=by
      have:=N.neg_tdiv (a:= -a.1) (b:=b.1);rw[N.neg_neg]at this;rw[this,ku ω]
     have W:=jp (-a.1) b.1;have m:=fC (-a.1) (show b.1≠0 by omega);have m:=fZ (-a.1) hb;have G:0<=(-a.1)/b.1:=jN ω ω;have M:(-a.1)/b.1<= -a.1:=vb _ ω;have q:a.1.tmod b.1= -((-a.1)%b.1):=by
      rw[l,N.mul_neg]at C;omega
     have p:a.1.tdiv b.1*b.1= -(b.1*(-a.1/b.1)):=by rw[l,H7,iN]
     by_cases Q:(-a.1)%b.1=0
     .obtain⟨s,y⟩:=A6 (U:=a.1) (V:=b.1) (t:=a.1.tdiv b.1) hb (by rw[p];omega) (by rw[p];omega);have:=bp.ret (P:=em) (w0:=w) (F:=F) (X:=mQ) known mixed f 3 _ (Zj a b (dW.2 c) (dW.2 d) i ω ω ω) λT H h=>h
      rw[<-s,show a.1.tmod b.1=a.1%b.1 by omega]at this;exact this
     .have r:(a.1.tdiv b.1-1)*b.1= -(b.1*(-a.1/b.1))-b.1:=by rw[sZ,mT,p]
      obtain⟨s,y⟩:=A6 (U:=a.1) (V:=b.1) (t:=a.1.tdiv b.1-1) hb (by rw[r];omega) (by rw[r];omega);have:=bp.ret (P:=em) (w0:=w) (F:=F) (X:=mQ) known mixed f 3 _ (wy [aa (aK (aK ((dW.2 c:a.2.isEmpty=D)))),aa (aK ((dW.2 c:a.2.isEmpty=D))),aa (aK (aK ((dW.2 d:b.2.isEmpty=D)))),aa (aK ((dW.2 d:b.2.isEmpty=D))),aa (eX.mpr i),aa (aI (v:=iv (a.1))),aa (aI (v:=iv (b.1))),ag (ω:b.1≠0),yi (ω:i6 (ej a.1 b.1)),ag (ω:gl a.1 b.1<0),yi (ω:i6 (ej a.1 b.1-1)),yi (ω:i6 (gl a.1 b.1+b.1))] 251558458034092392577408602166792257:bk Do (fl xd []) 3 84 [aP a,aP b] 2047 f168 ao (.tuple [aP (ej a.1 b.1-1,[]),aP (gl a.1 b.1+b.1,[])])) λT H h=>h
      rw[<-s,show a.1.tmod b.1+b.1=a.1%b.1 by rw[y,r];omega]at this;exact this
  .exact bp.to known mixed f 3 _ (wy [aa (aK (aK ((dW.2 c:a.2.isEmpty=D)))),aa (aK ((dW.2 c:a.2.isEmpty=D))),aa (aK (aK ((uR.2 d:b.2.isEmpty=ao)))),aa (aK ((uR.2 d:b.2.isEmpty=ao)))] 17801616560193:cL Do (fl xd []) 3 84 [aP a,aP b] 527 .normal KJ (xe a b)) (by kernel_rfl) (Q6 a b h g hb (λe=>by
    simp only[ae]at e;exact d (dW.1 e.2.1)) w F)
 .exact bp.to known mixed f 3 _ (wy [aa (aK (aK ((uR.2 c:a.2.isEmpty=ao)))),aa (aK ((uR.2 c:a.2.isEmpty=ao)))] 528449:cL Do (fl xd []) 3 84 [aP a,aP b] 512 .normal KJ (xe a b)) (by kernel_rfl) (Q6 a b h g hb (λe=>by
   simp only[ae]at e;exact c (dW.1 e.1)) w F)
end
def KM{a b:bf}:u9 a b=D↔aH a=D/\aH b=D/\0<ax b:=by
 unfold u9;simp only[ae,aN,and_assoc]
def Q9:KK.Ok em:=λ⟨a,b,_⟩ h=>by
 obtain⟨c,d,h3⟩:=KM.1 (show u9 a b=D from h);exact aqf a b c d h3
def Bg:=NO f114
def Ra:=NO f147
def Bh:=NO f88
def Bi:=aA [YN,yH,KK,A1]
abbrev cq:I E:=[1,1,0,0,0]
def ve(a b:bf):bD:={n:=23,sl:=[(2,.ptr 64 0),(3,.ptr 65 0),(4,.ptr 66 0)],bF:=[(64,th a),(65,th b),(66,b0)],next:=67}
def e5(a b:bf):N×I N:=bg (fo (ax a) (ax b))
noncomputable def kM(a b:bf):N×I N:=if ax b<0 then fp (fN a) (fN b)else fp a b
def kN(a b:bf):dF:=(aH a&&aH b)&& !(ax b==0)
def KN:=IN 114 [eV,eV] [eV] ao (λd=>aH d.1&&aH d.2.1) λd=>(e5 d.1 d.2.1,())
def Rb:=IN 147 [eV,eV] [eV] ao (λd=>kN d.1 d.2.1) λd=>(kM d.1 d.2.1,())
def Zs:bI em (bJ Bi):=dw (aV aot (aV A4 (aV Q9 (aV Dx eH))))
def Zt{a:bf}:fO a=0↔ax a=0:=by
 unfold fO mh;split
 .constructor
  .intro h;exact absurd h δ
  .intro h;omega
 .split
  .simp[*]
  .constructor
   .intro h;exact absurd h δ
   .intro h;omega
def KO{a:bf}:fO a<0↔ax a<0:=by
 unfold fO mh;split
 .simp[*]
 .split
  .simp[*]
  .constructor
   .intro h;exact absurd h δ
   .intro h;omega
def Zu{a:bf}(h:aH a=D):aH (tl a)=D:=by
 have:=mj h δ;exact(nh (by rw[N.natAbs_natCast];exact this)).1
def Zv{x y:N}(c:0<=x)(d:0<y):fo y (x%y)=fo x y:=by
 obtain⟨m,rfl⟩:∃m:E,x=(m:N):=⟨x.toNat,by omega⟩;obtain⟨n,rfl⟩:∃n:E,y=(n:N):=⟨y.toNat,by omega⟩;rw[<-N.natCast_emod];show E.gcd n (m%n)=E.gcd m n;rw[SI n,<-E.gcd_rec,SI]
def aqo(a b:bf)(h:aH a=D)(g:aH b=D):Holds em ao 114 [aP a,aP b] (aP (e5 a b)):=by
 have d:=Zs;refine bK Bg func114 λz F=>?_
 refine cE d 2 (wy [aa (aI (v:=aP a)),aa h,aa (aI (v:=aP b)),aa g] 67907713:cL Bi (fl Bg []) 2 23 [aP a,aP b] 1 .normal s3 (ve (tl a) (tl b))) ?_;refine c_q {x:bf×bf//aH x.1=D/\aH x.2=D/\0<=ax x.1/\0<=ax x.2/\fo (ax x.1) (ax x.2)=fo (ax a) (ax b)} 0 (cat Bg cq) ((fl Bg []).drop 3) (λx=>ve x.1.1 x.1.2) (λx=>(ax x.1.2).natAbs)
  ⟨(tl a,tl b),Zu h,Zu g,by rw[Ku];omega,by rw[Ku];omega,by rw[Ku,Ku];rfl⟩ ?_
 rintro⟨⟨x,y⟩,f,c,m,p,e⟩;have f:aH x=D:=f;have c:aH y=D:=c;have m:0<=ax x:=m;have p:0<=ax y:=p;have e:fo (ax x) (ax y)=fo (ax a) (ax b):=e;by_cases l:ax y=0
 .refine aT (s:=ve x y) d (wy [aa c,aa (cS.mpr (Zt.2 l:fO y=0))] 129:aR Bi (fl Bg cq) (ve x y) 2 (.exit 0) s3 (ve x y)) ?_;refine bY (cg ?_);have q:x=e5 a b:=by
   have r:=H4 f ω;unfold e5;rw[<-e,l];have:((fo (ax x) 0:E):N)=ax x:=by
    show((E.gcd (ax x).natAbs 0:E):N)=_;rw[E.gcd_zero_right];omega
   rw[this];exact r
  rw[<-q];exact bM (s:=ve x y) d (wy [] 0:bw Bi ((fl Bg []).drop 3) (ve x y) 1 f114 ao (aP x))
 .have i:0<ax y:=by omega
  have u:=fC (ax x) l;have w:=fZ (ax x) i;refine aT (s:=ve x y) d (wy [aa c,aa (eX.mpr (λt=>l (Zt.1 t):¬fO y=0)),aa (KM.2 ⟨f,c,i⟩:(u9 x y)=D),aa (aI (v:=aP y)),aa (aI (v:=aP (n6 x y)))] 5453656193:aR Bi (fl Bg cq) (ve x y) 3 .normal s3 (ve y (n6 x y))) ?_;refine⟨⟨(y,n6 x y),c,aqe c i δ,p,by show 0<=ax (n6 x y);rw[Q5];exact u,?_⟩,?_,rfl,rfl⟩
  .show fo (ax y) (ax (n6 x y))=_;rw[Q5,Zv m i,e]
  .show(ax (n6 x y)).natAbs<(ax y).natAbs;rw[Q5];omega
def Rc:KN.Ok em:=λ⟨a,b,_⟩ h=>by
 have h:(aH a&&aH b)=D:=h;rw[ae]at h;exact aqo a b h.1 h.2
def aqp(a b:bf)(h:aH a=D)(g:aH b=D)(hb:ax b≠0):Holds em ao 147 [aP a,aP b] (aP (kM a b)):=by
 have d:=Zs;refine bK Ra func147 λw F=>?_
 by_cases c:ax b<0
 .have e:kM a b=fp (fN a) (fN b):=by unfold kM;rw[dA c]
  rw[e];exact bt d 9 (wy [aa g,ag (KO.2 c:fO b<0),aa (aI (v:=aP a)),aa h,aa (aI (v:=aP b)),aa (KM.2 ⟨qJ h δ,qJ g δ,by show 0<ax (fN b);rw[fg];omega⟩:(u9 (fN a) (fN b))=D)] 26462452199553:bk Bi (fl Ra []) 9 21 [aP a,aP b] 3 f147 ao (aP (fp (fN a) (fN b))))
 .have e:kM a b=fp a b:=by unfold kM;rw[db c]
  rw[e];exact bt d 9 (wy [aa g,az (λf=>c (KO.1 f):¬fO b<0),aa (KM.2 ⟨h,g,by show 0<ax b;omega⟩:(u9 a b)=D)] 12417:bk Bi (fl Ra []) 9 21 [aP a,aP b] 2 f147 ao (aP (fp a b)))
def gd{a b:bf}:kN a b=D↔aH a=D/\aH b=D/\ax b≠0:=by
 unfold kN;simp only[ae,Gp,fB,and_assoc]
def Zw:Rb.Ok em:=λ⟨a,b,_⟩ h=>by
 obtain⟨c,d,h3⟩:=gd.1 (show kN a b=D from h);exact aqp a b c d h3
section
variable{n:E}{a b:bf}(h:cn n a=D)(g:cn n b=D)
def Zx(e:1<=n)(hb:ax b≠0){c:N}(d:ax a=ax b*c):ax (kM a b)=c:=by
 unfold kM;split
 .rw[Q4 (qJ h e) (qJ g e) (by rw[fg];omega),fg,fg,d,<-H7];exact N.mul_ediv_cancel_left _ ω
 .rw[Q4 h g ω,d];exact N.mul_ediv_cancel_left _ hb
def Zy(c:1<=n)(hb:ax b≠0):cn n (kM a b)=D:=by
 unfold kM;split
 .exact Zo (qJ h c) (qJ g c) (by rw[fg];omega) c
 .exact Zo h g ω c
end
abbrev e6:aq:= .pair eV eV
abbrev cl:=(N×I N)×(N×I N)
abbrev ct(a:cl):af:= .agg [iv a.1.1,.bh D aF a.1.2,iv a.2.1,.bh D aF a.2.2]
abbrev Zz:gB:= .blk (.cells 96 [iv 0,.raw (.slice bs 0 0),iv 0,.raw (.slice bs 0 0)] D ao ao)
def vg(a b:bf):bD:={n:=34,sl:=[(2,.ptr 64 0),(3,.ptr 65 0),(4,.ptr 66 0)],bF:=[(64,th a),(65,th b),(66,Zz)],next:=67}
def DK:=aA [yH,A1,KN,Rb]
noncomputable def DL(a b:bf):(N×I N)×(N×I N):=if jM b&&(b.1==1)then(a,b)else(kM a (e5 a b),kM b (e5 a b))
noncomputable def n7(a b:bf):(N×I N)×(N×I N):=if fO b<0 then DL (fN a) (fN b)else DL a b
def GG:=IN 88 [eV,eV] [e6] ao (λd=>kN d.1 d.2.1) λd=>(n7 d.1 d.2.1,())
def ZA:bI em (bJ DK):=dw (aV A4 (aV Dx (aV Rc (aV Zw eH))))
def KP(a b:bf):ax (e5 a b)=(fo (ax a) (ax b):N):=val_mk _
def ON{n:E}{a b:bf}(g:cn n b=D)(c:1<=n)(hb:ax b≠0):cn n (e5 a b)=D:=by
 have d:=mj g c;have e:((fo (ax a) (ax b):E):N)<=((ax b).natAbs:N):=by
  have:fo (ax a) (ax b)<=(ax b).natAbs:=E.gcd_le_right _ ω;omega
 exact(nh (by rw[N.natAbs_natCast];omega)).1
def aqv{a b:bf}(h:aH a=D)(g:aH b=D)(hb:ax b≠0):kN a (e5 a b)=D/\kN b (e5 a b)=D:=by
 have e:0<fo (ax a) (ax b):=sq _ hb;have c:ax (e5 a b)≠0:=by rw[KP];omega
 have d:aH (e5 a b)=D:=ON g δ hb;exact⟨gd.2 ⟨h,d,c⟩,gd.2 ⟨g,d,c⟩⟩
def ZB{a:bf}:jM a=D↔a.2=[]:=by
 unfold jM;exact I.isEmpty_iff
section
variable(a b:bf)(h:aH a=D)(g:aH b=D)(hb:ax b≠0)
def ZC(w:du)(F:Sv.Env):
  bp em w F 34 ((fl Bh []).drop 3) (vg a b).T (vg a b).H (ew em ao f88 (ct (DL a b))):=by
 have e:=ZA;obtain⟨l,f⟩:=aqv h g hb;have i:(aH a&&aH b)=D:=by rw[h,g];rfl
 unfold DL;by_cases c:b.2.isEmpty=D
 .by_cases d:b.1=1
  .rw[dA (by rw[show jM b=D from c,d];rfl)];exact bM (s:=vg a b) e (wy [aa (aK (aK (c))),aa (aK (c)),cT d] 50860097:bw DK ((fl Bh []).drop 3) (vg a b) 63 f88 ao (ct (a,b)))
  .rw[db (by rw[show jM b=D from c];simpa using d)];exact bM (s:=vg a b) e (wy [aa (aK (aK (c))),aa (aK (c)),yn d,aa i,aa (aI (v:=aP a)),aa (aI (v:=aP (e5 a b))),aa l,aa (aI (v:=aP b)),aa f] 2748869384372188533493825:bw DK ((fl Bh []).drop 3) (vg a b) 47 f88 ao (ct (kM a (e5 a b),kM b (e5 a b))))
 .rw[db (by rw[show jM b=b.2.isEmpty from rfl];simp[c])];exact bM (s:=vg a b) e (wy [aa (aK (aK ((show b.2.isEmpty=ao from by simpa using c)))),aa (aK ((show b.2.isEmpty=ao from by simpa using c))),aa i,aa (aI (v:=aP a)),aa (aI (v:=aP (e5 a b))),aa l,aa (aI (v:=aP b)),aa f] 2441840604787520773296193:bw DK ((fl Bh []).drop 3) (vg a b) 32 f88 ao (ct (kM a (e5 a b),kM b (e5 a b))))
def aqw:Holds em ao 88 [aP a,aP b] (ct (n7 a b)):=by
 have d:=ZA;refine bK Bh func88 λw F=>?_
 unfold n7;by_cases c:fO b<0
 .rw[dA c];refine cE d 3 (wy [aa g,ag c,aa (aI (v:=aP a)),aa h,aa (aI (v:=aP b))] 74173132929:cL DK (fl Bh []) 3 34 [aP a,aP b] 3 .normal s3 (vg (fN a) (fN b))) ?_;exact ZC _ _ (qJ h δ) (qJ g δ) (by rw[fg];omega) w F
 .rw[db c];refine cE d 3 (wy [aa g,az c] 129:cL DK (fl Bh []) 3 34 [aP a,aP b] 2 .normal s3 (vg a b)) ?_;exact ZC _ _ h g hb w F
end
def qn:GG.Ok em:=λ⟨a,b,_⟩ h=>by
 obtain⟨c,d,h3⟩:=gd.1 (show kN a b=D from h);exact aqw a b c d h3
structure DM(n:E)(q:cl)(x y:N):Prop where
 o1:cn n q.1=D
 o2:cn n q.2=D
 pos:0<ax q.2
 low:fo (ax q.1) (ax q.2)=1
 val:ax q.1*y=x*ax q.2
section
variable{n:E}{a b:bf}(h:cn n a=D)(g:cn n b=D)(Z:1<=n)
def ZD(hb:0<ax b):DM n (DL a b) (ax a) (ax b):=by
 unfold DL;split
 .rename_i e;rw[ae]at e;have q:ax b=1:=by unfold ax;rw[dA (ZB.1 e.1)];simpa using e.2
  exact⟨h,g,hb,by show fo (ax a) (ax b)=1;rw[q];exact N.gcd_one,rfl⟩
 .have p:0<fo (ax a) (ax b):=sq _ ω;have c:=ON (a:=a) g Z ω;have d:ax (e5 a b)≠0:=by rw[KP];omega
  have l:ax a=ax (e5 a b)*(ax a/(fo (ax a) (ax b):N)):=by rw[KP];exact(N.mul_ediv_cancel' (Tq _ _)).symm
  have m:ax b=ax (e5 a b)*(ax b/(fo (ax a) (ax b):N)):=by rw[KP];exact(N.mul_ediv_cancel' (D8 _ _)).symm
  have i:=Zx h c Z d l;have f:=Zx g c Z d m;refine⟨Zy h c Z d,Zy g c Z d,?_,?_,?_⟩
  .show 0<ax (kM b (e5 a b));rw[f];exact N.ediv_pos_of_pos_of_dvd hb ω (D8 _ _)
  .show fo (ax (kM a (e5 a b))) (ax (kM b (e5 a b)))=1;rw[i,f];exact N.gcd_ediv_gcd_ediv_gcd p
  .show ax (kM a (e5 a b))*ax b=ax a*ax (kM b (e5 a b));rw[i,f];generalize ax a/(fo (ax a) (ax b):N)=x at*;generalize ax b/(fo (ax a) (ax b):N)=y at*;grind
def KS(hb:ax b≠0):DM n (n7 a b) (ax a) (ax b):=by
 unfold n7;split
 .rename_i c;have c:=KO.1 c;have:=ZD (qJ h Z) (qJ g Z) Z (by rw[fg];omega);refine⟨this.o1,this.o2,this.pos,this.low,?_⟩;have d:=this.val;rw[fg,fg]at d;rw[N.mul_neg,H7]at d;omega
 .rename_i c;have f:¬ax b<0:=λe=>c (KO.2 e)
  exact ZD h g Z ω
end
def ZE{x y u v:N}(l:0<y)(i:0<v)(d:fo x y=1)(f:fo u v=1)(h:x*v=u*y):x=u/\y=v:=by
 have d1:y∣v:=by
  have c:y.natAbs∣v.natAbs:=by
   refine SJ (k:=y.natAbs) (m:=x.natAbs) (n:=v.natAbs) ?_ ?_
   .show E.gcd _ _=1;rw[SI];exact d
   .rw[<-Kc,h,Kc];exact E.dvd_mul_left _ _
  exact î.1 c
 have d2:v∣y:=by
  have c:v.natAbs∣y.natAbs:=by
   refine SJ (k:=v.natAbs) (m:=u.natAbs) (n:=y.natAbs) ?_ ?_
   .show E.gcd _ _=1;rw[SI];exact f
   .rw[<-Kc,<-h,Kc];exact E.dvd_mul_left _ _
  exact î.1 c
 have e:=N.dvd_antisymm ω ω d1 d2;subst e;exact⟨Õ ω h,rfl⟩
def ZF:=NO f85
def ZG:=NO f106
def ZH:=NO f94
def Re:=NO f123
def ZI:=NO f55
def ZJ:=NO f117
def KT:=NO f95
def ZK:=NO f93
def ZL:=NO f151
def ZM:=NO f58
def ZN:=NO f148
def xl:=aA [Dv,A2,GG,A1,yH,Qq,KK]
def mC(a:cl):dF:=jM a.2&&(a.2.1==1)
def aqC(a b:cl)(c:(aH a.1&&aH b.1)=D)(d:(aH a.2&&aH b.2)=D)(h3:(kN (cH a.1 b.1) (cH a.2 b.2))=D):
  bk xl (fl ZK []) 9 16 [ct a,ct b] 1 f93 ao (ct (n7 (cH a.1 b.1) (cH a.2 b.2))):=
 wy [aa (aI (v:=aP a.1)),aa (aI (v:=aP b.1)),aa c,aa (aI (v:=aP a.2)),aa (aI (v:=aP b.2)),aa d,aa h3] 1997062150303873
def aqE(a b:cl)(c:(aH a.1&&aH b.2)=D)(d:(aH b.1&&aH a.2)=D)(h3:(cn 50000 (cH a.1 b.2)&&cn 50000 (cH b.1 a.2))=D):
  bk xl (fl ZM []) 9 16 [ct a,ct b] 1 f58 D (iv (wY (cH a.1 b.2) (cH b.1 a.2))):=
 wy [aa (aI (v:=aP a.1)),aa (aI (v:=aP b.2)),aa c,aa (aI (v:=aP b.1)),aa (aI (v:=aP a.2)),aa d,aa h3] 1997062150303873
def okQ(n:E)(q:cl):dF:=cn n q.1&&(cn n q.2&&bP (0<ax q.2))
def dG(n:N):N×I N:=(n,[])
def j8(n:bf):(N×I N)×(N×I N):=(n,(1,[]))
noncomputable def AS(a:cl):(N×I N)×(N×I N):=(fN a.1,a.2)
noncomputable def AU(a b:cl):(N×I N)×(N×I N):=n7 (cH a.1 b.1) (cH a.2 b.2)
noncomputable def GH(a:cl):(N×I N)×(N×I N):=n7 a.2 a.1
noncomputable def xg(a b:cl):N:=wY (cH a.1 b.2) (cH b.1 a.2)
noncomputable def AX(a b:cl):(N×I N)×(N×I N):=if mC a&&mC b then(dE a.1 b.1,(1,[]))else n7 (dE (cH a.1 b.2) (cH b.1 a.2)) (cH a.2 b.2)
def yQ:=IN 85 [.int .i64] [eV] ao (λd=>D) λd=>(dG d.1,())
def KU:=IN 106 [eV] [e6] ao (λd=>D) λd=>(j8 d.1,())
def Rf:=IN 94 [.int .i64] [e6] ao (λd=>D) λd=>(j8 (dG d.1),())
def Rg:=IN 123 [e6] [.bool] D (λd=>D) λd=>(mC d.1,())
def KV:=IN 55 [e6] [.int .i64] D (λd=>aH d.1.1) λd=>(fO d.1.1,())
def KW:=IN 117 [e6] [e6] ao (λd=>aH d.1.1) λd=>(AS d.1,())
def KX:=IN 93 [e6,e6] [e6] ao (λd=>okQ 20000 d.1&&okQ 20000 d.2.1) λd=>(AU d.1 d.2.1,())
def Rh:=IN 151 [e6] [e6] ao (λd=>kN d.1.2 d.1.1) λd=>(GH d.1,())
def KY:=IN 58 [e6,e6] [.int .i64] D (λd=>okQ 20000 d.1&&okQ 20000 d.2.1) λd=>(xg d.1 d.2.1,())
def ZO:=IN 148 [e6] [eV] ao (λd=>u9 d.1.1 d.1.2) λd=>(fp d.1.1 d.1.2,())
def Ri:=IN 95 [e6,e6] [e6] ao (λd=>okQ 20000 d.1&&okQ 20000 d.2.1) λd=>(AX d.1 d.2.1,())
def GI:=aA [yQ,KU,Rg,Dv,A2,GG]
def xh:bI em (bJ xl):=dw (aV mu (aV Dy (aV qn (aV Dx (aV A4 (aV YO (aV Q9 eH)))))))
def fj{n:E}{q:cl}:okQ n q=D↔cn n q.1=D/\cn n q.2=D/\0<ax q.2:=by
 unfold okQ;simp only[ae,aN]
def DM.ok{n:E}{q:cl}{x y:N}(h:DM n q x y):okQ n q=D:=fj.2 ⟨h.o1,h.o2,h.pos⟩
def n8{n m:E}{a b:bf}(h:cn n a=D)(g:cn m b=D)(e:1<=n)(d:1<=m):cn (n+m) (cH a b)=D:=by
 have l:=mj h e;have c:=mj g d;refine(nh ?_).1;rw[Kc,N.natCast_mul,yL];have p:=eE (b:=18446744073709551616) δ n;generalize (18446744073709551616:N)^n=P at*;generalize (18446744073709551616:N)^m=Q at*;have f:=iK (show((ax a).natAbs:N)<=P by omega) (show(0:N)<=((ax b).natAbs:N) by omega);have i:=N.mul_lt_mul_of_pos_left c (show 0<P by omega);omega
def Rj{n:E}{a b:bf}(h:cn n a=D)(g:cn n b=D)(c:1<=n):cn (n+1) (dE a b)=D:=by
 have d:=mj h c;have e:=mj g c;refine Gn ?_;rw[hP];have p:=eE (b:=18446744073709551616) δ n;generalize (18446744073709551616:N)^n=P at*;omega
def KZ{x y:N}(c:0<x)(d:0<y):0<x*y:=G8 c d
def OR(n:N):Holds em ao 85 [iv n] (aP (dG n)):=by
 refine bK ZF func85 λw F=>?_
 exact bt xh 9 (wy [] 0:bk xl (fl ZF []) 9 5 [iv n] 1 f85 ao (aP (n,[])))
def DN:yQ.Ok em:=λ⟨n,_⟩ h=>OR n
def aqK(a:cl):Holds em D 123 [ct a] (bv (mC a)):=by
 refine bK Re func123 λw F=>?_
 cases c:a.2.2.isEmpty with
 |true=>
  have e:mC a=(a.2.1==1):=by unfold mC;rw[show jM a.2=D from c];rfl
  rw[e];exact bt xh 9 (wy [aa (aK (aK (c))),aa (aK (c))] 33820737:bk xl (fl Re []) 9 13 [ct a] 63 f123 D (bv (a.2.1==1)))
 |false=>
  have e:mC a=ao:=by unfold mC;rw[show jM a.2=ao from c];rfl
  rw[e];exact bt xh 9 (wy [aa (aK (aK (c))),aa (aK (c))] 33820737:bk xl (fl Re []) 9 13 [ct a] 32 f123 D (bv ao))
def ZP:Rg.Ok em:=λ⟨a,_⟩ h=>aqK a
def aqL(a:cl)(h:aH a.1=D):Holds em D 55 [ct a] (iv (fO a.1)):=by
 refine bK ZI func55 λw F=>?_
 exact bt xh 9 (wy [aa h] 1:bk xl (fl ZI []) 9 6 [ct a] 1 f55 D (iv (fO a.1)))
def Rk:KV.Ok em:=λ⟨a,_⟩ h=>aqL a h
def aqM(a:cl)(h:aH a.1=D):Holds em ao 117 [ct a] (ct (AS a)):=by
 refine bK ZJ func117 λw F=>?_
 exact bt xh 9 (wy [aa (aI (v:=aP a.1)),aa h,aa (aI (v:=aP a.2))] 798849:bk xl (fl ZJ []) 9 9 [ct a] 1 f117 ao (ct (fN a.1,a.2)))
def Rl:KW.Ok em:=λ⟨a,_⟩ h=>aqM a h
def oS{a b:bf}(h:aH a=D)(g:aH b=D):(aH a&&aH b)=D:=by rw[h,g];rfl
def aqN(a b:cl)(h:okQ 20000 a=D)(g:okQ 20000 b=D):Holds em ao 93 [ct a,ct b] (ct (AU a b)):=by
 obtain⟨e,f,h3⟩:=fj.1 h;obtain⟨c,d,l⟩:=fj.1 g;have m:= @kG 20000 100000;have i:= @kG (20000+20000) 100000;refine bK ZK func93 λw F=>?_
 exact bp.ret known mixed xh 9 _ (aqC a b (oS (m δ e) (m δ c)) (oS (m δ f) (m δ d))
  (gd.2 ⟨i δ (n8 e c δ δ),i δ (n8 f d δ δ),by
    have:=KZ h3 l;show ax (cH a.2 b.2)≠0;rw[k7];omega⟩)) λT H h=>h
def Rm:KX.Ok em:=λ⟨a,b,_⟩ h=>by
 have h:(okQ 20000 a&&okQ 20000 b)=D:=h;rw[ae]at h;exact aqN a b h.1 h.2
def aqO(a:cl)(h:kN a.2 a.1=D):Holds em ao 151 [ct a] (ct (GH a)):=by
 refine bK ZL func151 λw F=>?_
 exact bt xh 9 (wy [aa h] 1:bk xl (fl ZL []) 9 8 [ct a] 1 f151 ao (ct (n7 a.2 a.1)))
def ZQ:Rh.Ok em:=λ⟨a,_⟩ h=>aqO a h
def So{a b:bf}(h:cn 50000 a=D)(g:cn 50000 b=D):(cn 50000 a&&cn 50000 b)=D:=by rw[h,g];rfl
def aqP(a b:cl)(h:okQ 20000 a=D)(g:okQ 20000 b=D):Holds em D 58 [ct a,ct b] (iv (xg a b)):=by
 obtain⟨e,f,h3⟩:=fj.1 h;obtain⟨c,d,l⟩:=fj.1 g;have m:= @kG 20000 100000;have i:= @kG (20000+20000) 50000;refine bK ZM func58 λw F=>?_
 exact bp.ret known mixed xh 9 _ (aqE a b (oS (m δ e) (m δ d)) (oS (m δ c) (m δ f))
  (So (i δ (n8 e d δ δ)) (i δ (n8 c f δ δ)))) λT H h=>h
def Rn:KY.Ok em:=λ⟨a,b,_⟩ h=>by
 have h:(okQ 20000 a&&okQ 20000 b)=D:=h;rw[ae]at h;exact aqP a b h.1 h.2
def aqQ(a:cl)(h:u9 a.1 a.2=D):Holds em ao 148 [ct a] (aP (fp a.1 a.2)):=by
 refine bK ZN func148 λw F=>?_
 exact bt xh 9 (wy [aa h] 1:bk xl (fl ZN []) 9 14 [ct a] 1 f148 ao (aP (fp a.1 a.2)))
def Sp:ZO.Ok em:=λ⟨a,_⟩ h=>aqQ a h
def aqS:bI em (bJ (aA [yQ])):=dw (aV DN eH)
def aqT(n:bf):Holds em ao 106 [aP n] (ct (j8 n)):=by
 refine bK ZG func106 λw F=>?_
 exact bt aqS 9 (wy [aa (aI (v:=aP n)),av (rfl:n.1=(j8 n).1.1),av (rfl:n.2=(j8 n).1.2),av (rfl:(dG 1).1=(j8 n).2.1),av (rfl:(dG 1).2=(j8 n).2.2)] 347943211009:bk (aA [yQ]) (fl ZG []) 9 6 [aP n] 1 f106 ao (ct (j8 n)))
def Ro:KU.Ok em:=λ⟨n,_⟩ h=>aqT n
def ZR:bI em (bJ GI):=dw (aV DN (aV Ro (aV ZP (aV mu (aV Dy (aV qn eH))))))
def aqU(n:N):Holds em ao 94 [iv n] (ct (j8 (dG n))):=by
 refine bK ZH func94 λw F=>?_
 exact bt ZR 9 (wy [av (rfl:(j8 (dG n)).1.1=(n)),av (rfl:(j8 (dG n)).1.2=(C4)),av (rfl:(j8 (dG n)).2.1=(1)),av (rfl:(j8 (dG n)).2.2=(C4))] 4345827328:bk GI (fl ZH []) 9 6 [iv n] 1 f94 ao (ct ((n,[]),(1,[]))))
def ZS:Rf.Ok em:=λ⟨n,_⟩ h=>aqU n
def aqV(a b:cl)(h:okQ 20000 a=D)(g:okQ 20000 b=D):Holds em ao 95 [ct a,ct b] (ct (AX a b)):=by
 obtain⟨l,e,h3⟩:=fj.1 h;obtain⟨i,d,z⟩:=fj.1 g;have p:=ZR;have m:= @kG 20000 100000;have q:= @kG (20000+20000) 100000;have A:= @kG (20000+20000+1) 100000;have B:=oS (m δ l) (m δ i);have w:=oS (m δ l) (m δ d);have x:=oS (m δ i) (m δ e);have r:=oS (m δ e) (m δ d);have t:=n8 l d δ δ;have u:=n8 i e δ δ;have s:=oS (q δ t) (q δ u);have y:kN (dE (cH a.1 b.2) (cH b.1 a.2)) (cH a.2 b.2)=D:=gd.2 ⟨A δ (Rj t u δ),q δ (n8 e d δ δ),by
   have:=KZ h3 z;rw[k7];omega⟩
 refine bK KT func95 λC F=>?_
 unfold AX;by_cases c:mC a=D
 .by_cases f:mC b=D
  .rw[dA (by rw[c,f];rfl)];exact bt p 9 (wy [aa (aK (c)),aa c,aa f,aa B,av (rfl:(j8 (dE a.1 b.1)).1.1=(dE a.1 b.1).1),av (rfl:(j8 (dE a.1 b.1)).1.2=(dE a.1 b.1).2),av (rfl:(j8 (dE a.1 b.1)).2.1=(1)),av (rfl:(j8 (dE a.1 b.1)).2.2=(C4))] 598475754935026716736:bk GI (fl KT []) 9 34 [ct a,ct b] 31 f95 ao (ct (dE a.1 b.1,(1,[]))))
  .rw[db (by rw[c];simpa using f)];exact bt p 9 (wy [aa (aK (c)),aa c,aa (show(mC b)=ao from by simpa using f),aa (aI (v:=aP a.1)),aa (aI (v:=aP b.2)),aa w,aa (aI (v:=aP b.1)),aa (aI (v:=aP a.2)),aa x,aa s,aa r,aa y] 271469537658300528069794124337656264073941056:bk GI (fl KT []) 9 34 [ct a,ct b] 23 f95 ao (ct (n7 (dE (cH a.1 b.2) (cH b.1 a.2)) (cH a.2 b.2))))
 .rw[db (by simp[c])];exact bt p 9 (wy [aa (aK ((show(mC a)=ao from by simpa using c))),aa (show(mC a)=ao from by simpa using c),aa (aI (v:=aP a.1)),aa (aI (v:=aP b.2)),aa w,aa (aI (v:=aP b.1)),aa (aI (v:=aP a.2)),aa x,aa s,aa r,aa y] 3887731443394586653605839251940190814998592:bk GI (fl KT []) 9 34 [ct a,ct b] 16 f95 ao (ct (n7 (dE (cH a.1 b.2) (cH b.1 a.2)) (cH a.2 b.2))))
def ZT:Ri.Ok em:=λ⟨a,b,_⟩ h=>by
 have h:(okQ 20000 a&&okQ 20000 b)=D:=h;rw[ae]at h;exact aqV a b h.1 h.2
structure QR(n:E)(q:cl)(r:qA):Prop where
 o1:cn n q.1=D
 o2:cn n q.2=D
 num:ax q.1=r.num
 den:ax q.2=r.den
def QR.ok{n:E}{q:cl}{r:qA}(h:QR n q r):okQ n q=D:=fj.2 ⟨h.o1,h.o2,by rw[h.den];have:=r.den_pos;omega⟩
def QR.mono{n m:E}{q:cl}{r:qA}(h:QR n q r)(c:n<=m):QR m q r:=⟨kG c h.o1,kG c h.o2,h.num,h.den⟩
def DM.qr{n:E}{q:cl}{x y:N}(h:DM n q x y)(d:y≠0):QR n q (gp x y):=by
 have i:((gp x y).den:N)≠0:=by have:=(gp x y).den_pos;omega
 have p:(gp x y).num*y=x*((gp x y).den:N):=(ï i d).1 (tb _);have g:fo (gp x y).num ((gp x y).den:N)=1:=(gp x y).reduced;have e:ax q.1*((gp x y).den:N)=(gp x y).num*ax q.2:=by
  have c:=h.val;refine Õ d ?_;generalize (gp x y).num=m at*;generalize ((gp x y).den:N)=l at*;grind
 obtain⟨c,f⟩:=ZE h.pos ω h.low g e;exact⟨h.o1,h.o2,c,f⟩
def QR.self{n:E}{q:cl}{r:qA}(h:QR n q r):gp (ax q.1) (ax q.2)=r:=by
 rw[h.num,h.den];exact tb _
def QR.pos{n:E}{q:cl}{r:qA}(h:QR n q r):0<ax q.2:=(fj.1 h.ok).2.2
def aqW{n m:E}{a b:cl}{r s:qA}(h:QR n a r)(g:QR m b s)(d:1<=n)(c:1<=m):QR (n+m) (AU a b) (r*s):=by
 have p:=KZ h.pos g.pos;have:=(KS (n8 h.o1 g.o1 d c) (n8 h.o2 g.o2 d c) ω (by rw[k7];omega)).qr (by rw[k7];omega);rw[k7,k7,<-qA.divInt_mul_divInt,h.self,g.self]at this;exact this
def Rp{n:E}{a:bf}(h:cn n a=D):QR n (j8 a) (ax a:qA):=by
 refine⟨h,?_,rfl,rfl⟩;exact(rJ (n:=n) (a:=(1,[])) rfl).trans δ
def ZU{n:E}{a:cl}{r:qA}(h:QR n a r)(c:mC a=D):r=(ax a.1:qA):=by
 unfold mC at c;rw[ae]at c;have e:ax a.2=1:=by unfold ax;rw[dA (ZB.1 c.1)];simpa using c.2
 have d:=h.den;refine qA.ext ?_ ?_
 .rw[h.num];rfl
 .show r.den=1;omega
def aqX{n:E}{a b:cl}{r s:qA}(h:QR n a r)(g:QR n b s)(c:1<=n):QR (n+n+1) (AX a b) (r+s):=by
 unfold AX;split
 .rename_i d;rw[ae]at d;have:=Rp (Rj h.o1 g.o1 c);rw[Dt,qA.intCast_add,<-ZU h d.1,<-ZU g d.2]at this;exact this.mono ω
 .have p:=KZ h.pos g.pos;have:=(KS (Rj (n8 h.o1 g.o2 c c) (n8 g.o1 h.o2 c c) ω) (kG (QZ _) (n8 h.o2 g.o2 c c)) ω (by rw[k7];omega)).qr (by rw[k7];omega);rw[Dt,k7,k7,k7,<-qA.divInt_add_divInt _ _ (by have:=h.pos;omega) (by have:=g.pos;omega),h.self,g.self]at this;exact this
def Id{n:E}{a:cl}{r:qA}(h:QR n a r)(c:1<=n):QR n (AS a) (-r):=
 ⟨qJ h.o1 c,h.o2,by show ax (fN a.1)=_;rw[fg,h.num];rfl,h.den⟩
def Bj{r:qA}:r.num<0↔r<0:=by
 rw[<-N.not_le,<-qA.not_le,qA.num_nonneg]
def ZV{n:E}{a:cl}{r:qA}(h:QR n a r):fO a.1=if r<0 then-1 else if r=0 then 0 else 1:=by
 unfold fO mh;rw[h.num];by_cases c:r<0
 .rw[dA c,dA (Bj.2 c)]
 .rw[db c,db (λe=>c (Bj.1 e))];by_cases d:r=0
  .rw[dA d,dA (by rw[d];rfl)]
  .rw[db d,db (λe=>d (qA.num_eq_zero.1 e))]
def xj:=NO f161
def Bk:=aA [yQ,Dv]
def n9(a o:bf)(k:N):bD:={n:=23,sl:=[(1,iv k),(2,.ptr 64 0),(4,.ptr 65 0),(5,.ptr 66 0)],bF:=[(64,th a),(65,b0),(66,th o)],next:=67}
def aqY(a:bf)(k:N)(c:(dG 1).1=(1))(d:(dG 1).2=(C4)):
  cL Bk (fl xj []) 2 23 [aP a,iv k] 1 .normal s3 (n9 a (1,[]) k):=
 wy [av c,av d] 2323857407723175936
section
variable(a o:bf)(k j:N)(Z:k>0)(Y:ca iz (↑(ru (gF 64 k &&& gF 64 1)):N)=1)(h3:(aH o&&aH a)=D)
def aqZ(c:k>1)(d:(aH a&&aH a)=D)(e:(nZ k ((2:N)^XR (ea 1) 64))=(j)):
  aR Bk (fl xj cq) (n9 a o k) 15 .normal s3 (n9 (cH a a) (cH o a) j):=
 wy [ag Z,cT Y,aa h3,ag c,aa d,av e] 412401807489
def aq0(c:¬k>1)(d:(nZ k ((2:N)^XR (ea 1) 64))=(j)):
  aR Bk (fl xj cq) (n9 a o k) 11 .normal s3 (n9 a (cH o a) j):=
 wy [ag Z,cT Y,aa h3,az c,av d] 5369770113
end
def aq1(a o:bf)(k j:N)(c:k>0)(d:¬ca iz (↑(ru (gF 64 k &&& gF 64 1)):N)=1)(h3:k>1)(e:(aH a&&aH a)=D)(f:(nZ k ((2:N)^XR (ea 1) 64))=(j)):
  aR Bk (fl xj cq) (n9 a o k) 13 .normal s3 (n9 (cH a a) o j):=
 wy [ag c,yn d,ag h3,aa e,av f] 5369770113
def aq2(a o:bf)(k:N)(c:¬k>0):
  aR Bk (fl xj cq) (n9 a o k) 2 (.exit 0) s3 (n9 a o k):=
 wy [az c] 1
def aq3(a o:bf)(k:N):
  bw Bk ((fl xj []).drop 3) (n9 a o k) 1 f161 ao (aP o):=
 wy [] 0
noncomputable def vh(a:bf)(k:N):N×I N:=bg (ax a^k.toNat)
def DO(a:bf)(k:N):dF:=aH a&&(bP (0<=k)&&bP (1+(a.2.length+1)*k.toNat<=100000))
def ZW:=IN 161 [eV,.int .i64] [eV] ao (λd=>DO d.1 d.2.1) λd=>(vh d.1 d.2.1,())
def aq4:bI em (bJ Bk):=dw (aV DN (aV mu eH))
def ZX{m:E}(h:m<=100000):be.i64.wrap ↑(gF 64 (m:N) &&& gF 64 1).toNat=((m%2:E):N):=by
 have e:(gF 64 (m:N) &&& gF 64 1).toNat=m%2:=by
  rw[kx.toNat_and,kx.toNat_ofInt,kx.toNat_ofInt,show((m:N)%(2^64:E)).toNat=m by omega];exact E.and_one_is_mod m
 rw[e];rcases E.mod_two_eq_zero_or_one m with h|h
 .rw[h];rfl
 .rw[h];rfl
def half(m:E):nZ (m:N) (2^XR (ea 1) 64)=((m/2:E):N):=by
 have e:(2:N)^XR (ea 1) 64=2:=rfl;rw[e,D7 _ δ];omega
def sq_pow(a:N):∀j:E,(a*a)^j=a^j*a^j
 |0=>by rw[PK,PK,mT]
 |j+1=>by rw[hP,hP,sq_pow a j];grind
def pow_even{a:N}{m:E}(h:m%2=0):(a*a)^(m/2)=a^m:=by
 rw[sq_pow,<-yL];congr 1;omega
def pow_odd{a:N}{m:E}(h:m%2=1):a*(a*a)^(m/2)=a^m:=by
 obtain⟨j,rfl⟩:∃j,m=2*j+1:=⟨m/2,by omega⟩;rw[show(2*j+1)/2=j by omega,sq_pow,hP,show 2*j=j+j by omega,yL,iN]
def aq5{n:E}{a:bf}(h:cn n a=D):cn (a.2.length+1) a=D:=by
 by_cases c:a.2=[]
 .rw[rJ c]at h ⊢;exact h
 .obtain⟨d,e,h3,f,i⟩:=(yF c).1 h;exact(yF c).2 ⟨d,e,h3,f,by omega⟩
def aq6(a:bf)(k:E)(h:aH a=D)(G:1+(a.2.length+1)*k<=100000):Holds em ao 161 [aP a,iv (k:N)] (aP (bg (ax a^k))):=by
 have f:=aq4;refine bK xj func161 λP J=>?_
 refine cE f 2 (aqY a k rfl rfl) ?_;refine c_q {x:(bf×bf)×E//x.1.2=bg (ax x.1.2)/\ax x.1.2*ax x.1.1^x.2=ax a^k/\∃p q:E,1<=p/\1<=q/\cn p x.1.1=D/\cn q x.1.2=D/\q+p*x.2<=100000} 0 (cat xj cq) ((fl xj []).drop 3) (λx=>n9 x.1.1.1 x.1.1.2 (x.1.2:N)) (λx=>x.1.2)
  ⟨((a,(1,[])),k),by
    have v:ax (1,[])=1:=rfl;refine⟨?_,?_,a.2.length+1,1,by omega,by omega,aq5 h,?_,G⟩
    .show((1,[]):bf)=bg (ax (1,[]));rw[v];unfold bg;rw[dA δ]
    .show ax (1,[])*ax a^k=ax a^k;rw[v,mT]
    .exact(rJ (n:=1) (a:=(1,[])) rfl).trans δ⟩ ?_
 rintro⟨⟨⟨x,o⟩,m⟩,r,i,p,q,d,w,c,l,B⟩;have r:o=bg (ax o):=r;have i:ax o*ax x^m=ax a^k:=i;have c:cn p x=D:=c;have l:cn q o=D:=l;have B:q+p*m<=100000:=B;have K:m<=p*m:=E.le_mul_of_pos_left m d;by_cases H:m=0
 .subst H;refine aT (s:=n9 x o (0:E)) f (aq2 x o (0:E) δ) ?_;refine bY (cg ?_);have C:ax o=ax a^k:=by rw[<-i];simp
  rw[<-C,<-r];exact bM (s:=n9 x o (0:E)) f (aq3 x o _)
 .have L:p<=p*m:=E.le_mul_of_pos_right p ω;have e:=kG (show p<=100000 by omega) c;have y:=kG (show q<=100000 by omega) l;have t:m/2<m:=by omega
  have u:(m:N)>0:=by omega
  have M:=k7;by_cases z:m%2=1
  .have hb:be.i64.wrap ↑(gF 64 (m:N) &&& gF 64 1).toNat=1:=by rw[ZX ω,z];rfl
   by_cases F:m=1
   .subst F;refine aT (s:=n9 x o (1:E)) f (aq0 x o (1:E) (0:E) u hb (oS y e) δ (half 1)) ?_;refine⟨⟨((x,cH o x),0),?_,?_,p,q+p,d,by omega,c,n8 l c w d,by omega⟩,t,rfl,rfl⟩
    .show cH o x=bg (ax (cH o x));rw[k7];rfl
    .show ax (cH o x)*ax x^0=_;rw[k7,<-i,PK,Cu,hP,PK,mT]
   .refine aT (s:=n9 x o (m:E)) f (aqZ x o (m:E) (m/2:E) u hb (oS y e) ω (oS e e) (half m)) ?_;refine⟨⟨((cH x x,cH o x),m/2),?_,?_,p+p,q+p,by omega,by omega,n8 c c d d,n8 l c w d,?_⟩,t,rfl,rfl⟩
    .show cH o x=bg (ax (cH o x));rw[k7];rfl
    .show ax (cH o x)*ax (cH x x)^(m/2)=_;rw[k7,k7,<-i,<-pow_odd z,km]
    .show q+p+(p+p)*(m/2)<=100000;obtain⟨j,rfl⟩:∃j,m=2*j+1:=⟨m/2,by omega⟩;rw[show(2*j+1)/2=j by omega];have:p*(2*j+1)=(p+p)*j+p:=by grind
     omega
  .have A:m%2=0:=by omega
   have hb:¬be.i64.wrap ↑(gF 64 (m:N) &&& gF 64 1).toNat=1:=by rw[ZX ω,A];decide
   refine aT (s:=n9 x o (m:E)) f (aq1 x o (m:E) (m/2:E) u hb ω (oS e e) (half m)) ?_;refine⟨⟨((cH x x,o),m/2),r,?_,p+p,q,by omega,w,n8 c c d d,l,?_⟩,t,rfl,rfl⟩
   .show ax o*ax (cH x x)^(m/2)=_;rw[k7,<-i,pow_even A]
   .show q+(p+p)*(m/2)<=100000;obtain⟨j,rfl⟩:∃j,m=2*j:=⟨m/2,by omega⟩;rw[show(2*j)/2=j by omega];have:p*(2*j)=(p+p)*j:=by grind
    omega
def Sx:ZW.Ok em:=λ⟨a,k,_⟩ h=>by
 have h:DO a k=D:=h;unfold DO at h;simp only[ae,aN]at h;obtain⟨c,d,h3⟩:=h;obtain⟨n,rfl⟩:∃n:E,k=(n:N):=⟨k.toNat,(ZY d).symm⟩;exact aq6 a n c h3
def rN(s p:AT):dF:=Lib.hasPrefix s.data.toList p.data.toList
def tD(s p:AT):AT:=⟨(Lib.trimPrefix s.data.toList p.data.toList).toArray⟩
def DQ(s:AT):dF:=bP (s.size<=18)&&(Lib.atoi s.data.toList).isSome
def yR(s:AT):N:=(Lib.atoi s.data.toList).getD 0
def Z0:=IN 158 [.str,.str] [.bool] D (λd=>D) λd=>(rN d.1 d.2.1,())
def Z1:=IN 159 [.str,.str] [.str] D (λd=>D) λd=>(tD d.1 d.2.1,())
noncomputable def Rq(args:I af):aD (da af):=match args with |[.raw (.string s)]=>.must (DQ s) (.ret (O (.tuple [iv (yR s),.raw .nilIface])))|_=>.ret bs
noncomputable def Z2:uz:={f:=160,res:=Rq}
--{
def aq7:Z0.Ok em:=λ⟨s,p,_⟩ h w F q c i f=>by
 cases f with
 |cons d1 d2=>
  cases d2 with
  |cons d2 d3=>
  cases d3;rw[d1.cu,d2.cu];refine(Tryz.strings_HasPrefix s p w).mono λl m ⟨d,e⟩=>?_
  subst e;exact⟨_,⟨F.at',λ_=>bs⟩,d,.raw _,⟨c.uv,c.all,λb A h=>by cases h⟩,(λb A h=>by cases h),qg _ _⟩
def aq8:Z1.Ok em:=λ⟨s,p,_⟩ h w F q c i f=>by
 cases f with
 |cons d1 d2=>
  cases d2 with
  |cons d2 d3=>
  cases d3;rw[d1.cu,d2.cu];refine(Tryz.strings_TrimPrefix s p w).mono λl m ⟨d,e⟩=>?_
  subst e;exact⟨_,⟨F.at',λ_=>bs⟩,d,.raw _,⟨c.uv,c.all,λb A h=>by cases h⟩,(λb A h=>by cases h),qg _ _⟩
def aq9:Z2.Ok em:=by
 intro i v c w F r p m l;change (Rq i).gr=_ at c;unfold Rq at c;split at c
 .rename_i s;unfold aD.gr at c;cases d:DQ s with
  |false=>rw[d]at c;cases c
  |true=>
   rw[d]at c;cases c;unfold DQ at d;rw[ae,aN]at d;obtain⟨n,f⟩:=DF.1 d.2;cases l with
   |cons d1 d2=>
   cases d2;rw[d1.cu];refine(Tryz.strconv_Atoi s n d.1 f w).mono ?_;rintro e q ⟨rfl,t,rfl⟩;refine⟨_,rfl,?_,Joins.below_bytesWorld _ _ _ _ (aC _)⟩;have e:yR s=n:=by unfold yR;rw[f];rfl
   rw[e];exact .tuple (.cons (.raw _) (.cons (.raw _) .nil))
 .cases c
--}
def yS:=NO f107
def DR:=C2 [Z2] (aA [Z0,Z1,yQ,ZW,Dv,A2,A1])
abbrev Rr:I E:=[1,1,1,1,0,0,0]
def pS(s:AT)(o:bf)(neg:dF):bD:={n:=41,sl:=[(0,sv s),(2,.ptr 64 0),(3,bv neg),(4,.ptr 65 0)],bF:=[(64,b0),(65,th o)],next:=66}
abbrev fW:AT:=⟨#[45]⟩
abbrev s2:Sv.Ren:=[(64,64,bs),(65,65,bs)]
def arb(s s':AT)(o o':bf)(neg:dF)(c:(s.size:N)>0)(d:(DQ (s.extract 0 (if(s.size:N)<18 then(s.size:N)else 18).toNat))=D)(h3:(DO (dG 10) (if(s.size:N)<18 then(s.size:N)else 18))=D)(e:(aH o&&aH (vh (dG 10) (if(s.size:N)<18 then(s.size:N)else 18)))=D)(f:(aH (cH o (vh (dG 10) (if(s.size:N)<18 then(s.size:N)else 18)))&&aH (dG (yR (s.extract 0 (if(s.size:N)<18 then(s.size:N)else 18).toNat))))=D)(i:(s.extract (if(s.size:N)<18 then(s.size:N)else 18).toNat s.size)=(s'))(l:(dE (cH o (vh (dG 10) (if(s.size:N)<18 then(s.size:N)else 18))) (dG (yR (s.extract 0 (if(s.size:N)<18 then(s.size:N)else 18).toNat)))).1=o'.1)(m:(dE (cH o (vh (dG 10) (if(s.size:N)<18 then(s.size:N)else 18))) (dG (yR (s.extract 0 (if(s.size:N)<18 then(s.size:N)else 18).toNat)))).2=o'.2):
  aR DR (fl yS Rr) (pS s o neg) 3 .normal s2 (pS s' o' neg):=
 wy [ag c,ag (by omega:(0:N)<=if(s.size:N)<(18:N)then(s.size:N)else(18:N)),ag (by omega:(if(s.size:N)<(18:N)then(s.size:N)else(18:N)).toNat<=s.size),aa d,aa (aI (v:=aP o)),aa h3,aa e,aa f,ag (by omega:s.size<=s.size),av i,av l,av m] 4241279421303380490363686664233810978930817
open Lib in
def Z3(e:E):∀(l:I hN)(a x:E),vm a l=O x->vm (a+e) l=O (x+e*10^l.length)
 |[],a,x,h=>by cases h;simp[vm]
 |b::r,a,x,h=>by
  unfold vm at h ⊢;cases c:YY b with
  |none=>rw[c]at h;cases h
  |some d=>
   rw[c]at h;have f:=Z3 (e*10) r _ _ h;show vm ((a+e)*10+d) r=_;rw[show(a+e)*10+d=a*10+d+e*10 by omega];rw[f,la,C'];congr 1;have:e*10*10^r.length=e*(10^r.length*10):=by grind
   omega
open Lib in
def Rs:∀(l:I hN)(a x:E),vm a l=O x->a<=x
 |[],a,x,h=>by cases h;omega
 |b::r,a,x,h=>by
  unfold vm at h;cases c:YY b with
  |none=>rw[c]at h;cases h
  |some d=>rw[c]at h;have:=Rs r _ _ h;omega
open Lib in
def Z4:∀(C:E)(l:I hN)(a x:E),vm a l=O x->C<=l.length->∃v,vm 0 (l.take C)=O v/\vm (a*10^C+v) (l.drop C)=O x
 |0,l,a,x,h,_=>⟨0,rfl,by simpa using h⟩
 |C+1,[],a,x,h,c=>by simp at c
 |C+1,b::r,a,x,h,c=>by
  unfold vm at h;cases e:YY b with
  |none=>rw[e]at h;cases h
  |some d=>
   rw[e]at h;obtain⟨v,f,i⟩:=Z4 C r _ x h (by simpa using c);refine⟨v+d*10^C,?_,?_⟩
   .rw[uZ];unfold vm;rw[e];have:=Z3 d _ _ _ f;rw[er,ns (by simpa using c),bC]at this;show vm (0*10+d) _=_;rw[CB,bC];exact this
   .rw[WY,<-i];congr 1;rw[C'];have:(a*10+d)*10^C=a*(10^C*10)+d*10^C:=by grind
    omega
open Lib in
def arh{l:I hN}{v:E}(h:vm 0 l=O v)(d:l≠[]):atoi l=O (v:N):=by
 cases l with
 |nil=>exact absurd rfl d
 |cons b r=>
  have hb:48<=b.toNat:=by
   unfold vm at h;cases c:YY b with
   |none=>rw[c]at h;cases h
   |some p=>unfold YY at c;split at c
            .omega
            .cases c
  have f:(b==45)=ao:=by
   rw[fB];intro e;subst e;exact absurd hb δ
  have i:(b==43)=ao:=by
   rw[fB];intro e;subst e;exact absurd hb δ
  rw[show atoi (b::r)=if(b==45)=D then(decNat r).map (fun(m:E)=> -(m:N))else if(b==43)=D then(decNat r).map (fun(m:E)=>(m:N))else(decNat (b::r)).map (fun(m:E)=>(m:N))from rfl,f,i];show(decNat (b::r)).map _=_;unfold decNat;rw[show(b::r).isEmpty=ao from rfl];simp[h]
def K0{n x y:E}(h:cn n (bg (y:N))=D)(d:1<=n)(e:x<=y):cn n (bg (x:N))=D:=by
 have c:=mj h d;rw[val_mk]at c;exact(nh ω).1
def ari{n:E}{x v:E}(h:cn n (dE (bg (x:N)) (dG v))=D):dE (bg (x:N)) (dG v)=bg ((x+v:E):N):=by
 have e:ax (dE (bg (x:N)) (dG v))=((x+v:E):N):=by
  rw[Dt,val_mk];show(x:N)+v=_;omega
 have:=H4 h (by rw[e];omega);rw[e]at this;exact this
def arj:bI em (bJ DR):=WJ (λd c=>by rw[kD.1 c];exact aq9) (dw λd c=>by
 simp only[cQ,iL,Xz]at c;rcases c with rfl |rfl |rfl |rfl |rfl |rfl |rfl
 .exact aq7
 .exact aq8
 .exact DN
 .exact Sx
 .exact mu
 .exact Dy
 .exact Dx)
def K1(s:AT)(n:E):(s.extract 0 n).data.toList=s.data.toList.take n:=by
 rw[ft.data_extract,fh.toList_extract];simp[I.extract]
def Rt(s:AT)(n:E):(s.extract n s.size).data.toList=s.data.toList.drop n:=by
 rw[ft.data_extract,fh.toList_extract];simp only[I.extract];rw[eG];rw[p7,KQ];exact aC _
def Bl(s:AT):s.size=s.data.toList.length:=by rw[KQ];rfl
open Lib in
def decFrom_lt:∀(l:I hN)(a x:E),vm a l=O x->x<(a+1)*10^l.length
 |[],a,x,h=>by cases h;simp
 |b::r,a,x,h=>by
  unfold vm at h;cases c:YY b with
  |none=>rw[c]at h;cases h
  |some d=>
   rw[c]at h;have i:=decFrom_lt r _ _ h;have e:d<=9:=by
    unfold YY at c;split at c
    .cases c;omega
    .cases c
   have f:=Hr (10^r.length) (show a*10+d+1<=(a+1)*10 by omega);rw[la,C'];have:(a+1)*(10^r.length*10)=(a+1)*10*10^r.length:=by grind
   omega
def ark{n x v:E}(h:cn n (bg ((x+v:E):N))=D)(d:1<=n):cn n (dE (bg (x:N)) (dG v))=D:=Gn (by
 have c:=mj h d;rw[val_mk]at c;rw[val_mk];show((((x:N)+(v:N)).natAbs:E):N)<_;rw[<-N.natCast_add];exact c)
def arl(s:AT)(c:E)(T:Lib.decFrom 0 (tD s fW).data.toList=O c)(l:aH (bg (c:N))=D):
  Holds em ao 107 [sv s] (aP (bg (if rN s fW=D then-(c:N)else c))):=by
 have i:=arj;have Q:((0,[]):bf)=bg ((0:E):N):=by unfold bg;rw[dA δ];rfl
 have A:cL DR (fl yS []) 4 41 [sv s] 1 .normal s2 (pS (tD s fW) (0,[]) (rN s fW)):=wy [] 0;rw[show pS (tD s fW) (0,[]) (rN s fW)=pS (tD s fW) (bg ((0:E):N)) (rN s fW) by rw[<-Q]]at A;refine bK yS func107 λw F=>?_
 refine cE i 4 A ?_;generalize rN s fW=d;refine c_q {x:AT×E//Lib.decFrom x.2 x.1.data.toList=O c} 0 (cat yS Rr) ((fl yS []).drop 5) (λx=>pS x.1.1 (bg (x.1.2:N)) d) (λx=>x.1.1.size)
  ⟨(tD s fW,0),T⟩ ?_
 rintro⟨⟨t,m⟩,e⟩;have e:Lib.decFrom m t.data.toList=O c:=e;have U:=Rs _ _ _ e;by_cases F:t.size=0
 .have f:m=c:=by
   have:t.data.toList=[]:=ix (by rw[<-Bl];exact F);rw[this]at e;cases e;rfl
  subst f;refine aT (s:=pS t (bg (m:N)) d) i (wy [az (show ¬(t.size:N)>0 from by rw[F];decide)] 1:aR DR (fl yS Rr) (pS t (bg (m:N)) d) 2 (.exit 0) s2 (pS t (bg (m:N)) d)) ?_;refine bY (cg ?_);cases d with
  |true=>
   have f:fN (bg (m:N))=bg (-(m:N)):=by unfold fN;rw[val_mk]
   rw[dA rfl,<-f];exact bM (s:=pS t (bg (m:N)) D) i (wy [aa (rfl:(D)=D),aa l] 129:bw DR ((fl yS []).drop 5) (pS t (bg (m:N)) D) 3 Tryz.f107 ao (aP (fN (bg (m:N)))))
  |false=>
   rw[db δ];exact bM (s:=pS t (bg (m:N)) ao) i (wy [aa (rfl:(ao)=ao)] 1:bw DR ((fl yS []).drop 5) (pS t (bg (m:N)) ao) 2 Tryz.f107 ao (aP (bg (m:N))))
 .obtain⟨C,p⟩:∃C,C=XR t.size 18:=⟨_,rfl⟩;have S:(if(t.size:N)<18 then(t.size:N)else 18)=(C:N):=by split<;>omega
  have p:1<=C:=by omega
  have J:C<=18:=by omega
  have q:C<=t.size:=by omega
  obtain⟨v,B,r⟩:=Z4 C _ _ _ e (by rw[<-Bl];exact q);have V:=Rs _ _ _ r;have W:(t.extract 0 C).data.toList≠[]:=by
   rw[K1];intro f;have:=congrArg jC f;rw[er,<-Bl,IJ]at this;omega
  have z:Lib.atoi (t.extract 0 C).data.toList=O (v:N):=arh (by rw[K1];exact B) W;have X:DQ (t.extract 0 C)=D:=by
   unfold DQ;rw[z,Bl,K1,er,ay ω];rfl
  have P:yR (t.extract 0 C)=v:=by unfold yR;rw[z];rfl
  have G:=arb t (t.extract C t.size) (bg (m:N)) (bg ((m*10^C+v:E):N)) d;rw[S,kh,P]at G;have p:vh (dG 10) (C:N)=bg ((10^C:E):N):=by
   unfold vh;rw[kh,N.natCast_pow];rfl
  have H:DO (dG 10) (C:N)=D:=by
   unfold DO;rw[show aH (dG 10)=D from(rJ (n:=100000) (a:=(10,[])) rfl).trans δ,ay (show(0:N)<=C by omega),ay (by rw[kh];show 1+(0+1)*C<=100000;omega)];rfl
  have w:cH (bg (m:N)) (bg ((10^C:E):N))=bg ((m*10^C:E):N):=by
   unfold cH;rw[val_mk,val_mk,<-N.natCast_mul]
  have e:aH (bg (m:N))=D:=K0 l δ U;have x:aH (bg ((m*10^C:E):N))=D:=K0 l δ ω;have K:10^C<=10^18:=Q3 δ J;have f:aH (bg ((10^C:E):N))=D:=K0 (y:=10^18) (kG (show 1<=100000 by decide) (nh δ).1) δ K;have u:v<10^C:=by
   have:=decFrom_lt _ _ _ B;rw[er,<-Bl,ns q,bC,E.one_mul]at this;exact this
  have L:aH (dG v)=D:=(rJ (n:=100000) (a:=(v,[])) rfl).trans (uQ.2 ⟨by show _<=(v:N);omega,by show(v:N)<=_;omega⟩);have M:aH (bg ((m*10^C+v:E):N))=D:=K0 l δ V;have u:dE (cH (bg (m:N)) (vh (dG 10) (C:N))) (dG v)=bg ((m*10^C+v:E):N):=by
   rw[p,w];exact ari (ark M δ)
  refine aT (s:=pS t (bg (m:N)) d) i (G ω X H (oS e (by show aH (vh (dG 10) (C:N))=D;rw[p];exact f)) (oS (by show aH (cH (bg (m:N)) (vh (dG 10) (C:N)))=D;rw[p,w];exact x) L) rfl (congrArg ql u) (congrArg rL u)) ?_;refine⟨⟨(t.extract C t.size,m*10^C+v),?_⟩,?_,rfl,rfl⟩
  .show Lib.decFrom (m*10^C+v) (t.extract C t.size).data.toList=O c;rw[Rt];exact r
  .show(t.extract C t.size).size<t.size;rw[Bl (t.extract C t.size),Rt,p7,<-Bl];omega
def xk(s:AT):N:=match Lib.decFrom 0 (tD s fW).data.toList with |some n=>n|none=>0
def DS(s:AT):N:=if rN s fW=D then-xk s else xk s
noncomputable def gO(s:AT):N×I N:=bg (DS s)
noncomputable def ld(s:AT):dF:=(Lib.decFrom 0 (tD s fW).data.toList).isSome&&aH (bg (xk s))
def Rv:=IN 107 [.str] [eV] ao (λd=>ld d.1) λd=>(gO d.1,())
def Z6:Rv.Ok em:=λ⟨s,_⟩ h=>by
 have h:ld s=D:=h;unfold ld at h;rw[ae]at h;obtain⟨c,d⟩:=DF.1 h.1;have e:xk s=c:=by unfold xk;rw[d]
 have f:gO s=bg (if rN s fW=D then-(c:N)else c):=by unfold gO DS;rw[e]
 show Holds em ao 107 [sv s] (aP (gO s));rw[f];exact arl s c d (by rw[<-e];exact h.2)
def ke(s p:AT):AT:=⟨(Lib.cut s.data.toList p.data.toList).1.toArray⟩
def xn(s p:AT):AT:=⟨(Lib.cut s.data.toList p.data.toList).2.1.toArray⟩
def qN(s p:AT):dF:=(Lib.cut s.data.toList p.data.toList).2.2
def vn(s:AT):dF:=bP (s.size<4294967281)
def cM(n:N):AT:=⟨(Lib.itoa n).toArray⟩
def Rw:=IN 105 [.str,.str] [.str,.str,.bool] D (λd=>vn d.1) λd=>(ke d.1 d.2.1,xn d.1 d.2.1,qN d.1 d.2.1,())
def ars{B:E}{w w':du}(h:Below B w w')(n:E):Below B w (w'.drewN n):=⟨h.os,h.tape,h.output,h.size,h.block⟩
def art{F:Sv.Env}{w:du}(f:nT w F)(c:sN F):∃m,w.cell? ⟨0,0,bs⟩=O (.int .i64 m):=by
 obtain⟨A,d,m,e⟩:=c 0 _ rfl;obtain⟨i,l,h3⟩:=f.fz _ _ d;subst e;exact⟨m,by simp[Hf,h3]⟩
def If:Rw.Ok em:=λ⟨s,p,_⟩ h w F q c d e=>by
 have h:vn s=D:=h;unfold vn at h;rw[aN]at h;obtain⟨m,f⟩:=art c d;cases e with
 |cons d1 d2=>
  cases d2 with
  |cons d2 d3=>
  cases d3;rw[d1.cu,d2.cu];refine(Tryz.strings_Cut s p m w h f).mono ?_;rintro i l ⟨rfl,n,rfl⟩;have hb:Below w.heap.size w (w.drewN n):=ars (qg _ _) _;exact⟨_,⟨F.at',λ_=>bs⟩,rfl,.tuple (.cons (.raw _) (.cons (.raw _) (.cons (.raw _) .nil))),⟨c.uv,c.all,λb A h=>by cases h⟩,(λb A h=>by cases h),hb⟩
def Rx:=NO f50
abbrev lS:AT:=⟨#[47]⟩
def Ry:=aA [Rw,Rv,KU]
def jb(s:AT):dF:=vn s&&(ld (ke s lS)&&(!qN s lS||ld (xn s lS)))
noncomputable def cW(s:AT):(N×I N)×(N×I N):=if qN s lS=D then(gO (ke s lS),gO (xn s lS))else j8 (gO (ke s lS))
def Rz:=IN 50 [.str] [e6] ao (λd=>jb d.1) λd=>(cW d.1,())
def Z7:bI em (bJ Ry):=dw (aV If (aV Z6 (aV Ro eH)))
def arw(s:AT)(h:jb s=D):Holds em ao 50 [sv s] (ct (cW s)):=by
 unfold jb at h;rw[ae,ae]at h;obtain⟨d,e,h3⟩:=h;refine bK Rx func50 λw F=>?_
 unfold cW;cases c:qN s lS with
 |true=>
  rw[dA rfl];rw[c]at h3;exact bt Z7 9 (wy [aa d,aa (b8 (c)),aa e,aa h3] 1060993:bk Ry (fl Rx []) 9 (f50.ntmps) [sv s] 2 f50 ao (ct (gO (ke s lS),gO (xn s lS))))
 |false=>
  rw[db δ];exact bt Z7 9 (wy [aa d,aa (b8 (c)),aa e] 12417:bk Ry (fl Rx []) 9 (f50.ntmps) [sv s] 3 f50 ao (ct (j8 (gO (ke s lS)))))
def RA:Rz.Ok em:=λ⟨s,_⟩ h=>arw s h
def Z8:=NO f91
def Z9:=NO f96
def RB:=aA [Ri,KW,KY,KX,Rh]
noncomputable def oa(a b:cl):(N×I N)×(N×I N):=AX a (AS b)
noncomputable def aaa(a b:cl):(N×I N)×(N×I N):=AU a (GH b)
def RC(a b:cl):dF:=okQ 20000 a&&(okQ 20000 b&& !(ax b.1==0))
def RD:=IN 91 [e6,e6] [e6] ao (λd=>okQ 20000 d.1&&okQ 20000 d.2.1) λd=>(oa d.1 d.2.1,())
def aab:=IN 96 [e6,e6] [e6] ao (λd=>RC d.1 d.2.1) λd=>(aaa d.1 d.2.1,())
def aac:bI em (bJ RB):=dw (aV ZT (aV Rl (aV Rn (aV Rm (aV ZQ eH)))))
def arz{n:E}{b:cl}(h:okQ n b=D)(e:1<=n):okQ n (AS b)=D:=by
 obtain⟨c,d,h3⟩:=fj.1 h;exact fj.2 ⟨qJ c e,d,h3⟩
def aad{a b:cl}(h:okQ 20000 a=D)(g:okQ 20000 b=D):(okQ 20000 a&&okQ 20000 b)=D:=by rw[h,g];rfl
def arA(a b:cl)(h:okQ 20000 a=D)(g:okQ 20000 b=D):Holds em ao 91 [ct a,ct b] (ct (oa a b)):=by
 refine bK Z8 func91 λw F=>?_
 exact bt aac 9 (wy [aa (aI (v:=ct a)),aa (aI (v:=ct b)),aa (kG (show 20000<=100000 by decide) (fj.1 g).1:(aH b.1)=D),aa (aad h (arz g δ):(okQ 20000 a&&okQ 20000 (AS b))=D)] 67383425:bk RB (fl Z8 []) 9 (f91.ntmps) [ct a,ct b] 1 f91 ao (ct (AX a (AS b))))
def aae:RD.Ok em:=λ⟨a,b,_⟩ h=>by
 have h:(okQ 20000 a&&okQ 20000 b)=D:=h;rw[ae]at h;exact arA a b h.1 h.2
def arB(a b:cl)(h:okQ 20000 a=D)(g:okQ 20000 b=D)(hb:ax b.1≠0):Holds em ao 96 [ct a,ct b] (ct (aaa a b)):=by
 obtain⟨c,d,e⟩:=fj.1 g;have m:= @kG 20000 100000;refine bK Z9 func96 λw F=>?_
 exact bt aac 9 (wy [aa (aI (v:=ct a)),aa (aI (v:=ct b)),aa (gd.2 ⟨m δ d,m δ c,hb⟩:(kN b.2 b.1)=D),aa (aad h (KS d c δ hb).ok:(okQ 20000 a&&okQ 20000 (GH b))=D)] 67383425:bk RB (fl Z9 []) 9 (f96.ntmps) [ct a,ct b] 1 f96 ao (ct (AU a (GH b))))
def arC:aab.Ok em:=λ⟨a,b,_⟩ h=>by
 have h:RC a b=D:=h;unfold RC at h;simp only[ae,Gp,fB]at h;exact arB a b h.1 h.2.1 h.2.2
def arD{n:E}{a b:cl}{r s:qA}(h:QR n a r)(g:QR n b s)(c:1<=n):QR (n+n+1) (oa a b) (r-s):=by
 rw[qA.sub_eq_add_neg];exact aqX h (Id g c) c
def arE{n m:E}{a b:cl}{r s:qA}(h:QR n a r)(g:QR m b s):xg a b=if r<s then-1 else if r=s then 0 else 1:=by
 unfold xg wY mh;rw[k7,k7,h.num,h.den,g.num,g.den];have l:=qA.lt_iff r s;have i:r=s↔r.num*s.den=s.num*r.den:=by
  constructor
  .intro e;rw[e]
  .intro e;have c:gp r.num r.den=gp s.num s.den:=(ï (by have:=r.den_pos;omega) (by have:=s.den_pos;omega)).2 e;rw[tb,tb]at c;exact c
 by_cases c:r<s
 .have:=l.1 c;rw[dA c,dA ω]
 .have p:¬r.num*s.den<s.num*r.den:=λf=>c (l.2 f)
  rw[db c,db ω];by_cases d:r=s
  .have:=i.1 d;rw[dA d,dA ω]
  .have q:¬r.num*s.den=s.num*r.den:=λf=>d (i.2 f)
   rw[db d,db ω]
def RE:Value->Value->dF
 |.int k a,.int c b=>decide (k=c)&&bP (a=b)
 |.bool a,.bool b=>a==b
 |.string a,.string b=>decide (a=b)
 |_,_=>ao
def sliceB(fresh:dF)(H:ai)(i off n:E)(z:dF)(u:aq)(ys:I u.den):dF:=match H.get i with
 |some (.cells _ c _ _ ao)=>(!fresh||u.nS)&&(match u.qY n (cut c off (n*u.size))with
  |some d=>aq.beq (.list ao u) d ys&&(dK (off+n*u.size) c.length&&(!z||dK 1 n))
  |none=>ao)
 |_=>ao
def GJ(fresh:dF)(H:ai):af->af->dF
 |.raw (.slice bs 0 0),.bh _ _ ys=>ys.isEmpty
 |.raw a,.raw b=>RE a b
 |.slice i c n _,.bh z u ys=>sliceB fresh H i c n z u ys
 |_,_=>ao
def GK(fresh:dF)(H:ai):I af->I af->dF
 |[],[]=>D
 |v::l,d::c=>GJ fresh H v d&&GK fresh H l c
 |_,_=>ao
def RF(fresh:dF)(H:ai):af->af->dF
 |.agg l,.agg c=>GK fresh H l c
 |.tuple l,.tuple c=>GK fresh H l c
 |v,d=>GJ fresh H v d
def GL(fresh:dF)(H:ai):I af->I af->dF
 |[],[]=>D
 |v::l,d::c=>RF fresh H v d&&GL fresh H l c
 |_,_=>ao
def GM(fresh:dF)(H:ai):af->af->dF
 |.agg l,.agg c=>GL fresh H l c
 |.tuple l,.tuple c=>GL fresh H l c
 |v,d=>GJ fresh H v d
def arF{fresh:dF}{H:ai}{a b:Value}(h:RE a b=D):cV fresh H (.raw a) (.raw b):=by
 unfold RE at h;split at h
 .rename_i k x e y;rw[ae]at h;have d:=h.1;have c:x=y:=cC h.2;unfold cV;show jw (bP (k=e)) (x=y);rw[d];exact c
 .rename_i x y;unfold cV;exact eq_of_beq h
 .rename_i x y;have c:x=y:=cC h;unfold cV;exact c
 .cases h
def v6{fresh:dF}{H:ai}{v v':af}(h:GJ fresh H v v'=D):cV fresh H v v':=by
 unfold GJ at h;split at h
 .rename_i z t ys;unfold cV;exact I.isEmpty_iff.1 h
 .exact arF h
 .rename_i s i n m z u ys;unfold cV;unfold sliceB at h;split at h
  .rename_i p d q r l;rw[ae]at h;rw[l];simp only;rw[show(!fresh||u.nS)=D from h.1];show(match u.qY n (cut d i (n*u.size))with |some e=>e=ys/\_|none=>lm)
   cases f:u.qY n (cut d i (n*u.size))with
   |none=>rw[f]at h;cases h.2
   |some e=>
    rw[f]at h;have c:=h.2;simp only[ae]at c;refine⟨aq.CA (.list ao u) c.1,?_⟩;rw[ae];exact c.2
  .cases h
 .cases h
def RG{fresh:dF}{H:ai}:∀{l c:I af},GK fresh H l c=D->wG fresh H l c
 |[],[],_=>trivial
 |[],_::_,h=>by cases h
 |_::_,[],h=>by cases h
 |v::l,d::c,h=>by
  unfold GK at h;rw[ae]at h;exact⟨v6 h.1,RG h.2⟩
def arG{fresh:dF}{H:ai}{v v':af}(h:RF fresh H v v'=D):cV fresh H v v':=by
 unfold RF at h;split at h
 .unfold cV;exact RG h
 .unfold cV;exact RG h
 .exact v6 h
def RH{fresh:dF}{H:ai}:∀{l c:I af},GL fresh H l c=D->wG fresh H l c
 |[],[],_=>trivial
 |[],_::_,h=>by cases h
 |_::_,[],h=>by cases h
 |v::l,d::c,h=>by
  unfold GL at h;rw[ae]at h;exact⟨arG h.1,RH h.2⟩
def RI{fresh:dF}{H:ai}{v v':af}(h:GM fresh H v v'=D):cV fresh H v v':=by
 unfold GM at h;split at h
 .unfold cV;exact RH h
 .unfold cV;exact RH h
 .exact v6 h
def RJ{P:fd}{p:fe}(G:bI P p){f:ya}{args:I af}{v:af}{H':ai}{fresh:dF}{res:af}(h:p f args H0=.ok v H')(K:cV fresh H' v res):Holds P fresh f args res:=by
 intro w F M d z H;have s:bl P w.heap.size F H0 w:=⟨λi k h=>(by rw[show H0.get i=bs from au.get_nil i]at h;cases h),λi j V U b S T h=>(by rw[show H0.get i=bs from au.get_nil i]at h;cases h),λi k h=>(by rw[show H0.get i=bs from au.get_nil i]at h;cases h),aC _,
  λb A h=>⟨d.fz b A h,λi k B t=>(by rw[show H0.get i=bs from au.get_nil i]at t;cases t)⟩⟩
 refine(wQ.1 (G.dc f args H0 v H' h w.heap.size F M w 0 s ⟨d.all,z⟩ H λi r _=>?_)).mono ?_
 .have r:64<=i:=r;cases y:F i with
  |none=>rfl
  |some x=>exact absurd (d.uv i x y) ω
 .rintro q m ⟨x,Q,rfl,L,r2,u⟩;have hb:=u.below s;have J:∀b A,Q.fz b=O A->F.fz b=O A\/w.heap.size<=b:=λb A hb=>by
   rcases u.o8 b A hb with h|h|⟨i,k,B,h,_⟩
   .exact .inl h
   .exact .inr h
   .rw[show H0.get i=bs from au.get_nil i]at h;cases h
  refine⟨x,FI fresh w.heap.size m F,rfl,Jo r2 J K L,⟨d.uv,d.all,λb A c=>?_⟩,λb A c=>?_,hb⟩
  .have c:(if w.heap.size<=b then jx m b else if fresh then bs else F.fz b)=O A:=c;by_cases e:w.heap.size<=b
   .rw[dA e]at c;exact bm.1 c
   .rw[db e]at c;cases l:fresh with
    |true=>rw[l]at c;cases c
    |false=>
     rw[l]at c;obtain⟨q,C,h3⟩:=d.fz b A c;exact⟨q,C,(hb.block b ω).trans h3⟩
  .have c:(if w.heap.size<=b then jx m b else if fresh then bs else F.fz b)=O A:=c;by_cases e:w.heap.size<=b
   .exact .inr e
   .rw[db e]at c;cases l:fresh with
    |true=>rw[l]at c;cases c
    |false=>rw[l]at c;exact .inl ⟨rfl,c⟩
