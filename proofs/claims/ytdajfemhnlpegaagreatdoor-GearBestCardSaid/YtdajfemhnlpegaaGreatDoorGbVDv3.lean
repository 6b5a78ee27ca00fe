import Derived.Test.YtdajfemhnlpegaaGreatDoorGbVNi
open Array renaming toList->uU
open BitVec renaming ofInt->gF,ofInt_natCast->Q8,toNat_ofNat->U8,toNat->ru
open Bool renaming true->D,false->ao,true_and->py
open Eq renaming refl->Hj
open Go renaming World->du,IntKind->be,Program->fd,Func->Ö,TypeId->ed,Exit->sC,Code->mN,Operand->gn
open Go.IntKind renaming i64->iz,wrap->ca,u64->dv
open Go.Proofs.Tryz renaming prog->em
open Go.RowKit.Below renaming refl->qg
open Int renaming natAbs_mul->Kc,mul_nonneg->kv,neg_mul->H7,emod_add_mul_ediv->jp,pow_succ->hP,ediv_lt_of_lt_mul->Cl,ediv_nonneg->jN,add_mul->wq,mul_comm->iN,mul_assoc->km,ofNat_lt->Zh,natCast_nonneg->lx,pow_add->yL,mul_add->oB,add_mul_emod_self_left->å,mul_sub->LS,mul_one->Cu,mul_zero->Vh,fdiv->nZ,toNat->ea,tdiv->ej,toNat_natCast->kh,le_ediv_iff_mul_le->G',sub_mul->sZ,one_mul->mT,ediv_lt_iff_lt_mul->pA,mul_le_mul->tj,tdiv_eq_ediv_of_nonneg->ku,ediv_le_self->vb,zero_mul->NA,tmod_eq_emod_of_nonneg->lU,tmod->gl,fdiv_eq_ediv_of_nonneg->D7,le_refl->vc,mul_pos->G8,ediv_mul_le->Û
open List renaming length_cons->la,drop_eq_getElem_cons->kl,drop_drop->PM,drop_append->Sj,drop_zero->iW,drop_eq_nil_of_le->pB,nil_append->ts,take_append->Sn,take_zero->GD,append_nil->mS,flatten->F5,replicate->ie,flatMap->A',take_append_drop->pa,mem_singleton->kD,drop_length->Gv,length->jC
open Nat renaming min_eq_left->ns,lt_of_lt_of_le->iy,pow_le_pow_right->Q3,mod_eq_of_lt->É,sub_self->Ru,pow_succ->C',mul_le_mul_right->Hr,zero_le->gt,beq->dd,add_sub_cancel_left->æ,ble->dK
open Option renaming none->bs,some->O
open PUnit renaming unit->wS
open _root_ renaming Nat->E,decide->bP,Int->N,if_neg->db,Bool->dF,List->I,BitVec->kx,min->XR,if_false->á,if_pos->dA,False->lm,Option->da,or_false->Xz
set_option linter.defProp false
set_option linter.unusedSimpArgs false
set_option linter.unusedVariables false
set_option maxRecDepth 100000
namespace Go.Proofs.YtdajfemhnlpegaaGreatDoor
open Go.RowKit Sv Go.Proofs.Tryz
noncomputable section
def Kn:=NO f146
def Ql:=NO f167
def YJ:=NO f116
def wZ:=NO f87
def YK:=NO f149
def w4:=NO f86
def Du:=NO f92
def mm:=aA [Qh,Qi,Yq,Yr,Qa,YA,Kf,Qg]
abbrev th(a:bf):gB:= .blk (.cells 94 [iv a.1,.bh D aF a.2] D ao ao)
abbrev b0:gB:= .blk (.cells 94 [iv 0,.raw (.slice bs 0 0)] D ao ao)
abbrev s3:Sv.Ren:=[(64,64,bs),(65,65,bs),(66,66,bs)]
def lN(a b:bf)(n:E):bD:={n:=n,sl:=[(2,.ptr 64 0),(3,.ptr 65 0),(4,.ptr 66 0)],bF:=[(64,th a),(65,th b),(66,b0)],next:=67}
def an5(a b:bf)(d:a.2.isEmpty=D)(e:b.2.isEmpty=D)(h3:(fits iz (a.1+b.1))=ao)(h4:¬bP (ca iz (a.1+b.1)>a.1)=bP (b.1>0)):
  aD.wD (sP em mm (fl wZ []) 3 67 [aP a,aP b]) (dl 95) (fy em 67 .normal s3 (lN a b 67)):=
 aiS [aa (aK (aK (d))),aa (aK (d)),aa (aK (e)),aa h3,yn h4] 347943211073
def A1:=IN 146 [eV] [eV] ao (λd=>aH d.1) λd=>(fN d.1,())
def yH:=IN 116 [eV] [.int .i64] D (λd=>aH d.1) λd=>(fO d.1,())
def A2:=IN 87 [eV,eV] [eV] ao (λd=>aH d.1&&aH d.2.1) λd=>(dE d.1 d.2.1,())
def Dv:=IN 86 [eV,eV] [eV] ao (λd=>aH d.1&&aH d.2.1) λd=>(cH d.1 d.2.1,())
def il:bI em (bJ mm):=dw (aV YG (aV YI (aV ana (aV ane (aV Yz (aV anG (aV Qc (aV YF eH))))))))
def Dw{z:N}(h:0<=z):(jz (gL 18446744073709551616 z)&&lM (gL 18446744073709551616 z))=D:=by
 obtain⟨d,e,_⟩:=uO (b:=18446744073709551616) δ h;rw[jA.2 d,gk.2 e];rfl
def mt{z:N}(h:0<=z):aj (gL 18446744073709551616 z)=z:=(uO (b:=18446744073709551616) δ h).2.2
def YL{a:bf}(h:aH a=D):(jz (aB a)&&lM (aB a))=D:=by
 obtain⟨d,e,_⟩:=n4 h;rw[jA.2 d,gk.2 e];rfl
def Ko{a b:bf}(h:aH a=D)(g:aH b=D):mY (aB a) (aB b)=D:=by
 obtain⟨e,_,_,_,h5⟩:=n4 h;obtain⟨d,_,_,_,f⟩:=n4 g;unfold mY;rw[jA.2 e,jA.2 d,ay (show(aB a).length<=400000 by omega),ay (show(aB b).length<=400000 by omega)];rfl
def Qm{a b:bf}(h:aH a=D)(g:aH b=D):pP (aB a) (aB b)=D:=by
 obtain⟨f,j,_,_,h5⟩:=n4 h;obtain⟨d,e,_⟩:=n4 g;unfold pP;rw[jA.2 f,gk.2 j,jA.2 d,gk.2 e,ay (show(aB a).length<=1000000 by omega)];rfl
def A3{a:bf}(h:aH a=D)(d:a.2=[]): -9223372036854775808<=a.1/\a.1<=9223372036854775807:=uQ.1 ((rJ d).symm.trans h)
def aog(a:bf)(h:aH a=D):Holds em ao 146 [aP a] (aP (fN a)):=by
 obtain⟨t,x,h3,h4,_⟩:=n4 h;have f:bg (br (!cv a) (aB a))=fN a:=by
  unfold fN;congr 1;cases e:cv a
  .have:¬ax a<0:=λl=>by rw[h4.2 l]at e;cases e
   show-aj (aB a)=_;omega
  .have:=h4.1 e;show aj (aB a)=_;omega
 refine bK Kn func146 λw F=>?_
 by_cases d:a.2=[]
 .have y:=A3 h d;by_cases g:a.1= -9223372036854775808
  .rw[<-f];exact bt il 9 (wy [aa (aK (aK ((dW.2 d:a.2.isEmpty=D)))),aa (aK ((dW.2 d:a.2.isEmpty=D))),aa (cS.mpr g),aa h,aa (YL h:(jz (aB a)&&lM (aB a))=D)] 347943211073:bk mm (fl Kn []) 9 26 [aP a] 47 f146 ao (aP (bg (br (!cv a) (aB a)))))
  .have j:fN a=(-a.1,[]):=by unfold fN;rw[qI d];exact uS ω
   rw[j];refine bt il 9 (wy [aa (aK (aK ((dW.2 d:a.2.isEmpty=D)))),aa (aK ((dW.2 d:a.2.isEmpty=D))),aa (eX.mpr g),av (?_:(ca iz (0-a.1))=(-a.1))] 4345827393:bk mm (fl Kn []) 9 26 [aP a] 63 f146 ao (aP (-a.1,[])));rw[sT ω];omega
 .rw[<-f];exact bt il 9 (wy [aa (aK (aK ((uR.2 d:a.2.isEmpty=ao)))),aa (aK ((uR.2 d:a.2.isEmpty=ao))),aa h,aa (YL h:(jz (aB a)&&lM (aB a))=D)] 278099660865:bk mm (fl Kn []) 9 26 [aP a] 32 f146 ao (aP (bg (br (!cv a) (aB a)))))
def Dx:A1.Ok em:=λ⟨a,_⟩ h=>aog a h
def aoh{a:bf}(h:aH a=D):fO a=mh a.1:=by
 unfold fO;by_cases e:a.2=[]
 .rw[qI e]
 .obtain⟨d,_,_,h4,_⟩:=(yF e).1 h;have f:ax a=a.1*aj a.2:=by unfold ax;rw[db e]
  rw[f];rcases d with d|d<;>rw[d]
  .rw[Qe ω,Qe ω]
  .rw[Kk ω,Kk ω]
def FS(a:bf)(h:aH a=D):Holds em D 116 [aP a] (iv (fO a)):=by
 rw[aoh h];refine bK YJ func116 λw F=>?_
 refine bt ba 9 (wy [av (?_:(if(if a.1<1 then a.1 else 1)> -1 then if a.1<1 then a.1 else 1 else(-1:N))=(mh a.1))] 1:bk (aA []) (fl YJ []) 9 7 [aP a] 1 f116 D (iv (mh a.1)));unfold mh;split<;>split<;>split<;>(try split)<;>omega
def A4:yH.Ok em:=λ⟨a,_⟩ h=>FS a h
def Qn(a b:bf)(h:aH a=D)(g:aH b=D)(A:dE a b=bg (ax a+ax b))(w:du)(F:Sv.Env):
  bp em w F 67 ((fl wZ []).drop 3) (lN a b 67).T (lN a b 67).H (ew em ao f87 (aP (dE a b))):=by
 obtain⟨H,J,h3,h4,_⟩:=n4 h;obtain⟨B,C,G,l,_⟩:=n4 g;rw[A];by_cases j:cv a=cv b
 .have x:bg (br (cv a) (yD (aB a) (aB b)))=bg (ax a+ax b):=by
   congr 1;have z:aj (yD (aB a) (aB b))=aj (aB a)+aj (aB b):=mt ω;cases d:cv a
   .have:¬ax a<0:=λe=>by rw[h4.2 e]at d;cases d
    have:¬ax b<0:=λe=>by rw[<-j,d]at l;have:=l.2 e;cases this
    show aj _=_;omega
   .have:=h4.1 d;have:=l.1 (by rw[<-j];exact d);show-aj _=_;omega
  rw[<-x];exact bM (s:=lN a b 67) il (wy [aa h,aa g,cT j,aa (Ko h g:(mY (aB a) (aB b))=D),aa (Dw (show 0<=aj (aB a)+aj (aB b) by omega):(jz (yD (aB a) (aB b))&&lM (yD (aB a) (aB b)))=D)] 84947073:bw mm ((fl wZ []).drop 3) (lN a b 67) 3 f87 ao (aP (bg (br (cv a) (yD (aB a) (aB b))))))
 .have K:(ax a<0/\¬ax b<0)\/(¬ax a<0/\ax b<0):=by
   cases d:cv a<;>cases f:cv b
   .rw[d,f]at j;exact absurd rfl j
   .exact .inr ⟨λe=>(by rw[h4.2 e]at d;cases d),l.1 f⟩
   .exact .inl ⟨h4.1 d,λe=>(by rw[l.2 e]at f;cases f)⟩
   .rw[d,f]at j;exact absurd rfl j
  by_cases t:mZ (aj (aB a)) (aj (aB b))>=0
  .have y:aj (aB b)<=aj (aB a):=by
    unfold mZ at t;split at t
    .omega
    .omega
   have z:aj (ti (aB a) (aB b))=aj (aB a)-aj (aB b):=mt ω;have x:bg (br (cv a) (ti (aB a) (aB b)))=bg (ax a+ax b):=by
    congr 1;cases d:cv a
    .have:¬ax a<0:=λe=>by rw[h4.2 e]at d;cases d
     show aj _=_;omega
    .have:=h4.1 d;show-aj _=_;omega
   rw[<-x];exact bM (s:=lN a b 67) il (wy [aa h,aa g,yn j,aa (Qm h g:(pP (aB a) (aB b))=D),ag t,aa (show(mY (aB a) (aB b)&&bP (aj (aB b)<=aj (aB a)))=D from by rw[show mY _ _=D from Ko h g,py];exact ay y),aa (Dw (show 0<=aj (aB a)-aj (aB b) by omega):(jz (ti (aB a) (aB b))&&lM (ti (aB a) (aB b)))=D)] 487563735169:bw mm ((fl wZ []).drop 3) (lN a b 67) 6 f87 ao (aP (bg (br (cv a) (ti (aB a) (aB b))))))
  .have y:aj (aB a)<=aj (aB b):=by
    unfold mZ at t;split at t
    .omega
    .split at t<;>omega
   have z:aj (ti (aB b) (aB a))=aj (aB b)-aj (aB a):=mt ω;have x:bg (br (cv b) (ti (aB b) (aB a)))=bg (ax a+ax b):=by
    congr 1;cases f:cv b
    .have:¬ax b<0:=λe=>by rw[l.2 e]at f;cases f
     show aj _=_;omega
    .have:=l.1 f;show-aj _=_;omega
   rw[<-x];exact bM (s:=lN a b 67) il (wy [aa h,aa g,yn j,aa (Qm h g:(pP (aB a) (aB b))=D),az t,aa (show(mY (aB b) (aB a)&&bP (aj (aB a)<=aj (aB b)))=D from by rw[show mY _ _=D from Ko g h,py];exact ay y),aa (Dw (show 0<=aj (aB b)-aj (aB a) by omega):(jz (ti (aB b) (aB a))&&lM (ti (aB b) (aB a)))=D)] 487563735169:bw mm ((fl wZ []).drop 3) (lN a b 67) 4 f87 ao (aP (bg (br (cv b) (ti (aB b) (aB a))))))
def Qo{a b:bf}(h:¬(jM a&&(jM b&&jL (a.1+b.1)))=D):dE a b=bg (ax a+ax b):=by unfold dE;rw[db h]
def aoi(a b:bf)(h:aH a=D)(g:aH b=D):Holds em ao 87 [aP a,aP b] (aP (dE a b)):=by
 refine bK wZ func87 λw F=>?_
 by_cases e:a.2=[]
 .have B:=A3 h e;by_cases f:b.2=[]
  .have C:=A3 g f;by_cases j:jL (a.1+b.1)=D
   .have t:=uQ.1 j;have l:dE a b=(a.1+b.1,[]):=by unfold dE;rw[dW.2 e,dW.2 f,j];rfl
    rw[l];refine bt il 3 (wy [aa (aK (aK ((dW.2 e:a.2.isEmpty=D)))),aa (aK ((dW.2 e:a.2.isEmpty=D))),aa (aK ((dW.2 f:b.2.isEmpty=D))),yi t,cT (?_:bP (a.1+b.1>a.1)=bP (b.1>0))] 347943211073:bk mm (fl wZ []) 3 67 [aP a,aP b] 127 f87 ao (aP (a.1+b.1,[])));rw[decide_eq_decide];omega
   .have l:=Qo (a:=a) (b:=b) λd=>by
     simp only[ae]at d;exact j d.2.2
    have t:¬(-9223372036854775808<=a.1+b.1/\a.1+b.1<=9223372036854775807):=λd=>j (uQ.2 d)
    refine bp.aiM known mixed il 3 _ (an5 a b (dW.2 e) (dW.2 f) ?_ ?_) (by kernel_rfl) (Qn a b h g l w F)
    .unfold fits;rw[dF.and_eq_false_iff];by_cases x: -9223372036854775808<=a.1+b.1
     .exact .inr (ab λd=>t ⟨x,d⟩)
     .exact .inl (ab x)
    .rw[decide_eq_decide];have A:ca .i64 (a.1+b.1)=if a.1+b.1<0 then a.1+b.1+18446744073709551616 else a.1+b.1-18446744073709551616:=by
      have y:be.signed .i64=D:=rfl;have z:be.bits .i64=64:=rfl;unfold ca;simp only[y,z,py];rw[show(2:N)^64=18446744073709551616 from rfl];split<;>split<;>simp_all<;>omega
     rw[A];split<;>omega
  .exact bp.to known mixed il 3 _ (wy [aa (aK (aK ((dW.2 e:a.2.isEmpty=D)))),aa (aK ((dW.2 e:a.2.isEmpty=D))),aa (aK ((uR.2 f:b.2.isEmpty=ao)))] 50860097:cL mm (fl wZ []) 3 67 [aP a,aP b] 47 .normal s3 (lN a b 67)) (by kernel_rfl) (Qn a b h g (Qo λd=>by
    simp only[ae]at d;exact f (dW.1 d.2.1)) w F)
 .exact bp.to known mixed il 3 _ (wy [aa (aK (aK ((uR.2 e:a.2.isEmpty=ao)))),aa (aK ((uR.2 e:a.2.isEmpty=ao)))] 528449:cL mm (fl wZ []) 3 67 [aP a,aP b] 32 .normal s3 (lN a b 67)) (by kernel_rfl) (Qn a b h g (Qo λd=>by
    simp only[ae]at d;exact e (dW.1 d.1)) w F)
def Dy:A2.Ok em:=λ⟨a,b,_⟩ h=>by
 have h:(aH a&&aH b)=D:=h;rw[ae]at h;exact aoi a b h.1 h.2
def YM{x y:N}{n m:dF}(e:n=D↔x<0)(d:m=D↔y<0){p:N}(f:p=x.natAbs*y.natAbs):(match(n != m)with |true=> -p|false=>p)=x*y:=by
 have g:(p:N)=((x*y).natAbs:N):=by rw[f,Kc];simp
 cases n<;>cases m<;>simp only[dF.false_eq_true,false_iff,true_iff,N.not_lt]at e d
 .have:=kv e d;show p=_;omega
 .have:=kv e (show 0<= -y by omega);rw[N.mul_neg]at this;show-p=_;omega
 .have:=kv (show 0<= -x by omega) d;rw[H7]at this;show-p=_;omega
 .have:=kv (show 0<= -x by omega) (show 0<= -y by omega);rw[H7,N.mul_neg,N.neg_neg]at this;show p=_;omega
def Kq(a b:bf)(h:aH a=D)(g:aH b=D)(w:du)(F:Sv.Env):
  bp em w F 66 ((fl w4 []).drop 3) (lN a b 66).T (lN a b 66).H (ew em ao f86 (aP (cH a b))):=by
 obtain⟨y,z,h3,h4,_⟩:=n4 h;obtain⟨t,x,f,j,_⟩:=n4 g;have d:0<=aj (aB a)*aj (aB b):=kv ω ω;have e:bg (br (cv a != cv b) (tk (aB a) (aB b)))=cH a b:=by
  unfold cH br;have l:aj (tk (aB a) (aB b))=aj (aB a)*aj (aB b):=mt d;rw[l,h3,f];exact congrArg bg (YM h4 j rfl)
 rw[<-e];exact bM (s:=lN a b 66) il (wy [aa h,aa g,aa (Ko h g:(mY (aB a) (aB b))=D),aa (Dw d:(jz (tk (aB a) (aB b))&&lM (tk (aB a) (aB b)))=D),av (rfl:(bg (br (!cv a==cv b) (tk (aB a) (aB b)))).1=(bg (br (cv a != cv b) (tk (aB a) (aB b)))).1),av (rfl:(bg (br (!cv a==cv b) (tk (aB a) (aB b)))).2=(bg (br (cv a != cv b) (tk (aB a) (aB b)))).2)] 6527398017:bw mm ((fl w4 []).drop 3) (lN a b 66) 1 f86 ao (aP (bg (br (cv a != cv b) (tk (aB a) (aB b))))))
def aoj(a b:bf)(h:aH a=D)(g:aH b=D):Holds em ao 86 [aP a,aP b] (aP (cH a b)):=by
 refine bK w4 func86 λw F=>?_
 by_cases d:a.2=[]
 .have G:=A3 h d;by_cases j:b.2=[]
  .have J:=A3 g j;have t:=uQ.2 G;have l:=uQ.2 J;have y:nc (cB a.1) (cB b.1)=D:=qe.2 (by unfold cB;omega);by_cases e:gD (cB a.1) (cB b.1)=0
   .by_cases B:dm (cB a.1) (cB b.1)<=9223372036854775807
    .have K:0<=dm (cB a.1) (cB b.1):=fC _ δ;have H:dm (cB a.1) (cB b.1)=a.1.natAbs*b.1.natAbs:=by
      have:=jp (cB a.1*cB b.1) 18446744073709551616;unfold gD at e;rw[e]at this;unfold dm;show _=cB a.1*cB b.1;omega
     have f:=YM (n:=bP (a.1<0)) (m:=bP (b.1<0)) τ τ H;have C:cH a b=bg (a.1*b.1):=by unfold cH;rw[qI d,qI j]
     by_cases z:bP (a.1<0)=bP (b.1<0)
     .have A:cH a b=(dm (cB a.1) (cB b.1),[]):=by
       rw[z,bne_self_eq_false]at f;have f:dm (cB a.1) (cB b.1)=a.1*b.1:=f;rw[C,<-f];exact uS ω
      rw[A];exact bt il 3 (wy [aa (aK (aK ((dW.2 d:a.2.isEmpty=D)))),aa (aK ((dW.2 d:a.2.isEmpty=D))),aa (aK ((dW.2 j:b.2.isEmpty=D))),aa (aI (v:=iv (a.1))),aa t,aa (aI (v:=iv (b.1))),aa l,aa y,aa (aK (gw.mpr e)),cT e,ag B,aa (b8 (gw.mpr z)),av (sT ω:(ca iz (dm (cB a.1) (cB b.1)))=(dm (cB a.1) (cB b.1)))] 1045037229590394484215400370241:bk mm (fl w4 []) 3 66 [aP a,aP b] 1535 f86 ao (aP (dm (cB a.1) (cB b.1),[])))
     .have A:cH a b=(-dm (cB a.1) (cB b.1),[]):=by
       rw[show(bP (a.1<0) != bP (b.1<0))=D from eX.2 z]at f;have f: -dm (cB a.1) (cB b.1)=a.1*b.1:=f;rw[C,<-f];exact uS ω
      rw[A];refine bt il 3 (wy [aa (aK (aK ((dW.2 d:a.2.isEmpty=D)))),aa (aK ((dW.2 d:a.2.isEmpty=D))),aa (aK ((dW.2 j:b.2.isEmpty=D))),aa (aI (v:=iv (a.1))),aa t,aa (aI (v:=iv (b.1))),aa l,aa y,aa (aK (gw.mpr e)),cT e,ag B,aa (b8 (fB.mpr z)),av (?_:(ca iz (0-ca iz (dm (cB a.1) (cB b.1))))=(-dm (cB a.1) (cB b.1)))] 1045037229590394484215400370241:bk mm (fl w4 []) 3 66 [aP a,aP b] 2047 f86 ao (aP (-(dm (cB a.1) (cB b.1)),[])));rw[sT (x:=dm (cB a.1) (cB b.1)) ω,sT ω];omega
    .exact cE il 3 (wy [aa (aK (aK ((dW.2 d:a.2.isEmpty=D)))),aa (aK ((dW.2 d:a.2.isEmpty=D))),aa (aK ((dW.2 j:b.2.isEmpty=D))),aa (aI (v:=iv (a.1))),aa t,aa (aI (v:=iv (b.1))),aa l,aa y,aa (aK (gw.mpr e)),cT e,az B] 215836433533532200539525185:cL mm (fl w4 []) 3 66 [aP a,aP b] 767 .normal s3 (lN a b 66)) (Kq a b h g w F)
   .exact cE il 3 (wy [aa (aK (aK ((dW.2 d:a.2.isEmpty=D)))),aa (aK ((dW.2 d:a.2.isEmpty=D))),aa (aK ((dW.2 j:b.2.isEmpty=D))),aa (aI (v:=iv (a.1))),aa t,aa (aI (v:=iv (b.1))),aa l,aa y,aa (aK (fB.mpr e)),yn e] 3065489281357465791238209:cL mm (fl w4 []) 3 66 [aP a,aP b] 543 .normal s3 (lN a b 66)) (Kq a b h g w F)
  .exact cE il 3 (wy [aa (aK (aK ((dW.2 d:a.2.isEmpty=D)))),aa (aK ((dW.2 d:a.2.isEmpty=D))),aa (aK ((uR.2 j:b.2.isEmpty=ao)))] 50860097:cL mm (fl w4 []) 3 66 [aP a,aP b] 47 .normal s3 (lN a b 66)) (Kq a b h g w F)
 .exact cE il 3 (wy [aa (aK (aK ((uR.2 d:a.2.isEmpty=ao)))),aa (aK ((uR.2 d:a.2.isEmpty=ao)))] 528449:cL mm (fl w4 []) 3 66 [aP a,aP b] 32 .normal s3 (lN a b 66)) (Kq a b h g w F)
def mu:Dv.Ok em:=λ⟨a,b,_⟩ h=>by
 have h:(aH a&&aH b)=D:=h;rw[ae]at h;exact aoj a b h.1 h.2
def Ks:=aA [A2,A1,yH]
def Kt:=IN 149 [eV,eV] [eV] ao (λd=>aH d.1&&aH d.2.1) λd=>(ll d.1 d.2.1,())
def YN:=IN 167 [eV] [eV] ao (λd=>aH d.1) λd=>(tl d.1,())
def Qq:=IN 92 [eV,eV] [.int .i64] D (λd=>cn 50000 d.1&&cn 50000 d.2.1) λd=>(wY d.1 d.2.1,())
def Dz:=aA [Kt,yH]
def kG{n m:E}{a:bf}(g:n<=m)(h:cn n a=D):cn m a=D:=by
 by_cases d:a.2=[]
 .rw[rJ d]at h ⊢;exact h
 .obtain⟨e,f,h3,h4,h5⟩:=(yF d).1 h;exact(yF d).2 ⟨e,f,h3,h4,by omega⟩
def qJ{n:E}{a:bf}(h:cn n a=D)(d:1<=n):cn n (fN a)=D:=by
 have:=mj h d;exact(nh ω).1
def fg(a:bf):ax (fN a)= -ax a:=val_mk _
def val_sub(a b:bf):ax (ll a b)=ax a-ax b:=by unfold ll;rw[Dt,fg];omega
def k7(a b:bf):ax (cH a b)=ax a*ax b:=val_mk _
def Ku(a:bf):ax (tl a)=(ax a).natAbs:=val_mk _
def Qr:bI em (bJ Ks):=dw (aV Dy (aV Dx (aV A4 eH)))
def aos(a b:bf)(h:aH a=D)(g:aH b=D):Holds em ao 149 [aP a,aP b] (aP (ll a b)):=by
 refine bK YK func149 λw F=>?_
 have d:aH (fN b)=D:=qJ g δ;exact bt Qr 9 (wy [aa (aI (v:=aP a)),aa (aI (v:=aP b)),aa g,aa (show(aH a&&aH (fN b))=D from by rw[show aH (a.1,a.2)=D from h,py];exact d)] 67383425:bk Ks (fl YK []) 9 (f149.ntmps) [aP a,aP b] 1 f149 ao (aP (dE a (fN b))))
def Qs:Kt.Ok em:=λ⟨a,b,_⟩ h=>by
 have h:(aH a&&aH b)=D:=h;rw[ae]at h;exact aos a b h.1 h.2
def H5{n:E}{a:bf}(h:cn n a=D):a.1<0↔ax a<0:=by
 obtain⟨_,_,_,h4,_⟩:=n4 h;rw[<-h4];unfold cv;rw[aN]
def Kp(a:bf)(h:aH a=D):Holds em ao 167 [aP a] (aP (tl a)):=by
 refine bK Ql func167 λw F=>?_
 by_cases d:a.1<0
 .have g:=(H5 h).1 d;have e:fN a=tl a:=by unfold fN tl;congr 1;omega
  rw[<-e];exact bt Qr 9 (wy [ag d,aa h] 129:bk Ks (fl Ql []) 9 (f167.ntmps) [aP a] 3 f167 ao (aP (fN a)))
 .have g:¬ax a<0:=λf=>d ((H5 h).2 f)
  have e:a=tl a:=by
   have:=H4 h ω;unfold tl;rw[show((ax a).natAbs:N)=ax a by omega];exact this
  have:=bp.ret (P:=em) (w0:=w) (F:=F) (X:=mQ) known mixed Qr 9 _ (wy [az d] 1:bk Ks (fl Ql []) 9 (f167.ntmps) [aP a] 2 f167 ao (aP a)) λT H h=>h
  rw[<-e];exact this
def aot:YN.Ok em:=λ⟨a,_⟩ h=>Kp a h
def Gq:bI em (bJ Dz):=dw (aV Qs (aV A4 eH))
def aou:(2:N)*18446744073709551616^50000<=18446744073709551616^100000:=by
 have h:=j5 (b:=18446744073709551616) δ (show 50001<=100000 by decide);rw[show 50001=50000+1 from rfl,hP]at h;have:=eE (b:=18446744073709551616) δ 50000;generalize (18446744073709551616:N)^50000=p at*;generalize (18446744073709551616:N)^100000=q at*;omega
def aov{a b:bf}(h:cn 50000 a=D)(g:cn 50000 b=D):aH (ll a b)=D:=by
 have e:=mj h δ;have d:=mj g δ;have f:=aou;refine Gn ?_;rw[fg];generalize (18446744073709551616:N)^50000=p at*;generalize (18446744073709551616:N)^100000=q at*;omega
def aow(a b:bf)(h:cn 50000 a=D)(g:cn 50000 b=D):Holds em D 92 [aP a,aP b] (iv (wY a b)):=by
 have t:=aov h g;have x:fO (ll a b)=wY a b:=by unfold fO wY;rw[val_sub]
 have A:=kG (show 50000<=100000 by decide) h;have z:=kG (show 50000<=100000 by decide) g;have l:(aH (a.1,a.2)&&aH (b.1,b.2))=D:=by
  rw[show aH (a.1,a.2)=D from A,show aH (b.1,b.2)=D from z];rfl
 refine bK Du func92 λw F=>?_
 by_cases d:a.2=[]
 .by_cases e:b.2=[]
  .have y:wY a b=mh (a.1-b.1):=by unfold wY;rw[qI d,qI e]
   rw[y];by_cases f:a.1<b.1
   .rw[Kk ω];exact bt Gq 9 (wy [aa (aK (aK ((dW.2 d:a.2.isEmpty=D)))),aa (aK ((dW.2 d:a.2.isEmpty=D))),aa (aK ((dW.2 e:b.2.isEmpty=D))),ag f] 4345827393:bk Dz (fl Du []) 9 29 [aP a,aP b] 127 f92 D (iv (-1)))
   .by_cases j:a.1>b.1
    .rw[Qe ω];exact bt Gq 9 (wy [aa (aK (aK ((dW.2 d:a.2.isEmpty=D)))),aa (aK ((dW.2 d:a.2.isEmpty=D))),aa (aK ((dW.2 e:b.2.isEmpty=D))),az f,ag j] 347943211073:bk Dz (fl Du []) 9 29 [aP a,aP b] 223 f92 D (iv 1))
    .rw[show a.1-b.1=0 by omega,anJ];exact bt Gq 9 (wy [aa (aK (aK ((dW.2 d:a.2.isEmpty=D)))),aa (aK ((dW.2 d:a.2.isEmpty=D))),aa (aK ((dW.2 e:b.2.isEmpty=D))),az f,az j] 347943211073:bk Dz (fl Du []) 9 29 [aP a,aP b] 159 f92 D (iv 0))
  .rw[<-x];exact bt Gq 9 (wy [aa (aK (aK ((dW.2 d:a.2.isEmpty=D)))),aa (aK ((dW.2 d:a.2.isEmpty=D))),aa (aK ((uR.2 e:b.2.isEmpty=ao))),aa l,aa t] 347943211073:bk Dz (fl Du []) 9 29 [aP a,aP b] 47 f92 D (iv (fO (ll a b))))
 .rw[<-x];exact bt Gq 9 (wy [aa (aK (aK ((uR.2 d:a.2.isEmpty=ao)))),aa (aK ((uR.2 d:a.2.isEmpty=ao))),aa l,aa t] 278099660865:bk Dz (fl Du []) 9 29 [aP a,aP b] 32 f92 D (iv (fO (ll a b))))
def YO:Qq.Ok em:=λ⟨a,b,_⟩ h=>by
 have h:(cn 50000 a&&cn 50000 b)=D:=h;rw[ae]at h;exact aow a b h.1 h.2
end
end Go.Proofs.YtdajfemhnlpegaaGreatDoor
namespace Go.Proofs.YtdajfemhnlpegaaGreatDoor
def gg(b:N):E->N->I N
 |0,_=>[]
 |m+1,z=>z%b::gg b m (z/b)
def A5(b:N):∀(m:E)(z:N),(gg b m z).length=m
 |0,_=>rfl
 |m+1,z=>by rw[gg,la,A5 b m]
def Gr{b:N}(d:0<b):∀(m:E)(z:N),aS b (gg b m z)
 |0,_=>.nil
 |m+1,z=>.cons ⟨fC _ ω,fZ _ d⟩ (Gr d m _)
def Gs{b:N}(e:0<b):∀(m:E)(z:N),0<=z->z<b^m->vl b (gg b m z)=z
 |0,z,f,d=>by simp at d;simp[gg,vl];omega
 |m+1,z,f,d=>by
  have g:z/b<b^m:=Cl e (by rw[hP]at d;exact d);have h3:=Gs e m (z/b) (jN f (cI e)) g;show z%b+b*vl b (gg b m (z/b))=z;rw[h3];exact jp z b
def Qt{b:N}(e:1<b){l:I N}(h:aS b l):l=gg b l.length (vl b l):=by
 have d:0<b:=by omega
 exact P5 e h (Gr d _ _) (A5 b _ _).symm (Gs d _ _ (iq d h) (gY d h)).symm
def Qu{b:N}{u v:I N}{n:E}(l:2<=b)(e:aS b u)(f:aS b v)(bN:u.length=n+3)(lv:v.length=n+2)(j:1<=v.getD (n+1) 0):
  Dm b (v.getD (n+1) 0) (v.getD n 0) (vl b (v.take n)) (u.getD (n+2) 0) (u.getD (n+1) 0) (u.getD n 0) (vl b (u.take n)) (b^n):=by
 have d:0<b:=by omega
 have t:=eE d n;have g:=gY d (f.take n);have h:=gY d (e.take n);rw[er,ns ω]at g h;exact⟨l,t,⟨j,(f.get d _).2⟩,f.get d _,⟨iq d (f.take n),g⟩,e.get d _,e.get d _,e.get d _,⟨iq d (e.take n),h⟩⟩
def Qv{b:N}{v:I N}{n:E}(lv:v.length=n+2):iP b (v.getD (n+1) 0) (v.getD n 0) (vl b (v.take n)) (b^n)=vl b v:=by
 have d:=nY (b:=b) (l:=v) (k:=n+1) ω;have e:=nY (b:=b) (l:=v) (k:=n) ω;rw[eG ω]at d;rw[d,e];unfold iP;rw[wq,hP,iN (v.getD (n+1) 0) b,km,iN (v.getD (n+1) 0),iN (v.getD n 0),<-km,iN b];omega
def Qw{b:N}{u:I N}{n:E}(bN:u.length=n+3):pO b (u.getD (n+2) 0) (u.getD (n+1) 0) (u.getD n 0) (vl b (u.take n)) (b^n)=vl b u:=by
 have d:=nY (b:=b) (l:=u) (k:=n+2) ω;have e:=nY (b:=b) (l:=u) (k:=n+1) ω;have f:=nY (b:=b) (l:=u) (k:=n) ω;rw[eG ω]at d;rw[d,e,f];unfold pO;simp only[hP];generalize u.getD (n+2) 0=x;generalize u.getD (n+1) 0=y;generalize u.getD n 0=z;generalize b^n=P;clear d e f bN;generalize vl b (u.take n)=V;grind
def A6{U V t:N}(g:0<V)(e:0<=U-t*V)(f:U-t*V<V):U/V=t/\U%V=U-t*V:=by
 have h3:U=(U-t*V)+t*V:=by omega
 have d:U/V=t:=by
  rw[h3,N.add_mul_ediv_right _ _ ω,N.ediv_eq_zero_of_lt e f];omega
 refine⟨d,?_⟩;have:=jp U V;rw[d,iN]at this;omega
def aox{B P lo e c t v u u' uT bo X d W:N}(f:e*B+lo=t*v+c)(g:u'-B*uT=u-lo-bo)(hi:d-P*bo=X-t*W+P*c):
  d+P*u'-P*B*uT=X+P*u-t*(W+P*v)+P*B*e:=by
 grind
section
open Go.RowKit Sv Go.Proofs.Tryz
def fG(a b:N):N:=ca .u64 (((gF 64 a|||gF 64 b).toNat:E):N)
def Qx{a b:N}{s:E}(y:s<=64)(j:0<=a/\a<2^s){c:N}(B:0<=c)(l:b=2^s*c)(e:b<18446744073709551616):fG a b=a+b:=by
 obtain⟨A,rfl⟩:∃A:E,a=(A:N):=⟨a.toNat,by omega⟩;obtain⟨C,rfl⟩:∃C:E,c=(C:N):=⟨c.toNat,by omega⟩;have f:A<2^s:=by have:=j.2;exact_mod_cast this
 have t:b=((2^s*C:E):N):=by rw[l];norm_cast
 subst t;have z:((2^64:E):N)=18446744073709551616:=rfl;have g:2^s*C<2^64:=by rw[<-z]at e;exact Zh.1 e
 have d:A<2^64:=iy f (Q3 δ y);unfold fG;rw[kx.toNat_or,Q8,Q8,U8,U8,É d,É g];have h:A|||2^s*C=A+2^s*C:=by
  rw[E.or_comm,<-E.two_pow_add_eq_or_of_lt f C,E.add_comm]
 have x:A|||2^s*C<2^64:=E.or_lt_two_pow d g;rw[h]at x ⊢;rw[dt ⟨lx _,by have:(2:E)^64=18446744073709551616:=rfl;omega⟩];exact N.natCast_add _ _
def Qy{x:N}{s:E}(z:s<=64)(l:0<=x/\x<18446744073709551616):
  x*2^s%18446744073709551616=2^s*(x%2^(64-s))/\x*2^s=2^s*(x%2^(64-s))+18446744073709551616*(x/2^(64-s))/\(0<=x/2^(64-s)/\x/2^(64-s)<2^s)/\(0<=x%2^(64-s)/\x%2^(64-s)<2^(64-s)):=by
 have d:(0:N)<2^(64-s):=eE δ _;have j:(0:N)<2^s:=eE δ _;have e:(2:N)^s*2^(64-s)=18446744073709551616:=by rw[<-yL,show s+(64-s)=64 by omega];rfl
 have y:=jp x (2^(64-s));have g:=fC x (show(2:N)^(64-s)≠0 by omega);have h:=fZ x d;have t:0<=x/2^(64-s):=jN l.1 (cI d);have h3:x/2^(64-s)<2^s:=Cl d (by rw[e];exact l.2);have f:x*2^s=2^s*(x%2^(64-s))+18446744073709551616*(x/2^(64-s)):=by
  have:2^s*(x%2^(64-s)+2^(64-s)*(x/2^(64-s)))=2^s*x:=by rw[y]
  rw[oB,<-km,e]at this;rw[iN x];omega
 refine⟨?_,f,⟨t,h3⟩,g,h⟩;rw[f,å];refine N.emod_eq_of_lt (kv (cI j) g) ?_;rw[<-e];exact N.mul_lt_mul_of_pos_left h j
end
def aoy{l:I N}{k:E}(h:k<l.length):l.drop k=l.getD k 0::l.drop (k+1):=by
 rw[wX h];exact kl h
def w5{b:N}{l:I N}{k:E}(h:k<l.length):vl b (l.drop k)=l.getD k 0+b*vl b (l.drop (k+1)):=by
 rw[aoy h];rfl
def Qz{b:N}(A:1<b){u:I N}{j n:E}(f:aS b u)(B:j+n+1<=u.length){V:N}(x:V<=b^n)(h:vl b (u.drop (j+1))<V):
  vl b (u.drop j)=vl b ((u.drop j).take (n+1))/\vl b (u.drop j)<b*V/\vl b (u.drop (j+n+1))=0:=by
 have d:0<b:=by omega
 have y:=w5 (b:=b) (l:=u) (k:=j) ω;have z:=f.get d j;have h3:vl b (u.drop j)<b*V:=by
  have:b*vl b (u.drop (j+1))<=b*(V-1):=ar ω (cI d);rw[LS,Cu]at this;omega
 have h4:vl b (u.drop j)<b^(n+1):=by
  have:b*V<=b*b^n:=ar x (cI d);rw[hP,iN];omega
 have h5:=Gj d (f.drop j) h4;refine⟨h5.symm,h3,?_⟩;have g:=uN b (u.drop j) (n+1) (by rw[p7];omega);rw[h5,PM]at g;have t:b^(n+1)*vl b (u.drop (j+(n+1)))=0:=by omega
 rcases N.mul_eq_zero.1 t with e|e
 .have:=eE d (n+1);omega
 .exact e
def YP{b:N}(B:1<b){u:I N}{j n:E}(f:aS b u)(F:j+n+1<=u.length){V:N}(L:0<V)(A:V<=b^n)(h:vl b (u.drop (j+1))<V){u':I N}
  (d:u'=u.take j++(gg b (n+1) (vl b ((u.drop j).take (n+1))%V)++u.drop (j+(n+1)))):
  u'.length=u.length/\aS b u'/\vl b u'+b^j*(vl b ((u.drop j).take (n+1))/V)*V=vl b u/\vl b (u'.drop j)<V:=by
 have l:0<b:=by omega
 obtain⟨z,Q,h3⟩:=Qz B f F A h;generalize S:vl b ((u.drop j).take (n+1))=W at*;have H:=fC W (show V≠0 by omega);have M:=fZ W L;have J:W%V<b^(n+1):=by
  have:=j5 (show 1<=b by omega) (show n<=n+1 by omega);omega
 have K:=Gs l (n+1) (W%V) H J;have e:(u.take j).length=j:=by rw[er];omega
 have C:u'.drop j=gg b (n+1) (W%V)++u.drop (j+(n+1)):=by
  rw[d,Sj,e,Ru,iW,pB ω,ts]
 have t:u'.take j=u.take j:=by
  rw[d,Sn,e,Ru,GD,mS,eG ω]
 have g:vl b (u'.drop j)=W%V:=by rw[C,J4,K,<-E.add_assoc,h3,Vh,N.add_zero]
 have G:u'.length=u.length:=by
  rw[d,fQ,fQ,e,A5,p7];omega
 refine⟨G,?_,?_,by rw[g];exact M⟩
 .rw[d];exact(f.take j).app ((Gr l _ _).app (f.drop _))
 .rw[uN b u' j ω,uN b u j ω,t,g,z];have x:=jp W V;have y:b^j*(W%V+V*(W/V))=b^j*W:=by rw[x]
  rw[oB]at y;have P:b^j*(W/V)*V=b^j*(V*(W/V)):=by rw[km,iN (W/V)]
  omega
def QA{A b V S U q:N}(f:0<S)(l:0<b)(g:V=b*S)(h:U+V*q=A*S)(y:0<=U)(z:U<V):A/b=q/\U=S*(A%b):=by
 have e:U=S*(A-b*q):=by
  rw[LS,iN S A];have:S*(b*q)=V*q:=by rw[g,<-km,iN S b]
  omega
 have g0:0<=A-q*b:=by
  rw[iN q b];refine N.not_lt.1 λd=>?_
  have:=N.mul_lt_mul_of_pos_left d f;omega
 have j:A-q*b<b:=by
  rw[iN q b];refine N.not_le.1 λd=>?_
  have:=ar d (cI f);rw[<-e,iN S b,<-g]at this;omega
 obtain⟨t,x⟩:=A6 l g0 j;exact⟨t,by rw[e,x,iN b q]⟩
section
open Go.RowKit Sv Go.Proofs.Tryz
noncomputable section
def eM(x:N):N:=64-(Lib.bitLen x.toNat:N)
def A7(x:N):dF:=bP (0<=x)&&bP (x<18446744073709551616)
def QB:=IN 228 [aF] [.int .i64] D (λd=>A7 d.1) λd=>(eM d.1,())
def kH:=NO f227
def pQ:=aA [QB]
abbrev DA:I E:=[1,1,1,1,1,1,1,1,1,1,1,1,1,1,0,0,0]
abbrev DB:I E:=[1,1,1,1,1,1,1,1,1,1,1,1,1,1,1,1,1,1,0,0,0]
def kI(Y s v1 v2 X c d q r:N):bD:={n:=135,sl:=[(2,cG Y),(8,cG s),(9,cG v1),(10,cG v2),(11,cG X),(13,cG c),(14,cG d),(15,cG q),(16,cG r)],bF:=[],next:=64}
def kJ(Y s v1 v2 d p X q r:N):bD:={n:=135,sl:=[(2,cG Y),(8,cG s),(9,cG v1),(10,cG v2),(14,cG d),(15,cG p),(17,cG X),(18,cG q),(16,cG r)],bF:=[],next:=64}
def aoB(hi lo y Y s v1 v2 X c d q r:N)(g:¬y=0)(t:¬y<=hi)(h3:¬hi=0)(h4:(A7 y)=D)(h5:0<=ca dv (eM y))(x:0<=ca dv (64-ca dv (eM y)))(z:nZ (ca dv (y*(2:N)^XR (ca dv (eM y)).toNat 64)) ((2:N)^XR (ea 32) 64)≠0)(A:(ca dv (y*(2:N)^XR (ca dv (eM y)).toNat 64))=(Y))(B:(ca dv (eM y))=(s))(h:(nZ (ca dv (y*(2:N)^XR (ca dv (eM y)).toNat 64)) ((2:N)^XR (ea 32) 64))=(v1))(j:(ca dv (↑(ru (gF 64 (ca dv (y*(2:N)^XR (ca dv (eM y)).toNat 64)) &&& gF 64 4294967295)):N))=(v2))(l:(ca dv (↑(ru (gF 64 (ca dv (hi*(2:N)^XR (ca dv (eM y)).toNat 64))|||gF 64 (nZ lo ((2:N)^XR (ca dv (64-ca dv (eM y))).toNat 64)))):N))=(X))(e:(nZ (ca dv (lo*(2:N)^XR (ca dv (eM y)).toNat 64)) ((2:N)^XR (ea 32) 64))=(c))(f:(ca dv (↑(ru (gF 64 (ca dv (lo*(2:N)^XR (ca dv (eM y)).toNat 64)) &&& gF 64 4294967295)):N))=(d))(C:(ca dv (ej (ca dv (↑(ru (gF 64 (ca dv (hi*(2:N)^XR (ca dv (eM y)).toNat 64))|||gF 64 (nZ lo ((2:N)^XR (ca dv (64-ca dv (eM y))).toNat 64)))):N)) (nZ (ca dv (y*(2:N)^XR (ca dv (eM y)).toNat 64)) ((2:N)^XR (ea 32) 64))))=(q))(F:(ca dv (ca dv (↑(ru (gF 64 (ca dv (hi*(2:N)^XR (ca dv (eM y)).toNat 64))|||gF 64 (nZ lo ((2:N)^XR (ca dv (64-ca dv (eM y))).toNat 64)))):N)-ca dv (ca dv (ej (ca dv (↑(ru (gF 64 (ca dv (hi*(2:N)^XR (ca dv (eM y)).toNat 64))|||gF 64 (nZ lo ((2:N)^XR (ca dv (64-ca dv (eM y))).toNat 64)))):N)) (nZ (ca dv (y*(2:N)^XR (ca dv (eM y)).toNat 64)) ((2:N)^XR (ea 32) 64)))*nZ (ca dv (y*(2:N)^XR (ca dv (eM y)).toNat 64)) ((2:N)^XR (ea 32) 64))))=(r)):
  cL pQ (fl kH []) 17 135 [cG hi,cG lo,cG y] 8 .normal [] (kI Y s v1 v2 X c d q r):=
 wy [yn g,az t,yn h3,aa h4,ag h5,ag x,ag z,av A,av B,av h,av j,av l,av e,av f,av C,av F] 337246810721947665302387067909582977
def aoN(Y s v1 v2 d p X q r a b:N)(e:0<=s)(f:(ca dv (ca dv (p*4294967296)+q))=(a))(h3:(nZ (ca dv (ca dv (ca dv (X*4294967296)+d)-ca dv (q*Y))) ((2:N)^XR s.toNat 64))=(b)):
  bw pQ ((fl kH []).drop 22) (kJ Y s v1 v2 d p X q r) 1 f227 D (.tuple [cG a,cG b]):=
 wy [ag e,av f,av h3] 12417
def mo(hi lo y:N):N:=(hi*18446744073709551616+lo)/y
def qL(hi lo y:N):N:=(hi*18446744073709551616+lo)%y
def w6(hi lo y:N):dF:=(bP (0<=hi)&&bP (hi<y))&&(A7 lo&&A7 y)
def QC:=IN 227 [aF,aF,aF] [aF,aF] D (λd=>w6 d.1 d.2.1 d.2.2.1) λd=>(mo d.1 d.2.1 d.2.2.1,(qL d.1 d.2.1 d.2.2.1,()))
def yI{x:N}:A7 x=D↔0<=x/\x<18446744073709551616:=by
 unfold A7;rw[ae,aN,aN]
def YQ:QB.Ok em:=λ⟨x,_⟩ h w F xs d j g=>by
 have h:=yI.1 h;cases g with
 |cons d1 d2=>
  cases d2;rw[d1.cu];refine(Tryz.bits_LeadingZeros64 x w h.1 ω).mono λl t ⟨e,f⟩=>?_
  subst f;exact⟨_,⟨F.at',λ_=>bs⟩,e,.raw _,⟨d.uv,d.all,λb A h=>by cases h⟩,(λb A h=>by cases h),qg _ _⟩
def tq(z:N):ca .u64 z=z%18446744073709551616:=by
 unfold ca;have e:be.signed .u64=ao:=rfl;have d:be.bits .u64=64:=rfl;simp only[e,d,dF.false_and,dF.false_eq_true,á];rfl
def aoO{a:N}(h:0<=a/\a<18446744073709551616):ca .u64 (((gF 64 a &&& gF 64 4294967295).toNat:E):N)=a%4294967296:=by
 obtain⟨A,rfl⟩:∃A:E,a=(A:N):=⟨a.toNat,by omega⟩;have d:A<2^64:=by have e:((2^64:E):N)=18446744073709551616:=rfl;rw[<-e]at h;exact Zh.1 h.2
 rw[kx.toNat_and,Q8,U8,É d];rw[show(gF 64 4294967295).toNat=2^32-1 from rfl,E.and_two_pow_sub_one_eq_mod];have:A%2^32<2^32:=E.mod_lt _ δ;rw[dt (by have f:(2:E)^32=4294967296:=rfl;omega)];rfl
def aoP(a b:N):fG a b=fG b a:=by unfold fG;rw[kx.or_comm]
def aoQ:∀f:E,Lib.bitLenAux f 0=0
 |0=>rfl
 |f+1=>by unfold Lib.bitLenAux;rw[dA rfl]
def bitLen_spec:∀(f x:E),x<2^f->0<x->2^(Lib.bitLenAux f x-1)<=x/\x<2^Lib.bitLenAux f x/\1<=Lib.bitLenAux f x/\Lib.bitLenAux f x<=f:=by
 intro f;induction f with
 |zero=>intro x h g;simp at h;omega
 |succ f t=>
  intro x h g;unfold Lib.bitLenAux;rw[db ω];by_cases j:x=1
  .subst j;rw[show 1/2=0 from rfl,aoQ];simp
  .obtain⟨d,e,y,z⟩:=t (x/2) (by rw[C']at h;omega) ω;generalize Lib.bitLenAux f (x/2)=L at*;obtain⟨l,rfl⟩:∃l,L=l+1:=⟨L-1,by omega⟩;rw[show 1+(l+1)-1=l+1 by omega,show 1+(l+1)=l+1+1 by omega];rw[E.add_sub_cancel]at d;rw[C']at e;rw[C',C'];omega
def YR{x:N}(h:0<x/\x<18446744073709551616):∃s:E,eM x=s/\s<=63/\9223372036854775808<=x*2^s/\x*2^s<18446744073709551616:=by
 obtain⟨X,rfl⟩:∃X:E,x=(X:N):=⟨x.toNat,by omega⟩;have f:((2^64:E):N)=18446744073709551616:=rfl;have t:X<2^64:=by rw[<-f]at h;exact Zh.1 h.2
 obtain⟨j,l,y,z⟩:=bitLen_spec 64 X t ω;refine⟨64-Lib.bitLenAux 64 X,?_,by omega,?_,?_⟩
 .unfold eM Lib.bitLen;rw[kh];omega
 .generalize Lib.bitLenAux 64 X=L at*;have d:2^(L-1)*2^(64-L)<=X*2^(64-L):=Hr _ j;rw[<-E.pow_add,show L-1+(64-L)=63 by omega]at d;have e:((X*2^(64-L):E):N)=(X:N)*2^(64-L):=by rw[N.natCast_mul,N.natCast_pow];rfl
  have g:((2^63:E):N)=9223372036854775808:=rfl;rw[<-e,<-g];exact N.ofNat_le.2 d
 .generalize Lib.bitLenAux 64 X=L at*;have d:X*2^(64-L)<2^L*2^(64-L):=E.mul_lt_mul_of_pos_right l (E.pow_pos δ);rw[<-E.pow_add,show L+(64-L)=64 by omega]at d;have e:((X*2^(64-L):E):N)=(X:N)*2^(64-L):=by rw[N.natCast_mul,N.natCast_pow];rfl
  rw[<-e,<-f];exact Zh.2 d
section
variable{b v1 v2 X c q r:N}
def YT(h:q*v1+r=X):q*(v1*b+v2)=X*b-r*b+q*v2:=by subst h;grind
def Kw(e:0<v1*b+v2)(h:q*v1+r=X)(g:(X*b+c)/(v1*b+v2)<=q)(f:q*v2<=b*r+c):(X*b+c)/(v1*b+v2)=q:=by
 have d:q*(v1*b+v2)<=X*b+c:=by rw[YT h,iN r b];omega
 have:=(G' e).2 d;omega
def YU(e:0<v1*b+v2)(t:X<v1*b+v2)(j:0<b)(x:c<b)(h:q*v1+r=X)(d:b<=q\/b*r+c<q*v2):(X*b+c)/(v1*b+v2)<=q-1:=by
 have g:X*b+c<q*(v1*b+v2):=by
  rcases d with d|d
  .have l:=iK d (cI e);have f:=iK (show X<=v1*b+v2-1 by omega) (cI j);rw[sZ,mT,iN (v1*b+v2)]at f;omega
  .rw[YT h,iN r b];omega
 have:=(pA e).2 g;omega
def YV(j:0<=v1)(y:X<v1*b+v2)(d:0<=v2/\v2<b)(z:0<=c)(h:q*v1+r=X)(x:0<=q)(g:b<=r):q*v2<=b*r+c:=by
 have e:q<b:=by
  refine N.not_le.1 λf=>?_
  have:=iK f j;rw[iN b v1]at this;omega
 have l:q*v2<=b*b:=tj (cI e) (cI d.2) d.1 ω;have t:=ar g (show 0<=b by omega);omega
end
def aoR{q v:N}(e:0<=q)(f:q<4294967296)(d:0<=v/\v<4294967296):0<=q*v/\q*v<18446744073709551616:=by
 refine⟨kv e d.1,?_⟩;have:=tj (show q<=4294967295 by omega) (show v<=4294967295 by omega) d.1 δ;omega
structure DC(v1 v2 X c Y:N):Prop where
 y:Y=v1*4294967296+v2
 v1:2147483648<=v1/\v1<4294967296
 v2:0<=v2/\v2<4294967296
 x:0<=X/\X<Y
 c:0<=c/\c<4294967296
def DC.start{v1 v2 X c Y:N}(p:DC v1 v2 X c Y):X.tdiv v1*v1+(X-X.tdiv v1*v1)=X/\(X*4294967296+c)/Y<=X.tdiv v1/\0<=X.tdiv v1/\0<=X-X.tdiv v1*v1/\X-X.tdiv v1*v1<4294967296/\X.tdiv v1<18446744073709551616:=by
 have A:=p.v1;have d:=p.x;have j:=p.y;have f:=p.v2;have e:X.tdiv v1=X/v1:=ku d.1;rw[e];have g:=jp X v1;have y:=fC X (show v1≠0 by omega);have h3:=fZ X (show 0<v1 by omega);rw[iN]at g;have h4:0<=X/v1:=jN d.1 ω;have h5:X/v1<=X:=vb _ d.1;refine⟨by omega,?_,h4,by omega,by omega,by omega⟩;have h:0<Y:=by omega
 have z:=p.c;have l:X*4294967296+c<(X/v1+1)*Y:=by
  have t:(X/v1+1)*Y=(X/v1*v1+v1)*4294967296+(X/v1+1)*v2:=by rw[j];grind
  have x:=kv (show 0<=X/v1+1 by omega) f.1;omega
 have:=(pA h).2 l;omega
def DC.lim{v1 v2 X c Y q r:N}(p:DC v1 v2 X c Y)(d:0<=q)(e:q<4294967296)(g:0<=r/\r<4294967296):ca .u64 (q*v2)=q*v2/\ca .u64 (ca .u64 (4294967296*r)+c)=4294967296*r+c:=by
 have f:=p.c;exact⟨dt (aoR d e p.v2),by rw[dt (x:=4294967296*r) ω,dt ω]⟩
def aoS(hi lo y:N)(h:w6 hi lo y=D):Holds em D 227 [cG hi,cG lo,cG y] (.tuple [cG (mo hi lo y),cG (qL hi lo y)]):=by
 unfold w6 at h;simp only[ae,aN,yI]at h;obtain⟨⟨g',j'⟩,⟨a0,g5⟩,y0,y1⟩:=h;have t:=uA YQ;refine bK kH func227 λw e0=>?_
 by_cases a':hi=0
 .have B:mo hi lo y=lo/y:=by unfold mo;rw[a',NA,N.zero_add]
  have e2:qL hi lo y=lo%y:=by unfold qL;rw[a',NA,N.zero_add]
  rw[B,e2];refine bt t 9 (wy [yn (ω:¬y=0),az (ω:¬y<=hi),cT a',ag (ω:y≠0),av (?_:(ca dv (ej lo y))=(lo/y)),av (lU a0:(gl lo y)=(lo%y))] 417753739393:bk pQ (fl kH []) 9 135 [cG hi,cG lo,cG y] 12 f227 D (.tuple [cG (lo/y),cG (lo%y)]));rw[ku a0];exact dt ⟨jN a0 ω,by have:=vb y a0;omega⟩
 .obtain⟨s,h6,i2,i3,i4⟩:=YR (x:=y) ω;have A8:ca .u64 (eM y)=(s:N):=by rw[h6];exact dt ω
  have e7:ca .u64 (64-(s:N))=((64-s:E):N):=by rw[dt ω];omega
  have b4:(0:N)<2^s:=eE δ _;obtain⟨l1,l2,l3,l4⟩:=Qy (x:=lo) (s:=s) ω ⟨a0,g5⟩;generalize Y0:y*2^s=Y at*;have l':0<=hi*2^s/\hi*2^s+2^s<=Y:=by
   refine⟨kv g' (cI b4),?_⟩;have:=iK (show hi+1<=y by omega) (cI b4);rw[wq,mT]at this;omega
  generalize f':hi*2^s+lo/2^(64-s)=X;generalize e9:lo*2^s%18446744073709551616=L at*;have A9:0<=L/\L<18446744073709551616:=by rw[<-e9];exact⟨fC _ δ,fZ _ δ⟩
  have f:DC (Y/4294967296) (Y%4294967296) X (L/4294967296) Y:=⟨by omega,by omega,by omega,by omega,by omega⟩;obtain⟨k1,k2,c7,h1,i',g2⟩:=f.start;have b3:XR s 64=s:=by omega
  have g6:XR (64-s) 64=64-s:=by omega
  have g7:ca .u64 Y=Y:=dt ω;have b1:∀J:N,nZ J (2^XR (ea 32) 64)=J/4294967296:=λJ=>by
   rw[show(2:N)^XR (ea 32) 64=4294967296 from rfl];exact D7 _ δ
  have g8:ca .u64 (lo*2^s)=L:=by rw[tq];exact e9
  have g9:ca .u64 (((gF 64 (ca .u64 (hi*2^s))|||gF 64 (nZ lo (2^(64-s)))).toNat:E):N)=X:=by
   rw[dt (x:=hi*2^s) ω,D7 _ (cI (eE δ _))];show fG _ _=_;rw[aoP,Qx (s:=s) ω l3 g' (iN _ _) ω,<-f'];omega
  have A:ca .u64 (y*2^XR (ca .u64 (eM y)).toNat 64)=Y:=by rw[A8,kh,b3,Y0];exact g7
  have e':ca .u64 (lo*2^XR (ca .u64 (eM y)).toNat 64)=L:=by rw[A8,kh,b3];exact g8
  have c2:ca .u64 (((gF 64 (ca .u64 (hi*2^XR (ca .u64 (eM y)).toNat 64))|||gF 64 (nZ lo (2^XR (ca .u64 (64-ca .u64 (eM y))).toNat 64))).toNat:E):N)=X:=by
   rw[A8,e7,kh,kh,b3,g6];exact g9
  have Y1:∀J:N,0<=J/\J<18446744073709551616->ca .u64 (((gF 64 J &&& gF 64 4294967295).toNat:E):N)=J%4294967296:=λJ a'=>aoO a'
  have c':=dt (x:=X.tdiv (Y/4294967296)) ⟨c7,g2⟩;have h':ca .u64 (X.tdiv (Y/4294967296)*(Y/4294967296))=X.tdiv (Y/4294967296)*(Y/4294967296):=dt (by have:=f.v1;have:=kv c7 (show 0<=Y/4294967296 by omega);omega);have i0:=dt (x:=X-X.tdiv (Y/4294967296)*(Y/4294967296)) ω;refine bp.to known mixed t 17 _ (aoB hi lo y Y s (Y/4294967296) (Y%4294967296) X (L/4294967296) (L%4294967296) (X.tdiv (Y/4294967296)) (X-X.tdiv (Y/4294967296)*(Y/4294967296)) ω ω a' (yI.2 ⟨y0,y1⟩)
   (by rw[A8];omega) (by rw[A8,e7];omega) (by rw[A,b1];have:=f.v1;omega) A A8 (by rw[A,b1]) (by rw[A];exact Y1 Y ω) c2 (by rw[e',b1]) (by rw[e'];exact Y1 L A9) (by rw[c2,A,b1];exact c') (by rw[c2,A,b1,c',h'];exact i0)) (by kernel_rfl) ?_
  have h2:(hi*18446744073709551616+lo)*2^s=(X*4294967296+L/4294967296)*4294967296+L%4294967296:=by
   have B:L=L/4294967296*4294967296+L%4294967296:=by omega
   rw[wq,N.mul_right_comm,l2,<-l1,<-f'];omega
  generalize l5:Y/4294967296=v1 at*;generalize k0:Y%4294967296=v2 at*;generalize k3:L/4294967296=c at*;generalize k6:L%4294967296=d at*;have c5:0<=d/\d<4294967296:=by omega
  have F:0<Y:=by omega
  have h0:=jp (X*4294967296+c) Y;have h7:=fC (X*4294967296+c) (show Y≠0 by omega);have h8:=fZ (X*4294967296+c) F;have G:DC v1 v2 ((X*4294967296+c)%Y) d Y:=⟨f.y,f.v1,f.v2,⟨h7,h8⟩,c5⟩;have c3:∀r,bp em w e0 135 ((fl kH []).drop 22) (kJ Y s v1 v2 d ((X*4294967296+c)/Y) ((X*4294967296+c)%Y) (((X*4294967296+c)%Y*4294967296+d)/Y) r).T (kJ Y s v1 v2 d ((X*4294967296+c)/Y) ((X*4294967296+c)%Y) (((X*4294967296+c)%Y*4294967296+d)/Y) r).H (ew em D f227 (.tuple [cG (mo hi lo y),cG (qL hi lo y)])):=λr=>by
   have Y2:=jp ((X*4294967296+c)%Y*4294967296+d) Y;have h9:=fC ((X*4294967296+c)%Y*4294967296+d) (show Y≠0 by omega);have i1:=fZ ((X*4294967296+c)%Y*4294967296+d) F;have c0:0<=(X*4294967296+c)/Y:=jN (by have:=f.x;have:=f.c;omega) ω;have j6:(X*4294967296+c)/Y<4294967296:=Cl F (by have:=f.x;have:=f.c;omega);have e3:0<=((X*4294967296+c)%Y*4294967296+d)/Y:=jN ω ω;have l0:((X*4294967296+c)%Y*4294967296+d)/Y<4294967296:=Cl F ω;generalize (X*4294967296+c)/Y=c1 at*;generalize (X*4294967296+c)%Y=e at*;generalize j7:(e*4294967296+d)/Y=b2 at*;generalize k':(e*4294967296+d)%Y=Y3 at*;obtain⟨j1,j2⟩:=QA (A:=hi*18446744073709551616+lo) (b:=y) (V:=Y) (S:=2^s) (U:=Y3) (q:=c1*4294967296+b2) b4 ω Y0.symm (by rw[h2];grind) h9 i1;refine bM (s:=kJ Y s v1 v2 d c1 e b2 r) t (aoN Y s v1 v2 d c1 e b2 r _ _ ω ?_ ?_)
   .rw[dt (x:=c1*4294967296) ω,dt ω];exact j1.symm
   .rw[kh,b3,D7 _ (cI b4)];have b':ca .u64 (ca .u64 (ca .u64 (e*4294967296)+d)-ca .u64 (b2*Y))=Y3:=by
     rw[tq,tq,tq,tq];rw[iN Y]at Y2;generalize b2*Y=g4 at*;omega
    rw[b',j2,N.mul_ediv_cancel_left _ ω];rfl
  have c4:∀r,bp em w e0 135 ((fl kH []).drop 18) (kI Y s v1 v2 X c d ((X*4294967296+c)/Y) r).T (kI Y s v1 v2 X c d ((X*4294967296+c)/Y) r).H (ew em D f227 (.tuple [cG (mo hi lo y),cG (qL hi lo y)])):=λr=>by
   obtain⟨n1,n2,n3,g3,Y4,Y5⟩:=G.start;have b':ca .u64 (ca .u64 (ca .u64 (X*4294967296)+c)-ca .u64 ((X*4294967296+c)/Y*Y))=(X*4294967296+c)%Y:=by
    rw[tq,tq,tq,tq];rw[iN Y]at h0;generalize (X*4294967296+c)/Y*Y=g4 at*;omega
   have m1:=dt (x:=((X*4294967296+c)%Y).tdiv v1) ⟨n3,Y5⟩;have m2:ca .u64 (((X*4294967296+c)%Y).tdiv v1*v1)=((X*4294967296+c)%Y).tdiv v1*v1:=dt (by have:=f.v1;have:=kv n3 (show 0<=v1 by omega);omega);refine dH (s:=kI Y s v1 v2 X c d ((X*4294967296+c)/Y) r) t 3 (wy [ag (show v1≠0 from by have:=f.v1;omega),av b',av (show(ca dv (ej (ca dv (ca dv (ca dv (X*4294967296)+c)-ca dv (((X*4294967296+c)/Y)*Y))) v1))=((((X*4294967296+c)%Y).tdiv v1)) from by rw[b'];exact m1),av (show(ca dv (ca dv (ca dv (ca dv (X*4294967296)+c)-ca dv (((X*4294967296+c)/Y)*Y))-ca dv (ca dv (ej (ca dv (ca dv (ca dv (X*4294967296)+c)-ca dv (((X*4294967296+c)/Y)*Y))) v1)*v1)))=(((X*4294967296+c)%Y-((X*4294967296+c)%Y).tdiv v1*v1)) from by rw[b',m1,m2];exact dt ω)] 72910815061082113:di pQ ((fl kH []).drop 18) 3 (kI Y s v1 v2 X c d ((X*4294967296+c)/Y) r) 1 .normal [] (kJ Y s v1 v2 d ((X*4294967296+c)/Y) ((X*4294967296+c)%Y) (((X*4294967296+c)%Y).tdiv v1) ((X*4294967296+c)%Y-((X*4294967296+c)%Y).tdiv v1*v1))) ?_;generalize (X*4294967296+c)%Y=e at*;refine c_q {p:N×N//p.1*v1+p.2=e/\(e*4294967296+d)/Y<=p.1/\0<=p.1/\0<=p.2/\p.2<4294967296/\p.1<18446744073709551616} 2 (cat kH DB) ((fl kH []).drop 22) (λp=>kJ Y s v1 v2 d ((X*4294967296+c)/Y) e p.1.1 p.1.2) (λp=>p.1.1.toNat) ⟨(e.tdiv v1,e-e.tdiv v1*v1),n1,n2,n3,g3,Y4,Y5⟩ ?_;rintro⟨⟨q,r⟩,H,K,M,P,Q,a6⟩;have H:q*v1+r=e:=H;have K:(e*4294967296+d)/Y<=q:=K;have M:0<=q:=M;have P:0<=r:=P;have Q:r<4294967296:=Q;have a6:q<18446744073709551616:=a6;have W:(4294967296<=q\/4294967296*r+d<q*v2)->(e*4294967296+d)/Y<=q-1:=λT=>by
    have:=G.y;subst this;exact YU F G.x.2 δ c5.2 H T
   have e3:0<=(e*4294967296+d)/Y:=jN (by have:=G.x;omega) ω;have j:=dt (x:=r+v1) (by have:=f.v1;omega);have a9:(4294967296<=q\/4294967296*r+d<q*v2)->4294967296<=r+v1->q-1=(e*4294967296+d)/Y:=λT d'=>by
    have g1:=W T;have B:(q-1)*v1+(r+v1)=e:=by rw[sZ,mT];omega
    have c9:=YV (by have:=f.v1;omega) (by have:=G.x;have:=G.y;omega) G.v2 c5.1 B ω d';have:=G.y;subst this;exact(Kw F B g1 c9).symm
   by_cases g:q>=4294967296
   .have C:=dt (x:=q-1) ω;by_cases l:r+v1>=4294967296
    .refine aT (s:=kJ Y s v1 v2 d ((X*4294967296+c)/Y) e q r) t (wy [aa (aL (ay g)),ag g,ag (show ca dv (r+v1)>=4294967296 from by rw[j];exact l),av C,av j] 105144011385330262937074482297442369:aR pQ (fl kH DB) (kJ Y s v1 v2 d ((X*4294967296+c)/Y) e q r) 3840 (.exit 2) [] (kJ Y s v1 v2 d ((X*4294967296+c)/Y) e (q-1) (r+v1))) ?_;refine bY (cg ?_);rw[a9 (.inl g) l];exact c3 _
    .refine aT (s:=kJ Y s v1 v2 d ((X*4294967296+c)/Y) e q r) t (wy [aa (aL (ay g)),ag g,az (show ¬ca dv (r+v1)>=4294967296 from by rw[j];exact l),av C,av j] 105144011385330262937074482297442369:aR pQ (fl kH DB) (kJ Y s v1 v2 d ((X*4294967296+c)/Y) e q r) 2816 .normal [] (kJ Y s v1 v2 d ((X*4294967296+c)/Y) e (q-1) (r+v1))) ?_;exact⟨⟨(q-1,r+v1),by show(q-1)*v1+(r+v1)=e;rw[sZ,mT];omega,W (.inl g),by show 0<=q-1;omega,by show 0<=r+v1;have:=f.v1;omega,by show r+v1<_;omega,by show q-1<_;omega⟩,by show(q-1).toNat<q.toNat;omega,rfl,rfl⟩
   .obtain⟨w1,w2⟩:=G.lim M ω ⟨P,Q⟩;by_cases z:4294967296*r+d<q*v2
    .have c':1<=q:=by
      by_cases c0:q=0
      .rw[c0,NA]at z;omega
      .omega
     have C:=dt (x:=q-1) ω;by_cases l:r+v1>=4294967296
     .refine aT (s:=kJ Y s v1 v2 d ((X*4294967296+c)/Y) e q r) t (wy [aa (aL (ab g)),az g,ag (show ca dv (q*v2)>ca dv (ca dv (4294967296*r)+d) from by rw[w1,w2];exact z),ag (show ca dv (r+v1)>=4294967296 from by rw[j];exact l),av C,av j] 126237717373128001384944323770191937:aR pQ (fl kH DB) (kJ Y s v1 v2 d ((X*4294967296+c)/Y) e q r) 3839 (.exit 2) [] (kJ Y s v1 v2 d ((X*4294967296+c)/Y) e (q-1) (r+v1))) ?_;refine bY (cg ?_);rw[a9 (.inr z) l];exact c3 _
     .refine aT (s:=kJ Y s v1 v2 d ((X*4294967296+c)/Y) e q r) t (wy [aa (aL (ab g)),az g,ag (show ca dv (q*v2)>ca dv (ca dv (4294967296*r)+d) from by rw[w1,w2];exact z),az (show ¬ca dv (r+v1)>=4294967296 from by rw[j];exact l),av C,av j] 126237717373128001384944323770191937:aR pQ (fl kH DB) (kJ Y s v1 v2 d ((X*4294967296+c)/Y) e q r) 2815 .normal [] (kJ Y s v1 v2 d ((X*4294967296+c)/Y) e (q-1) (r+v1))) ?_;exact⟨⟨(q-1,r+v1),by show(q-1)*v1+(r+v1)=e;rw[sZ,mT];omega,W (.inr z),by show 0<=q-1;omega,by show 0<=r+v1;have:=f.v1;omega,by show r+v1<_;omega,by show q-1<_;omega⟩,by show(q-1).toNat<q.toNat;omega,rfl,rfl⟩
    .refine aT (s:=kJ Y s v1 v2 d ((X*4294967296+c)/Y) e q r) t (wy [aa (aL (ab g)),az g,az (show ¬ca dv (q*v2)>ca dv (ca dv (4294967296*r)+d) from by rw[w1,w2];exact z)] 54610613338640449:aR pQ (fl kH DB) (kJ Y s v1 v2 d ((X*4294967296+c)/Y) e q r) 1279 (.exit 2) [] (kJ Y s v1 v2 d ((X*4294967296+c)/Y) e q r)) ?_;refine bY (cg ?_);have B:(e*4294967296+d)/Y=q:=by
      have:=G.y;subst this;exact Kw F H K ω
     rw[<-B];exact c3 _
  refine c_q {p:N×N//p.1*v1+p.2=X/\(X*4294967296+c)/Y<=p.1/\0<=p.1/\0<=p.2/\p.2<4294967296/\p.1<18446744073709551616} 0 (cat kH DA) ((fl kH []).drop 18) (λp=>kI Y s v1 v2 X c d p.1.1 p.1.2) (λp=>p.1.1.toNat) ⟨(X.tdiv v1,X-X.tdiv v1*v1),k1,k2,c7,h1,i',g2⟩ ?_;rintro⟨⟨q,r⟩,H,K,M,P,Q,a6⟩;have H:q*v1+r=X:=H;have K:(X*4294967296+c)/Y<=q:=K;have M:0<=q:=M;have P:0<=r:=P;have Q:r<4294967296:=Q;have a6:q<18446744073709551616:=a6;have W:(4294967296<=q\/4294967296*r+c<q*v2)->(X*4294967296+c)/Y<=q-1:=λT=>by
   have:=f.y;subst this;exact YU F f.x.2 δ f.c.2 H T
  have e3:0<=(X*4294967296+c)/Y:=jN (by have:=f.x;have:=f.c;omega) ω;have j:=dt (x:=r+v1) (by have:=f.v1;omega);have a9:(4294967296<=q\/4294967296*r+c<q*v2)->4294967296<=r+v1->q-1=(X*4294967296+c)/Y:=λT d'=>by
   have g1:=W T;have B:(q-1)*v1+(r+v1)=X:=by rw[sZ,mT];omega
   have c9:=YV (by have:=f.v1;omega) (by have:=f.x;have:=f.y;omega) f.v2 f.c.1 B ω d';have:=f.y;subst this;exact(Kw F B g1 c9).symm
  by_cases g:q>=4294967296
  .have C:=dt (x:=q-1) ω;by_cases l:r+v1>=4294967296
   .refine aT (s:=kI Y s v1 v2 X c d q r) t (wy [aa (aL (ay g)),ag g,ag (show ca dv (r+v1)>=4294967296 from by rw[j];exact l),av C,av j] 105144011385330262937074482297442369:aR pQ (fl kH DA) (kI Y s v1 v2 X c d q r) 3840 (.exit 0) [] (kI Y s v1 v2 X c d (q-1) (r+v1))) ?_;refine bY (cg ?_);rw[a9 (.inl g) l];exact c4 _
   .refine aT (s:=kI Y s v1 v2 X c d q r) t (wy [aa (aL (ay g)),ag g,az (show ¬ca dv (r+v1)>=4294967296 from by rw[j];exact l),av C,av j] 105144011385330262937074482297442369:aR pQ (fl kH DA) (kI Y s v1 v2 X c d q r) 2816 .normal [] (kI Y s v1 v2 X c d (q-1) (r+v1))) ?_;exact⟨⟨(q-1,r+v1),by show(q-1)*v1+(r+v1)=X;rw[sZ,mT];omega,W (.inl g),by show 0<=q-1;omega,by show 0<=r+v1;have:=f.v1;omega,by show r+v1<_;omega,by show q-1<_;omega⟩,by show(q-1).toNat<q.toNat;omega,rfl,rfl⟩
  .obtain⟨w1,w2⟩:=f.lim M ω ⟨P,Q⟩;by_cases z:4294967296*r+c<q*v2
   .have c':1<=q:=by
     by_cases c0:q=0
     .rw[c0,NA]at z;omega
     .omega
    have C:=dt (x:=q-1) ω;by_cases l:r+v1>=4294967296
    .refine aT (s:=kI Y s v1 v2 X c d q r) t (wy [aa (aL (ab g)),az g,ag (show ca dv (q*v2)>ca dv (ca dv (4294967296*r)+c) from by rw[w1,w2];exact z),ag (show ca dv (r+v1)>=4294967296 from by rw[j];exact l),av C,av j] 126237717373128001384944323770191937:aR pQ (fl kH DA) (kI Y s v1 v2 X c d q r) 3839 (.exit 0) [] (kI Y s v1 v2 X c d (q-1) (r+v1))) ?_;refine bY (cg ?_);rw[a9 (.inr z) l];exact c4 _
    .refine aT (s:=kI Y s v1 v2 X c d q r) t (wy [aa (aL (ab g)),az g,ag (show ca dv (q*v2)>ca dv (ca dv (4294967296*r)+c) from by rw[w1,w2];exact z),az (show ¬ca dv (r+v1)>=4294967296 from by rw[j];exact l),av C,av j] 126237717373128001384944323770191937:aR pQ (fl kH DA) (kI Y s v1 v2 X c d q r) 2815 .normal [] (kI Y s v1 v2 X c d (q-1) (r+v1))) ?_;exact⟨⟨(q-1,r+v1),by show(q-1)*v1+(r+v1)=X;rw[sZ,mT];omega,W (.inr z),by show 0<=q-1;omega,by show 0<=r+v1;have:=f.v1;omega,by show r+v1<_;omega,by show q-1<_;omega⟩,by show(q-1).toNat<q.toNat;omega,rfl,rfl⟩
   .refine aT (s:=kI Y s v1 v2 X c d q r) t (wy [aa (aL (ab g)),az g,az (show ¬ca dv (q*v2)>ca dv (ca dv (4294967296*r)+c) from by rw[w1,w2];exact z)] 54610613338640449:aR pQ (fl kH DA) (kI Y s v1 v2 X c d q r) 1279 (.exit 0) [] (kI Y s v1 v2 X c d q r)) ?_;refine bY (cg ?_);have B:(X*4294967296+c)/Y=q:=by
     have:=f.y;subst this;exact Kw F H K ω
    rw[<-B];exact c4 _
def Y6:QC.Ok em:=λ⟨d,e,y,_⟩ h=>aoS d e y h
end
end
section
open Go.RowKit Sv Go.Proofs.Tryz
noncomputable section
def gq(x s:N):N:=ca .u64 (x*2^XR s.toNat 64)
def ef(x s:N):N:=nZ x (2^XR s.toNat 64)
def qk:=NO f229
abbrev Ky:I E:=[1,1,0,1,0,0]
def pR(w out:I N)(s:N)(i:E):bD:={n:=40,sl:=[(0,bN w),(1,iv s),(5,s6 64 out),(12,bN w),(13,iv w.length),(14,iv i)],bF:=[(64,s7 out)],next:=65}
def ao0(w:I N)(s:N)(d: -9223372036854775808<=(w.length:N)+1/\(w.length:N)+1<=9223372036854775807)(e:((w.length:N)+1).toNat<=1000000)(h3:(((w.length:N)+1).toNat)=(cZ (w.length+(1:E))).length)(h4:(aY.known ((w.length:N)+1).toNat)=(aY.known (w.length+(1:E))))(h5:(bO (cZ (w.length+(1:E))).length)=(bO (w.length+(1:E))))(f:(F5 (ie ((w.length:N)+1).toNat (I.map af.raw (uU #[Value.int .u64 (0:N)]))))=(A' (λx=>[af.raw (Value.int .u64 x)]) (cZ (w.length+(1:E)))))(g:(w.length+(1:E))=(cZ (w.length+(1:E))).length):
  aD.path (sP em (aA []) (fl qk []) 3 40 [bN w,iv s]) (dl 1) (fy em 40 .normal [(64,64,O (w.length+1))] (pR w (cZ (w.length+1)) s 0)):=
 mp (ajf (fA d) rt rt (show(bP (((w.length:N)+1).toNat<=((w.length:N)+1).toNat))=D from ay ω) (rB (show(bounded ((w.length:N)+1).toNat (8:E))=D from kB e ω) (rr w) (rr s) (an h3 (an h4 h5)) (rr w) (rr (w.length:N)) (rr (0:N)) (an f g) trivial))
section
variable(w out:I N)(s:N)(i:E)(Z:(i:N)<(w.length:N))(Y:i<w.length)(h3:i<out.length)(h4:0<=s)
def ao1(h5:s>0)(h:i6 ((i:N)+1))(j:i6 (64-s))(l:0<=64-s)(t:((i:N)+1).toNat<out.length)(e:(bx 178 aF (O (bn.own 178 aF (out.set i (ca dv (↑(ru (gF 64 (out.getD i 0)|||gF 64 (ca dv (w.getD i 0*(2:N)^XR s.toNat 64)))):N))))) ((i:N)+1).toNat)=D)(f:out.length=((out.set i (fG (out.getD i 0) (gq (w.getD i 0) s))).set (i+1) (ef (w.getD i 0) (64-s))).length)(g:(bO out.length)=(bO ((out.set i (fG (out.getD i 0) (gq (w.getD i 0) s))).set (i+1) (ef (w.getD i 0) (64-s))).length))(d:((out.set i (ca dv (↑(ru (gF 64 (out.getD i 0)|||gF 64 (ca dv (w.getD i 0*(2:N)^XR s.toNat 64)))):N))).set ((i:N)+1).toNat (nZ (w.getD i 0) ((2:N)^XR (64-s).toNat 64)))=((out.set i (fG (out.getD i 0) (gq (w.getD i 0) s))).set (i+1) (ef (w.getD i 0) (64-s)))):
  aR (aA []) (fl qk Ky) (pR w out s i) 7 .normal [(64,64,bs)] (pR w ((out.set i (fG (out.getD i 0) (gq (w.getD i 0) s))).set (i+1) (ef (w.getD i 0) (64-s))) s (i+1)):=
 wy [ag Z,ag Y,ag h3,jf 178 aF h3,aa (aI (v:=af.raw (Value.int dv ((bu aF (a8 178 aF out)).getD ((0:E)+i) (0:N))))),ag h4,ag h5,yi h,yi j,ag l,ag t,aa (show(bx 178 aF (O (bn.own 178 aF ((bu aF (a8 178 aF out)).set ((0:E)+i) (ca dv (↑(ru (gF (64:E) ((bu aF (a8 178 aF out)).getD ((0:E)+i) (0:N))|||gF (64:E) (ca dv (w.getD i (0:N)*(2:N)^XR s.toNat (64:E))))):N))))) ((0:E)+((i:N)+(1:N)).toNat))=D from(by simp only[a7,bC]<;>exact e)),av f,av g,pF em 178 aF (show(((bu aF (a8 178 aF out)).set ((0:E)+i) (ca dv (↑(ru (gF (64:E) ((bu aF (a8 178 aF out)).getD ((0:E)+i) (0:N))|||gF (64:E) (ca dv (w.getD i (0:N)*(2:N)^XR s.toNat (64:E))))):N))).set ((0:E)+((i:N)+(1:N)).toNat) (nZ (w.getD i (0:N)) ((2:N)^XR ((64:N)-s).toNat (64:E))))=((out.set i (fG (out.getD i (0:N)) (gq (w.getD i (0:N)) s))).set (i+(1:E)) (ef (w.getD i (0:N)) ((64:N)-s)))from(by simp only[a7,bC]<;>exact d))] 5612166604090939023885917864117590006026658706890753
def ao2(h5:¬s>0)(d:i6 ((i:N)+1))(e:out.length=(out.set i (fG (out.getD i 0) (gq (w.getD i 0) s))).length)(f:(bO out.length)=(bO (out.set i (fG (out.getD i 0) (gq (w.getD i 0) s))).length))(g:(out.set i (ca dv (↑(ru (gF 64 (out.getD i 0)|||gF 64 (ca dv (w.getD i 0*(2:N)^XR s.toNat 64)))):N)))=(out.set i (fG (out.getD i 0) (gq (w.getD i 0) s)))):
  aR (aA []) (fl qk Ky) (pR w out s i) 5 .normal [(64,64,bs)] (pR w (out.set i (fG (out.getD i 0) (gq (w.getD i 0) s))) s (i+1)):=
 wy [ag Z,ag Y,ag h3,jf 178 aF h3,aa (aI (v:=af.raw (Value.int dv ((bu aF (a8 178 aF out)).getD ((0:E)+i) (0:N))))),ag h4,az h5,yi d,av e,av f,pF em 178 aF (show((bu aF (a8 178 aF out)).set ((0:E)+i) (ca dv (↑(ru (gF (64:E) ((bu aF (a8 178 aF out)).getD ((0:E)+i) (0:N))|||gF (64:E) (ca dv (w.getD i (0:N)*(2:N)^XR s.toNat (64:E))))):N)))=(out.set i (fG (out.getD i (0:N)) (gq (w.getD i (0:N)) s)))from(by simp only[a7,bC]<;>exact g))] 59889699868906130213244270183591081680897
end
def ao3(w out:I N)(s:N)(i:E)(d:¬(i:N)<(w.length:N)):
  aR (aA []) (fl qk Ky) (pR w out s i) 2 (.exit 0) [(64,64,bs)] (pR w out s i):=
 wy [az d] 1
def ao4(w:I N)(x:N)(l:I N)(s:N)(i:E)(d:(bO (x::l).length)=(aY.full)):
  aD.path (pD em (aA []) ((fl qk []).drop 4) (pR w (x::l) s i)) (dl 1) (Jx em f229 178 aF (x::l)):=
 wy [nU (an (rr (x::l).length) (an d (rr (x::l))))] 1
def c6(w:I N)(s:N):I N:=gg 18446744073709551616 (w.length+1) (aj w*2^s.toNat)
def Ba(w:I N)(s:N):dF:=jz w&&(bP (w.length<=400000)&&(bP (0<=s)&&bP (s<64)))
noncomputable def Kz:sS:={f:=229,e:=178,t:=aF,ps:=[.list ao aF,.int .i64],pre:=λd=>Ba d.1 d.2.1,out:=λd=>c6 d.1 d.2.1}
def Y7{x:N}{s:E}(d:s<=64)(e:0<=x/\x<18446744073709551616):gq x s=2^s*(x%2^(64-s)):=by
 unfold gq;rw[kh,ns d,tq];exact(Qy d e).1
def QF{x:N}{s:E}(d:s<=64)(e:0<=x):ef x s=x/2^s:=by
 unfold ef;rw[kh,ns d];exact D7 _ (cI (eE δ _))
def qM{l:I N}{i:E}(j:E){d:N}:(l.set i d).getD j 0=if i=j/\i<l.length then d else l.getD j 0:=by
 simp only[ap,I.getElem?_set];by_cases h:i=j
 .subst h;by_cases e:i<l.length
  .simp[e]
  .simp[e]
 .simp[h]
def ao5{l:I N}{i:E}(h:i<l.length):l.set i (l.getD i 0)=l:=by
 rw[wX h];exact I.set_getElem_self h
structure Gw(w:I N)(s:E)(out:I N)(i:E):Prop where
 le:i<=w.length
 len:out.length=w.length+1
 dg:aS 18446744073709551616 out
 low:out.getD i 0<2^s
 zero:∀k,i<k->out.getD k 0=0
 val:aj (out.take i)+18446744073709551616^i*out.getD i 0=aj (w.take i)*2^s
def ao6{w:I N}(G:aS 18446744073709551616 w){s:E}(W:s<=63){out:I N}{i:E}(d:Gw w s out i)(hi:i<w.length):
  Gw w s ((out.set i (fG (out.getD i 0) (gq (w.getD i 0) s))).set (i+1) (w.getD i 0/2^(64-s))) (i+1):=by
 have f:=G.get δ i;have C:=d.dg.get δ i;obtain⟨J,K,L,g⟩:=Qy (s:=s) ω f;have A:=d.len;have e:(0:N)<2^s:=eE δ _;have B:2^s*(w.getD i 0%2^(64-s))<18446744073709551616:=by rw[<-J];exact fZ _ δ
 have h:fG (out.getD i 0) (gq (w.getD i 0) s)=out.getD i 0+2^s*(w.getD i 0%2^(64-s)):=by
  rw[Y7 ω f];exact Qx ω ⟨C.1,d.low⟩ g.1 rfl B
 have H:(2:N)^s*2^(64-s)=18446744073709551616:=by rw[<-yL,show s+(64-s)=64 by omega];rfl
 have j:0<=out.getD i 0+2^s*(w.getD i 0%2^(64-s))/\out.getD i 0+2^s*(w.getD i 0%2^(64-s))<18446744073709551616:=by
  have U:=kv (cI e) g.1;have y:=ar (show w.getD i 0%2^(64-s)+1<=2^(64-s) by omega) (cI e);rw[H,oB,Cu]at y;have:=d.low;omega
 have z:0<=w.getD i 0/2^(64-s)/\w.getD i 0/2^(64-s)<18446744073709551616:=by
  have:(2:N)^s<=2^64:=j5 δ ω;have t:(2:N)^64=18446744073709551616:=rfl;omega
 rw[h];refine⟨hi,by simp[A],(d.dg.set j).set z,?_,λk V=>?_,?_⟩
 .rw[qM,dA ⟨rfl,by rw[cm];omega⟩];exact L.2
 .rw[qM,db ω,qM,db ω];exact d.zero k ω
 .rw[qM,dA ⟨rfl,by rw[cm];omega⟩];have F:=d.val;unfold aj at F ⊢;rw[Dn,AZ ω,nY (l:=w) hi,hP];generalize vl 18446744073709551616 (out.take i)=Q at*;generalize vl 18446744073709551616 (w.take i)=T at*;generalize out.getD i 0=o at*;generalize w.getD i 0/2^(64-s)=x at*;generalize w.getD i 0%2^(64-s)=l at*;generalize w.getD i 0=M at*;generalize (18446744073709551616:N)^i=P at*;generalize (2:N)^s=S at*;have t:P*(M*S)=P*(S*l+18446744073709551616*x):=by rw[K]
  grind
def ao9{w:I N}{s:E}{out:I N}(d:Gw w s out w.length):out=c6 w s:=by
 have f:=d.val;have h:=d.len;have e:=nY (b:=18446744073709551616) (l:=out) (k:=w.length) ω;rw[eG ω]at e;rw[dx]at f;have g:=Qt (b:=18446744073709551616) δ d.dg;unfold c6;rw[kh,<-f];unfold aj;rw[<-e,<-h];exact g
def apa(w:I N)(e:N)(h:Ba w e=D)(w0:du)(F:Sv.Env):bp em w0 F 40 (fl qk []) (gI [bN w,iv e] .nil 0) H0 (O8 em f229 178 aF (c6 w e)):=by
 unfold Ba at h;simp only[ae,aN,jA]at h;obtain⟨y,M,K,L⟩:=h;obtain⟨s,rfl⟩:∃s:E,e=(s:N):=⟨e.toNat,by omega⟩;have g:((w.length:N)+1).toNat=w.length+1:=by omega
 refine cE ba 3 (ao0 w s ω ω (by rw[iQ,g]) (by rw[g]) (by rw[iQ]) (by rw[g];exact A0 _) (by rw[iQ])) ?_;have t:∀k,(cZ (w.length+1)).getD k 0=0:=λk=>by
  unfold cZ;rw[ap,I.getElem?_replicate];split<;>rfl
 refine c_q {p:I N×E//Gw w s p.1 p.2} 0 (cat qk Ky) ((fl qk []).drop 4) (λp=>pR w p.1.1 s p.1.2) (λp=>w.length-p.1.2)
  ⟨(cZ (w.length+1),0),⟨gt _,iQ _,Dr _,by show(cZ (w.length+1)).getD 0 0<_;rw[t];exact eE δ _,λk _=>t k,by show vl _ ([]:I N)+_*(cZ (w.length+1)).getD 0 0=vl _ ([]:I N)*_;rw[t];simp[vl]⟩⟩ ?_
 rintro⟨⟨out,i⟩,d⟩;have d:Gw w s out i:=d;have Q:=d.len;by_cases j:i<w.length
 .have l:=y.get δ i;have f:=ao6 y ω d j;have x:((i:N)+1).toNat=i+1:=by omega
  by_cases C:s=0
  .subst C;have A:(out.set i (fG (out.getD i 0) (gq (w.getD i 0) (0:E)))).set (i+1) (w.getD i 0/2^(64-0))=out.set i (fG (out.getD i 0) (gq (w.getD i 0) (0:E))):=by
    have B:w.getD i 0/2^(64-0)=(out.set i (fG (out.getD i 0) (gq (w.getD i 0) (0:E)))).getD (i+1) 0:=by
     rw[qM,db ω,d.zero (i+1) ω];exact N.ediv_eq_zero_of_lt l.1 l.2
    rw[B];exact ao5 (by rw[cm];omega)
   rw[A]at f;exact bp.all (s:=pR w out (0:E) i) (s':=pR w (out.set i (fG (out.getD i 0) (gq (w.getD i 0) (0:E)))) (0:E) (i+1)) known mixed ba _ (ao2 w out _ i ω j ω ω ω ω (by rw[cm]) (by rw[cm]) rfl) (by kernel_rfl)
    ⟨⟨(_,i+1),f⟩,by simp;omega,rfl,rfl⟩
  .have z:ef (w.getD i 0) (64-(s:N))=w.getD i 0/2^(64-s):=by
    rw[show(64-(s:N))=((64-s:E):N) by omega];exact QF ω l.1
   rw[<-z]at f;exact bp.all (s:=pR w out s i) (s':=pR w ((out.set i (fG (out.getD i 0) (gq (w.getD i 0) s))).set (i+1) (ef (w.getD i 0) (64-s))) s (i+1)) known mixed ba _ (ao1 w out s i ω j ω ω ω ω ω ω (by rw[x];omega) (by rw[x,zP];exact ay (by rw[cm];omega)) τ τ (by rw[x];rfl)) (by kernel_rfl)
    ⟨⟨(_,i+1),f⟩,by simp;omega,rfl,rfl⟩
 .refine aT (s:=pR w out s i) ba (ao3 w out s i ω) ?_;refine bY (cg ?_);have P:=d.le;obtain rfl:i=w.length:=by omega
  rw[<-ao9 d];cases out with
  |nil=>have:=d.len;simp at this
  |cons H G=>exact bp.ai8 known mixed ba 8 _ (ao4 w H G s w.length rfl) λT J h=>h
def apb:Kz.Ok em:=
 ⟨rfl,_,qk,func229,rfl,by decide,λ⟨w,s,_⟩ h=>⟨by show 1<=(c6 w s).length;unfold c6;rw[A5];omega,λd F=>apa w s h d F⟩⟩
end
end
end Go.Proofs.YtdajfemhnlpegaaGreatDoor
namespace Go.Proofs.YtdajfemhnlpegaaGreatDoor
open Go.RowKit Sv Go.Proofs.Tryz
noncomputable section
def w8(P:fd)(fn:Ö)(e:ed)(t:aq)(xs:I t.den)(res:af):R->Prop
 |.ret T H []=>(match lB P fn T H with
   |.ok v _=>cV D H v res/\(match H.get 64 with
     |some (.own d f ys)=>jw (dd e d) (rz f t ys xs)
     |_=>lm)
   |_=>lm)
 |_=>lm
def fU:=NO f230
def k8:=aA [Kf,QC]
abbrev DE:I E:=[1,1,1,1,1,0,0,0]
abbrev KA:I E:=[1,1,1,1,1,1,1,0,1,0,0]
abbrev KB:I E:=[1,1,1,1,1,1,1,1,1,1,1,0,1,0,0]
abbrev Bb(v:I N)(k:E)(cap:aY):af:= .bZ 178 aF 64 k (v.length+1) cap
abbrev KC(xs:I N):I (E×gB):=[(64,.blk (.own 178 aF xs))]
abbrev lQ:Sv.Ren:=[(64,64,bs)]
section
variable(xs v:I N)(k:E)(cap:aY)
def ir(q r o:N):bD:={n:=186,sl:=[(0,Bb v k cap),(1,bN v),(5,iv v.length),(6,cG q),(7,cG r),(8,cG o)],bF:=KC xs,next:=65}
def lR(q c b:N)(i:E):bD:={n:=186,sl:=[(0,Bb v k cap),(1,bN v),(5,iv v.length),(6,cG q),(11,cG b),(12,cG c),(104,iv v.length),(105,iv i)],bF:=KC xs,next:=65}
def w9(q b:N):bD:={n:=186,sl:=[(0,Bb v k cap),(1,bN v),(5,iv v.length),(6,cG q),(11,cG b)],bF:=KC xs,next:=65}
def mq(q c:N)(i:E):bD:={n:=186,sl:=[(0,Bb v k cap),(1,bN v),(5,iv v.length),(6,cG q),(17,cG c),(156,iv v.length),(157,iv i)],bF:=KC xs,next:=65}
end
def mz(q x c:N):N:=dM (dm q x) c 0
def tu(q x c:N):N:=ca .u64 (gD q x+eL (dm q x) c 0)
def tn(q:N):N:=ca .u64 (q-1)
section
variable(xs v:I N)(k:E)(cap:aY)(q r o:N)(Z:o=0)(Y:i6 ((v.length:N)-2))(h3:0<=(v.length:N)-2)(h4:((v.length:N)-2).toNat<v.length)(h5:(nc q (v.getD ((v.length:N)-2).toNat 0))=D)
def ape(d:¬gD q (v.getD ((v.length:N)-2).toNat 0)<r)(e:gD q (v.getD ((v.length:N)-2).toNat 0)=r)(f:(bx 178 aF (O (bn.own 178 aF xs)) (k+((v.length:N)-2).toNat))=D)(g:dm q (v.getD ((v.length:N)-2).toNat 0)<=xs.getD (k+((v.length:N)-2).toNat) 0):
  aR k8 (fl fU DE) (ir xs v k cap q r o) 114687 (.exit 0) lQ (ir xs v k cap q r o):=
 wy [cT Z,yi Y,ag h3,ag h4,aa h5,aa (aL (ab d)),aa (aK (gw.mpr e)),ag (by omega:((v.length:N)-(2:N)).toNat<v.length+(1:E)),aa f,cT e,az d,ag g] 4242138250928964978126769479503194568536193
def apf(d:¬gD q (v.getD ((v.length:N)-2).toNat 0)<r)(e:gD q (v.getD ((v.length:N)-2).toNat 0)=r)(t:(bx 178 aF (O (bn.own 178 aF xs)) (k+((v.length:N)-2).toNat))=D)(x:¬dm q (v.getD ((v.length:N)-2).toNat 0)<=xs.getD (k+((v.length:N)-2).toNat) 0)(h:i6 ((v.length:N)-1))(j:0<=(v.length:N)-1)(l:((v.length:N)-1).toNat<v.length)(f:(ca dv (q-1))=(tn q))(g:(↑((r.toNat+(v.getD ((v.length:N)-1).toNat 0).toNat+ea 0)%(2:E)^(64:E)):N)=(dM r (v.getD ((v.length:N)-1).toNat 0) 0))(y:(↑((r.toNat+(v.getD ((v.length:N)-1).toNat 0).toNat+ea 0)/(2:E)^(64:E)):N)=(eL r (v.getD ((v.length:N)-1).toNat 0) 0)):
  aR k8 (fl fU DE) (ir xs v k cap q r o) 81919 .normal lQ (ir xs v k cap (tn q) (dM r (v.getD ((v.length:N)-1).toNat 0) 0) (eL r (v.getD ((v.length:N)-1).toNat 0) 0)):=
 wy [cT Z,yi Y,ag h3,ag h4,aa h5,aa (aL (ab d)),aa (aK (gw.mpr e)),ag (by omega:((v.length:N)-(2:N)).toNat<v.length+(1:E)),aa t,cT e,az d,az x,yi h,ag j,ag l,av f,av g,av y] 469728077062457485352764315554227309838396813452327361610526849
def apg(d:¬gD q (v.getD ((v.length:N)-2).toNat 0)<r)(e:¬gD q (v.getD ((v.length:N)-2).toNat 0)=r)(l:i6 ((v.length:N)-1))(t:0<=(v.length:N)-1)(g:((v.length:N)-1).toNat<v.length)(h:(ca dv (q-1))=(tn q))(j:(↑((r.toNat+(v.getD ((v.length:N)-1).toNat 0).toNat+ea 0)%(2:E)^(64:E)):N)=(dM r (v.getD ((v.length:N)-1).toNat 0) 0))(f:(↑((r.toNat+(v.getD ((v.length:N)-1).toNat 0).toNat+ea 0)/(2:E)^(64:E)):N)=(eL r (v.getD ((v.length:N)-1).toNat 0) 0)):
  aR k8 (fl fU DE) (ir xs v k cap q r o) 69663 .normal lQ (ir xs v k cap (tn q) (dM r (v.getD ((v.length:N)-1).toNat 0) 0) (eL r (v.getD ((v.length:N)-1).toNat 0) 0)):=
 wy [cT Z,yi Y,ag h3,ag h4,aa h5,aa (aL (ab d)),aa (aK (fB.mpr e)),yn e,az d,yi l,ag t,ag g,av h,av j,av f] 23327530390001849591339075209156203297049197881947336833
def aph(d:gD q (v.getD ((v.length:N)-2).toNat 0)<r):
  aR k8 (fl fU DE) (ir xs v k cap q r o) 449 (.exit 0) lQ (ir xs v k cap q r o):=
 wy [cT Z,yi Y,ag h3,ag h4,aa h5,aa (aL (ay d)),ag d] 8180252580288409729
end
def api(xs v:I N)(k:E)(cap:aY)(q r o:N)(d:¬o=0):
  aR k8 (fl fU DE) (ir xs v k cap q r o) 2 (.exit 0) lQ (ir xs v k cap q r o):=
 wy [yn d] 1
section
variable(xs:I N)(k len:E)
def tv:I N:=(xs.drop k).take len
def kK(v:I N):N:=aj (tv xs k len)/aj v
def im(v:I N):I N:=xs.take k++(gg 18446744073709551616 len (aj (tv xs k len)%aj v)++xs.drop (k+len))
def yJ(v:I N):dF:=jz xs&&(jz v&&(bP (2<=v.length)&&(dd len (v.length+1)&&(bP (v.length<=1000000)&&(bP (9223372036854775808<=v.getD (v.length-1) 0)&&bP (aj (tv xs k len)<18446744073709551616*aj v))))))
end
noncomputable def uW:je:={f:=230,e:=178,t:=aF,ps:=[.list ao aF],rs:=[aF],pre:=λxs k len d=>yJ xs k len d.1,out:=λxs k len d=>im xs k len d.1,fn:=λxs k len d=>(kK xs k len d.1,())}
section
variable{p u s:I N}{i:E}
def fi(hi:i<u.length):(p++(u++s)).getD (p.length+i) 0=u.getD i 0:=by
 simp only[ap];rw[I.getElem?_append_right ω,æ,I.getElem?_append_left hi]
def xb{x:N}(hi:i<u.length):(p++(u++s)).set (p.length+i) x=p++(u.set i x++s):=by
 rw[I.set_append_right _ _ ω,æ,I.set_append_left _ _ hi]
def Bc(hi:i<u.length):bx 178 aF (O (.own 178 aF (p++(u++s)))) (p.length+i)=D:=by
 rw[zP];exact ay (by rw[fQ,fQ];omega)
end
def bp.QG{X:Ext}{P:fd}{w0:du}{F:Sv.Env}{n:E}{T:au af}{H:ai}{Q:sC->au af->ai->Prop}(C:gi P)(K:P.follows .mixedOrders=D){bB:bL}(G:bI P (bJ bB)){l:I mN}{fn:Ö}{e:ed}{t:aq}{xs:I t.den}{res:af}(k:E)(j:I dF)(h:(Sv.jJ P bB n (l.take k) T H).path j (w8 P fn e t xs res))
  (L:∀T H,M2 P fn e t xs res .ret T H->Q .ret T H):bc X P w0 F n l T H Q:=by
 obtain⟨r,A,B⟩:=aD.wE _ _ h;have U:bc X P w0 F n (l.take k) T H (iO (λT H=>bc X P w0 F n (l.drop k) T H Q) Q):=by
  refine bp.jJ C K G (qw:=w8 P fn e t xs res) (λr d=>?_) A B;unfold w8 at d;split at d
  .refine L _ _ ?_;rename_i x f;show(match lB P fn x f with |.ok v _=>cV D f v res/\f.get 64=O (.own e t xs)|_=>lm)
   split at d
   .obtain⟨z,g⟩:=d;refine⟨z,?_⟩;split at g
    .rename_i J;obtain⟨M,S⟩:=kA g;obtain⟨y,rfl⟩:=rx S;subst y;rw[J,ac M]
    .exact g.elim
   .exact d.elim
  .exact d.elim
 have:=bp.split U;rwa[pa]at this
def QH:bI em (bJ k8):=dw (aV Qc (aV Y6 eH))
def Y8{q x:N}:gD q x*18446744073709551616+dm q x=q*x:=by
 unfold gD dm;have:=jp (q*x) 18446744073709551616;omega
def Y9{q x:N}(e:0<=q/\q<18446744073709551616)(d:0<=x/\x<18446744073709551616):(0<=gD q x/\gD q x<18446744073709551616)/\(0<=dm q x/\dm q x<18446744073709551616):=by
 have f:0<=q*x:=kv e.1 d.1;have g:q*x<=18446744073709551615*18446744073709551615:=tj ω ω d.1 δ;unfold gD dm;omega
def apv{q x c:N}(e:0<=q/\q<18446744073709551616)(d:0<=x/\x<18446744073709551616)(f:0<=c/\c<18446744073709551616):
  tu q x c*18446744073709551616+mz q x c=q*x+c/\(0<=mz q x c/\mz q x c<18446744073709551616)/\(0<=tu q x c/\tu q x c<18446744073709551616):=by
 have h:0<=q*x:=kv e.1 d.1;have j:q*x<=18446744073709551615*18446744073709551615:=tj ω ω d.1 δ;obtain⟨_,g⟩:=Y9 e d;have t:=Y8 (q:=q) (x:=x);have l:dM (dm q x) c 0+18446744073709551616*eL (dm q x) c 0=dm q x+c/\(0<=dM (dm q x) c 0/\dM (dm q x) c 0<18446744073709551616)/\(eL (dm q x) c 0=0\/eL (dm q x) c 0=1):=by
  have:=Gk g f (.inl rfl);omega
 unfold tu mz;rw[dt (x:=gD q x+eL (dm q x) c 0) ω];omega
structure KD(V U q:N):Prop where
 QI:0<=q/\q<18446744073709551616
 hi:U/V<=q
 lo:(q-1)*V<=U
structure yK(v aG:I N)(q:N)(u:I N)(c b:N)(i:E):Prop where
 le:i<=v.length
 len:u.length=v.length+1
 dg:aS 18446744073709551616 u
 hc:0<=c/\c<18446744073709551616
 hb:b=0\/b=1
 same:∀j,i<=j->u.getD j 0=aG.getD j 0
 val:aj (u.take i)-18446744073709551616^i*b=aj (aG.take i)-q*aj (v.take i)+18446744073709551616^i*c
def yK.next{v aG u:I N}{q c b:N}{i:E}(d:yK v aG q u c b i)(y:aS 18446744073709551616 v)(x:0<=q/\q<18446744073709551616)(hi:i<v.length):
  yK v aG q (u.set i (dV (u.getD i 0) (mz q (v.getD i 0) c) b)) (tu q (v.getD i 0) c) (e4 (u.getD i 0) (mz q (v.getD i 0) c) b) (i+1):=by
 have B:=y.get δ i;have A:=d.dg.get δ i;obtain⟨j,l,h3⟩:=apv x B d.hc;obtain⟨f,g,h⟩:=P8 A l d.hb;have t:=d.len;refine⟨hi,by rw[cm];exact t,d.dg.set g,h3,h,λz C=>?_,?_⟩
 .rw[qM,db ω];exact d.same z ω
 .have e:=d.val;unfold aj at e ⊢;rw[AZ ω,mX aG,mX v,hP,<-d.same i (aC _)];exact aox j f e
structure yM(v aG:I N)(u:I N)(c:N)(i:E):Prop where
 le:i<=v.length
 len:u.length=v.length+1
 dg:aS 18446744073709551616 u
 hc:c=0\/c=1
 same:∀j,i<=j->u.getD j 0=aG.getD j 0
 val:aj (u.take i)+18446744073709551616^i*c=aj (aG.take i)+aj (v.take i)
def yM.next{v aG u:I N}{c:N}{i:E}(d:yM v aG u c i)(l:aS 18446744073709551616 v)(hi:i<v.length):
  yM v aG (u.set i (dM (u.getD i 0) (v.getD i 0) c)) (eL (u.getD i 0) (v.getD i 0) c) (i+1):=by
 have y:=l.get δ i;have x:=d.dg.get δ i;obtain⟨f,g,h⟩:=Gk x y d.hc;have j:=d.len;refine⟨hi,by rw[cm];exact j,d.dg.set g,h,λt z=>?_,?_⟩
 .rw[qM,db ω];exact d.same t ω
 .have e:=d.val;unfold aj at e ⊢;rw[AZ ω,mX aG,mX v,hP,<-d.same i (aC _)];exact P7 f e
section
variable{v aG p s:I N}{m:E}{q:N}
def aS.Za{u:I N}{n:E}(h:aS 18446744073709551616 u)(d:u.length=n+1):u=gg 18446744073709551616 (n+1) (aj u):=by
 have:=Qt (b:=18446744073709551616) δ h;rw[d]at this;exact this
def uY{u:I N}{n:E}(d:u.length=n+1):aj u=aj (u.take n)+18446744073709551616^n*u.getD n 0:=by
 have:=nY (b:=18446744073709551616) (l:=u) (k:=n) ω;rw[eG ω]at this;exact this
def yK.fin{u:I N}{c b:N}(d:yK v aG q u c b v.length)(t:aG.length=v.length+1):
  aj (u.set v.length (dV (u.getD v.length 0) c b))-18446744073709551616^(v.length+1)*e4 (u.getD v.length 0) c b=aj aG-q*aj v/\aS 18446744073709551616 (u.set v.length (dV (u.getD v.length 0) c b))/\(e4 (u.getD v.length 0) c b=0\/e4 (u.getD v.length 0) c b=1)/\(u.set v.length (dV (u.getD v.length 0) c b)).length=v.length+1:=by
 have y:=d.dg.get δ v.length;obtain⟨h,j,l⟩:=P8 y d.hc d.hb;have e:=d.len;refine⟨?_,d.dg.set j,l,by rw[cm];exact e⟩;have x:=d.val;rw[dx]at x;rw[uY (n:=v.length) (by rw[cm];exact e),Dn,yC ω,uY (u:=aG) t,<-d.same v.length (aC _),hP];generalize aj (u.take v.length)=a at*;generalize aj (aG.take v.length)=A at*;generalize dV (u.getD v.length 0) c b=g at*;generalize e4 (u.getD v.length 0) c b=f at*;generalize u.getD v.length 0=z at*;generalize (18446744073709551616:N)^v.length=P at*;generalize q*aj v=B at*;have:P*(g-18446744073709551616*f)=P*(z-c-b):=by rw[h]
 grind
def apw{U V:N}(d:0<V)(G:KD V U q)(h:0<=U-q*V):U/V=q/\U%V=U-q*V:=by
 have f:q<=U/V:=(G' d).2 ω;have g:=G.hi;have e:U/V=q:=by omega
 refine⟨e,?_⟩;have:=jp U V;rw[e,iN]at this;omega
def apx{U V:N}(d:0<V)(G:KD V U q)(h:U-q*V<0):U/V=q-1/\U%V=U-q*V+V:=by
 have f:q-1<=U/V:=(G' d).2 G.lo;have g:U/V<q:=(pA d).2 ω;have e:U/V=q-1:=by omega
 refine⟨e,?_⟩;have:=jp U V;rw[e,iN,sZ,mT]at this;omega
def yM.fin{f u:I N}{c:N}{U R:N}(d:yM v f u c v.length)(F:f.length=v.length+1)(t:aj f=U+18446744073709551616^(v.length+1))(J:U+aj v=R)(M:0<=R)(L:R<18446744073709551616^v.length):
  u.set v.length (ca .u64 (u.getD v.length 0+c))=gg 18446744073709551616 (v.length+1) R:=by
 have K:=d.dg.get δ v.length;have j:=d.len;have A:=d.val;rw[dx]at A;rw[uY F,<-d.same v.length (aC _),hP]at t;have G:=iq (b:=18446744073709551616) δ (d.dg.take v.length);have z:=gY (b:=18446744073709551616) δ (d.dg.take v.length);rw[er,ns ω]at z;have g:=eE (b:=18446744073709551616) δ v.length;have l:u.getD v.length 0+c=18446744073709551616/\aj (u.take v.length)=R:=by
  unfold aj at*;generalize vl 18446744073709551616 (u.take v.length)=a at*;generalize vl 18446744073709551616 (f.take v.length)=H at*;generalize u.getD v.length 0=e at*;generalize (18446744073709551616:N)^v.length=P at*;have x:P*(e+c-18446744073709551616)=R-a:=by grind
  have C:e+c-18446744073709551616=0:=by
   rcases N.lt_trichotomy (e+c-18446744073709551616) 0 with h|h|h
   .have:=ar (show e+c-18446744073709551616<= -1 by omega) (cI g);omega
   .exact h
   .have:=ar (show 1<=e+c-18446744073709551616 by omega) (cI g);omega
  rw[C,Vh]at x;omega
 rw[l.1];have B:ca .u64 18446744073709551616=0:=by rw[tq];rfl
 rw[B];have y:aS 18446744073709551616 (u.set v.length 0):=d.dg.set δ;have:=y.Za (n:=v.length) (by rw[cm];exact j);rw[this];congr 1;rw[uY (n:=v.length) (by rw[cm];exact j),Dn,yC ω,Vh,N.add_zero];exact l.2
end
end
noncomputable section
abbrev Bd(res:I N)(q:N):sC->au af->ai->Prop:=M2 em f230 178 aF res (cG q)
section
variable{v aG p s:I N}
def QJ{q:N}(M:aS 18446744073709551616 v)(a3:aS 18446744073709551616 aG)(a1:aG.length=v.length+1)(e':v.length<=1000000)(L:0<aj v)(G:KD (aj v) (aj aG) q)
  (cap:aY) (r o:N) (A:E->da (E×E)) (Y:E->da Obj) (w:du) (F:Sv.Env):
  bc (sQ A Y) em w F 186 ((fl fU []).drop 7) (ir (p++(aG++s)) v p.length cap q r o).T (ir (p++(aG++s)) v p.length cap q r o).H (Bd (p++(gg 18446744073709551616 (v.length+1) (aj aG%aj v)++s)) (aj aG/aj v)):=by
 have g:=QH;refine dH (s:=ir (p++(aG++s)) v p.length cap q r o) g 2 (wy [] 0:di k8 ((fl fU []).drop 7) 2 (ir (p++(aG++s)) v p.length cap q r o) 1 .normal lQ (lR (p++(aG++s)) v p.length cap q 0 0 0)) ?_;refine c_q {x:I N×N×N×E//yK v aG q x.1 x.2.1 x.2.2.1 x.2.2.2} 2 (cat fU KA) ((fl fU []).drop 10) (λx=>lR (p++(x.1.1++s)) v p.length cap q x.1.2.1 x.1.2.2.1 x.1.2.2.2) (λx=>v.length-x.1.2.2.2)
  ⟨(aG,0,0,0),⟨gt _,a1,a3,⟨vc 0,show(0:N)<18446744073709551616 by decide⟩,.inl rfl,λ_ _=>rfl,by simp[aj,vl]⟩⟩ ?_
 rintro⟨⟨u,c,b,i⟩,t⟩;have t:yK v aG q u c b i:=t;have c7:=t.len;by_cases W:i<v.length
 .have a4:=t.next M G.QI W;have c1:=M.get δ i;have y:∃j:{x:I N×N×N×E//yK v aG q x.1 x.2.1 x.2.2.1 x.2.2.2},v.length-j.1.2.2.2<v.length-i/\
    (lR ((p++(u++s)).set (p.length+i) (dV ((p++(u++s)).getD (p.length+i) 0) (mz q (v.getD i 0) c) b)) v p.length cap q (tu q (v.getD i 0) c) (e4 ((p++(u++s)).getD (p.length+i) 0) (mz q (v.getD i 0) c) b) (i+1)).T=(lR (p++(j.1.1++s)) v p.length cap q j.1.2.1 j.1.2.2.1 j.1.2.2.2).T/\
    (lR ((p++(u++s)).set (p.length+i) (dV ((p++(u++s)).getD (p.length+i) 0) (mz q (v.getD i 0) c) b)) v p.length cap q (tu q (v.getD i 0) c) (e4 ((p++(u++s)).getD (p.length+i) 0) (mz q (v.getD i 0) c) b) (i+1)).H=(lR (p++(j.1.1++s)) v p.length cap q j.1.2.1 j.1.2.2.1 j.1.2.2.2).H:=by
   rw[fi (p:=p) (s:=s) (show i<u.length by omega),xb (p:=p) (s:=s) (show i<u.length by omega)];exact⟨⟨(_,_,_,i+1),a4⟩,by simp;omega,rfl,rfl⟩
  have C:bx 178 aF (O (.own 178 aF (p++(u++s)))) (p.length+i)=D:=Bc ω;have a2:=qe.2 ⟨G.QI,c1⟩;rcases t.hb with hb|hb
  .subst hb;exact aT (s:=lR (p++(u++s)) v p.length cap q c 0 i) g (wy [ag (ω:(i:N)<(v.length:N)),ag W,aa a2,ag (ω:i<v.length+(1:E)),aa C,yi (ω:i6 ((i:N)+1)),av (rfl:(↑(if ea ((p++(u++s)).getD (p.length+i) (0:N))<((dm q (v.getD i (0:N))).toNat+c.toNat+(0:N).toNat)%(2:E)^(64:E)+ea (0:N)then(1:E)else(0:E)):N)=(e4 ((p++(u++s)).getD (p.length+i) (0:N)) (mz q (v.getD i (0:N)) c) (0:N))),av (rfl:(ca dv (gD q (v.getD i (0:N))+(↑(((dm q (v.getD i (0:N))).toNat+c.toNat+(0:N).toNat)/(2:E)^(64:E)):N)))=(tu q (v.getD i (0:N)) c)),av (rfl:((p++(u++s)).set (p.length+i) (↑((((p++(u++s)).getD (p.length+i) (0:N)).toNat+(2:E)^(64:E)-((dm q (v.getD i (0:N))).toNat+c.toNat+(0:N).toNat)%(2:E)^(64:E)-ea (0:N))%(2:E)^(64:E)):N))=((p++(u++s)).set (p.length+i) (dV ((p++(u++s)).getD (p.length+i) (0:N)) (mz q (v.getD i (0:N)) c) (0:N))))] 765637957214757616603839101145321316353:aR k8 (fl fU KA) (lR (p++(u++s)) v p.length cap q c 0 i) 3 .normal lQ (lR ((p++(u++s)).set (p.length+i) (dV ((p++(u++s)).getD (p.length+i) 0) (mz q (v.getD i 0) c) 0)) v p.length cap q (tu q (v.getD i 0) c) (e4 ((p++(u++s)).getD (p.length+i) 0) (mz q (v.getD i 0) c) 0) (i+1))) y
  .subst hb;exact aT (s:=lR (p++(u++s)) v p.length cap q c 1 i) g (wy [ag (ω:(i:N)<(v.length:N)),ag W,aa a2,ag (ω:i<v.length+(1:E)),aa C,yi (ω:i6 ((i:N)+1)),av (rfl:(↑(if ea ((p++(u++s)).getD (p.length+i) (0:N))<((dm q (v.getD i (0:N))).toNat+c.toNat+(0:N).toNat)%(2:E)^(64:E)+ea (1:N)then(1:E)else(0:E)):N)=(e4 ((p++(u++s)).getD (p.length+i) (0:N)) (mz q (v.getD i (0:N)) c) (1:N))),av (rfl:(ca dv (gD q (v.getD i (0:N))+(↑(((dm q (v.getD i (0:N))).toNat+c.toNat+(0:N).toNat)/(2:E)^(64:E)):N)))=(tu q (v.getD i (0:N)) c)),av (rfl:((p++(u++s)).set (p.length+i) (↑((((p++(u++s)).getD (p.length+i) (0:N)).toNat+(2:E)^(64:E)-((dm q (v.getD i (0:N))).toNat+c.toNat+(0:N).toNat)%(2:E)^(64:E)-ea (1:N))%(2:E)^(64:E)):N))=((p++(u++s)).set (p.length+i) (dV ((p++(u++s)).getD (p.length+i) (0:N)) (mz q (v.getD i (0:N)) c) (1:N))))] 765637957214757616603839101145321316353:aR k8 (fl fU KA) (lR (p++(u++s)) v p.length cap q c 1 i) 3 .normal lQ (lR ((p++(u++s)).set (p.length+i) (dV ((p++(u++s)).getD (p.length+i) 0) (mz q (v.getD i 0) c) 1)) v p.length cap q (tu q (v.getD i 0) c) (e4 ((p++(u++s)).getD (p.length+i) 0) (mz q (v.getD i 0) c) 1) (i+1))) y
 .refine aT (s:=lR (p++(u++s)) v p.length cap q c b i) g (wy [az (ω:¬(i:N)<(v.length:N))] 1:aR k8 (fl fU KA) (lR (p++(u++s)) v p.length cap q c b i) 2 (.exit 2) lQ (lR (p++(u++s)) v p.length cap q c b i)) ?_;refine bY (cg ?_);have c4:=t.le;obtain rfl:i=v.length:=by omega
  obtain⟨f1,f2,f3,f4⟩:=t.fin a1;have C:bx 178 aF (O (.own 178 aF (p++(u++s)))) (p.length+v.length)=D:=Bc ω
  -- the rest, from the state with the borrow
  have c':∀e h,e=u.set v.length (dV (u.getD v.length 0) c b)->h=e4 (u.getD v.length 0) c b->
    bc (sQ A Y) em w F 186 ((fl fU []).drop 11) (w9 (p++(e++s)) v p.length cap q h).T (w9 (p++(e++s)) v p.length cap q h).H (Bd (p++(gg 18446744073709551616 (v.length+1) (aj aG%aj v)++s)) (aj aG/aj v)):=by
   intro e h e1 e2;rw[<-e1,<-e2]at f1;rw[<-e1]at f2 f4;rw[<-e2]at f3;have d':=iq (b:=18446744073709551616) δ f2;have b':=gY (b:=18446744073709551616) δ f2;rw[f4]at b';by_cases B:h=0
   .have b3:0<=aj aG-q*aj v:=by
     rw[B,Vh]at f1;unfold aj at*;omega
    obtain⟨K,g2⟩:=apw L G b3;have e3:aj e=aj aG-q*aj v:=by rw[B,Vh]at f1;omega
    have a0:=f2.Za f4;rw[e3,<-g2]at a0;rw[K,<-a0];exact bp.QG known mixed g 8 _ (wy [cT B,nU (an (rr (q)) (rr ((p++(e++s)))))] 129:aD.path (pD em k8 ((fl fU []).drop 11) (w9 (p++(e++s)) v p.length cap q h)) (dl 3) (w8 em f230 178 aF (p++(e++s)) (cG q))) λT H S=>S
   .have a9:h=1:=f3.resolve_left B;rw[a9,Cu]at f1;have b2:aj aG-q*aj v<0:=by unfold aj at*;omega
    obtain⟨K,g2⟩:=apx L G b2;have c0:=fC (aj aG) (show aj v≠0 by omega);have e0:=fZ (aj aG) L;have c3:=gY (b:=18446744073709551616) δ M;refine dH (s:=w9 (p++(e++s)) v p.length cap q h) g 4 (wy [yn B] 1:di k8 ((fl fU []).drop 11) 4 (w9 (p++(e++s)) v p.length cap q h) 2 .normal lQ (mq (p++(e++s)) v p.length cap q 0 0)) ?_;refine c_q {x:I N×N×E//yM v e x.1 x.2.1 x.2.2} 4 (cat fU KB) ((fl fU []).drop 16) (λx=>mq (p++(x.1.1++s)) v p.length cap q x.1.2.1 x.1.2.2) (λx=>v.length-x.1.2.2)
     ⟨(e,0,0),⟨gt _,f4,f2,.inl rfl,λ_ _=>rfl,by simp[aj,vl]⟩⟩ ?_
    rintro⟨⟨d,f,j⟩,J⟩;have J:yM v e d f j:=J;have U2:=J.len;by_cases a':j<v.length
    .have a6:=J.next M a';have P:bx 178 aF (O (.own 178 aF (p++(d++s)))) (p.length+j)=D:=Bc ω;have y:∃z:{x:I N×N×E//yM v e x.1 x.2.1 x.2.2},v.length-z.1.2.2<v.length-j/\
       (mq ((p++(d++s)).set (p.length+j) (dM ((p++(d++s)).getD (p.length+j) 0) (v.getD j 0) f)) v p.length cap q (eL ((p++(d++s)).getD (p.length+j) 0) (v.getD j 0) f) (j+1)).T=(mq (p++(z.1.1++s)) v p.length cap q z.1.2.1 z.1.2.2).T/\
       (mq ((p++(d++s)).set (p.length+j) (dM ((p++(d++s)).getD (p.length+j) 0) (v.getD j 0) f)) v p.length cap q (eL ((p++(d++s)).getD (p.length+j) 0) (v.getD j 0) f) (j+1)).H=(mq (p++(z.1.1++s)) v p.length cap q z.1.2.1 z.1.2.2).H:=by
      rw[fi (p:=p) (s:=s) (show j<d.length by omega),xb (p:=p) (s:=s) (show j<d.length by omega)];exact⟨⟨(_,_,j+1),a6⟩,by simp;omega,rfl,rfl⟩
     rcases J.hc with V|V
     .subst V;exact aT (s:=mq (p++(d++s)) v p.length cap q 0 j) g (wy [ag (ω:(j:N)<(v.length:N)),ag (ω:j<v.length+1),aa P,aa (aI (v:=af.raw (Value.int dv ((p++(d++s)).getD (p.length+j) (0:N))))),ag a',aa (aI (v:=af.raw (Value.int dv (v.getD j (0:N))))),yi (ω:i6 ((j:N)+1)),av (rfl:(↑((((p++(d++s)).getD (p.length+j) 0).toNat+(v.getD j 0).toNat+ea 0)/(2:E)^(64:E)):N)=(eL ((p++(d++s)).getD (p.length+j) 0) (v.getD j 0) 0)),av (rfl:((p++(d++s)).set (p.length+j) (↑((((p++(d++s)).getD (p.length+j) 0).toNat+(v.getD j 0).toNat+ea 0)%(2:E)^(64:E)):N))=((p++(d++s)).set (p.length+j) (dM ((p++(d++s)).getD (p.length+j) 0) (v.getD j 0) 0)))] 49000826990114611886490290308882841214977:aR k8 (fl fU KB) (mq (p++(d++s)) v p.length cap q 0 j) 3 .normal lQ (mq ((p++(d++s)).set (p.length+j) (dM ((p++(d++s)).getD (p.length+j) 0) (v.getD j 0) 0)) v p.length cap q (eL ((p++(d++s)).getD (p.length+j) 0) (v.getD j 0) 0) (j+1))) y
     .subst V;exact aT (s:=mq (p++(d++s)) v p.length cap q 1 j) g (wy [ag (ω:(j:N)<(v.length:N)),ag (ω:j<v.length+1),aa P,aa (aI (v:=af.raw (Value.int dv ((p++(d++s)).getD (p.length+j) (0:N))))),ag a',aa (aI (v:=af.raw (Value.int dv (v.getD j (0:N))))),yi (ω:i6 ((j:N)+1)),av (rfl:(↑((((p++(d++s)).getD (p.length+j) 0).toNat+(v.getD j 0).toNat+ea 1)/(2:E)^(64:E)):N)=(eL ((p++(d++s)).getD (p.length+j) 0) (v.getD j 0) 1)),av (rfl:((p++(d++s)).set (p.length+j) (↑((((p++(d++s)).getD (p.length+j) 0).toNat+(v.getD j 0).toNat+ea 1)%(2:E)^(64:E)):N))=((p++(d++s)).set (p.length+j) (dM ((p++(d++s)).getD (p.length+j) 0) (v.getD j 0) 1)))] 49000826990114611886490290308882841214977:aR k8 (fl fU KB) (mq (p++(d++s)) v p.length cap q 1 j) 3 .normal lQ (mq ((p++(d++s)).set (p.length+j) (dM ((p++(d++s)).getD (p.length+j) 0) (v.getD j 0) 1)) v p.length cap q (eL ((p++(d++s)).getD (p.length+j) 0) (v.getD j 0) 1) (j+1))) y
    .refine aT (s:=mq (p++(d++s)) v p.length cap q f j) g (wy [az (ω:¬(j:N)<(v.length:N))] 1:aR k8 (fl fU KB) (mq (p++(d++s)) v p.length cap q f j) 2 (.exit 4) lQ (mq (p++(d++s)) v p.length cap q f j)) ?_;refine bY (cg ?_);have c5:=J.le;obtain rfl:j=v.length:=by omega
     have P:bx 178 aF (O (.own 178 aF (p++(d++s)))) (p.length+v.length)=D:=Bc ω;have b4:=J.fin f4 (U:=aj aG-q*aj v) (R:=aj aG%aj v) ω ω c0 (by unfold aj at*;omega);have a5:tn q=aj aG/aj v:=by
      rw[K];unfold tn;refine dt ⟨?_,by have:=G.QI;omega⟩;rw[<-K];exact jN (iq δ a3) (cI L)
     have:=bp.QG (X:=sQ A Y) (w0:=w) (F:=F) (l:=(fl fU []).drop 16) (n:=186) (T:=(mq (p++(d++s)) v p.length cap q f v.length).T) (H:=(mq (p++(d++s)) v p.length cap q f v.length).H) (Q:=Bd ((p++(d++s)).set (p.length+v.length) (ca .u64 ((p++(d++s)).getD (p.length+v.length) 0+f))) (tn q)) known mixed g 8 _ (wy [ag (by omega:v.length<v.length+(1:E)),aa P,nU (an (rfl:(ca dv (q-1))=(tn q)) (rr ((p++(d++s)).set (p.length+v.length) (ca dv ((p++(d++s)).getD (p.length+v.length) (0:N)+f)))))] 208322699328:aD.path (pD em k8 ((fl fU []).drop 16) (mq (p++(d++s)) v p.length cap q f v.length)) (dl 1) (w8 em f230 178 aF ((p++(d++s)).set (p.length+v.length) (ca .u64 ((p++(d++s)).getD (p.length+v.length) 0+f))) (cG (tn q)))) λT H S=>S
     rw[fi (p:=p) (s:=s) (show v.length<d.length by omega),xb (p:=p) (s:=s) (show v.length<d.length by omega),b4,a5]at this;exact this
  have y:∀T H,(w9 ((p++(u++s)).set (p.length+v.length) (dV ((p++(u++s)).getD (p.length+v.length) 0) c b)) v p.length cap q (e4 ((p++(u++s)).getD (p.length+v.length) 0) c b)).T=T->(w9 ((p++(u++s)).set (p.length+v.length) (dV ((p++(u++s)).getD (p.length+v.length) 0) c b)) v p.length cap q (e4 ((p++(u++s)).getD (p.length+v.length) 0) c b)).H=H->
    bc (sQ A Y) em w F 186 ((fl fU []).drop 11) T H (Bd (p++(gg 18446744073709551616 (v.length+1) (aj aG%aj v)++s)) (aj aG/aj v)):=by
   rw[fi (p:=p) (s:=s) (show v.length<u.length by omega),xb (p:=p) (s:=s) (show v.length<u.length by omega)];rintro T H rfl rfl;exact c' _ _ rfl rfl
  rcases t.hb with hb|hb
  .subst hb;exact dH (s:=lR (p++(u++s)) v p.length cap q c 0 v.length) g 1 (wy [ag (by omega:v.length<v.length+(1:E)),aa C,av (rfl:(↑(if ea ((p++(u++s)).getD (p.length+v.length) (0:N))<c.toNat+ea (0:N)then(1:E)else(0:E)):N)=(e4 ((p++(u++s)).getD (p.length+v.length) (0:N)) c (0:N))),av (rfl:((p++(u++s)).set (p.length+v.length) (↑((((p++(u++s)).getD (p.length+v.length) (0:N)).toNat+(2:E)^(64:E)-ea c-ea (0:N))%(2:E)^(64:E)):N))=((p++(u++s)).set (p.length+v.length) (dV ((p++(u++s)).getD (p.length+v.length) (0:N)) c (0:N))))] 1223092919063240274616384:di k8 ((fl fU []).drop 10) 1 (lR (p++(u++s)) v p.length cap q c 0 v.length) 1 .normal lQ (w9 ((p++(u++s)).set (p.length+v.length) (dV ((p++(u++s)).getD (p.length+v.length) 0) c 0)) v p.length cap q (e4 ((p++(u++s)).getD (p.length+v.length) 0) c 0))) (y _ _ rfl rfl)
  .subst hb;exact dH (s:=lR (p++(u++s)) v p.length cap q c 1 v.length) g 1 (wy [ag (by omega:v.length<v.length+(1:E)),aa C,av (rfl:(↑(if ea ((p++(u++s)).getD (p.length+v.length) (0:N))<c.toNat+ea (1:N)then(1:E)else(0:E)):N)=(e4 ((p++(u++s)).getD (p.length+v.length) (0:N)) c (1:N))),av (rfl:((p++(u++s)).set (p.length+v.length) (↑((((p++(u++s)).getD (p.length+v.length) (0:N)).toNat+(2:E)^(64:E)-ea c-ea (1:N))%(2:E)^(64:E)):N))=((p++(u++s)).set (p.length+v.length) (dV ((p++(u++s)).getD (p.length+v.length) (0:N)) c (1:N))))] 1223092919063240274616384:di k8 ((fl fU []).drop 10) 1 (lR (p++(u++s)) v p.length cap q c 1 v.length) 1 .normal lQ (w9 ((p++(u++s)).set (p.length+v.length) (dV ((p++(u++s)).getD (p.length+v.length) 0) c 1)) v p.length cap q (e4 ((p++(u++s)).getD (p.length+v.length) 0) c 1))) (y _ _ rfl rfl)
def Zb{m:E}(g:aS 18446744073709551616 v)(y:aS 18446744073709551616 aG)(J:aG.length=v.length+1)(L:v.length=m+2)(M:v.length<=1000000)(h1:9223372036854775808<=v.getD (m+1) 0)(c2:aj aG<18446744073709551616*aj v)
  (cap:aY) (q r o:N) (d:0<=q/\q<18446744073709551616) (l:0<=r/\r<18446744073709551616) (h:o=0\/o=1) (f:aj aG/aj v<=q) (he:q*v.getD (m+1) 0+(r+18446744073709551616*o)=aG.getD (m+2) 0*18446744073709551616+aG.getD (m+1) 0)
  (A:E->da (E×E)) (Y:E->da Obj) (w:du) (F:Sv.Env):
  bc (sQ A Y) em w F 186 ((fl fU []).drop 6) (ir (p++(aG++s)) v p.length cap q r o).T (ir (p++(aG++s)) v p.length cap q r o).H (Bd (p++(gg 18446744073709551616 (v.length+1) (aj aG%aj v)++s)) (aj aG/aj v)):=by
 have z:=QH;have P:=Qu (b:=18446744073709551616) δ y g (n:=m) ω L ω;have a2:=Qv (b:=18446744073709551616) L;have S:=Qw (b:=18446744073709551616) (u:=aG) (n:=m) ω;have B:0<aj v:=by
  have h2:=uY (u:=v) (n:=m+1) L;have h3:=iq (b:=18446744073709551616) δ (g.take (m+1));have h4:=G8 (eE (b:=18446744073709551616) δ (m+1)) (show 0<v.getD (m+1) 0 by omega);unfold aj at h2 ⊢;omega
 have a9:0<=aj aG:=iq δ y;have c5:0<=aj aG/aj v:=jN a9 (cI B);have a3:aj aG/aj v*aj v<=aj aG:=Û _ ω;have b1:((v.length:N)-1).toNat=m+1:=by omega
 have e:((v.length:N)-2).toNat=m:=by omega
 have b':=g.get δ (m+1);have U:=g.get δ m
 -- the digit that passes the test
 have Q:∀q r o:N,0<=q/\q<18446744073709551616->aj aG/aj v<=q->q*v.getD (m+1) 0+(r+18446744073709551616*o)=aG.getD (m+2) 0*18446744073709551616+aG.getD (m+1) 0->q*v.getD m 0<=(r+18446744073709551616*o)*18446744073709551616+aG.getD m 0->KD (aj v) (aj aG) q:=λq r o d f he a6=>by
  refine⟨d,f,?_⟩;have:=vy P (t:=q) d (by rw[show aG.getD (m+2) 0*18446744073709551616+aG.getD (m+1) 0-q*v.getD (m+1) 0=r+18446744073709551616*o by omega];exact a6);rw[a2,S]at this;exact this
 refine c_q {x:N×N×N//(0<=x.1/\x.1<18446744073709551616)/\(0<=x.2.1/\x.2.1<18446744073709551616)/\(x.2.2=0\/x.2.2=1)/\aj aG/aj v<=x.1/\x.1*v.getD (m+1) 0+(x.2.1+18446744073709551616*x.2.2)=aG.getD (m+2) 0*18446744073709551616+aG.getD (m+1) 0} 0 (cat fU DE) ((fl fU []).drop 7) (λx=>ir (p++(aG++s)) v p.length cap x.1.1 x.1.2.1 x.1.2.2) (λx=>x.1.1.toNat) ⟨(q,r,o),d,l,h,f,he⟩ ?_;clear d l h f he;rintro⟨⟨q,r,o⟩,d,l,h,f,he⟩;have d:0<=q/\q<18446744073709551616:=d;have l:0<=r/\r<18446744073709551616:=l;have h:o=0\/o=1:=h;have f:aj aG/aj v<=q:=f;have he:q*v.getD (m+1) 0+(r+18446744073709551616*o)=aG.getD (m+2) 0*18446744073709551616+aG.getD (m+1) 0:=he;have a5:=qe.2 ⟨d,U⟩;have C:nc q (v.getD ((v.length:N)-2).toNat 0)=D:=by rw[e];exact a5
 have b3:=Y8 (q:=q) (x:=v.getD m 0);obtain⟨c0,c1⟩:=Y9 d U;have b4:=y.get δ m;have a0:bx 178 aF (O (.own 178 aF (p++(aG++s)))) (p.length+((v.length:N)-2).toNat)=D:=by rw[e];exact Bc ω
 have W:(p++(aG++s)).getD (p.length+m) 0=aG.getD m 0:=fi ω;by_cases H:o=0
 .subst H
  -- the next guess
  have next:¬(q*v.getD m 0<=(r+18446744073709551616*0)*18446744073709551616+aG.getD m 0)->∃j:{x:N×N×N//(0<=x.1/\x.1<18446744073709551616)/\(0<=x.2.1/\x.2.1<18446744073709551616)/\(x.2.2=0\/x.2.2=1)/\aj aG/aj v<=x.1/\x.1*v.getD (m+1) 0+(x.2.1+18446744073709551616*x.2.2)=aG.getD (m+2) 0*18446744073709551616+aG.getD (m+1) 0},j.1.1.toNat<q.toNat/\
    (ir (p++(aG++s)) v p.length cap (tn q) (dM r (v.getD ((v.length:N)-1).toNat 0) 0) (eL r (v.getD ((v.length:N)-1).toNat 0) 0)).T=(ir (p++(aG++s)) v p.length cap j.1.1 j.1.2.1 j.1.2.2).T/\
    (ir (p++(aG++s)) v p.length cap (tn q) (dM r (v.getD ((v.length:N)-1).toNat 0) 0) (eL r (v.getD ((v.length:N)-1).toNat 0) 0)).H=(ir (p++(aG++s)) v p.length cap j.1.1 j.1.2.1 j.1.2.2).H:=λc3=>by
   have c':=Yk P (t:=q) (q:=aj aG/aj v) d.1 (by rw[a2,S];exact a3) (by rw[show aG.getD (m+2) 0*18446744073709551616+aG.getD (m+1) 0-q*v.getD (m+1) 0=r+18446744073709551616*0 by omega];omega);obtain⟨g1,g2,g3⟩:=Gk (a:=r) (b:=v.getD (m+1) 0) (c:=0) l b' (.inl rfl);have a4:tn q=q-1:=dt ω;rw[b1,a4];generalize dM r (v.getD (m+1) 0) 0=a1 at*;generalize eL r (v.getD (m+1) 0) 0=T at*;refine⟨⟨(q-1,a1,T),by show 0<=q-1/\q-1<_;omega,g2,g3,by show _<=q-1;omega,?_⟩,by show(q-1).toNat<q.toNat;omega,rfl,rfl⟩;show(q-1)*v.getD (m+1) 0+(a1+18446744073709551616*T)=aG.getD (m+2) 0*18446744073709551616+aG.getD (m+1) 0;have c4:(q-1)*v.getD (m+1) 0=q*v.getD (m+1) 0-v.getD (m+1) 0:=by rw[sZ,mT]
   omega
  by_cases G:gD q (v.getD m 0)<r
  .refine aT (s:=ir (p++(aG++s)) v p.length cap q r 0) z (aph (p++(aG++s)) v p.length cap q r 0 rfl ω ω ω C (by rw[e];exact G)) ?_;refine bY (cg ?_);exact QJ g y J M B (Q q r 0 d f he ω) cap r 0 A Y w F
  .by_cases K:gD q (v.getD m 0)=r
   .by_cases a':dm q (v.getD m 0)<=aG.getD m 0
    .refine aT (s:=ir (p++(aG++s)) v p.length cap q r 0) z (ape (p++(aG++s)) v p.length cap q r 0 rfl ω ω ω C (by rw[e];exact G) (by rw[e];exact K) a0 (by rw[e,W];exact a')) ?_;refine bY (cg ?_);exact QJ g y J M B (Q q r 0 d f he ω) cap r 0 A Y w F
    .exact aT (s:=ir (p++(aG++s)) v p.length cap q r 0) z (apf (p++(aG++s)) v p.length cap q r 0 rfl ω ω ω C (by rw[e];exact G) (by rw[e];exact K) a0 (by rw[e,W];exact a') ω ω ω rfl rfl rfl) (next ω)
   .exact aT (s:=ir (p++(aG++s)) v p.length cap q r 0) z (apg (p++(aG++s)) v p.length cap q r 0 rfl ω ω ω C (by rw[e];exact G) (by rw[e];exact K) ω ω ω rfl rfl rfl) (next ω)
 .have b2:o=1:=h.resolve_left H;refine aT (s:=ir (p++(aG++s)) v p.length cap q r o) z (api (p++(aG++s)) v p.length cap q r o H) ?_;refine bY (cg ?_);have V:=Yl P (t:=q) d (by rw[show aG.getD (m+2) 0*18446744073709551616+aG.getD (m+1) 0-q*v.getD (m+1) 0=r+18446744073709551616*o by omega];omega);rw[show aG.getD (m+2) 0*18446744073709551616+aG.getD (m+1) 0-q*v.getD (m+1) 0=r+18446744073709551616*o by omega]at V;exact QJ g y J M B (Q q r o d f he V) cap r o A Y w F
def apz{m:E}(f:aS 18446744073709551616 v)(d:aS 18446744073709551616 aG)(B:aG.length=v.length+1)(e:v.length=m+2)(L:v.length<=1000000)(C:9223372036854775808<=v.getD (m+1) 0)(l:aj aG<18446744073709551616*aj v)
  (cap:aY) (A:E->da (E×E)) (Y:E->da Obj) (w:du) (F:Sv.Env):
  bc (sQ A Y) em w F 186 (fl fU []) (gI [Bb v p.length cap,bN v] .nil 0) (sR 178 aF (p++(aG++s))) (Bd (p++(gg 18446744073709551616 (v.length+1) (aj aG%aj v)++s)) (aj aG/aj v)):=by
 have G:=QH;have P:=Qu (b:=18446744073709551616) δ d f (n:=m) ω e ω;have a':=Qv (b:=18446744073709551616) e;have T:=Qw (b:=18446744073709551616) (u:=aG) (n:=m) ω;have H:0<aj v:=by
  have g:=uY (u:=v) (n:=m+1) e;have h3:=iq (b:=18446744073709551616) δ (f.take (m+1));have h4:=G8 (eE (b:=18446744073709551616) δ (m+1)) (show 0<v.getD (m+1) 0 by omega);unfold aj at g ⊢;omega
 have g:0<=aj aG:=iq δ d;have a0:0<=aj aG/aj v:=jN g (cI H);have U:aj aG/aj v*aj v<=aj aG:=Û _ ω;have g:aj aG/aj v<18446744073709551616:=(pA H).2 l;have g:((v.length:N)-1).toNat=m+1:=by omega
 have S:=f.get δ (m+1);have H:=d.get δ (m+2);have K:=d.get δ (m+1);have h:p.length+v.length=p.length+(m+2):=by omega
 have j:(p++(aG++s)).getD (p.length+v.length) 0=aG.getD (m+2) 0:=by rw[h];exact fi ω
 have y:(p++(aG++s)).getD (p.length+(m+1)) 0=aG.getD (m+1) 0:=fi ω;have M:bx 178 aF (O (.own 178 aF (p++(aG++s)))) (p.length+v.length)=D:=Bc ω;have Q:bx 178 aF (O (.own 178 aF (p++(aG++s)))) (p.length+((v.length:N)-1).toNat)=D:=by rw[g];exact Bc ω
 by_cases J:aG.getD (m+2) 0>=v.getD (m+1) 0
 .have h:aG.getD (m+2) 0<=v.getD (m+1) 0:=by
   have h:=uY (u:=aG) (n:=m+2) ω;have t:=iq (b:=18446744073709551616) δ (d.take (m+2));have V:=uY (u:=v) (n:=m+1) e;have W:=gY (b:=18446744073709551616) δ (f.take (m+1));rw[er,ns ω]at W;have x:=eE (b:=18446744073709551616) δ (m+1);rw[show m+2=m+1+1 from rfl,hP]at h;rw[show m+1+1=m+2 from rfl]at h;unfold aj at h V l;generalize vl 18446744073709551616 (aG.take (m+2))=t at*;generalize vl 18446744073709551616 (v.take (m+1))=t at*;generalize aG.getD (m+2) 0=t at*;generalize v.getD (m+1) 0=z at*;generalize (18446744073709551616:N)^(m+1)=P at*;refine N.not_lt.1 λV=>?_
   have V:=ar (show z+1<=t by omega) (cI x);rw[oB,Cu]at V;have x:P*18446744073709551616*t=18446744073709551616*(P*t):=by grind
   rw[x]at h;generalize P*t=h at*;generalize P*z=h at*;omega
  obtain⟨h,t,x⟩:=Gk (a:=aG.getD (m+1) 0) (b:=v.getD (m+1) 0) (c:=0) K S (.inl rfl);refine cE G 6 (wy [ag (by omega:v.length<v.length+(1:E)),aa M,aa (aI (v:=af.raw (Value.int dv ((p++(aG++s)).getD (p.length+v.length) (0:N))))),yi (ω:i6 ((v.length:N)-1)),ag (ω:0<=(v.length:N)-1),ag (ω:((v.length:N)-1).toNat<v.length),aa (aI (v:=af.raw (Value.int dv (v.getD ((v.length:N)-(1:N)).toNat (0:N))))),ag (show(p++(aG++s)).getD (p.length+v.length) 0>=v.getD ((v.length:N)-1).toNat 0 from by rw[j,g];exact J),ag (by omega:((v.length:N)-(1:N)).toNat<v.length+(1:E)),aa Q,aa (aI (v:=af.raw (Value.int dv ((p++(aG++s)).getD (p.length+((v.length:N)-(1:N)).toNat) (0:N))))),av (rfl:(↑((((p++(aG++s)).getD (p.length+((v.length:N)-1).toNat) 0).toNat+(v.getD ((v.length:N)-1).toNat 0).toNat+ea 0)%(2:E)^(64:E)):N)=(dM ((p++(aG++s)).getD (p.length+((v.length:N)-1).toNat) 0) (v.getD ((v.length:N)-1).toNat 0) 0)),av (rfl:(↑((((p++(aG++s)).getD (p.length+((v.length:N)-1).toNat) 0).toNat+(v.getD ((v.length:N)-1).toNat 0).toNat+ea 0)/(2:E)^(64:E)):N)=(eL ((p++(aG++s)).getD (p.length+((v.length:N)-1).toNat) 0) (v.getD ((v.length:N)-1).toNat 0) 0))] 77094211369205276292351474339892351805825363746880:aD.path (jJ em k8 186 ((fl fU []).take 6) (gI [Bb v p.length cap,bN v] .nil 0) (sR 178 aF (p++(aG++s)))) (dl 3) (fy em 186 .normal lQ (ir (p++(aG++s)) v p.length cap 18446744073709551615 (dM ((p++(aG++s)).getD (p.length+((v.length:N)-1).toNat) 0) (v.getD ((v.length:N)-1).toNat 0) 0) (eL ((p++(aG++s)).getD (p.length+((v.length:N)-1).toNat) 0) (v.getD ((v.length:N)-1).toNat 0) 0)))) ?_;rw[g,y];refine Zb f d B e L C l cap _ _ _ δ t x ω ?_ A Y w F;rw[h];omega
 .have x:0<v.getD (m+1) 0:=by omega
  have h:w6 (aG.getD (m+2) 0) (aG.getD (m+1) 0) (v.getD (m+1) 0)=D:=by
   unfold w6;rw[yI.2 K,yI.2 S,ay H.1,ay (show aG.getD (m+2) 0<v.getD (m+1) 0 by omega)];rfl
  refine cE G 6 (wy [ag (by omega:v.length<v.length+(1:E)),aa M,aa (aI (v:=af.raw (Value.int dv ((p++(aG++s)).getD (p.length+v.length) (0:N))))),yi (ω:i6 ((v.length:N)-1)),ag (ω:0<=(v.length:N)-1),ag (ω:((v.length:N)-1).toNat<v.length),aa (aI (v:=af.raw (Value.int dv (v.getD ((v.length:N)-(1:N)).toNat (0:N))))),az (show ¬(p++(aG++s)).getD (p.length+v.length) 0>=v.getD ((v.length:N)-1).toNat 0 from by rw[j,g];exact J),ag (by omega:((v.length:N)-(1:N)).toNat<v.length+(1:E)),aa Q,aa (aI (v:=af.raw (Value.int dv ((p++(aG++s)).getD (p.length+((v.length:N)-(1:N)).toNat) (0:N))))),aa (show(w6 ((p++(aG++s)).getD (p.length+v.length) 0) ((p++(aG++s)).getD (p.length+((v.length:N)-1).toNat) 0) (v.getD ((v.length:N)-1).toNat 0))=D from by rw[j,g,y];exact h)] 17285195801427806826710116508223698747578130496:aD.path (jJ em k8 186 ((fl fU []).take 6) (gI [Bb v p.length cap,bN v] .nil 0) (sR 178 aF (p++(aG++s)))) (dl 2) (fy em 186 .normal lQ (ir (p++(aG++s)) v p.length cap (mo ((p++(aG++s)).getD (p.length+v.length) 0) ((p++(aG++s)).getD (p.length+((v.length:N)-1).toNat) 0) (v.getD ((v.length:N)-1).toNat 0)) (qL ((p++(aG++s)).getD (p.length+v.length) 0) ((p++(aG++s)).getD (p.length+((v.length:N)-1).toNat) 0) (v.getD ((v.length:N)-1).toNat 0)) 0))) ?_;rw[g,y,j];have g:=jp (aG.getD (m+2) 0*18446744073709551616+aG.getD (m+1) 0) (v.getD (m+1) 0);have t:=fC (aG.getD (m+2) 0*18446744073709551616+aG.getD (m+1) 0) (show v.getD (m+1) 0≠0 by omega);have g:=fZ (aG.getD (m+2) 0*18446744073709551616+aG.getD (m+1) 0) x;have g:0<=mo (aG.getD (m+2) 0) (aG.getD (m+1) 0) (v.getD (m+1) 0):=jN ω ω;have h:mo (aG.getD (m+2) 0) (aG.getD (m+1) 0) (v.getD (m+1) 0)<18446744073709551616:=(pA x).2 ω;have j:=Ym P a0 (by rw[a',T];exact U);refine Zb f d B e L C l cap _ _ _ ⟨g,h⟩ ⟨t,by show _%_<_;omega⟩ (.inl rfl) ((G' x).2 j) ?_ A Y w F;show(_/_)*_+(_%_+_)=_;rw[iN];omega
end
def apE(xs v:I N)(k len:E)(cap:aY)(d:yJ xs k len v=D)(y:k+len<=xs.length)(A:E->da (E×E))(Y:E->da Obj)(w:du)(F:Sv.Env):
  bc (sQ A Y) em w F 186 (fl fU []) (gI [.bZ 178 aF 64 k len cap,bN v] .nil 0) (sR 178 aF xs) (Bd (im xs k len v) (kK xs k len v)):=by
 unfold yJ at d;simp only[ae,aN,jA]at d;obtain⟨t,l,x,h3,h4,h5,g⟩:=d;have h3:=ac h3;subst h3;obtain⟨m,h⟩:∃m,v.length=m+2:=⟨v.length-2,by omega⟩;have j:(xs.take k).length=k:=by rw[er];omega
 have e:(tv xs k (v.length+1)).length=v.length+1:=by unfold tv;rw[er,p7];omega
 have f:xs=xs.take k++(tv xs k (v.length+1)++xs.drop (k+(v.length+1))):=by
  unfold tv;rw[<-PM,pa,pa]
 have:=apz (p:=xs.take k) (aG:=tv xs k (v.length+1)) (s:=xs.drop (k+(v.length+1))) l ((t.drop k).take _) e h h4 (by rw[show m+1=v.length-1 by omega];exact h5) g cap A Y w F;rw[<-f,j]at this;exact this
def apF:uW.Ok em:=
 ⟨rfl,rfl,_,fU,func230,rfl,by decide,λxs k len cap d f _ e A Y w F=>apE xs d.1 k len cap f e A Y w F⟩
def hG:=NO f177
def mA:=FV [Kz] (C0 [uW] (pJ [J8] (aA [Qa,QC,QB])))
abbrev GA:I E:=[1,1,0,1,0]
abbrev QO:I E:=[1,1,0,1,0,1,1,0,1,0,0]
abbrev KF:I E:=[1,1,1,1,1,1,1,1,0,1,0,0]
abbrev KG:I E:=[1,1,1,1,1,1,1,1,1,0,1,0,0]
abbrev QS(j:E)(l:I N):af:= .bZ 178 aF j 0 l.length .full
abbrev QT(l:I N):gB:= .blk (.own 178 aF l)
def u0(a b:I N):bD:={n:=137,sl:=[(0,bN a),(1,bN b),(23,bv ((b.length:N)==1))],bF:=[],next:=64}
def tB(a b q:I N)(r:N)(k:E):bD:={n:=137,sl:=[(0,bN a),(1,bN b),(6,s6 64 q),(7,cG r),(8,iv ((k:N)-1))],bF:=[(64,s7 q)],next:=65}
def QU(a b q:I N)(r:N)(k:E):bD:={n:=137,sl:=[(0,bN a),(1,bN b),(6,s6 64 q),(7,cG r),(8,iv ((k:N)-1-1))],bF:=[(64,s7 q)],next:=65}
def ni(a v u q:I N)(s:N)(k:E):bD:={n:=137,sl:=[(0,bN a),(9,iv s),(10,bN v),(11,QS 64 u),(12,iv v.length),(13,s6 65 q),(14,iv ((k:N)-1))],bF:=[(64,QT u),(65,s7 q)],next:=66}
def DH(a v u q:I N)(s:N)(k:E):bD:={n:=137,sl:=[(0,bN a),(9,iv s),(10,bN v),(11,QS 64 u),(12,iv v.length),(13,s6 65 q),(14,iv ((k:N)-1-1))],bF:=[(64,QT u),(65,s7 q)],next:=66}
def k9(n:E)(u q:I N)(s:N)(i:E):bD:={n:=137,sl:=[(9,iv s),(11,QS 64 u),(12,iv n),(13,s6 65 q),(96,iv n),(97,iv i)],bF:=[(64,QT u),(65,s7 q)],next:=66}
abbrev Be:Sv.Ren:=[(64,64,bs),(65,65,bs)]
def QV(a v:I N)(s:N):bD:={n:=137,sl:=[(0,bN a),(9,iv s),(10,bN v)],bF:=[],next:=64}
def apI(a b:I N)(d:a.length<=1000000)(e: -9223372036854775808<=(a.length:N)-1/\(a.length:N)-1<=9223372036854775807)(h3:a.length=(cZ a.length).length)(h4:(bO (cZ a.length).length)=(bO a.length))(h5:(F5 (ie a.length (I.map af.raw (uU #[Value.int .u64 (0:N)]))))=(A' (λx=>[af.raw (Value.int .u64 x)]) (cZ a.length))):
  aD.path (CV em mA (fl hG GA) 3 (u0 a b)) (dl 1) (fy em 137 .normal [(64,64,O a.length)] (tB a b (cZ a.length) 0 a.length)):=
 mp (Jy rt rt (show(bP (a.length<=a.length))=D from ay ω) (rB (show(bounded a.length (8:E))=D from kB d ω) (fA e) (rr a) (rr b) (an h3 (an (rr (aY.known a.length)) h4)) (rr (0:N)) (rr ((a.length:N)-1)) (an h5 h3) trivial))
def apJ(a b q:I N)(r:N)(k:E)(e:(k:N)-1>=0)(h:0<=(k:N)-1)(h3:((k:N)-1).toNat<a.length)(h4:ea 0<b.length)(h5:(w6 r (a.getD ((k:N)-1).toNat 0) (b.getD (ea 0) 0))=D)(d:((k:N)-1).toNat<q.length)(j:i6 ((k:N)-1-1))(l:q.length=(q.set ((k:N)-1).toNat (mo r (a.getD ((k:N)-1).toNat 0) (b.getD 0 0))).length)(t:(bO q.length)=(bO (q.set ((k:N)-1).toNat (mo r (a.getD ((k:N)-1).toNat 0) (b.getD 0 0))).length))(f:(qL r (a.getD ((k:N)-1).toNat 0) (b.getD (ea 0) 0))=(qL r (a.getD ((k:N)-1).toNat 0) (b.getD 0 0)))(g:(q.set ((k:N)-1).toNat (mo r (a.getD ((k:N)-1).toNat 0) (b.getD (ea 0) 0)))=(q.set ((k:N)-1).toNat (mo r (a.getD ((k:N)-1).toNat 0) (b.getD 0 0)))):
  aR mA (fl hG QO) (tB a b q r k) 3 .normal lQ (QU a b (q.set ((k:N)-1).toNat (mo r (a.getD ((k:N)-1).toNat 0) (b.getD 0 0))) (qL r (a.getD ((k:N)-1).toNat 0) (b.getD 0 0)) k):=
 wy [ag e,ag h,ag h3,aa (aI (v:=af.raw (Value.int dv (a.getD ((k:N)-(1:N)).toNat (0:N))))),ag h4,aa (aI (v:=af.raw (Value.int dv (b.getD (0:N).toNat (0:N))))),aa h5,ag d,jf 178 aF d,yi j,av l,av t,av f,oK 178 aF g] 290835506264453566828585601305948289
def apN(a b v:I N)(s:N)(d:i6 ((b.length:N)-1))(e:0<=(b.length:N)-1)(h3:((b.length:N)-1).toNat<b.length)(h4:(A7 (b.getD ((b.length:N)-1).toNat 0))=D)(h5:(Ba b (eM (b.getD ((b.length:N)-1).toNat 0)))=D)(f:(dd (c6 b (eM (b.getD ((b.length:N)-1).toNat 0))).length 0||bx (sS.e Kz) aF (O (bn.own 178 aF (c6 b (eM (b.getD ((b.length:N)-1).toNat 0))))) ((c6 b (eM (b.getD ((b.length:N)-1).toNat 0))).length-1))=D)(g:(((c6 b (eM (b.getD ((b.length:N)-1).toNat 0))).drop 0).take (c6 b (eM (b.getD ((b.length:N)-1).toNat 0))).length).length<=1000000)(h:(eM (b.getD ((b.length:N)-1).toNat 0))=(s))(j:(eF (((c6 b (eM (b.getD ((b.length:N)-1).toNat 0))).drop 0).take (c6 b (eM (b.getD ((b.length:N)-1).toNat 0))).length))=(v)):
  di mA ((fl hG []).drop 5) 2 (u0 a b) 1 .normal [] (QV a v s):=
 wy [yi d,ag e,ag h3,aa h4,aa h5,aa (show(dd (c6 b (eM (b.getD ((b.length:N)-(1:N)).toNat (0:N)))).length (0:E)||bx (sS.e Kz) aF (O (bn.own 178 aF (c6 b (eM (b.getD ((b.length:N)-(1:N)).toNat (0:N)))))) ((0:E)+(c6 b (eM (b.getD ((b.length:N)-(1:N)).toNat (0:N)))).length-(1:E)))=D from(by simp only[bC]<;>exact f)),ag g,av h,av j] 164381873962758273
def apO(a v:I N)(s:N)(m:E)(e:(Ba a s)=D)(d: -9223372036854775808<=(a.length:N)-(v.length:N)/\(a.length:N)-(v.length:N)<=9223372036854775807)(h3: -9223372036854775808<=(a.length:N)-(v.length:N)+1/\(a.length:N)-(v.length:N)+1<=9223372036854775807)(h4:(0:N)<=(a.length:N)-(v.length:N)+1)(h5:((a.length:N)-(v.length:N)+1).toNat<=1000000)(j:(c6 a s).length=(c6 a s).length)(l:(((a.length:N)-(v.length:N)+1).toNat)=(cZ m).length)(t:(aY.known ((a.length:N)-(v.length:N)+1).toNat)=(aY.known m))(x:(bO (cZ m).length)=(bO m))(f:((a.length:N)-(v.length:N))=((m:N)-1))(g:(F5 (ie ((a.length:N)-(v.length:N)+1).toNat (I.map af.raw (uU #[Value.int .u64 (0:N)]))))=(A' (λy=>[af.raw (Value.int .u64 y)]) (cZ m)))(h:(m)=(cZ m).length):
  aD.path (CV em mA ((fl hG []).drop 7) 4 (QV a v s)) (dl 1) (fy em 137 .normal [(64,64,bs),(65,65,O m)] (ni a v (c6 a s) (cZ m) s m)):=
 mp (an e (rB (fA d) (fA h3) (ay h4) (ay h4) (show(bP (((a.length:N)-(v.length:N)+1).toNat<=((a.length:N)-(v.length:N)+1).toNat))=D from ay ω) (show(bounded ((a.length:N)-(v.length:N)+1).toNat (8:E))=D from kB h5 ω) (fA d) (rr a) (rB (rr s) (rr v) (an (rr (0:E)) (an j (rr (aY.full)))) (rr (v.length:N)) (an l (an t x)) f (rr (c6 a s)) (an g h) trivial)))
section
variable(a v u q:I N)(s:N)(k:E)(Z:(k:N)-1>=0)(Y:i6 ((k:N)-1+(v.length:N)))(h3:i6 ((k:N)-1+(v.length:N)+1))(h4:0<=(k:N)-1)(h5:((k:N)-1+(v.length:N)+1).toNat<=u.length)
def apP(j:((k:N)-1).toNat=0)(l:(bx (je.e uW) (je.t uW) (O (bn.own 178 aF u)) (((k:N)-1+(v.length:N)+1).toNat-1)&&dK 1 ((k:N)-1+(v.length:N)+1).toNat)=D)(t:(yJ u 0 ((k:N)-1+(v.length:N)+1).toNat v)=D)(d:((k:N)-1).toNat<q.length)(f:i6 ((k:N)-1-1))(g:u.length=(im u 0 ((k:N)-1+(v.length:N)+1).toNat v).length)(h:q.length=(q.set ((k:N)-1).toNat (kK u 0 ((k:N)-1+(v.length:N)+1).toNat v)).length)(e:(bO q.length)=(bO (q.set ((k:N)-1).toNat (kK u 0 ((k:N)-1+(v.length:N)+1).toNat v)).length)):
  aR mA (fl hG KF) (ni a v u q s k) 7 .normal Be (DH a v (im u 0 (((k:N)-1+v.length+1).toNat) v) (q.set ((k:N)-1).toNat (kK u 0 (((k:N)-1+v.length+1).toNat) v)) s k):=
 wy [ag Z,yi Y,yi h3,ag (by omega:(0:N)<=(k:N)-(1:N)+(v.length:N)+(1:N)),ag h4,ag (by omega:((k:N)-(1:N)).toNat<=((k:N)-(1:N)+(v.length:N)+(1:N)).toNat),ag h5,aa (yg j),aa (show(bx (je.e uW) (je.t uW) (O (bn.own 178 aF u)) ((0:E)+((k:N)-(1:N)+(v.length:N)+(1:N)).toNat-(1:E))&&dK (1:E) ((k:N)-(1:N)+(v.length:N)+(1:N)).toNat)=D from(by simp only[bC]<;>exact l)),aa t,ag d,jf 178 aF d,yi f,av g,av h,av e,oK 178 aF (Hj (q.set ((k:N)-(1:N)).toNat (kK u (0:E) ((k:N)-(1:N)+(v.length:N)+(1:N)).toNat v)))] 1552851146518156587532186954369615219962099544193
def apQ(j:(dd ((k:N)-1).toNat 0)=ao)(l:((k:N)-1).toNat<((k:N)-1+(v.length:N)+1).toNat)(t:(bx (je.e uW) (je.t uW) (O (bn.own 178 aF u)) (((k:N)-1).toNat+(((k:N)-1+(v.length:N)+1).toNat-ea ((k:N)-1))-1)&&dK 1 (((k:N)-1+(v.length:N)+1).toNat-ea ((k:N)-1)))=D)(x:(yJ u ((k:N)-1).toNat (((k:N)-1+(v.length:N)+1).toNat-ea ((k:N)-1)) v)=D)(d:((k:N)-1).toNat<q.length)(g:i6 ((k:N)-1-1))(h:u.length=(im u ((k:N)-1).toNat (((k:N)-1+(v.length:N)+1).toNat-ea ((k:N)-1)) v).length)(e:q.length=(q.set ((k:N)-1).toNat (kK u ((k:N)-1).toNat (((k:N)-1+(v.length:N)+1).toNat-ea ((k:N)-1)) v)).length)(f:(bO q.length)=(bO (q.set ((k:N)-1).toNat (kK u ((k:N)-1).toNat (((k:N)-1+(v.length:N)+1).toNat-ea ((k:N)-1)) v)).length)):
  aR mA (fl hG KF) (ni a v u q s k) 13 .normal Be (DH a v (im u ((k:N)-1).toNat ((((k:N)-1+v.length+1).toNat)-((k:N)-1).toNat) v) (q.set ((k:N)-1).toNat (kK u ((k:N)-1).toNat ((((k:N)-1+v.length+1).toNat)-((k:N)-1).toNat) v)) s k):=
 wy [ag Z,yi Y,yi h3,ag (by omega:(0:N)<=(k:N)-(1:N)+(v.length:N)+(1:N)),ag h4,ag (by omega:((k:N)-(1:N)).toNat<=((k:N)-(1:N)+(v.length:N)+(1:N)).toNat),ag h5,aa j,ag l,aa (show(bx (je.e uW) (je.t uW) (O (bn.own 178 aF u)) ((0:E)+((k:N)-(1:N)).toNat+(((k:N)-(1:N)+(v.length:N)+(1:N)).toNat-ea ((k:N)-(1:N)))-(1:E))&&dK (1:E) (((k:N)-(1:N)+(v.length:N)+(1:N)).toNat-ea ((k:N)-(1:N))))=D from(by simp only[bC]<;>exact t)),aa (show(yJ u ((0:E)+((k:N)-(1:N)).toNat) (((k:N)-(1:N)+(v.length:N)+(1:N)).toNat-ea ((k:N)-(1:N))) v)=D from(by simp only[bC]<;>exact x)),ag d,jf 178 aF d,yi g,av h,av e,av f,av (show(im u ((0:E)+((k:N)-(1:N)).toNat) (((k:N)-(1:N)+(v.length:N)+(1:N)).toNat-ea ((k:N)-(1:N))) v)=(im u ((k:N)-(1:N)).toNat (((k:N)-(1:N)+(v.length:N)+(1:N)).toNat-ea ((k:N)-(1:N))) v)from(by simp only[bC])),pF em 178 aF (show((bu aF (a8 178 aF q)).set ((0:E)+((k:N)-(1:N)).toNat) (kK u ((0:E)+((k:N)-(1:N)).toNat) (((k:N)-(1:N)+(v.length:N)+(1:N)).toNat-ea ((k:N)-(1:N))) v))=(q.set ((k:N)-(1:N)).toNat (kK u ((k:N)-(1:N)).toNat (((k:N)-(1:N)+(v.length:N)+(1:N)).toNat-ea ((k:N)-(1:N))) v))from(by simp only[a7,bC]<;>rfl))] 112718698467000873757520171089483947854851910676609
end
def apR(a v u q:I N)(s:N)(k:E)(d:¬(k:N)-1>=0):
  aR mA (fl hG KF) (ni a v u q s k) 2 (.exit 2) Be (ni a v u q s k):=
 wy [az d] 1
def OF(a v u q:I N)(s:N)(k:E):
  di mA ((fl hG []).drop 12) 1 (ni a v u q s k) 1 .normal Be (k9 v.length u q s 0):=
 wy [] 0
section
variable(n:E)(u q:I N)(s:N)(i:E)(Z:(i:N)<(n:N))(Y:i<u.length)(h3:(bx 178 aF (O (bn.own 178 aF u)) i)=D)(h4:0<=s)
def apS(h5:s>0)(j:i6 ((i:N)+1))(l:(i:N)+1<(u.length:N))(t:(bx 178 aF (O (bn.own 178 aF (u.set i (nZ (u.getD i 0) ((2:N)^XR s.toNat 64))))) i)=D)(x:((i:N)+1).toNat<u.length)(f:(bx 178 aF (O (bn.own 178 aF (u.set i (nZ (u.getD i 0) ((2:N)^XR s.toNat 64))))) ((i:N)+1).toNat)=D)(g:i6 (64-s))(h:0<=64-s)(d:u.length=((u.set i (ef (u.getD i 0) s)).set i (fG ((u.set i (ef (u.getD i 0) s)).getD i 0) (gq ((u.set i (ef (u.getD i 0) s)).getD (i+1) 0) (64-s)))).length)(e:((u.set i (nZ (u.getD i 0) ((2:N)^XR s.toNat 64))).set i (ca dv (↑(ru (gF 64 ((u.set i (nZ (u.getD i 0) ((2:N)^XR s.toNat 64))).getD i 0)|||gF 64 (ca dv ((u.set i (nZ (u.getD i 0) ((2:N)^XR s.toNat 64))).getD ((i:N)+1).toNat 0*(2:N)^XR (64-s).toNat 64)))):N)))=((u.set i (ef (u.getD i 0) s)).set i (fG ((u.set i (ef (u.getD i 0) s)).getD i 0) (gq ((u.set i (ef (u.getD i 0) s)).getD (i+1) 0) (64-s))))):
  aR mA (fl hG KG) (k9 n u q s i) 511 .normal Be (k9 n ((u.set i (ef (u.getD i 0) s)).set i (fG ((u.set i (ef (u.getD i 0) s)).getD i 0) (gq ((u.set i (ef (u.getD i 0) s)).getD (i+1) 0) (64-s)))) q s (i+1)):=
 wy [ag Z,ag Y,aa (show(bx 178 aF (O (bn.own 178 aF u)) ((0:E)+i))=D from(by simp only[bC]<;>exact h3)),ag h4,aa (aK (ay h5)),yi j,ag h5,ag l,aa (show(bx 178 aF (O (bn.own 178 aF (u.set ((0:E)+i) (nZ (u.getD ((0:E)+i) (0:N)) ((2:N)^XR s.toNat (64:E)))))) ((0:E)+i))=D from(by simp only[bC]<;>exact t)),aa (aI (v:=af.raw (Value.int dv ((u.set ((0:E)+i) (nZ (u.getD ((0:E)+i) (0:N)) ((2:N)^XR s.toNat (64:E)))).getD ((0:E)+i) (0:N))))),ag x,aa (show(bx 178 aF (O (bn.own 178 aF (u.set ((0:E)+i) (nZ (u.getD ((0:E)+i) (0:N)) ((2:N)^XR s.toNat (64:E)))))) ((0:E)+((i:N)+(1:N)).toNat))=D from(by simp only[bC]<;>exact f)),aa (aI (v:=af.raw (Value.int dv ((u.set ((0:E)+i) (nZ (u.getD ((0:E)+i) (0:N)) ((2:N)^XR s.toNat (64:E)))).getD ((0:E)+((i:N)+(1:N)).toNat) (0:N))))),yi g,ag h,av d,av (show((u.set ((0:E)+i) (nZ (u.getD ((0:E)+i) (0:N)) ((2:N)^XR s.toNat (64:E)))).set ((0:E)+i) (ca dv (↑(ru (gF (64:E) ((u.set ((0:E)+i) (nZ (u.getD ((0:E)+i) (0:N)) ((2:N)^XR s.toNat (64:E)))).getD ((0:E)+i) (0:N))|||gF (64:E) (ca dv ((u.set ((0:E)+i) (nZ (u.getD ((0:E)+i) (0:N)) ((2:N)^XR s.toNat (64:E)))).getD ((0:E)+((i:N)+(1:N)).toNat) (0:N)*(2:N)^XR ((64:N)-s).toNat (64:E))))):N)))=((u.set i (ef (u.getD i (0:N)) s)).set i (fG ((u.set i (ef (u.getD i (0:N)) s)).getD i (0:N)) (gq ((u.set i (ef (u.getD i (0:N)) s)).getD (i+(1:E)) (0:N)) ((64:N)-s))))from(by simp only[bC]<;>exact e))] 7873862068137527616914292518417608029408674204502519200453172716118206636105729
def apT(h5:¬s>0)(d:i6 ((i:N)+1))(e:u.length=(u.set i (ef (u.getD i 0) s)).length)(f:(u.set i (nZ (u.getD i 0) ((2:N)^XR s.toNat 64)))=(u.set i (ef (u.getD i 0) s))):
  aR mA (fl hG KG) (k9 n u q s i) 257 .normal Be (k9 n (u.set i (ef (u.getD i 0) s)) q s (i+1)):=
 wy [ag Z,ag Y,aa (show(bx 178 aF (O (bn.own 178 aF u)) ((0:E)+i))=D from(by simp only[bC]<;>exact h3)),ag h4,aa (aK (ab h5)),az h5,yi d,av e,av (show(u.set ((0:E)+i) (nZ (u.getD ((0:E)+i) (0:N)) ((2:N)^XR s.toNat (64:E))))=(u.set i (ef (u.getD i (0:N)) s))from(by simp only[bC]<;>exact f))] 822094670998635487646669403467073943717211283457
end
section
variable(n:E)(u q:I N)(s:N)(i:E)
def apU(d:¬(i:N)<(n:N)):
  aR mA (fl hG KG) (k9 n u q s i) 2 (.exit 4) Be (k9 n u q s i):=
 wy [az d] 1
def apV(d:(dd q.length 0||bx 178 aF (a8 178 aF q) (q.length-1))=D)(e:((q.drop 0).take q.length).length<=1000000)(h3:n<=u.length)(h4:(dd n 0||bx 178 aF (O (bn.own 178 aF u)) (n-1))=D)(h5:((u.drop 0).take n).length<=1000000)(f:(eF ((q.drop 0).take q.length))=(eF q))(g:(eF ((u.drop 0).take n))=(eF (u.take n))):
  bw mA ((fl hG []).drop 14) (k9 n u q s i) 3 f177 ao (.tuple [bN (eF q),bN (eF (u.take n))]):=
 wy [aa (show(dd q.length (0:E)||bx 178 aF (a8 178 aF q) ((0:E)+q.length-(1:E)))=D from(by simp only[bC]<;>exact d)),aa (show(bP ((((bu aF (a8 178 aF q)).drop (0:E)).take q.length).length<=(1000000:E)))=D from(by simp only[a7]<;>exact ay e)),ag h3,aa (show(dd n (0:E)||bx 178 aF (O (bn.own 178 aF u)) ((0:E)+n-(1:E)))=D from(by simp only[bC]<;>exact h4)),ag h5,av (show(eF (((bu aF (a8 178 aF q)).drop (0:E)).take q.length))=(eF q)from(by simp only[a7]<;>exact f)),av g] 127811904587432065
end
def Zd{X:Ext}{P:fd}{w0:du}{F:Sv.Env}{n:E}{T:au af}{H:ai}{Q:sC->au af->ai->Prop}{l rest:I mN}{o:gn}{x y:mN}(j:l=.cond o x y::rest)(g:iX (cF T o)=.mk D)
  (h:bc X P w0 F n (uy x) T H (iO (λT H=>bc X P w0 F n rest T H Q) Q)):bc X P w0 F n l T H Q:=by
 subst j;intro a w f k;obtain⟨t,d,_⟩:=f.ex;have e:=Cr d.T d.G o;rw[pj g]at e;exact wpIn_cond e.cu (yf h a w f k)
def KH:bI em (bJ mA):=by
 refine ai7 (λc d=>?_) (WH (λc d=>?_) (uE (λc d=>?_) (dw λc d=>?_)))
 .rw[kD.1 d];exact apb
 .rw[kD.1 d];exact apF
 .rw[kD.1 d];exact P6
 .simp only[cQ,iL,Xz]at d;rcases d with rfl |rfl |rfl
  .exact Yz
  .exact Y6
  .exact YQ
def Bf(a b:I N):dF:=pP a b&&(bP (1<=b.length)&&(bP (a.length<=300000)&&bP (b.length<=300000)))
def iR(a b:I N):I N:=gL 18446744073709551616 (aj a/aj b)
def gN(a b:I N):I N:=gL 18446744073709551616 (aj a%aj b)
def Ze:=IN 177 [.list ao aF,.list ao aF] [.list ao aF,.list ao aF] ao (λd=>Bf d.1 d.2.1) λd=>(iR d.1 d.2.1,(gN d.1 d.2.1,()))
abbrev QW(q r:I N):sC->au af->ai->Prop:=ew em ao f177 (.tuple [bN q,bN r])
def Zf{l:I N}{k:E}(h:k=l.length):(dd l.length 0||bx 178 aF (a8 178 aF l) (k-1))=D:=by
 subst h;cases l with
 |nil=>rfl
 |cons x r=>rw[eK];simp
def apW{a:I N}{y:N}(W:aS 18446744073709551616 a)(e:1<=y/\y<18446744073709551616)(d:a.length<=300000)(w:du)(F:Sv.Env):
  bp em w F 137 (fl hG GA) (u0 a [y]).T (u0 a [y]).H (λA T H=>A=.ret/\QW (iR a [y]) (gN a [y]) .ret T H):=by
 have e:=KH;refine dH (s:=u0 a [y]) e 3 (apI a [y] ω ω (iQ _).symm (by rw[iQ]) (A0 _)) ?_;refine c_q {x:I N×N×E//x.2.2<=a.length/\x.1.length=a.length/\aS 18446744073709551616 x.1/\(0<=x.2.1/\x.2.1<y)/\aj (a.drop x.2.2)=aj (x.1.drop x.2.2)*y+x.2.1} 0 (cat hG QO) ((fl hG GA).drop 4) (λx=>tB a [y] x.1.1 x.1.2.1 x.1.2.2) (λx=>x.1.2.2)
  ⟨(cZ a.length,0,a.length),aC _,iQ _,Dr _,⟨vc 0,show(0:N)<y by omega⟩,by
    show aj (a.drop a.length)=aj ((cZ a.length).drop a.length)*y+0;rw[Gv,pB (by rw[iQ];exact aC _)];simp[aj,vl]⟩ ?_
 rintro⟨⟨q,r,k⟩,G,h,g,f,d⟩;have G:k<=a.length:=G;have h:q.length=a.length:=h;have g:aS 18446744073709551616 q:=g;have f:0<=r/\r<y:=f;have d:aj (a.drop k)=aj (q.drop k)*y+r:=d;cases k with
 |zero=>
  refine aT (s:=tB a [y] q r 0) e (wy [az (ω:¬(0:N)-1>=0)] 1:aR mA (fl hG QO) (tB a [y] q r 0) 2 (.exit 0) lQ (tB a [y] q r 0)) ?_;refine bY (cg ?_);rw[iW,iW]at d;have B:aj [y]=y:=Kj y;obtain⟨M,P⟩:=A6 (U:=aj a) (V:=y) (t:=aj q) ω ω ω;have K:iR a [y]=eF q:=by unfold iR;rw[B,M,ml g]
  have L:gN a [y]=eF [r]:=by
   unfold gN;rw[B,P,ml (YD ω),Kj];congr 1;omega
  rw[K,L];have z:(q.drop 0).take q.length=q:=by simp
  exact bp.iC (s:=tB a [y] q r 0) known mixed e _ (wy [aa (show(dd q.length (0:E)||bx 178 aF (a8 178 aF q) ((0:E)+q.length-(1:E)))=D from(by simp only[bC]<;>exact(Zf rfl:(dd q.length 0||bx 178 aF (a8 178 aF q) (q.length-1))=D))),aa (show(bP ((((bu aF (a8 178 aF q)).drop (0:E)).take q.length).length<=(1000000:E)))=D from(by simp only[a7]<;>exact ay (show((q.drop 0).take q.length).length<=1000000 from by rw[z];omega))),aa (show(dK ((0:E)+(1:E)*(1:E)) (af.raw (Value.int dv r)::I.append._f [] wS (I.flatten._f [] wS)).length)=D from(by simp only[bC]<;>exact aw (aC 1:1*1<=(af.raw (Value.int .u64 r)::I.append._f [] wS (I.flatten._f [] wS)).length))),ag (τ:jC [r]<=1000000),av (show(eF (((bu aF (a8 178 aF q)).drop (0:E)).take q.length))=(eF q)from(by simp only[a7]<;>exact(show(eF ((q.drop 0).take q.length))=(eF q) from by rw[z])))] 84947073:bw mA ((fl hG GA).drop 4) (tB a [y] q r 0) 1 f177 ao (.tuple [bN (eF q),bN (eF [r])])) λT H Q=>⟨rfl,Q⟩
 |succ j=>
  have C:(((j+1:E):N)-1).toNat=j:=by omega
  have x:=W.get δ j;have S:w6 r (a.getD j 0) y=D:=by
   unfold w6;rw[yI.2 x,yI.2 ω,ay f.1,ay f.2];rfl
  have f:=jp (r*18446744073709551616+a.getD j 0) y;have f:=fC (r*18446744073709551616+a.getD j 0) (show y≠0 by omega);have B:=fZ (r*18446744073709551616+a.getD j 0) (show 0<y by omega);have z:0<=(r*18446744073709551616+a.getD j 0)/y:=jN ω ω;have x:(r*18446744073709551616+a.getD j 0)/y<18446744073709551616:=(pA ω).2 (by
   have:(r+1)*18446744073709551616<=y*18446744073709551616:=iK ω δ;rw[iN _ y];omega)
  refine aT (s:=tB a [y] q r (j+1)) e (apJ a [y] q r (j+1) ω ω ω τ (by rw[C];exact S) ω ω (by rw[cm]) (by rw[cm]) rfl rfl) ?_;rw[C];have e:(((j+1:E):N)-1-1)=(j:N)-1:=by omega
  refine⟨⟨(q.set j (mo r (a.getD j 0) y),qL r (a.getD j 0) y,j),by show j<=_;omega,by show(q.set j _).length=_;rw[cm];exact h,g.set ⟨z,x⟩,⟨f,B⟩,?_⟩,by show j<j+1;omega,?_,?_⟩
  .show aj (a.drop j)=aj ((q.set j (mo r (a.getD j 0) y)).drop j)*y+qL r (a.getD j 0) y;unfold aj at d ⊢;rw[w5 (l:=a) ω,w5 (l:=q.set j _) (by rw[cm];omega),yC ω,d];have J:(q.set j (mo r (a.getD j 0) y)).drop (j+1)=q.drop (j+1):=by rw[I.drop_set];rw[dA ω]
   rw[J];unfold mo qL;generalize vl 18446744073709551616 (q.drop (j+1))=z at*;generalize (r*18446744073709551616+a.getD j 0)/y=d at*;generalize (r*18446744073709551616+a.getD j 0)%y=A at*;grind
  .show(QU a [y] _ _ (j+1)).T=(tB a [y] _ _ j).T;unfold QU tB;rw[e];rfl
  .rfl
structure DI(u:I N)(s:E)(d:I N)(i:E):Prop where
 len:d.length=u.length
 dg:aS 18446744073709551616 d
 same:∀j,i<=j->d.getD j 0=u.getD j 0
 val:2^s*aj (d.take i)=aj (u.take i)+u.getD i 0%2^s*18446744073709551616^i
def DI.next{u d:I N}{s i:E}(e:DI u s d i)(B:aS 18446744073709551616 u)(A:s<=63)(hi:i+1<u.length){x:N}(h:0<=x/\x<18446744073709551616)(he:2^s*x=u.getD i 0-u.getD i 0%2^s+u.getD (i+1) 0%2^s*18446744073709551616):
  DI u s (d.set i x) (i+1):=by
 have f:=e.len;refine⟨by rw[cm];exact f,e.dg.set h,λl z=>?_,?_⟩
 .rw[qM,db ω];exact e.same l ω
 .have g:=e.val;unfold aj at g ⊢;rw[AZ ω,mX u,hP];generalize vl 18446744073709551616 (d.take i)=a at*;generalize vl 18446744073709551616 (u.take i)=b at*;generalize (18446744073709551616:N)^i=P at*;generalize (2:N)^s=S at*;generalize u.getD (i+1) 0%S=t at*;generalize u.getD i 0%S=j at*;generalize u.getD i 0=aG at*;have y:P*(S*x)=P*(aG-j+t*18446744073709551616):=by rw[he]
  grind
def apX{x y:N}{s:E}(J:1<=s/\s<=63)(e:0<=x/\x<18446744073709551616)(A:0<=y/\y<18446744073709551616):
  (0<=fG (ef x s) (gq y (64-(s:N)))/\fG (ef x s) (gq y (64-(s:N)))<18446744073709551616)/\2^s*fG (ef x s) (gq y (64-(s:N)))=x-x%2^s+y%2^s*18446744073709551616:=by
 have B:(64-(s:N))=((64-s:E):N):=by omega
 have d:(0:N)<2^s:=eE δ _;have g:(0:N)<2^(64-s):=eE δ _;have f:(2:N)^s*2^(64-s)=18446744073709551616:=by rw[<-yL,show s+(64-s)=64 by omega];rfl
 have t:ef x s=x/2^s:=QF ω e.1;have z:gq y (64-(s:N))=2^(64-s)*(y%2^s):=by
  rw[B,Y7 ω A,show 64-(64-s)=s by omega]
 have H:=jp x (2^s);have h:0<=x/2^s:=jN e.1 (cI d);have j:x/2^s<2^(64-s):=Cl d (by rw[iN,f];exact e.2);have b0:=fC y (show(2:N)^s≠0 by omega);have C:=fZ y d;have F:0<=2^(64-s)*(y%2^s):=kv (cI g) b0;have G:2^(64-s)*(y%2^s)+2^(64-s)<=18446744073709551616:=by
  have:=ar (show y%2^s+1<=2^s by omega) (cI g);rw[oB,Cu,iN (2^(64-s)) (2^s),f]at this;omega
 have l:fG (ef x s) (gq y (64-(s:N)))=x/2^s+2^(64-s)*(y%2^s):=by
  rw[t,z];exact Qx (s:=64-s) ω ⟨h,j⟩ b0 rfl ω
 rw[l];refine⟨by omega,?_⟩;rw[oB,<-km,f];generalize (2:N)^s*(x/2^s)=X at*;rw[iN (18446744073709551616:N)];omega
def apY{u q:I N}{n s:E}{R:N}(f:aS 18446744073709551616 u)(c2:aS 18446744073709551616 q)(a4:s<=63)(a3:n<u.length)(c3:1<=n)(b1:u.length<=400000)(c':q.length<=400000)(G:aj u=2^s*R)(b2:0<=R)(a2:aj u<18446744073709551616^n)(w:du)(F:Sv.Env):
  bp em w F 137 ((fl hG []).drop 13) (k9 n u q s 0).T (k9 n u q s 0).H (QW (eF q) (gL 18446744073709551616 R)):=by
 have h:=KH;have c1:(0:N)<2^s:=eE δ _;have k3:(2:N)^s*2^(64-s)=18446744073709551616:=by rw[<-yL,show s+(64-s)=64 by omega];rfl
 have S:u.getD 0 0%2^s=0:=by
  have B:=w5 (b:=18446744073709551616) (l:=u) (k:=0) ω;rw[iW,bC]at B;have J:u.getD 0 0=2^s*(R-2^(64-s)*aj (u.drop 1)):=by
   have h3:2^s*(2^(64-s)*aj (u.drop 1))=18446744073709551616*aj (u.drop 1):=by rw[<-km,k3]
   rw[LS,h3];unfold aj at G ⊢;omega
  rw[J];exact N.mul_emod_right _ _
 have L:u.getD n 0=0/\aj (u.take n)=aj u:=by
  have B:=Gj (b:=18446744073709551616) δ f a2;have J:=nY (b:=18446744073709551616) (l:=u) (k:=n) a3;have h3:=amQ (b:=18446744073709551616) δ f (n+1);have h4:=f.get δ n;have h5:=eE (b:=18446744073709551616) δ n;refine⟨?_,B⟩;by_cases a6:u.getD n 0=0
  .exact a6
  .have:=G8 h5 (show 0<u.getD n 0 by omega);omega
 refine c_q {x:I N×E//x.2<=n/\DI u s x.1 x.2} 4 (cat hG KG) ((fl hG []).drop 14) (λx=>k9 n x.1.1 q s x.1.2) (λx=>n-x.1.2)
  ⟨(u,0),gt _,⟨rfl,f,λ_ _=>rfl,by show 2^s*vl _ ([]:I N)=vl _ ([]:I N)+u.getD 0 0%2^s*_;rw[S];simp[vl]⟩⟩ ?_
 rintro⟨⟨d,i⟩,K,e⟩;have K:i<=n:=K;have e:DI u s d i:=e;have t:=e.len;by_cases c0:i<n
 .have C:=f.get δ i;have U:=f.get δ (i+1);have y:∀l:I N,l.length=u.length->∀j,j<u.length->bx 178 aF (O (.own 178 aF l)) j=D:=λl b4 j b3=>by rw[zP];exact ay ω
  have P:((i:N)+1).toNat=i+1:=by omega
  have z:=e.same i (aC _);have T:=e.same (i+1) ω;by_cases a5:s=0
  .subst a5;have g:ef (d.getD i 0) (0:E)=d.getD i 0:=by rw[QF ω (by rw[z];exact C.1)];simp
   have A:=e.next f ω ω (x:=ef (d.getD i 0) (0:E)) (by rw[g,z];exact C) (by rw[g,z];simp[N.emod_one]);exact bp.all (s:=k9 n d q (0:E) i) (s':=k9 n (d.set i (ef (d.getD i 0) (0:E))) q (0:E) (i+1)) known mixed h _ (apT n d q _ i ω ω (y d t i ω) ω ω ω (by rw[cm]) rfl) (by kernel_rfl)
    ⟨⟨(_,i+1),by show i+1<=n;omega,A⟩,by show n-(i+1)<n-i;omega,rfl,rfl⟩
  .obtain⟨g1,g2⟩:=apX (s:=s) ω C U;have g:(d.set i (ef (d.getD i 0) s)).getD i 0=ef (u.getD i 0) s:=by rw[yC ω,z]
   have V:(d.set i (ef (d.getD i 0) s)).getD (i+1) 0=u.getD (i+1) 0:=by rw[qM,db ω,T]
   have W:(d.set i (ef (d.getD i 0) s)).set i (fG (ef (u.getD i 0) s) (gq (u.getD (i+1) 0) (64-(s:N))))=d.set i (fG (ef (u.getD i 0) s) (gq (u.getD (i+1) 0) (64-(s:N)))):=I.set_set ..;have A:=e.next f a4 ω g1 g2;have a0:∃j:{x:I N×E//x.2<=n/\DI u s x.1 x.2},n-j.1.2<n-i/\
     (k9 n ((d.set i (ef (d.getD i 0) s)).set i (fG ((d.set i (ef (d.getD i 0) s)).getD i 0) (gq ((d.set i (ef (d.getD i 0) s)).getD (i+1) 0) (64-s)))) q s (i+1)).T=(k9 n j.1.1 q s j.1.2).T/\
     (k9 n ((d.set i (ef (d.getD i 0) s)).set i (fG ((d.set i (ef (d.getD i 0) s)).getD i 0) (gq ((d.set i (ef (d.getD i 0) s)).getD (i+1) 0) (64-s)))) q s (i+1)).H=(k9 n j.1.1 q s j.1.2).H:=by
    rw[g,V,W];exact⟨⟨(_,i+1),by show i+1<=n;omega,A⟩,by show n-(i+1)<n-i;omega,rfl,rfl⟩
   exact aT (s:=k9 n d q s i) h (apS n d q s i ω ω (y d t i ω) ω ω ω ω (y _ (by rw[cm];exact t) i ω) ω (by rw[P];exact y _ (by rw[cm];exact t) (i+1) ω) ω ω τ (by rw[P];rfl)) a0
 .refine aT (s:=k9 n d q s i) h (apU n d q s i ω) ?_;refine bY (cg ?_);obtain rfl:i=n:=by omega
  have M:=e.val;rw[L.1,L.2,G,N.zero_emod,NA,N.add_zero]at M;have a':aj (d.take i)=R:=N.eq_of_mul_eq_mul_left ω M;rw[<-a',<-ml (e.dg.take i)];have H:(q.drop 0).take q.length=q:=by simp
  have Q:(d.drop 0).take i=d.take i:=by simp
  exact bp.iC (s:=k9 i d q s i) known mixed h _ (apV i d q s i (Zf rfl) (by rw[H];omega) ω (by
   rw[zP,ay (show i-1<d.length by omega)];simp) (by rw[Q,er];omega) (by rw[H]) (by rw[Q])) λb' a9 a1=>a1
