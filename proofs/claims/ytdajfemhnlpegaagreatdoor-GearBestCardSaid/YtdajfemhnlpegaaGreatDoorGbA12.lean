import Derived.Test.YtdajfemhnlpegaaGreatDoorGbGAw1
import Derived.WalkLawsBesides
import Derived.WalkSpells
open Array renaming getElem?_setIfInBounds->pp,toList->uU
open Bool renaming true->D,false->ao,or_eq_true->qh,true_and->py,not_eq_true'->Gp
open ByteArray renaming mk->eQ
open Eq renaming refl->Hj
open Go renaming FuncId->ya,TypeId->ed,Program->fd,Addr->wu,World->du,Calls->DG,IntKind->be,DataW->Xs,Oper->ls,Act->Zq,Exit->sC,Operand->gn,undef->lk,Code->mN,Func->Ö
open Go.Instr renaming lookup->XL
open Go.IntKind renaming i64->iz
open Go.Lib renaming decDigits->wU,decFrom->vm,digitVal->YY
open Go.Maps renaming keyOf_int_mk->Ą
open Go.Proofs.Tryz renaming prog->em
open Go.RowKit.Below renaming heap_setCell->YW,refl->qg
open Go.World renaming grownBy_alloc->Kv
open Int renaming gcd->fo,gcd_pos_of_ne_zero_right->sq,ediv_mul_cancel->Fu,gcd_dvd_left->Tq,gcd_dvd_right->D8,mul_ediv_add_emod->ð,pow_succ->hP,le_refl->vc,mul_le_mul->tj,ediv_nonneg->jN,lt_or_le->zW,zero_mul->NA,ediv_le_self->vb,eq_ofNat_of_zero_le->Q2,toNat_natCast->kh,tmod->gl,tdiv->ej,tdiv_eq_ediv_of_nonneg->ku,tmod_eq_emod_of_nonneg->lU,mul_nonneg->kv,mul_add->oB,pow_add->yL,mul_assoc->km,add_mul->wq,emod_add_mul_ediv->jp,ediv_lt_iff_lt_mul->pA,mul_comm->iN,ediv_mul_le->Û,toNat->ea,one_mul->mT,sub_mul->sZ,le_ediv_of_mul_le->Cm,mul_pos->G8,mul_sub->LS,mul_one->Cu,mul_lt_mul_of_pos_right->sk,lt_of_mul_lt_mul_left->PQ,mul_zero->Vh,natCast_nonneg->lx,neg_mul->H7,natAbs_neg->P3
open List renaming mem_singleton->kD,nil_append->ts,cons_append->Aj,isPrefixOf->QY,take_zero->GD,take_succ_eq_append_getElem->sF,getElem_mem->ra,length->jC,getElem?_take->ly,take_take->KE,drop_zero->iW,all_eq_true->ky,getElem?_eq_none->JU,replicate->ie,flatten->F5,flatMap->A',replicate_succ->Lq,getElem?_set_ne->KL,drop_length->Gv,drop_eq_nil_of_le->pB,getD->qm,getElem?_drop->z5,drop_drop->PM,take_append_drop->pa,eq_nil_of_length_eq_zero->ix,length_cons->la,length_eq_one_iff->Jz,toArray->qK,append_nil->mS,length_singleton->IW
open Nat renaming zero_le->gt,pow_succ->C',le_of_eq->uV,lt_of_lt_of_le->iy,le_of_lt->kt,beq->dd,beq_refl->zX,ble->dK,min_eq_left->ns,pow_le_pow_right->Q3
open Option renaming none->bs,some->O
open PUnit renaming unit->wS
open Prod renaming fst->ql,snd->rL
open Rat renaming divInt->gp,divInt_mul_right->ò,divInt_eq_divInt_iff->ï,num_divInt_den->tb
open UInt8 renaming toNat->lK
open _root_ renaming List->I,Int->N,Nat->E,Rat->qA,if_pos->dA,Bool->dF,decide->bP,UInt8->hN,if_neg->db,Option->da,Array->fh,decide_eq_false_iff_not->Ô,or_false->Xz,min->XR,if_false->á
set_option linter.defProp false
set_option linter.unusedSectionVars false
set_option linter.unusedSimpArgs false
set_option linter.unusedVariables false
set_option maxRecDepth 100000
namespace Go.Proofs.YtdajfemhnlpegaaGreatDoor
open Go.RowKit Sv Go.Proofs.Tryz
noncomputable section
def Bm:=NO f66
def GN:=aA [Rf,yQ,GG,KX]
abbrev r2:Sv.Ren:=[(64,64,bs),(65,65,bs)]
abbrev arQ(q:cl):gB:= .blk (.cells 96 [iv q.1.1,.bh D (.int .u64) q.1.2,iv q.2.1,.bh D (.int .u64) q.2.2] D ao ao)
def vp(t:I (N×N))(q:cl)(k:E):bD:={n:=24,sl:=[(0,pl t),(2,.ptr 64 0),(3,.ptr 65 0),(7,pl t),(8,iv t.length),(9,iv k)],bF:=[(64,Zz),(65,arQ q)],next:=66}
def arU(t:I (N×N))(q:cl)(k:E):
  bw GN ((fl Bm []).drop 4) (vp t q k) 1 f66 ao (ct q):=
 wy [] 0
def arV:bI em (bJ GN):=dw (aV ZS (aV DN (aV qn (aV Rm eH))))
def xo(t:I (N×N)):E->cl
 |0=>j8 (dG 1)
 |k+1=>AU (xo t k) (n7 (dG (g0 t k).1) (dG (g0 t k).2))
def DT(t:I (N×N)):E->qA
 |0=>1
 |k+1=>DT t k*gp (g0 t k).1 (g0 t k).2
def GO{n:E}{x:N}(h: -9223372036854775808<=x/\x<=9223372036854775807):cn n (dG x)=D:=by
 rw[rJ (a:=dG x) rfl];unfold jL;rw[ae];exact⟨ay h.1,ay h.2⟩
def DU(x:N):ax (dG x)=x:=dA rfl
def aag{a b:N}(e:1<=a/\a<=400)(o:1<=b/\b<=400):QR 1 (n7 (dG a) (dG b)) (gp a b):=by
 have:=(KS (n:=1) (a:=dG a) (b:=dG b) (GO ω) (GO ω) δ (by rw[DU];omega)).qr (by rw[DU];omega);rwa[DU,DU]at this
def RN{t:I (N×N)}(h:∀k,k<t.length->(1<=(g0 t k).1/\(g0 t k).1<=400)/\1<=(g0 t k).2/\(g0 t k).2<=400):∀k,k<=t.length->QR (k+1) (xo t k) (DT t k)
 |0,_=>by
  have:=Rp (n:=1) (a:=dG 1) (GO δ);rw[DU]at this;exact this
 |k+1,A=>by
  have o:=RN h k ω;have e:=h k ω;exact aqW o (aag e.1 e.2) ω δ
def arW(t:I (N×N))(H:t.length<=4)(h:∀k,k<t.length->(1<=(g0 t k).1/\(g0 t k).1<=400)/\1<=(g0 t k).2/\(g0 t k).2<=400):
  Holds em ao 66 [pl t] (ct (xo t t.length)):=by
 have e:=arV;refine bK Bm func66 λw G=>?_
 refine cE e 3 (wy [] 0:cL GN (fl Bm []) 3 24 [pl t] 1 .normal r2 (vp t (j8 (dG 1)) 0)) ?_;refine c_q {k:E//k<=t.length} 0 (cat Bm [1,1,0,1,0,0]) ((fl Bm []).drop 4) (λk=>vp t (xo t k.1) k.1) (λk=>t.length-k.1) ⟨0,gt _⟩ ?_;rintro⟨k,C⟩;by_cases o:k<t.length
 .have A:=h k o;have F:=(RN h k C).mono (show k+1<=20000 by omega);have B:=(aag A.1 A.2).mono (show 1<=20000 by decide);refine aT (s:=vp t (xo t k) k) e (wy [ag (ω:(k:N)<(t.length:N)),ag o,aa (aI (v:=ct (xo t k))),aa (aI (v:=iv ((t.getD k ((0:N),(0:N))).1))),aa (aI (v:=iv ((t.getD k ((0:N),(0:N))).2))),aa (gd.2 ⟨GO (by show-9223372036854775808<=(g0 t k).1/\(g0 t k).1<=9223372036854775807;omega),GO (by show-9223372036854775808<=(g0 t k).2/\(g0 t k).2<=9223372036854775807;omega),by show ax (dG (g0 t k).2)≠0;rw[DU];omega⟩:(kN (dG (t.getD k (0,0)).1) (dG (t.getD k (0,0)).2))=D),aa (show(okQ 20000 (xo t k)&&okQ 20000 (n7 (dG (t.getD k (0,0)).1) (dG (t.getD k (0,0)).2)))=D from by rw[ae];exact⟨F.ok,B.ok⟩),yi (ω:i6 ((k:N)+1))] 156872738376498598545989633:aR GN (fl Bm [1,1,0,1,0,0]) (vp t (xo t k) k) 3 .normal r2 (vp t (AU (xo t k) (n7 (dG (g0 t k).1) (dG (g0 t k).2))) (k+1))) ?_;exact⟨⟨k+1,o⟩,by simp;omega,rfl,rfl⟩
 .refine aT (s:=vp t (xo t k) k) e (wy [az (ω:¬(k:N)<(t.length:N))] 1:aR GN (fl Bm [1,1,0,1,0,0]) (vp t (xo t k) k) 2 (.exit 0) r2 (vp t (xo t k) k)) ?_;refine bY (cg ?_);obtain rfl:k=t.length:=by omega
  exact bM (s:=vp t _ t.length) e (arU t _ _)
def okTx(q:cl):dF:=((I.isEmpty q.1.2&&jL q.1.1)&&(I.isEmpty q.2.2&&jL q.2.1))&&(bP ((cM q.1.1).size<=100)&&bP ((cM q.2.1).size<=100))
def txS(q:cl):AT:=if mC q=D then cM q.1.1 else cM q.1.1++eQ #[47]++cM q.2.1
end
end Go.Proofs.YtdajfemhnlpegaaGreatDoor
namespace Go.Proofs.YtdajfemhnlpegaaGreatDoor.Dec
open Go.Lib
def DV(d:E)(h:d<10):(hN.ofNat (48+d)).toNat=48+d:=by
 rw[hN.toNat_ofNat'];omega
def RO(u:E):∀b∈wU u,48<=b.toNat/\b.toNat<=57:=by
 induction u using Nat.strongRecOn with
 |_ u o=>
  intro b e;rw[wU]at e;split at e
  .simp only[kD]at e;subst e;rw[DV _ ω];omega
  .rcases I.mem_append.1 e with h|h
   .exact o (u/10) ω b h
   .simp only[kD]at h;subst h;rw[DV _ ω];omega
def aah(u:E):0<(wU u).length:=by
 rw[wU];split<;>simp
def arX(k:E):∀u,u<10^(k+1)->(wU u).length<=k+1:=by
 induction k with
 |zero=>intro u e;rw[wU,dif_pos (by simpa using e)];simp
 |succ k o=>
  intro u e;rw[wU];split
  .simp
  .have:=o (u/10) (by rw[E.div_lt_iff_lt_mul ω];rw[C']at e;exact e);simp;omega
def arY(u:E)(h:0<u):∀b r,wU u=b::r->b.toNat≠48:=by
 induction u using Nat.strongRecOn with
 |_ u C=>
  intro b r e;rw[wU]at e;split at e
  .injection e with o _
   subst o;rw[DV _ ω];omega
  .have B:=aah (u/10);cases A:wU (u/10)with
   |nil=>rw[A]at B;simp at B
   |cons c t=>
    rw[A]at e;injection e with o _
    subst o;exact C (u/10) ω ω c t A
def RP(l:I hN):∀(e m:E)(d:E),d<10->vm e l=O m->vm e (l++[hN.ofNat (48+d)])=O (m*10+d):=by
 induction l with
 |nil=>
  intro e m d o h;simp only[vm,vV]at h;subst h;simp only[ts,vm,YY,DV d o];rw[dA ω];show O (e*10+(48+d-48))=_;congr 1;omega
 |cons b r B=>
  intro e m d o h;rw[Aj];unfold vm at h ⊢;cases A:YY b with
  |none=>rw[A]at h;cases h
  |some v=>rw[A]at h;exact B _ _ _ o h
def aai(u:E):vm 0 (wU u)=O u:=by
 induction u using Nat.strongRecOn with
 |_ u e=>
  rw[wU];split
  .have:=RP [] 0 0 u ω rfl;simpa using this
  .have:=RP (wU (u/10)) 0 (u/10) (u%10) ω (e (u/10) ω);rw[this];congr 1;omega
def aaj(l:I hN)(h:∀b∈l,48<=b.toNat/\b.toNat<=57):hasPrefix l [45]=ao:=by
 cases l with
 |nil=>rfl
 |cons b r=>
  have:=h b τ;have o:(45==b)=ao:=by
   rw[fB];intro e;subst e;simp at this
  simp[hasPrefix,QY,o]
def xp(u:E):itoa (u:N)=wU u:=by unfold itoa;rw[db ω];simp
end Go.Proofs.YtdajfemhnlpegaaGreatDoor.Dec
namespace Go.Proofs.YtdajfemhnlpegaaGreatDoor
open Go.RowKit Sv Go.Proofs.Tryz
def arZ{n d:N}(B:1<=d):gp (JR n d) (Dc n d)=gp n d:=by
 have C:0<fo n d:=sq _ ω;have o:=Fu (show(fo n d:N)∣n from Tq ..);have A:=Fu (show(fo n d:N)∣d from D8 ..);unfold JR Dc;have e:gp n d=gp (n/(fo n d:N)*(fo n d:N)) (d/(fo n d:N)*(fo n d:N)):=by rw[o,A]
 rw[e];exact(ò (show(fo n d:N)≠0 by omega)).symm
def ar0{n d:N}(e:1<=d):fo (JR n d) (Dc n d)=1:=N.gcd_ediv_gcd_ediv_gcd (by have:=sq n (show d≠0 by omega);omega)
def RQ{p q:N}(A:1<=q)(h:fo p q=1):(gp p q).num=p/\((gp p q).den:N)=q:=by
 have o:0<(gp p q).den:=(gp p q).den_pos;have e:(gp p q).num*q=p*((gp p q).den:N):=(ï ω ω).1 (tb _);have g:fo (gp p q).num ((gp p q).den:N)=1:=(gp p q).reduced;exact ZE ω ω g h e
def vq{u:E}(h:u<10):Lib.decDigits u=[hN.ofNat (48+u)]:=by rw[Lib.decDigits,dif_pos h]
def Bn{u:E}(h:¬u<10):Lib.decDigits u=Lib.decDigits (u/10)++[hN.ofNat (48+u%10)]:=by rw[Lib.decDigits,dif_neg h]
def aak:∀(f:E)(n:N)(s:I hN),0<=n->n<10^f->1<=s.length->cN f n 1 s=(if n=0 then []else Lib.decDigits n.toNat)++s
 |0,n,s,o,e,B=>by
  have:n=0:=by simp at e;omega
  subst this;rfl
 |f+1,n,s,o,e,B=>by
  have H:=fZ n (show(0:N)<10 by decide);have C:=fC n (show(10:N)≠0 by decide);have F:=ð n 10;rw[hP]at e;unfold cN;split
  .rename_i A;have G:0<n:=by omega
   rw[aak f (n/10) (uK n::s) ω ω τ,db (show¬n=0 by omega)];unfold uK;by_cases h10:n<10
   .rw[dA ω,vq (u:=n.toNat) ω,show n%10=n by omega];simp
   .rw[db ω,Bn (u:=n.toNat) ω,show(n/10).toNat=n.toNat/10 by omega,show(n%10).toNat=n.toNat%10 by omega];simp
  .rename_i A;have:n=0:=by omega
   subst this;rfl
def GP{n:N}(A:0<=n)(B:n<100000000000000000000):cN 20 n 1 []=Lib.itoa n:=by
 have C:=fZ n (show(0:N)<10 by decide);have e:=fC n (show(10:N)≠0 by decide);have o:=ð n 10;show cN (19+1) n 1 []=_;unfold cN;rw[dA (.inr τ),aak 19 (n/10) [uK n] ω ω τ];unfold Lib.itoa uK;rw[db (show¬n<0 by omega)];by_cases h10:n<10
 .rw[dA ω,vq (u:=n.toNat) ω,show n%10=n by omega];simp
 .rw[db ω,Bn (u:=n.toNat) ω,show(n/10).toNat=n.toNat/10 by omega,show(n%10).toNat=n.toNat%10 by omega]
noncomputable section
abbrev RR(l:I N):I Value:=l.map (Value.int .i64)
inductive aal|unit|row|int
structure aam where
 f:ya
 e:ed
 k:aal
 nl:dF
 pre:I N->E->I N->dF
 out:I N->E->I N->I N
 ln:I N->E->I N->E
 val:I N->E->I N->N
def ar1(k:aal)(g n kc:Nat)(v:Int):Value:=match k with |.unit=>.tuple #[]|.row=>.slice (some ⟨g,0,none⟩) n kc|.int=>.int .i64 v
def aam.Ok(P:fd)(c:aam):Prop:=(c.nl=D->∀(p:da wu)(cap:E)(w:du),DG P c.f #[.slice p 0 cap] w λF A=>F=.returned (.tuple #[])/\A=w)/\∀(xs:I N)(e:E)(o:I N),c.pre xs e o=D->1<=e->e<=xs.length->(c.out xs e o).length=xs.length/\c.ln xs e o<=e/\
 ∀(w:du)(g G:E)(B:fh Value),w.heap[g]? =O (.cells B c.e (0,0))->B.toList.take xs.length=RR xs->e<=G->
  DG P c.f (Value.slice (O ⟨g,0,bs⟩) e G::RR o).toArray w λF A=>F=.returned (ar1 c.k g (c.ln xs e o) G (c.val xs e o))/\w.grownBy A (O g)/\
   ∃C,A.heap[g]? =O (.cells C c.e (0,0))/\C.size=B.size/\C.toList.take xs.length=RR (c.out xs e o)
--{
--}
end
def Bo(e:fh Value):E->I Value->fh Value
 |_,[]=>e
 |o,v::r=>Bo (e.setIfInBounds o v) (o+1) r
def aan{g:E}{t:ed}:∀(vs:I Value)(o:E){w:du}{e:fh Value},bH w g t e->bH (w.setCells g o vs) g t (Bo e o vs)
 |[],_,_,_,h=>h
 |v::r,o,_,_,h=>aan r (o+1) (h.set o v)
def aao:∀(vs:I Value)(o:E)(e:fh Value),(Bo e o vs).size=e.size
 |[],_,_=>rfl
 |v::r,o,e=>by unfold Bo;rw[aao r];simp
def aap:∀(vs:I Value)(o:E)(e:fh Value)(j:E),(Bo e o vs)[j]? =if o<=j/\j<o+vs.length/\j<e.size then vs[j-o]? else e[j]?
 |[],o,e,j=>by unfold Bo;rw[db (by simp;omega)]
 |v::r,o,e,j=>by
  unfold Bo;rw[aap r,fh.size_setIfInBounds];by_cases A:o+1<=j/\j<o+1+r.length/\j<e.size
  .rw[dA A,dA (by simp;omega),show j-o=(j-(o+1))+1 by omega];simp
  .rw[db A,pp];by_cases B:o=j
   .subst B;by_cases h3:o<e.size
    .rw[dA rfl,dA h3,dA (by simp;omega)];simp
    .rw[dA rfl,db h3,db (by simp;omega)];simp;omega
   .rw[db B,db (by simp;omega)]
def ar2(w:du)(g o:E)(v:Value):w.grownBy (w.setCell ⟨g,o,bs⟩ v) (O g):=⟨rfl,rfl,rfl,uV (by simp[du.setCell]),λj B A=>YW w _ v j (λe=>A (by rw[e]))⟩
def ar3{a b c:du}{g:E}(h:a.grownBy b (O g))(k:b.grownBy c (O g)):a.grownBy c (O g):=⟨k.os.trans h.os,k.tape.trans h.tape,k.output.trans h.output,cD h.size k.size,λj e o=>(k.block j (iy e h.size) o).trans (h.block j e o)⟩
def aaq{g:E}:∀(vs:I Value)(o:E)(w:du),w.grownBy (w.setCells g o vs) (O g)
 |[],_,w=>⟨rfl,rfl,rfl,aC _,λ_ _ _=>rfl⟩
 |v::r,o,w=>ar3 (ar2 w g o v) (aaq r (o+1) _)
noncomputable section
end
end Go.Proofs.YtdajfemhnlpegaaGreatDoor
namespace Go.Proofs.YtdajfemhnlpegaaGreatDoor
open Go.RowKit
def lf(x:N):Prop:= -9223372036854775808<=x/\x<=9223372036854775807
def lf.wf{x:N}(h:lf x):(Lit.int .i64 x).wf=D:=by
 unfold lf at h;simp[Lit.wf,be.min,be.max,be.signed,be.bits];omega
def DW(w:du)(b n:E)(f:N->N)(g:N->dF):Prop:=
 ∃e:Xs Unit,w.ownsMap Tryz.prog 3 (plainElem Tryz.prog 3) b n e/\Maps.IsMap e/\(∀x:N,e.atKey (.int .i64 x) (.lit (.int .i64 0))=.lit (.int .i64 (f x)))/\∀x:N,Maps.has e (.int .i64 x)=g x
def jO(w:du)(b n:E)(f:N->N):Prop:=DW w b n f λx=>decide (f x≠0)
def jO.kept{w w':du}{b n:E}{f:N->N}{e:da E}(h:jO w b n f)(C:w.grownBy w' e)(F:O b≠e):jO w' b n f:=by
 obtain⟨o,A,B,h3⟩:=h;exact⟨o,A.kept C F,B,h3⟩
def jO.lt{w:du}{b n:E}{f:N->N}(h:jO w b n f):b<w.heap.size:=by
 obtain⟨o,e,_⟩:=h;exact e.lt
def jO.made(w:du):jO (w.alloc (.map #[] 0)) w.heap.size 0 (λ_=>0):=
 ⟨.map [],du.ownsMap_made _ _ _ _,Maps.isMap_empty,λx=>by simp[Xs.atKey],λx=>by simp[Maps.has_eq]⟩
def DW.look{w:du}{b n:E}{f:N->N}{g:N->dF}(h:DW w b n f g)(k:N)(A:lf k):
  (XL 86 (.map (O b)) (.int .i64 k) ao).run Tryz.prog w=.ok (.int .i64 (f k)) w:=by
 obtain⟨C,o,_,h3,_⟩:=h;obtain⟨c,B,e,_⟩:=o.lookup_int (Maps.int_keyed Tryz.underlying3) Tryz.underlying86 Tryz.underlying3 (Tryz.zeroValue3 w) (Ą Tryz.underlying3 A.wf);rw[h3 k]at e;simp only[Xs.lit.injEq,Lit.int.injEq,true_and]at e;rw[B,e]
def jO.look{w:du}{b n:E}{f:N->N}(h:jO w b n f)(k:N)(e:lf k):
  (XL 86 (.map (O b)) (.int .i64 k) ao).run Tryz.prog w=.ok (.int .i64 (f k)) w:=DW.look h k e
def nj(f:N->N)(k v:N):N->N:=λy=>if y=k then v else f y
def GQ(g:N->dF)(k:N)(v:dF):N->dF:=λy=>if y=k then v else g y
def ar4{w:du}{ops:fh ls}{rest:I ls}{o:ls}{a:Zq}{Q:sC->Zq->du->Prop}
  (J:o.guard=bs) (m x v:gn) (M:o.op=Op.mapUpdate 86 m x v) (b n:E) (f:N->N) (g:N->dF)
  (L:a.eval m=.map (O b)) (P:DW w b n f g) (k u:N) (U:a.eval x=.int .i64 k) (K:lf k) (T:a.eval v=.int .i64 u) (S:lf u) (V:n<=1000000)
  (H:∀A,DW A b (n+1) (nj f k u) (GQ g k D)->w.grownBy A (O b)->wpList Tryz.prog ops Q rest (a.put o.dst lk) A):
  wpList Tryz.prog ops Q (o::rest) a w:=by
 obtain⟨F,G,C,h3,h4⟩:=P;refine wpList_mapUpdate_own w J m x v 86 M 3 3 (Maps.int_keyed Tryz.underlying3) Tryz.underlying86 _ b n F L G (by unfold maxLen;omega) _ _ (.int .i64 k) U T (Ą Tryz.underlying3 K.wf) _ [] (plainElem_int Tryz.underlying3 S.wf) ?_;intro A h5 h6;refine H A ⟨_,h5,C.put _ _,λy=>?_,λy=>?_⟩ h6
 .unfold nj;by_cases e:y=k
  .subst e;rw[Maps.atKey_put_same C (by trivial),dA rfl]
  .rw[Maps.atKey_put_other (λB=>e (by injection B)),h3 y,db e]
 .unfold GQ;by_cases e:y=k
  .subst e;rw[Maps.has_put_same C (by trivial),dA rfl]
  .rw[Maps.has_put_other (λB=>e (by injection B)),h4 y,db e]
end Go.Proofs.YtdajfemhnlpegaaGreatDoor
namespace Go.Proofs.YtdajfemhnlpegaaGreatDoor
open Go.RowKit Sv Go.Proofs.Tryz
noncomputable section
structure GR(w:du)(A:da wu)(l:I (N×N)):Prop where
 at_:∀k,k<l.length->∃b off,A=O ⟨b,off,bs⟩/\b<w.heap.size/\w.cell? ⟨b,off+k*2,bs⟩=O (.int .i64 (g0 l k).1)/\w.cell? ⟨b,off+k*2+1,bs⟩=O (.int .i64 (g0 l k).2)
def GR.below{w w':du}{A:da wu}{l:I (N×N)}{n:E}(h:GR w A l)(e:Below n w w')(G:w.heap.size<=n):GR w' A l:=
 ⟨λk C=>by
   obtain⟨b,o,B,F,h3,h4⟩:=h.at_ k C;have:=e.size;exact⟨b,o,B,by omega,(e.cell (p:=⟨b,o+k*2,bs⟩) (by show b<_;omega)).trans h3,(e.cell (p:=⟨b,o+k*2+1,bs⟩) (by show b<_;omega)).trans h4⟩⟩
def aar{ρ:Env}:∀{l:I (N×N)}{ys:I Value},aE ρ (cY.flat l) ys->∀k,k<l.length->ys[k*2]? =O (.int .i64 (g0 l k).1)/\ys[k*2+1]? =O (.int .i64 (g0 l k).2)
 |p::r,ys,h,k,G=>by
  have B:cY.flat (p::r)=.raw (.int .i64 p.1):: .raw (.int .i64 p.2)::cY.flat r:=rfl;rw[B]at h;obtain⟨o,A,ys,rfl⟩:∃o A H,ys=o::A::H:=by
   cases h with |cons _ e=>cases e with |cons _ _=>exact⟨_,_,_,rfl⟩
  cases h with |cons C e=>cases e with |cons F h3=>
  cases k with
  |zero=>
   cases C;cases F;exact⟨rfl,rfl⟩
  |succ k=>
   have:=aar (l:=r) h3 k (by simpa using G);rw[show(k+1)*2=k*2+1+1 by omega];simpa using this
def wa:∀l:I (N×N),(cY.flat l).length=2*l.length
 |[]=>rfl
 |p::r=>by
  have e:cY.flat (p::r)=.raw (.int .i64 p.1):: .raw (.int .i64 p.2)::cY.flat r:=rfl;rw[e];simp[wa r];omega
def ar5{w:World}{F:Env}{l:List (Int×Int)}{x:Value}(hF:nT w F)(h:Den F (pl l) x):∃A c,x=.slice A l.length c/\GR w A l:=by
 cases h with
 |ff hz=>exact⟨_,_,rfl,⟨λk hk=>by cases hk⟩⟩
 | @bh z t xs b off k A ys h ho hy hd hk hz=>
   refine⟨_,_,rfl,⟨λj hj=>?_⟩⟩;obtain⟨e,fr,hb⟩:=hF.fz b A h;have:=aar hd j hj;have hl:=wa l;subst hy;rw[List.getElem?_take_of_lt ω,List.getElem?_take_of_lt ω,List.getElem?_drop,List.getElem?_drop]at this;refine⟨b,off,rfl,(cy.1 hb).1,?_,?_⟩
   .rw[<-this.1];unfold World.cell?;simp[hb]
   .rw[<-this.2];unfold World.cell?;simp[hb,Nat.add_assoc]
def lT(s:I (N×N)):E->N->N
 |0=>λ_=>0
 |k+1=>nj (lT s k) (g0 s k).1 (g0 s k).2
def ar6(f:N->N){k u:N}(o:u≠0):GQ (λx=>decide (f x≠0)) k D=λx=>decide (nj f k u x≠0):=by
 funext y;by_cases e:y=k
 .simp[nj,GQ,e,o]
 .simp[nj,GQ,e]
set_option maxRecDepth 100000 in
set_option maxHeartbeats 4000000 in
def ar7(A:da wu)(c:E)(s:I (N×N))(w:du)(h:GR w A s)(hl:s.length<=32)(hi:∀k,k<s.length->lf (g0 s k).1/\lf (g0 s k).2/\(g0 s k).2≠0):
  DG em 48 #[.slice A s.length c] w λe w'=>e=.returned (.map (O w.heap.size))/\jO w' w.heap.size s.length (lT s s.length)/\Below w.heap.size w w':=by
 have H:=Lib.hid h;have HI:=Lib.hid hi;clear h hi;have hmm:= @run_makeMap em
 go_enter func48,Tryz.ntmps48
 go_wp2_with fail
 go_loopw [9] (λi wr=>∃k:E,k<=s.length/\i=.int .i64 k/\jO wr w.heap.size k (lT s k)/\Below w.heap.size w wr) (λi _=>s.length-(intOf i).toNat)
 case atStart=>exact⟨0,gt _,rfl,jO.made w,(qg _ w).alloc (aC _) _⟩
 case round=>
  obtain⟨k,hk,rfl,mb,eb⟩:=hrel;have hsz:=eb.size;have hlt2:=mb.lt;by_cases hlt:k<s.length
  .obtain⟨b,off,rfl,aas,hc1,hc2⟩:=H.out.at_ k hlt;have hk1:=(eb.cell (p:=⟨b,off+k*2,bs⟩) (by show b<_;omega)).trans hc1;have hk2:=(eb.cell (p:=⟨b,off+k*2+1,bs⟩) (by show b<_;omega)).trans hc2;have fJ:=HI.out k hlt;have hf:lT s (k+1)=nj (lT s k) (g0 s k).1 (g0 s k).2:=rfl;obtain⟨p1,hp1⟩:∃p,(g0 s k).1=p:=⟨_,rfl⟩;obtain⟨p2,hp2⟩:∃p,(g0 s k).2=p:=⟨_,rfl⟩;rw[hp1,hp2]at fJ hf;rw[hp1]at hk1;rw[hp2]at hk2;have K2:=Lib.hid hf;have RS:=Lib.hid (show jO (wr.alloc (.cells #[.int .i64 p1,.int .i64 p2] 64)) w.heap.size k (lT s k)from mb.kept (Kv _ _ bs) τ);have oc:=Lib.hid (eb.alloc (kt hlt2) (.cells #[.int .i64 p1,.int .i64 p2] 64));clear hc1 hc2 mb hf hp1 hp2 eb
   go_wp2_with (at_mapUpdate;refine ar4 rfl _ _ _ rfl w.heap.size k (lT s k) _ rfl RS.out p1 p2 rfl fJ.1 rfl fJ.2.1 ω ?_;intro w1 h1 sY;rw[ar6 _ fJ.2.2]at h1;have H1:=Lib.hid (show jO w1 w.heap.size (k+1) (nj (lT s k) p1 p2)from h1);clear h1;have RT:=Lib.hid sY;clear sY)
   go_roundw
   case rel=>exact⟨k+1,by omega,by go_num,K2.out ▸ H1.out,oc.out.grown RT.out (by simp;omega) λj hj=>by cases hj;exact aC _⟩
   case measure=>simp[intOf];omega
  .obtain rfl:k=s.length:=by omega
   go_wp2_with fail
   go_ret
   exact⟨rfl,mb,eb⟩
def nm{w w':du}{F:Env}(h:nT w F)(C:Below w.heap.size w w'):nT w' F:=⟨h.uv,h.all,λb A B=>by
 obtain⟨e,o,h3⟩:=h.fz b A B;exact⟨e,o,(C.block b (cy.1 h3).1).trans h3⟩⟩
def wb{s:I (N×N)}:∀{n k:E},nV s n k=0->∀j,k<=j->j<k+n->gm s j=0
 |0,k,h,j,A,e=>absurd e ω
 |n+1,k,h,j,A,e=>by
  unfold nV at h;split at h
  .contradiction
  .rename_i h3;by_cases o:j=k
   .subst o;simpa using h3
   .exact wb h j ω ω
def xq{s:I (N×N)}(h:cJ s=0):1<=s.length/\s.length<=32/\∀k,k<s.length->(6<=(g0 s k).1/\(g0 s k).1<=400)/\(1<=(g0 s k).2/\(g0 s k).2<=999999999)/\(0<k->(g0 s (k-1)).1<(g0 s k).1):=by
 unfold cJ at h;split at h
 .cases h
 .split at h
  .cases h
  .refine⟨by omega,by omega,λk e=>?_⟩;have:=wb h k ω ω;unfold gm j0 at this;split at this
   .cases this
   .rename_i h3;split at this
    .cases this
    .rename_i h4;simp only[qh,aN,not_or,N.not_lt,gt_iff_lt]at h3;exact⟨⟨h3.1,h3.2.1⟩,⟨h3.2.2.1,h3.2.2.2⟩,λh5=>by
      have h6:¬(g0 s k).1<=(g0 s (k-1)).1:=λh7=>h4 ⟨h5,h7⟩
      omega⟩
def wc{s:I (N×N)}:∀{n k:E},m8 s n k=0->∀j,k<=j->j<k+n->JE (g0 s j)=ao
 |0,k,h,j,A,e=>absurd e ω
 |n+1,k,h,j,A,e=>by
  unfold m8 at h;split at h
  .cases h
  .rename_i h3;by_cases o:j=k
   .subst o;simpa using h3
   .exact wc h j ω ω
def K3{s:I (N×N)}(h:ij s=0):s.length<=4/\∀k,k<s.length->(1<=(g0 s k).1/\(g0 s k).1<=400)/\(1<=(g0 s k).2/\(g0 s k).2<=400):=by
 unfold ij at h;split at h
 .cases h
 .refine⟨by omega,λk e=>?_⟩;have:=wc h k ω ω;unfold JE at this;simp only[dF.or_eq_false_iff,Ô,N.not_lt,gt_iff_lt]at this;exact⟨⟨this.1,this.2.1⟩,⟨this.2.2.1,this.2.2.2⟩⟩
def I8{f:N->N}(h:∀x,0<=f x/\f x<=1000000000)(k:N)(A:f k≠0):∀x,0<=nj f k (f k-1) x/\nj f k (f k-1) x<=1000000000:=λx=>by
 have e:=h x;have o:=h k;unfold nj;split<;>omega
end
def fX:I (N×N)->qA
 |[]=>1
 |p::t=>gp p.1 p.2*fX t
def RU:∀a b:I (N×N),fX (a++b)=fX a*fX b
 |[],b=>by show fX b=1*fX b;rw[qA.one_mul]
 |p::t,b=>by show gp p.1 p.2*fX (t++b)=gp p.1 p.2*fX t*fX b;rw[RU t b,qA.mul_assoc]
def aat(t:I (N×N)):∀k,k<=t.length->DT t k=fX (t.take k)
 |0,_=>by rw[GD];rfl
 |k+1,o=>by
  have e:t.take (k+1)=t.take k++[g0 t k]:=by rw[sF ω,j3 ω]
  rw[e,RU,<-aat t k ω];show DT t k*gp _ _=DT t k*(gp _ _*1);rw[qA.mul_one]
def ar8(t:I (N×N)):DT t t.length=fX t:=by rw[aat t _ (aC _),dx]
def wd(t:I (N×N)):Prop:=∀p∈t,(1<=p.1/\p.1<=400)/\1<=p.2/\p.2<=400
def RV{t:I (N×N)}:wd t↔ ∀k,k<t.length->(1<=(g0 t k).1/\(g0 t k).1<=400)/\1<=(g0 t k).2/\(g0 t k).2<=400:=by
 constructor
 .intro h k e;rw[j3 e];exact h _ (ra e)
 .intro h p o;obtain⟨k,e,rfl⟩:=I.getElem_of_mem o;have:=h k e;rwa[j3 e]at this
def xu:I N->N
 |[]=>1
 |x::l=>x*xu l
def K4:∀{l:I N},(∀x∈l,1<=x)->1<=xu l
 |[],_=>vc 1
 |x::l,h=>by
  have e:=h x (gb ..);have o:=K4 (l:=l) λy A=>h y (gQ _ A)
  have:(1:N)*1<=x*xu l:=tj e o δ ω;exact this
def aau:∀(t:I (N×N)),fX t=gp (xu (t.map ql)) (xu (t.map rL))
 |[]=>by show(1:qA)=gp 1 1;decide
 |p::t=>by show gp p.1 p.2*fX t=gp (p.1*xu (t.map ql)) (p.2*xu (t.map rL));rw[aau t,qA.divInt_mul_divInt]
def yT(r:qA):Prop:=r.num.natAbs<1000000000000000000/\r.den<1000000000000000000
def aav{a b:N}(Q:1<=b)(M:a.natAbs<1000000000000000000)(P:b<1000000000000000000):yT (gp a b):=by
 have H:0<fo a b:=sq _ ω;have o:gp a b=gp (a/(fo a b:N)) (b/(fo a b:N)):=by
  have B:=Fu (show(fo a b:N)∣a from Tq ..);have C:=Fu (show(fo a b:N)∣b from D8 ..);have F:gp a b=gp (a/(fo a b:N)*(fo a b:N)) (b/(fo a b:N)*(fo a b:N)):=by rw[B,C]
  rw[F];exact ò (show(fo a b:N)≠0 by omega)
 have e:1<=b/(fo a b:N):=by
  have J:=Fu (show(fo a b:N)∣b from D8 ..);have L:0<=b/(fo a b:N):=jN ω ω;rcases zW 0 (b/(fo a b:N))with h|h
  .omega
  .exfalso;have A:b/(fo a b:N)=0:=by omega
   rw[A,NA]at J;omega
 have G:=N.gcd_ediv_gcd_ediv_gcd H;obtain⟨K,U⟩:=RQ e G;rw[o];unfold yT;have S:(a/(fo a b:N)).natAbs<=a.natAbs:=by
  rw[N.natAbs_ediv_of_dvd (Tq ..)];exact E.div_le_self _ _
 have T:b/(fo a b:N)<=b:=vb _ ω;rw[K];refine⟨by omega,by omega⟩
noncomputable section
abbrev oT(j:E)(l:I N):af:= .bZ 3 (.int .i64) j 0 l.length (bO l.length)
abbrev oU(l:I N):gB:= .opt 3 (.int .i64) l
abbrev od:aq:= .pair .bool (.list ao (.int .i64))
abbrev rv(a:dF×I N):af:= .agg [bv a.1,lv a.2]
def yU:=NO f173
def RW:=NO f170
def yV:=NO f121
def tE:=NO f171
def RX:=NO f271
section
variable(l:I N)
def ah:N:=vl 1000000000 l
def DX:dF:=l.all λx=>decide (0<=x)&&bP (x<1000000000)
def eW:I N:=j4 l l.length
def RY:dF:=dd (eW l).length l.length
end
noncomputable def aJ(z:N):I N:=gL 1000000000 z
def okA(l:I N):dF:=DX l&&(RY l&&bP (l.length<=100000))
def okB(l:I N):dF:=DX l&&bP (l.length<=300000)
def oe(w:I N):bD:={n:=21,sl:=[(0,lv w)],bF:=[],next:=64}
abbrev K5:I E:=[1,0,0,0]
section
variable(w:I N)(Z:(w.length:N)>0)(Y:i6 ((w.length:N)-1))(h3:0<=(w.length:N)-1)(h4:((w.length:N)-1).toNat<w.length)
def ar9(h5:w.getD ((w.length:N)-1).toNat 0=0)(h6:((w.take ((w.length:N)-1).toNat).drop 0)=(w.take (w.length-1))):
  aR (aA []) (fl yU K5) (oe w) 1023 .normal [] (oe (w.take (w.length-1))):=
 wy [aa (aK (ay Z)),yi Y,ag h3,ag h4,ag Z,cT h5,ag (by omega:((w.length:N)-(1:N)).toNat<=w.length),av h6] 642491796976714818348818632769
def asa(h5:¬w.getD ((w.length:N)-1).toNat 0=0):
  aR (aA []) (fl yU K5) (oe w) 767 (.exit 0) [] (oe w):=
 wy [aa (aK (ay Z)),yi Y,ag h3,ag h4,ag Z,yn h5] 448504778965001703489
end
def asb(w:I N)(e:¬(w.length:N)>0):
  aR (aA []) (fl yU K5) (oe w) 512 (.exit 0) [] (oe w):=
 wy [aa (aK (ab e)),az e] 8865903284289
def aaw(w:I N):
  bw (aA []) ((fl yU []).drop 2) (oe w) 1 f173 ao (lv w):=
 wy [] 0
def K6:=IN 173 [.list ao (.int .i64)] [.list ao (.int .i64)] ao (λd=>decide (jC (α:=N) d.1<=1000000)) λd=>(eW d.1,())
noncomputable def RZ:bL:=pJ [K6] (aA [])
def oV(a b:I N)(k:E):bD:={n:=41,sl:=[(0,lv a),(1,lv b),(5,iv ((k:N)-1))],bF:=[],next:=64}
def K7(a b:I N)(k:E):bD:={n:=41,sl:=[(0,lv a),(1,lv b),(5,iv ((k:N)-1-1))],bF:=[],next:=64}
abbrev GS:I E:=[1,1,0,1,0,0]
section
variable(a b:I N)(k:E)(Z:(k:N)-1>=0)(Y:0<=(k:N)-1)(h3:((k:N)-1).toNat<a.length)(h4:((k:N)-1).toNat<b.length)
def asi(h5:a.getD ((k:N)-1).toNat 0<b.getD ((k:N)-1).toNat 0):
  bw (aA []) (fl tE GS) (oV a b k) 7 f171 D (iv (-1)):=
 wy [ag Z,ag Y,ag h3,aa (aI (v:=iv (a.getD ((k:N)-(1:N)).toNat (0:N)))),ag h4,aa (aI (v:=iv (b.getD ((k:N)-(1:N)).toNat (0:N)))),ag h5] 31204045762689
def asj(h5:¬a.getD ((k:N)-1).toNat 0<b.getD ((k:N)-1).toNat 0)(h6:a.getD ((k:N)-1).toNat 0>b.getD ((k:N)-1).toNat 0):
  bw (aA []) (fl tE GS) (oV a b k) 13 f171 D (iv 1):=
 wy [ag Z,ag Y,ag h3,aa (aI (v:=iv (a.getD ((k:N)-(1:N)).toNat (0:N)))),ag h4,aa (aI (v:=iv (b.getD ((k:N)-(1:N)).toNat (0:N)))),az h5,ag h6] 156579657712784783981949057
def asl(h5:¬a.getD ((k:N)-1).toNat 0<b.getD ((k:N)-1).toNat 0)(h6:¬a.getD ((k:N)-1).toNat 0>b.getD ((k:N)-1).toNat 0)(h7:i6 ((k:N)-1-1)):
  aR (aA []) (fl tE GS) (oV a b k) 9 .normal [] (K7 a b k):=
 wy [ag Z,ag Y,ag h3,aa (aI (v:=iv (a.getD ((k:N)-(1:N)).toNat (0:N)))),ag h4,aa (aI (v:=iv (b.getD ((k:N)-(1:N)).toNat (0:N)))),az h5,az h6,yi h7] 11298040011281207258074067073
end
def nk(x y:N):N:=if x<y then-1 else if y<x then 1 else 0
def b6(a:I N)(k:N):N:=a.getD k.toNat 0
def R1:=IN 171 [.list ao (.int .i64),.list ao (.int .i64)] [.int .i64] D (λd=>okA d.1&&okA d.2.1) λd=>(nk (ah d.1) (ah d.2.1),())
def aax:=IN 271 [.list ao (.int .i64),.int .i64] [.int .i64] D (λd=>decide (0<=d.2.1)) λd=>(b6 d.1 d.2.1,())
noncomputable def mkR(z:N):dF×I N:=(bP (z<0),aJ (z.natAbs:N))
def bz(neg:dF)(v:N):N:=match neg with |true=> -v|false=>v
abbrev aay:gB:= .blk (.cells 109 [bv ao,.raw (.slice bs 0 0)] D ao ao)
def nr(n:N)(neg:dF)(w:I N):bD:={n:=25,sl:=[(0,iv n),(2,.ptr 64 0),(3,oT 65 w),(4,bv neg)],bF:=[(64,aay),(65,oU w)],next:=66}
abbrev K8:I E:=[1,1,1,0,0,0]
def GU:=IN 170 [.bool,.list ao (.int .i64)] [od] ao (λd=>okB d.2.1) λd=>(mkR (bz d.1 (ah d.2.1)),())
def Pl(l:I N)(M:l.length<=1000000):Holds em ao 173 [lv l] (lv (eW l)):=by
 refine bK yU func173 λP L=>?_
 refine cE ba 1 (wy [] 0:cL (aA []) (fl yU []) 1 21 [lv l] 1 .normal [] (oe l)) ?_;have H:oe l=oe (l.take l.length):=by rw[dx]
 rw[H];refine c_q {k:E//k<=l.length/\j4 l k=eW l} 0 (cat yU K5) ((fl yU []).drop 2) (λk=>oe (l.take k.1)) (λk=>k.1) ⟨l.length,aC _,rfl⟩ ?_;rintro⟨k,F,B⟩;have F:k<=l.length:=F;have G:(l.take k).length=k:=by rw[er];omega
 cases k with
 |zero=>
  refine aT (s:=oe (l.take 0)) ba (asb _ ω) ?_;refine bY (cg ?_);have o:eW l=l.take 0:=by rw[<-B];rfl
  rw[o];exact bM (s:=oe (l.take 0)) ba (aaw _)
 |succ k=>
  have A:((((l.take (k+1)).length:E):N)-1).toNat=k:=by omega
  have C:(l.take (k+1)).getD k 0=l.getD k 0:=by simp[ap,ly]
  have J:(l.take (k+1)).take ((l.take (k+1)).length-1)=l.take k:=by rw[G,KE];congr 1;omega
  by_cases e:l.getD k 0=0
  .refine aT (s:=oe (l.take (k+1))) ba (ar9 _ ω ω ω ω (by rw[A,C];exact e) (by rw[A,G,iW,E.add_sub_cancel])) ?_;have K:j4 l k=eW l:=by rw[<-B,j4,dA e]
   rw[J];exact⟨⟨k,by omega,K⟩,gR _,rfl,rfl⟩
  .refine aT (s:=oe (l.take (k+1))) ba (asa _ ω ω ω ω (by rw[A,C];exact e)) ?_;refine bY (cg ?_);have o:eW l=l.take (k+1):=by rw[<-B,j4,db e]
   rw[o];exact bM (s:=oe (l.take (k+1))) ba (aaw _)
def R2:K6.Ok em:=λ⟨l,_⟩ h=>Pl l (cC h)
def aaz:bI em (bJ RZ):=uE (λc e=>by
 simp only[cQ,iL,Xz]at e;obtain rfl:=e;exact R2) ba
def nt:(1:N)<1000000000:=by decide
section
variable{l:I N}
def GV:DX l=D↔aS 1000000000 l:=by
 unfold DX aS;simp only[ky,ae,aN]
def SO:RY l=D↔fT l:=by
 unfold RY eW;constructor
 .intro h;have h:=ac h;have:=J5 l l.length (aC _);obtain⟨m,A,e,_⟩:=Gi l l.length (aC _);rw[e,er]at h;have o:m=l.length:=by omega
  rw[e,o,dx]at this;exact this
 .intro h;rw[Yh h];exact zX _
def gG:okA l=D↔aS 1000000000 l/\fT l/\l.length<=100000:=by
 unfold okA;rw[ae,ae,GV,SO,aN]
def qO:okB l=D↔aS 1000000000 l/\l.length<=300000:=by
 unfold okB;rw[ae,GV,aN]
def Bp(h:aS 1000000000 l):eW l=aJ (ah l):=by
 refine ik nt (Yg h _ (aC _)) (J5 l _ (aC _)) ?_;unfold eW ah;rw[P4 l _ (aC _),dx]
def K9(h:aS 1000000000 l)(e:fT l):aJ (ah l)=l:=(ik nt h e rfl).symm
end
def jk{z:N}(h:0<=z):aS 1000000000 (aJ z)/\fT (aJ z)/\ah (aJ z)=z:=uO nt h
def La{z:N}(h:0<=z):aJ z=[]↔z=0:=by
 obtain⟨e,o,h3⟩:=jk h;rw[<-J7 nt e o];show ah (aJ z)=0↔_;rw[h3]
def jl{l:I N}(h:aS 1000000000 l):0<=ah l:=iq δ h
def asr(neg:dF)(w:I N)(h:okB w=D):Holds em ao 170 [bv neg,lv w] (rv (mkR (bz neg (ah w)))):=by
 obtain⟨B,H⟩:=qO.1 h;have F:=jl B;have A:=Bp B;refine bK RW func170 λJ G=>?_
 cases neg with
 |true=>
  have e:mkR (bz D (ah w))=(bP ((0:N)<((eW w).length:N)),eW w):=by
   show(bP (-ah w<0),aJ ((-ah w).natAbs:N))=_;rw[A,show((-ah w).natAbs:N)=ah w by omega];congr 1;have C:=La F;by_cases o:ah w=0
   .have:aJ (ah w)=[]:=C.2 o;rw[this,o];rfl
   .have:aJ (ah w)≠[]:=λh=>o (C.1 h)
    have:=I.length_pos_iff.2 this;rw[ay ω,ay ω]
  rw[e];exact bt aaz 9 (wy [ag (ω:w.length<=1000000),av (rfl:(bP ((↑(eW w).length:N)>0))=(bP (0<(↑(eW w).length:N))))] 2147483649:bk RZ (fl RW []) 9 15 [bv D,lv w] 31 f170 ao (.agg [bv (bP (0<((eW w).length:N))),lv (eW w)]))
 |false=>
  have e:mkR (bz ao (ah w))=(ao,eW w):=by
   show(bP (ah w<0),aJ ((ah w).natAbs:N))=_;rw[A,show((ah w).natAbs:N)=ah w by omega,ab ω]
  rw[e];exact bt aaz 9 (wy [ag (ω:w.length<=1000000)] 1:bk RZ (fl RW []) 9 15 [bv ao,lv w] 16 f170 ao (.agg [bv ao,lv (eW w)]))
def Lb:GU.Ok em:=λ⟨e,w,_⟩ h=>asr e w h
def aaA{x y:N}(h:x<y):nk x y= -1:=by unfold nk;rw[dA h]
def aaB{x y:N}(h:y<x):nk x y=1:=by unfold nk;rw[db ω,dA h]
def ass{x y:N}(h:x=y):nk x y=0:=by unfold nk;rw[db ω,db ω]
def ast(a b:I N)(h:okA a=D)(g:okA b=D):Holds em D 171 [lv a,lv b] (iv (nk (ah a) (ah b))):=by
 obtain⟨B,S,W⟩:=gG.1 h;obtain⟨C,T,X⟩:=gG.1 g;refine bK tE func171 λe U=>?_
 by_cases H:a.length=b.length
 .refine cE ba 4 (wy [aa (cS.mpr (ω:(a.length:N)=(b.length:N))),yi (ω:i6 ((a.length:N)-1))] 129:cL (aA []) (fl tE []) 4 41 [lv a,lv b] 2 .normal [] (oV a b a.length)) ?_;refine c_q {k:E//k<=a.length/\∀j,k<=j->j<a.length->a.getD j 0=b.getD j 0} 0 (cat tE GS) ((fl tE []).drop 5) (λk=>oV a b k.1) (λk=>k.1) ⟨a.length,aC _,λj G e=>by omega⟩ ?_;rintro⟨k,V,F⟩;cases k with
  |zero=>
   refine aT (s:=oV a b 0) ba (wy [az (ω:¬(0:N)-1>=0)] 1:aR (aA []) (fl tE GS) (oV a b 0) 2 (.exit 0) [] (oV a b 0)) ?_;refine bY (cg ?_);have K:a=b:=by
    refine I.ext_getElem H λj G e=>?_
    have:=F j (gt _) G;rwa[wX G,wX e]at this
   rw[ass (show ah a=ah b by rw[K])];exact bM (s:=oV a b 0) ba (wy [] 0:bw (aA []) ((fl tE []).drop 5) (oV a b 0) 1 f171 D (iv 0))
  |succ k=>
   have o:(((k+1:E):N)-1).toNat=k:=by omega
   have L:K7 a b (k+1)=oV a b k:=by
    unfold K7 oV;rw[show(((k+1:E):N)-1-1)=(k:N)-1 by omega]
   have P:k<a.length:=by omega
   by_cases e:a.getD k 0<b.getD k 0
   .rw[aaA (show ah a<ah b from J6 nt B C H P e λj J A=>F j ω A)];exact bM (s:=oV a b (k+1)) ba (asi a b (k+1) ω ω ω ω (by rw[o];exact e))
   .by_cases h3:a.getD k 0>b.getD k 0
    .rw[aaB (show ah b<ah a from J6 nt C B H.symm ω (show b.getD k 0<a.getD k 0 by omega) λj J A=>(F j ω ω).symm)];exact bM (s:=oV a b (k+1)) ba (asj a b (k+1) ω ω ω ω (by rw[o];exact e) (by rw[o];exact h3))
    .refine aT (s:=oV a b (k+1)) (s':=K7 a b (k+1)) ba (asl a b (k+1) ω ω ω ω (by rw[o];exact e) (by rw[o];exact h3) ω) ?_;rw[L];exact⟨⟨k,by omega,λj J A=>by
      by_cases M:j=k
      .rw[M];omega
      .exact F j ω A⟩,gR _,rfl,rfl⟩
 .by_cases Q:a.length<b.length
  .rw[aaA (show ah a<ah b from yA nt B C T Q)];exact bt ba 3 (wy [aa (eX.mpr (ω:¬(a.length:N)=(b.length:N))),ag (ω:(a.length:N)<(b.length:N))] 129:bk (aA []) (fl tE []) 3 41 [lv a,lv b] 7 f171 D (iv (-1)))
  .rw[aaB (show ah b<ah a from yA nt C B S ω)];exact bt ba 3 (wy [aa (eX.mpr (ω:¬(a.length:N)=(b.length:N))),az (ω:¬(a.length:N)<(b.length:N))] 129:bk (aA []) (fl tE []) 3 41 [lv a,lv b] 5 f171 D (iv 1))
def aaC:R1.Ok em:=λ⟨a,b,_⟩ h=>by
 have h:(okA a&&okA b)=D:=h;rw[ae]at h;exact ast a b h.1 h.2
def asu:aax.Ok em:=λ⟨a,k,_⟩ h=>by
 have e:(0:N)<=k:=cC h;obtain⟨n,rfl⟩:=Q2 e;show Holds em D 271 [lv a,iv n] (iv (a.getD (n:N).toNat 0));rw[kh];refine bK RX func271 λA F=>?_
 by_cases o:n<a.length
 .exact bt ba 9 (wy [ag (ω:(n:N)<(a.length:N)),ag o] 8193:bk (aA []) (fl RX []) 9 13 [lv a,iv n] 3 f271 D (iv (a.getD n 0)))
 .rw[show a.getD n 0=0 by rw[ap,JU ω];rfl];exact bt ba 9 (wy [az (ω:¬n<(a.length:N))] 1:bk (aA []) (fl RX []) 9 13 [lv a,iv n] 2 f271 D (iv 0))
noncomputable def DY:bL:=pJ [GU] (aA [])
def asy(n:N)(neg:dF)(w:I N)(e:(dd w.length 0||bx 3 (.int .i64) (a8 3 (.int .i64) w) (w.length-1))=D)(o:(okB ((w.drop 0).take w.length))=D):
  bw DY ((fl yV []).drop 4) (nr n neg w) 1 f121 ao (rv (mkR (bz neg (ah ((w.drop 0).take w.length))))):=
 wy [aa (show(dd w.length (0:E)||bx 3 (.int .i64) (a8 3 (.int .i64) w) ((0:E)+w.length-(1:E)))=D from(by simp only[bC]<;>exact e)),aa (show(okB (((bu (.int .i64) (a8 3 (.int .i64) w)).drop (0:E)).take w.length))=D from(by simp only[a7]<;>exact o)),av (show((mkR (bz neg (ah (((bu (.int .i64) (a8 3 (.int .i64) w)).drop (0:E)).take w.length)))).1)=((mkR (bz neg (ah ((w.drop (0:E)).take w.length)))).1)from(by simp only[a7]<;>rfl)),av (show((mkR (bz neg (ah (((bu (.int .i64) (a8 3 (.int .i64) w)).drop (0:E)).take w.length)))).2)=((mkR (bz neg (ah ((w.drop (0:E)).take w.length)))).2)from(by simp only[a7]<;>rfl))] 1060993
def R3:=IN 121 [.int .i64] [od] ao (λd=>decide (-9223372036854775808<=d.1)&&bP (d.1<=9223372036854775807)) λd=>(mkR d.1,())
def asz:bI em (bJ DY):=uE (λc e=>by
 simp only[cQ,iL,Xz]at e;obtain rfl:=e;exact Lb) ba
def xw{α:Type}(l:I α)(x:α):aY.full=bO (l++[x]).length:=by simp[bO]
def tF{α:Type}(l:I α)(x:α):l.length+1=(l++[x]).length:=by simp
def DZ(e:ed)(l:I N):(dd l.length 0||bx e (.int .i64) (a8 e (.int .i64) l) (l.length-1))=D:=by
 by_cases h:l.length=0
 .rw[h];rfl
 .rw[eK,ay (show l.length-1<l.length by omega),dF.or_true]
def asA{n:N}(B:n≠0):∃d,(if gl n 1000000000<0 then 0-gl n 1000000000 else gl n 1000000000)=d/\0<=d/\d<1000000000/\((ej n 1000000000).natAbs:N)*1000000000+d=n.natAbs/\(ej n 1000000000).natAbs<n.natAbs/\(ej n 1000000000<0->n<0)/\(0<ej n 1000000000->0<n):=by
 refine⟨_,rfl,?_⟩;rcases zW n 0 with e|e
 .have o:ej n 1000000000= -((-n)/1000000000):=by
   have h:=N.neg_tdiv (a:= -n) (b:=1000000000);rw[N.neg_neg]at h;rw[h,ku (show 0<= -n by omega)]
  have A:gl n 1000000000= -((-n)%1000000000):=by
   have h:=N.neg_tmod (a:= -n) (b:=1000000000);rw[N.neg_neg]at h;rw[h,lU (show 0<= -n by omega)]
  rw[o,A];split<;>omega
 .rw[ku e,lU e];rw[db ω];omega
def asB(e:N)(U: -9223372036854775808<=e)(T:e<=9223372036854775807):Holds em ao 121 [iv e] (rv (mkR e)):=by
 have B:=asz;refine bK yV func121 λo X=>?_
 refine cE B 3 (wy [] 0:cL DY (fl yV []) 3 25 [iv e] 1 .normal [(64,64,bs)] (nr e (bP (e<0)) [])) ?_;refine c_q {s:N×I N// -9223372036854775808<=s.1/\s.1<=9223372036854775807/\aS 1000000000 s.2/\(s.1.natAbs:N)<1000000000^(4-s.2.length)/\s.2.length<=4/\ah s.2+1000000000^s.2.length*(s.1.natAbs:N)=e.natAbs} 0 (cat yV K8) ((fl yV []).drop 4) (λs=>nr s.1.1 (bP (e<0)) s.1.2) (λs=>s.1.1.natAbs) ⟨(e,[]),U,T,.nil,by show(e.natAbs:N)<1000000000^4;omega,by simp,by show(0:N)+1*_=_;omega⟩ ?_;rintro⟨⟨n,w⟩,J,K,F,o,P,C⟩;have J: -9223372036854775808<=n:=J;have K:n<=9223372036854775807:=K;have F:aS 1000000000 w:=F;have o:(n.natAbs:N)<1000000000^(4-w.length):=o;have P:w.length<=4:=P;have C:ah w+1000000000^w.length*(n.natAbs:N)=e.natAbs:=C;by_cases A:n=0
 .refine aT (s:=nr n (bP (e<0)) w) B (wy [aa (cS.mpr A)] 1:aR DY (fl yV K8) (nr n (bP (e<0)) w) 2 (.exit 0) [(64,64,bs),(65,65,bs)] (nr n (bP (e<0)) w)) ?_;refine bY (cg ?_);have W:ah w=e.natAbs:=by rw[A]at C;simpa using C
  have H:=asy n (bP (e<0)) w;rw[iW,dx]at H;have Q:mkR (bz (bP (e<0)) (ah w))=mkR e:=by
   rw[W];by_cases L:e<0
   .rw[ay L];show mkR (-(e.natAbs:N))=_;congr 1;omega
   .rw[ab L];show mkR (e.natAbs:N)=_;congr 1;omega
  rw[Q]at H;exact bM (s:=nr n (bP (e<0)) w) B (H (DZ _ w) (qO.2 ⟨F,by omega⟩))
 .obtain⟨d,d1,d2,d3,d4,d5,d6,d7⟩:=asA A;have G:w.length<4:=by
   rcases E.lt_or_ge w.length 4 with h|h
   .exact h
   .have:4-w.length=0:=by omega
    rw[this]at o;simp at o;omega
  have V:(1000000000:N)^(4-w.length)=1000000000^(4-(w.length+1))*1000000000:=by rw[<-hP];congr 1;omega
  have M:∃j:{s:N×I N// -9223372036854775808<=s.1/\s.1<=9223372036854775807/\aS 1000000000 s.2/\(s.1.natAbs:N)<1000000000^(4-s.2.length)/\s.2.length<=4/\ah s.2+1000000000^s.2.length*(s.1.natAbs:N)=e.natAbs},j.1.1.natAbs<n.natAbs/\(nr (ej n 1000000000) (bP (e<0)) (w++[d])).T=(nr j.1.1 (bP (e<0)) j.1.2).T/\(nr (ej n 1000000000) (bP (e<0)) (w++[d])).H=(nr j.1.1 (bP (e<0)) j.1.2).H:=by
   refine⟨⟨(ej n 1000000000,w++[d]),by show _<=ej n _;omega,by show ej n _<=_;omega,F.app (.cons ⟨d2,d3⟩ .nil),?_,by show(w++[d]).length<=4;simp;omega,?_⟩,d5,rfl,rfl⟩
   .show((ej n 1000000000).natAbs:N)<1000000000^(4-(w++[d]).length);rw[<-tF];rw[V]at o;omega
   .show ah (w++[d])+1000000000^(w++[d]).length*((ej n 1000000000).natAbs:N)=_;have S:ah (w++[d])=ah w+1000000000^w.length*d:=AY _ _ _;rw[<-tF,S,hP,<-C,<-d4];grind
  by_cases G:gl n 1000000000<0
  .rw[dA G]at d1;subst d1;exact aT (s:=nr n (bP (e<0)) w) B (wy [aa (eX.mpr A),ag G,yi (ω:i6 (0-gl n 1000000000)),yk 3 (.int .i64) w,l8 8 (ω:w.length+1<=1000000),yi (ω:i6 (ej n 1000000000)),av (tF _ _:(w.length+1)=(w++[0-gl n 1000000000]).length),av (xw _ _:(aY.full)=(bO (w++[0-gl n 1000000000]).length)),pH 3 (.int .i64) (Hj (w++[(0:N)-gl n (1000000000:N)]))] 2920667139783965744155195771461633:aR DY (fl yV K8) (nr n (bP (e<0)) w) 11 .normal [(64,64,bs),(65,67,bs)] (nr (ej n 1000000000) (bP (e<0)) (w++[0-gl n 1000000000]))) M
  .rw[db G]at d1;subst d1;exact aT (s:=nr n (bP (e<0)) w) B (wy [aa (eX.mpr A),az G,yk 3 (.int .i64) w,l8 8 (ω:w.length+1<=1000000),yi (ω:i6 (ej n 1000000000)),av (tF _ _:(w.length+1)=(w++[gl n 1000000000]).length),av (xw _ _:(aY.full)=(bO (w++[gl n 1000000000]).length)),pH 3 (.int .i64) (Hj (w++[gl n (1000000000:N)]))] 40564821351257725478366412283905:aR DY (fl yV K8) (nr n (bP (e<0)) w) 9 .normal [(64,64,bs),(65,67,bs)] (nr (ej n 1000000000) (bP (e<0)) (w++[gl n 1000000000]))) M
def aaD:R3.Ok em:=λ⟨n,_⟩ h=>by
 have h:(bP (-9223372036854775808<=n)&&bP (n<=9223372036854775807))=D:=h;rw[ae]at h;exact asB n (cC h.1) (cC h.2)
def xy:=NO f249
def yW:=NO f250
def nz:=NO f174
def jm:=pJ [K6] (aA [aax])
abbrev rO:I E:=[1,1,1,0,1,0,0]
def lg(a b out:I N)(c:N)(k:E):bD:={n:=42,sl:=[(0,lv a),(1,lv b),(5,oT 64 out),(6,iv c),(7,iv k)],bF:=[(64,oU out)],next:=65}
def qP(a b out:I N)(c:N)(k:E):bD:={n:=35,sl:=[(0,lv a),(1,lv b),(5,oT 64 out),(6,iv c),(7,iv k)],bF:=[(64,oU out)],next:=65}
abbrev GW:I E:=[1,1,0,1,0,0]
abbrev Lc:I E:=[1,1,0,1,0,0,1,0,0]
abbrev R4:I E:=[1,1,0,1,0,0,1,0,0,1,0,1,0,0]
def nu(a b out:I N)(i:E):bD:={n:=72,sl:=[(0,lv a),(1,lv b),(5,oT 64 out),(6,iv i)],bF:=[(64,oU out)],next:=65}
def tG(a b out:I N)(i:E)(c:N)(j:E):bD:={n:=72,sl:=[(0,lv a),(1,lv b),(5,oT 64 out),(6,iv i),(7,iv c),(8,iv j)],bF:=[(64,oU out)],next:=65}
def iu(n:E):I N:=ie n 0
def asN(a b:I N)(e: -9223372036854775808<=(a.length:N)+(b.length:N)/\(a.length:N)+(b.length:N)<=9223372036854775807)(o:((a.length:N)+(b.length:N)).toNat<=1000000)(h3:(((a.length:N)+(b.length:N)).toNat)=(iu (a.length+b.length)).length)(h4:(aY.known ((a.length:N)+(b.length:N)).toNat)=(aY.known (a.length+b.length)))(h5:(bO (iu (a.length+b.length)).length)=(bO (a.length+b.length)))(h6:(F5 (ie ((a.length:N)+(b.length:N)).toNat (I.map af.raw (uU #[Value.int .i64 (0:N)]))))=(A' (λx=>[iv x]) (iu (a.length+b.length))))(h7:(a.length+b.length)=(iu (a.length+b.length)).length):
  aD.path (sP em jm (fl nz []) 3 72 [lv a,lv b]) (dl 1) (fy em 72 .normal [(64,64,O (a.length+b.length))] (nu a b (iu (a.length+b.length)) 0)):=
 mp (aje (fA e) rt (rB rt (show(bP (((a.length:N)+(b.length:N)).toNat<=((a.length:N)+(b.length:N)).toNat))=D from ay ω) (show(bounded ((a.length:N)+(b.length:N)).toNat (8:E))=D from kB o ω) (rr a) (rr b) (an h3 (an h4 h5)) (rr (0:N)) (an h6 h7) trivial))
section
variable(a b out:I N)(i:E)(c:N)(j:E)
def ST(e:(j:N)<(b.length:N))(B:i6 ((i:N)+(j:N)))(h3:((i:N)+(j:N)).toNat<out.length)(h4:i<a.length)(h5:j<b.length)(h6:i6 (a.getD i 0*b.getD j 0))(h7:i6 (out.getD ((i:N)+(j:N)).toNat 0+a.getD i 0*b.getD j 0))(h8:i6 (out.getD ((i:N)+(j:N)).toNat 0+a.getD i 0*b.getD j 0+c))(h9:i6 (ej (out.getD ((i:N)+(j:N)).toNat 0+a.getD i 0*b.getD j 0+c) 1000000000))(h10:i6 ((j:N)+1))(o:out.length=(out.set ((i:N)+(j:N)).toNat (gl (out.getD ((i:N)+(j:N)).toNat 0+a.getD i 0*b.getD j 0+c) 1000000000)).length)(A:(bO out.length)=(bO (out.set ((i:N)+(j:N)).toNat (gl (out.getD ((i:N)+(j:N)).toNat 0+a.getD i 0*b.getD j 0+c) 1000000000)).length)):
  aR jm (fl nz R4) (tG a b out i c j) 3 .normal [(64,64,bs)] (tG a b (out.set ((i:N)+(j:N)).toNat (gl (out.getD ((i:N)+(j:N)).toNat 0+a.getD i 0*b.getD j 0+c) 1000000000)) i (ej (out.getD ((i:N)+(j:N)).toNat 0+a.getD i 0*b.getD j 0+c) 1000000000) (j+1)):=
 wy [ag e,yi B,ag h3,jf 3 (.int .i64) h3,aa (aI (v:=iv ((bu (.int .i64) (a8 3 (.int .i64) out)).getD ((0:E)+((i:N)+(j:N)).toNat) (0:N)))),ag h4,aa (aI (v:=iv (a.getD i (0:N)))),ag h5,aa (aI (v:=iv (b.getD j (0:N)))),yi h6,aa (show(fits iz ((bu (.int .i64) (a8 3 (.int .i64) out)).getD ((0:E)+((i:N)+(j:N)).toNat) (0:N)+a.getD i (0:N)*b.getD j (0:N)))=D from(by simp only[a7,bC]<;>exact fA h7)),aa (show(fits iz ((bu (.int .i64) (a8 3 (.int .i64) out)).getD ((0:E)+((i:N)+(j:N)).toNat) (0:N)+a.getD i (0:N)*b.getD j (0:N)+c))=D from(by simp only[a7,bC]<;>exact fA h8)),aa (show(fits iz (ej ((bu (.int .i64) (a8 3 (.int .i64) out)).getD ((0:E)+((i:N)+(j:N)).toNat) (0:N)+a.getD i (0:N)*b.getD j (0:N)+c) (1000000000:N)))=D from(by simp only[a7,bC]<;>exact fA h9)),yi h10,av o,av A,av (show(ej ((bu (.int .i64) (a8 3 (.int .i64) out)).getD ((0:E)+((i:N)+(j:N)).toNat) (0:N)+a.getD i (0:N)*b.getD j (0:N)+c) (1000000000:N))=(ej (out.getD ((i:N)+(j:N)).toNat (0:N)+a.getD i (0:N)*b.getD j (0:N)+c) (1000000000:N))from(by simp only[a7,bC]<;>rfl)),pF em 3 (.int .i64) (show((bu (.int .i64) (a8 3 (.int .i64) out)).set ((0:E)+((i:N)+(j:N)).toNat) (gl ((bu (.int .i64) (a8 3 (.int .i64) out)).getD ((0:E)+((i:N)+(j:N)).toNat) (0:N)+a.getD i (0:N)*b.getD j (0:N)+c) (1000000000:N)))=(out.set ((i:N)+(j:N)).toNat (gl (out.getD ((i:N)+(j:N)).toNat (0:N)+a.getD i (0:N)*b.getD j (0:N)+c) (1000000000:N)))from(by simp only[a7,bC]<;>rfl))] 113013889735155783555940953289561697649430070733285792415873
def asS(o:i6 ((i:N)+(b.length:N)))(e:((i:N)+(b.length:N)).toNat<out.length)(h3:i6 (out.getD ((i:N)+(b.length:N)).toNat 0+c))(h4:out.length=(out.set ((i:N)+(b.length:N)).toNat (out.getD ((i:N)+(b.length:N)).toNat 0+c)).length)(h5:(bO out.length)=(bO (out.set ((i:N)+(b.length:N)).toNat (out.getD ((i:N)+(b.length:N)).toNat 0+c)).length)):
  aR jm ((fl nz Lc).drop 3) (tG a b out i c j) 1 .normal [(64,64,bs)] (nu a b (out.set ((i:N)+(b.length:N)).toNat (out.getD ((i:N)+(b.length:N)).toNat 0+c)) i):=
 wy [yi o,ag e,jf 3 (.int .i64) e,aa (show(fits iz ((bu (.int .i64) (a8 3 (.int .i64) out)).getD ((0:E)+((i:N)+(b.length:N)).toNat) (0:N)+c))=D from(by simp only[a7,bC]<;>exact fA h3)),av h4,av h5,pF em 3 (.int .i64) (show((bu (.int .i64) (a8 3 (.int .i64) out)).set ((0:E)+((i:N)+(b.length:N)).toNat) ((bu (.int .i64) (a8 3 (.int .i64) out)).getD ((0:E)+((i:N)+(b.length:N)).toNat) (0:N)+c))=(out.set ((i:N)+(b.length:N)).toNat (out.getD ((i:N)+(b.length:N)).toNat (0:N)+c))from(by simp only[a7,bC]<;>rfl))] 8667417275560351441650974785
end
def yX(a b:I N):dF:=okA a&&okA b
def aaE:=IN 249 [.list ao (.int .i64),.list ao (.int .i64)] [.list ao (.int .i64)] ao (λd=>yX d.1 d.2.1) λd=>(aJ (ah d.1+ah d.2.1),())
def aaF:=IN 250 [.list ao (.int .i64),.list ao (.int .i64)] [.list ao (.int .i64)] ao (λd=>yX d.1 d.2.1&&bP (ah d.2.1<=ah d.1)) λd=>(aJ (ah d.1-ah d.2.1),())
def R5:=IN 174 [.list ao (.int .i64),.list ao (.int .i64)] [.list ao (.int .i64)] ao (λd=>okB d.1&&okB d.2.1) λd=>(aJ (ah d.1*ah d.2.1),())
def Ld:bI em (bJ jm):=uE (λc e=>by
 simp only[cQ,iL,Xz]at e;obtain rfl:=e;exact R2) (uA asu)
def GX{a b:I N}:yX a b=D↔okA a=D/\okA b=D:=by unfold yX;rw[ae]
def wi(a:I N)(k:E):b6 a (k:N)=a.getD k 0:=by unfold b6;rw[kh]
def asU{b:N}(F:1<b){l:I N}(h:aS b l)(o:∀k,l.length=k+1->b^k<=vl b l):fT l:=λk A e=>by
 have B:=o k A;have C:vl b l=vl b (l.take k):=by
  have:=nY (b:=b) (show k<l.length by omega);rw[eG ω,e]at this;simpa using this
 have h3:=gY (show 0<b by omega) (h.take k);rw[er,show XR k l.length=k by omega]at h3;omega
structure yY(a b out:I N)(c:N)(k:E):Prop where
 dg:aS 1000000000 out
 len:out.length=k
 sG:c=0\/c=1
 val:ah out+1000000000^k*c=ah (a.take k)+ah (b.take k)
 top:k<=max a.length b.length\/(k=max a.length b.length+1/\1000000000^max a.length b.length<=ah a+ah b)
def Le(l:I N)(k:E):ah (l.take (k+1))=ah (l.take k)+1000000000^k*l.getD k 0:=mX l k
def D0{l:I N}{k:E}(h:l.length<=k):ah (l.take k)=ah l:=by rw[eG h]
def asV{a b:I N}(e:aS 1000000000 a)(o:aS 1000000000 b):ah a+ah b<1000000000^(max a.length b.length+1):=by
 have A:=gY (show(0:N)<1000000000 by decide) e;have B:=gY (show(0:N)<1000000000 by decide) o;have h3:=j5 (b:=1000000000) δ (show a.length<=max a.length b.length by omega);have h4:=j5 (b:=1000000000) δ (show b.length<=max a.length b.length by omega);have h5:=eE (show(0:N)<1000000000 by decide) (max a.length b.length);rw[hP];unfold ah;omega
def yY.next{a b out:I N}{c:N}{k:E}(h:yY a b out c k)(o:aS 1000000000 a)(A:aS 1000000000 b)(L:k<a.length\/k<b.length\/c>0):yY a b (out++[(a.getD k 0+b.getD k 0+c)%1000000000]) ((a.getD k 0+b.getD k 0+c)/1000000000) (k+1)/\k<=max a.length b.length:=by
 have H:=o.get δ k;have J:=A.get δ k;have G:=h.sG;obtain⟨s,F⟩:∃s,a.getD k 0+b.getD k 0+c=s:=⟨_,rfl⟩;rw[F];have C:k<=max a.length b.length:=by
  rcases h.top with e|⟨e,K⟩
  .exact e
  .have h3:c>0:=by omega
   have h4:c=1:=by omega
   have h5:=h.val;rw[h4,D0 (show a.length<=k by omega),D0 (show b.length<=k by omega),e]at h5;have h6:=asV o A;have h7:=jl h.dg;omega
 refine⟨⟨h.dg.app (.cons ω .nil),by simp[h.len],by omega,?_,?_⟩,C⟩
 .have B:ah (out++[s%1000000000])=ah out+1000000000^k*(s%1000000000):=by rw[<-h.len];exact AY _ _ _
  rw[B,Le,Le,hP];exact P7 ω h.val
 .by_cases M:k<max a.length b.length
  .exact .inl ω
  .refine .inr ⟨by omega,?_⟩;have h4:c=1:=by omega
   have h5:=h.val;rw[h4,D0 (show a.length<=k by omega),D0 (show b.length<=k by omega)]at h5;have h7:=jl h.dg;have h8:k=max a.length b.length:=by omega
   rw[<-h8];omega
def yY.fin{a b out:I N}{c:N}{k:E}(h:yY a b out c k)(e:aS 1000000000 a)(o:aS 1000000000 b)(J:fT a)(K:fT b)(C:a.length<=k)(F:b.length<=k)(h3:¬c>0):out=aJ (ah a+ah b):=by
 have G:c=0:=by have:=h.sG;omega
 have A:ah out=ah a+ah b:=by
  have:=h.val;rw[G,D0 C,D0 F]at this;simpa using this
 have P:=jl e;have Q:=jl o;refine ik nt h.dg (asU nt h.dg λj L=>?_) A;show _<=ah out;rw[A];have M:=h.len;rcases h.top with h4|⟨h4,h5⟩
 .by_cases H:a.length=j+1
  .have h6:(1000000000:N)^j<=ah a:=vx δ e J H;omega
  .have h6:(1000000000:N)^j<=ah b:=vx δ o K ω;omega
 .have B:j=max a.length b.length:=by omega
  rw[B];exact h5
def asW(a b:I N)(h:okA a=D)(g:okA b=D):Holds em ao 249 [lv a,lv b] (lv (aJ (ah a+ah b))):=by
 obtain⟨G,W,e⟩:=gG.1 h;obtain⟨H,X,e⟩:=gG.1 g;have o:=Ld;refine bK xy func249 λe F=>?_
 refine cE o 4 (wy [] 0:cL jm (fl xy []) 4 42 [lv a,lv b] 1 .normal [] (lg a b [] 0 0)) ?_;refine c_q {s:I N×N×E//yY a b s.1 s.2.1 s.2.2} 0 (cat xy rO) ((fl xy []).drop 5) (λs=>lg a b s.1.1 s.1.2.1 s.1.2.2) (λs=>max a.length b.length+2-s.1.2.2) ⟨([],0,0),.nil,rfl,.inl rfl,by simp[ah,vl],.inl (gt _)⟩ ?_;rintro⟨⟨out,c,k⟩,e⟩;have e:yY a b out c k:=e;have A:=G.get δ k;have A:=H.get δ k;have A:=e.sG;have A:=e.len;have J:(0:N)<=(k:N):=by omega
 have A:=wi a k;have B:=wi b k;by_cases U:k<a.length\/k<b.length\/c>0
 .obtain⟨V,C⟩:=e.next G H U;have T:gl (a.getD k 0+b.getD k 0+c) 1000000000=(a.getD k 0+b.getD k 0+c)%1000000000:=lU ω;have M:ej (a.getD k 0+b.getD k 0+c) 1000000000=(a.getD k 0+b.getD k 0+c)/1000000000:=ku ω;have L:∃j:{s:I N×N×E//yY a b s.1 s.2.1 s.2.2},max a.length b.length+2-j.1.2.2<max a.length b.length+2-k/\(lg a b (out++[gl (b6 a k+b6 b k+c) 1000000000]) (ej (b6 a k+b6 b k+c) 1000000000) (k+1)).T=(lg a b j.1.1 j.1.2.1 j.1.2.2).T/\(lg a b (out++[gl (b6 a k+b6 b k+c) 1000000000]) (ej (b6 a k+b6 b k+c) 1000000000) (k+1)).H=(lg a b j.1.1 j.1.2.1 j.1.2.2).H:=by
   rw[A,B,T,M];exact⟨⟨(_,_,k+1),V⟩,by show max a.length b.length+2-(k+1)<_;omega,rfl,rfl⟩
  have K: -9223372036854775808<=b6 a k+b6 b k/\b6 a k+b6 b k<=9223372036854775807:=by rw[A,B];omega
  have C: -9223372036854775808<=b6 a k+b6 b k+c/\b6 a k+b6 b k+c<=9223372036854775807:=by rw[A,B];omega
  have F: -9223372036854775808<=ej (b6 a k+b6 b k+c) 1000000000/\ej (b6 a k+b6 b k+c) 1000000000<=9223372036854775807:=by rw[A,B,M];omega
  by_cases A:k<a.length
  .exact aT (s:=lg a b out c k) o (wy [aa (aL (ay (ω:(k:N)<(a.length:N)))),ag (ω:(k:N)<(a.length:N)),ag J,yi K,yi C,yk 3 (.int .i64) out,l8 8 (ω:out.length+1<=1000000),yi F,yi (ω:i6 ((k:N)+1)),av (tF _ _:(out.length+1)=(out++[gl (b6 a (k:N)+b6 b (k:N)+c) 1000000000]).length),av (xw _ _:(aY.full)=(bO (out++[gl (b6 a (k:N)+b6 b (k:N)+c) 1000000000]).length)),pH 3 (.int .i64) (Hj (out++[gl (b6 a (k:N)+b6 b (k:N)+c) (1000000000:N)]))] 4489748952612617644828073985769994856947271015338049:aR jm (fl xy rO) (lg a b out c k) 1424 .normal [(64,66,bs)] (lg a b (out++[gl (b6 a k+b6 b k+c) 1000000000]) (ej (b6 a k+b6 b k+c) 1000000000) (k+1))) L
  .by_cases A:k<b.length
   .exact aT (s:=lg a b out c k) o (wy [aa (aL (ab (ω:¬(k:N)<(a.length:N)))),az (ω:¬(k:N)<(a.length:N)),aa (aL (ay (ω:(k:N)<(b.length:N)))),ag (ω:(k:N)<(b.length:N)),ag J,yi K,yi C,yk 3 (.int .i64) out,l8 8 (ω:out.length+1<=1000000),yi F,yi (ω:i6 ((k:N)+1)),av (tF _ _:(out.length+1)=(out++[gl (b6 a (k:N)+b6 b (k:N)+c) 1000000000]).length),av (xw _ _:(aY.full)=(bO (out++[gl (b6 a (k:N)+b6 b (k:N)+c) 1000000000]).length)),pH 3 (.int .i64) (Hj (out++[gl (b6 a (k:N)+b6 b (k:N)+c) (1000000000:N)]))] 5238040690022918447934035119010923055851292927987777:aR jm (fl xy rO) (lg a b out c k) 1423 .normal [(64,66,bs)] (lg a b (out++[gl (b6 a k+b6 b k+c) 1000000000]) (ej (b6 a k+b6 b k+c) 1000000000) (k+1))) L
   .exact aT (s:=lg a b out c k) o (wy [aa (aL (ab (ω:¬(k:N)<(a.length:N)))),az (ω:¬(k:N)<(a.length:N)),aa (aL (ab (ω:¬(k:N)<(b.length:N)))),az (ω:¬(k:N)<(b.length:N)),ag (ω:c>0),ag J,yi K,yi C,yk 3 (.int .i64) out,l8 8 (ω:out.length+1<=1000000),yi F,yi (ω:i6 ((k:N)+1)),av (tF _ _:(out.length+1)=(out++[gl (b6 a (k:N)+b6 b (k:N)+c) 1000000000]).length),av (xw _ _:(aY.full)=(bO (out++[gl (b6 a (k:N)+b6 b (k:N)+c) 1000000000]).length)),pH 3 (.int .i64) (Hj (out++[gl (b6 a (k:N)+b6 b (k:N)+c) (1000000000:N)]))] 5612186558728068849487015685631387156701777985015873:aR jm (fl xy rO) (lg a b out c k) 1391 .normal [(64,66,bs)] (lg a b (out++[gl (b6 a k+b6 b k+c) 1000000000]) (ej (b6 a k+b6 b k+c) 1000000000) (k+1))) L
 .refine aT (s:=lg a b out c k) o (wy [aa (aL (ab (ω:¬(k:N)<(a.length:N)))),az (ω:¬(k:N)<(a.length:N)),aa (aL (ab (ω:¬(k:N)<(b.length:N)))),az (ω:¬(k:N)<(b.length:N)),az (ω:¬c>0)] 1425176483074113:aR jm (fl xy rO) (lg a b out c k) 623 (.exit 0) [(64,64,bs)] (lg a b out c k)) ?_;refine bY (cg ?_);rw[<-e.fin G H W X ω ω ω];have P:=DZ 3 out;refine bp.iC (s:=lg a b out c k) known mixed o _ (wy [nU (an (rr out.length) (an (show(out)=(((bu (.int .i64) (a8 3 (.int .i64) out)).drop (0:E)).take out.length)from(by simp only[a7]<;>exact(τ:(out)=((out.drop 0).take out.length)))) (an (?_:out.length=0\/bx 3 (.int .i64) (a8 3 (.int .i64) out) (0+out.length-1)=D) ((λh=>by cases h):ao=D->out.length≠0))))] 1:bw jm ((fl xy []).drop 5) (lg a b out c k) 1 f249 ao (lv out)) λT H h=>?_
  .by_cases Q:out.length=0
   .exact .inl Q
   .rw[qh]at P;rw[bC];exact .inr (P.resolve_left λS=>Q (ac S))
  .exact h
def asX:aaE.Ok em:=λ⟨a,b,_⟩ h=>by
 obtain⟨e,o⟩:=GX.1 h;exact asW a b e o
structure R7(a b out:I N)(c:N)(k:E):Prop where
 dg:aS 1000000000 out
 len:out.length=k
 sG:c=0\/c=1
 val:ah out-1000000000^k*c=ah (a.take k)-ah (b.take k)
def asY(a b:I N)(h:okA a=D)(g:okA b=D)(e:ah b<=ah a):Holds em ao 250 [lv a,lv b] (lv (aJ (ah a-ah b))):=by
 obtain⟨H,o,e⟩:=gG.1 h;obtain⟨J,o,e⟩:=gG.1 g;have B:=Ld;refine bK yW func250 λe F=>?_
 refine cE B 4 (wy [] 0:cL jm (fl yW []) 4 35 [lv a,lv b] 1 .normal [] (qP a b [] 0 0)) ?_;refine c_q {s:I N×N×E//s.2.2<=a.length/\R7 a b s.1 s.2.1 s.2.2} 0 (cat yW rO) ((fl yW []).drop 5) (λs=>qP a b s.1.1 s.1.2.1 s.1.2.2) (λs=>a.length-s.1.2.2) ⟨([],0,0),gt _,.nil,rfl,.inl rfl,by simp[ah,vl]⟩ ?_;rintro⟨⟨out,c,k⟩,K,e⟩;have K:k<=a.length:=K;have e:R7 a b out c k:=e;have o:=H.get δ k;have o:=J.get δ k;have Q:=e.sG;have G:=e.len;have L:(0:N)<=(k:N):=by omega
 have o:=wi b k;have M:∀d A:N,0<=d/\d<1000000000->(A=0\/A=1)->d-1000000000*A=a.getD k 0-b.getD k 0-c->R7 a b (out++[d]) A (k+1):=λd A U C V=>by
  refine⟨e.dg.app (.cons U .nil),by simp[G],C,?_⟩;have S:ah (out++[d])=ah out+1000000000^k*d:=by rw[<-G];exact AY _ _ _
  rw[S,Le,Le,hP];exact Yp V e.val
 by_cases C:k<a.length
 .by_cases F:a.getD k 0-b6 b k-c<0
  .refine aT (s:=qP a b out c k) B (wy [ag (ω:(k:N)<(a.length:N)),ag C,aa (aI (v:=iv (a.getD k (0:N)))),ag L,yi (show i6 (a.getD k 0-b6 b (k:N)) from by rw[o];omega),yi (show i6 (a.getD k 0-b6 b (k:N)-c) from by rw[o];omega),ag F,yi (show i6 (a.getD k 0-b6 b (k:N)-c+1000000000) from by rw[o];omega),yk 3 (.int .i64) out,l8 8 (ω:out.length+1<=1000000),yi (ω:i6 ((k:N)+1)),av (tF _ _:(out.length+1)=(out++[a.getD k 0-b6 b (k:N)-c+1000000000]).length),av (xw _ _:(aY.full)=(bO (out++[a.getD k 0-b6 b (k:N)-c+1000000000]).length)),pH 3 (.int .i64) (Hj (out++[a.getD k (0:N)-b6 b (k:N)-c+(1000000000:N)]))] 76223524083949719363713562717780016111617:aR jm (fl yW rO) (qP a b out c k) 11 .normal [(64,66,bs)] (qP a b (out++[a.getD k 0-b6 b k-c+1000000000]) 1 (k+1))) ?_;rw[o]at F ⊢;exact⟨⟨(_,1,k+1),C,M _ 1 ω (.inr rfl) ω⟩,by show a.length-(k+1)<a.length-k;omega,rfl,rfl⟩
  .refine aT (s:=qP a b out c k) B (wy [ag (ω:(k:N)<(a.length:N)),ag C,aa (aI (v:=iv (a.getD k (0:N)))),ag L,yi (show i6 (a.getD k 0-b6 b (k:N)) from by rw[o];omega),yi (show i6 (a.getD k 0-b6 b (k:N)-c) from by rw[o];omega),az F,yk 3 (.int .i64) out,l8 8 (ω:out.length+1<=1000000),yi (ω:i6 ((k:N)+1)),av (tF _ _:(out.length+1)=(out++[a.getD k 0-b6 b (k:N)-c]).length),av (xw _ _:(aY.full)=(bO (out++[a.getD k 0-b6 b (k:N)-c]).length)),pH 3 (.int .i64) (Hj (out++[a.getD k (0:N)-b6 b (k:N)-c]))] 1105921642492323382824927727698886533121:aR jm (fl yW rO) (qP a b out c k) 9 .normal [(64,66,bs)] (qP a b (out++[a.getD k 0-b6 b k-c]) 0 (k+1))) ?_;rw[o]at F ⊢;exact⟨⟨(_,0,k+1),C,M _ 0 ω (.inl rfl) ω⟩,by show a.length-(k+1)<a.length-k;omega,rfl,rfl⟩
 .refine aT (s:=qP a b out c k) B (wy [az (ω:¬(k:N)<(a.length:N))] 1:aR jm (fl yW rO) (qP a b out c k) 2 (.exit 0) [(64,64,bs)] (qP a b out c k)) ?_;refine bY (cg ?_);obtain rfl:k=a.length:=by omega
  have o:ah a<1000000000^a.length:=gY δ H;have X:ah (b.take a.length)=ah b:=Gj δ J (show ah b<_ by omega);have W:ah out=ah a-ah b:=by
   have T:=e.val;have o:ah out<1000000000^a.length:=by rw[<-G];exact gY δ e.dg
   rw[dx,X]at T;rcases Q with rfl |rfl
   .omega
   .omega
  have P:bw jm ((fl yW []).drop 5) (qP a b out c a.length) 1 f250 ao (lv (eW ((out.drop 0).take out.length))):=wy [aa (show(dd out.length (0:E)||bx 3 (.int .i64) (a8 3 (.int .i64) out) ((0:E)+out.length-(1:E)))=D from(by simp only[bC]<;>exact(DZ _ out:(dd out.length 0||bx 3 (.int .i64) (a8 3 (.int .i64) out) (out.length-1))=D))),aa (show(bP ((((bu (.int .i64) (a8 3 (.int .i64) out)).drop (0:E)).take out.length).length<=(1000000:E)))=D from(by simp only[a7]<;>exact ay (show((out.drop 0).take out.length).length<=1000000 from by rw[iW,dx];omega))),av (show(eW (((bu (.int .i64) (a8 3 (.int .i64) out)).drop (0:E)).take out.length))=(eW ((out.drop (0:E)).take out.length))from(by simp only[a7]<;>rfl))] 12417;rw[iW,dx,Bp e.dg,W]at P;exact bM (s:=qP a b out c a.length) B P
def asZ:aaF.Ok em:=λ⟨a,b,_⟩ h=>by
 have h:(yX a b&&bP (ah b<=ah a))=D:=h;rw[ae]at h;obtain⟨e,o⟩:=GX.1 h.1;exact asY a b e o (cC h.2)
def R8(n:E):aS 1000000000 (iu n):=aS.rep δ n
def eI(n:E):(iu n).length=n:=I.length_replicate
def R9(n:E):(ie n (I.map af.raw (uU #[Value.int iz (0:N)]))).flatten=(iu n).flatMap (λx=>[af.raw (Value.int iz x)]):=by
 unfold iu;induction n with
 |zero=>rfl
 |succ n e=>rw[Lq,Lq,I.flatten_cons,I.flatMap_cons,e];rfl
def as0{o x y c:N}(G:0<=o/\o<1000000000)(A:0<=x/\x<1000000000)(e:0<=y/\y<1000000000)(F:0<=c/\c<1000000000):
  (0<=x*y/\x*y<=999999998000000001)/\gl (o+x*y+c) 1000000000+1000000000*ej (o+x*y+c) 1000000000=x*y+o+c/\(0<=gl (o+x*y+c) 1000000000/\gl (o+x*y+c) 1000000000<1000000000)/\(0<=ej (o+x*y+c) 1000000000/\ej (o+x*y+c) 1000000000<1000000000):=by
 have B:0<=x*y:=kv A.1 e.1;have C:x*y<=999999999*999999999:=tj ω ω e.1 δ;rw[lU ω,ku ω];generalize x*y=p at*;omega
def as1(x y:I N)(h:okB x=D)(g:okB y=D):Holds em ao 174 [lv x,lv y] (lv (aJ (ah x*ah y))):=by
 obtain⟨e,o⟩:=qO.1 h;obtain⟨A,o⟩:=qO.1 g;have o:=Ld;have L:((x.length:N)+(y.length:N)).toNat=x.length+y.length:=by omega
 refine bK nz func174 λB F=>?_
 refine cE o 3 (asN x y ω ω (by rw[eI,L]) (by rw[L]) (by rw[eI]) (by rw[L];exact R9 _) (by rw[eI])) ?_;refine c_q {s:I N×E//s.2<=x.length/\s.1.length=x.length+y.length/\aS 1000000000 s.1/\ah s.1=ah (x.take s.2)*ah y/\∀k,s.2+y.length<=k->s.1.getD k 0=0} 0 (cat nz GW) ((fl nz []).drop 4) (λs=>nu x y s.1.1 s.1.2) (λs=>x.length-s.1.2)
  ⟨(iu (x.length+y.length),0),gt _,eI _,R8 _,by
    show vl _ (ie _ 0)=vl _ (x.take 0)*_;rw[Gh];simp[vl],λk _=>by
    show(ie _ (0:N)).getD k 0=0;rw[ap,I.getElem?_replicate];split<;>rfl⟩ ?_
 rintro⟨⟨out,i⟩,Q,M,J,C,P⟩;have Q:i<=x.length:=Q;have M:out.length=x.length+y.length:=M;have J:aS 1000000000 out:=J;have C:ah out=ah (x.take i)*ah y:=C;have P:∀k,i+y.length<=k->out.getD k 0=0:=P;by_cases X:i<x.length
 .have T:=e.get δ i;refine dH (s:=nu x y out i) o 2 (wy [ag (ω:(i:N)<(x.length:N))] 1:di jm (fl nz GW) 2 (nu x y out i) 3 .normal [(64,64,bs)] (nu x y out i)) ?_;refine ga (id:=1) (c:=cat nz Lc) (rest:=(fl nz GW).drop 3) (by kernel_rfl) ?_;refine dH (s:=nu x y out i) o 2 (wy [] 0:di jm (fl nz Lc) 2 (nu x y out i) 1 .normal [(64,64,bs)] (tG x y out i 0 0)) ?_;refine c_q {s:I N×N×E//s.2.2<=y.length/\s.1.length=x.length+y.length/\aS 1000000000 s.1/\(0<=s.2.1/\s.2.1<1000000000)/\ah s.1+1000000000^(i+s.2.2)*s.2.1=ah out+1000000000^i*(x.getD i 0*ah (y.take s.2.2))/\∀k,i+y.length<=k->s.1.getD k 0=0} 2 (cat nz R4) ((fl nz Lc).drop 3) (λs=>tG x y s.1.1 i s.1.2.1 s.1.2.2) (λs=>y.length-s.1.2.2)
   ⟨(out,0,0),gt _,M,J,⟨vc 0,show(0:N)<1000000000 by decide⟩,by simp[ah,vl],P⟩ ?_
  rintro⟨⟨e,c,j⟩,S,K,G,H,B,F⟩;have S:j<=y.length:=S;have K:e.length=x.length+y.length:=K;have G:aS 1000000000 e:=G;have H:0<=c/\c<1000000000:=H;have B:ah e+1000000000^(i+j)*c=ah out+1000000000^i*(x.getD i 0*ah (y.take j)):=B;have F:∀k,i+y.length<=k->e.getD k 0=0:=F;have M:((i:N)+(j:N)).toNat=i+j:=by omega
  have P:((i:N)+(y.length:N)).toNat=i+y.length:=by omega
  by_cases V:j<y.length
  .have L:=A.get δ j;have A:=G.get δ (i+j);obtain⟨g0,Q,S,U⟩:=as0 A T L H;have A:=ST x y e i c j ω ω ω X V ω;rw[M]at A;refine aT (s:=tG x y e i c j) (s':=tG x y (e.set (i+j) (gl (e.getD (i+j) 0+x.getD i 0*y.getD j 0+c) 1000000000)) i (ej (e.getD (i+j) 0+x.getD i 0*y.getD j 0+c) 1000000000) (j+1)) o (A ω ω ω ω (by rw[cm]) (by rw[cm])) ?_;refine⟨⟨(e.set (i+j) (gl (e.getD (i+j) 0+x.getD i 0*y.getD j 0+c) 1000000000),ej (e.getD (i+j) 0+x.getD i 0*y.getD j 0+c) 1000000000,j+1),V,by rw[cm];exact K,G.set S,U,?_,λk T=>?_⟩,by show y.length-(j+1)<y.length-j;omega,rfl,rfl⟩
   .show vl 1000000000 (e.set (i+j) (gl (e.getD (i+j) 0+x.getD i 0*y.getD j 0+c) 1000000000))+1000000000^(i+(j+1))*ej (e.getD (i+j) 0+x.getD i 0*y.getD j 0+c) 1000000000=vl 1000000000 out+1000000000^i*(x.getD i 0*vl 1000000000 (y.take (j+1)));rw[i8 _ _ _ _ ω,<-E.add_assoc,hP,mX,oB,oB];have:=YC (W:=0) Q B;unfold ah at this;rw[this,N.add_assoc,yL];congr 2;rw[km,N.mul_left_comm (x.getD i 0)]
   .show(e.set (i+j) _).getD k 0=0;rw[ap,KL ω,<-ap];exact F k T
  .refine aT (s:=tG x y e i c j) o (wy [az (ω:¬(j:N)<(y.length:N))] 1:aR jm (fl nz R4) (tG x y e i c j) 2 (.exit 2) [(64,64,bs)] (tG x y e i c j)) ?_;refine bY (cg ?_);obtain rfl:j=y.length:=by omega
   have U:=F (i+y.length) (aC _);have A:=asS x y e i c y.length ω ω;rw[P,U,N.zero_add]at A;refine aT (s:=tG x y e i c y.length) (s':=nu x y (e.set (i+y.length) c) i) o (A ω (by rw[cm]) (by rw[cm])) ?_;refine aT (s:=nu x y (e.set (i+y.length) c) i) o (wy [yi (ω:i6 ((i:N)+1))] 1:aR jm ((fl nz GW).drop 3) (nu x y (e.set (i+y.length) c) i) 1 .normal [(64,64,bs)] (nu x y (e.set (i+y.length) c) (i+1))) ?_;refine⟨⟨(e.set (i+y.length) c,i+1),X,by rw[cm];exact K,G.set H,?_,λk T=>?_⟩,by show x.length-(i+1)<x.length-i;omega,rfl,rfl⟩
   .show vl _ (e.set (i+y.length) c)=vl _ (x.take (i+1))*_;rw[i8 _ _ _ _ ω,U,N.sub_zero,mX,wq,km];rw[dx,C]at B;exact B
   .show(e.set (i+y.length) c).getD k 0=0;rw[ap,KL ω,<-ap];exact F k ω
 .refine dH (s:=nu x y out i) o 2 (wy [az (ω:¬(i:N)<(x.length:N))] 1:di jm (fl nz GW) 2 (nu x y out i) 2 (.exit 0) [(64,64,bs)] (nu x y out i)) ?_;refine bY (bY (cg ?_));obtain rfl:i=x.length:=by omega
  rw[dx]at C;have A:bw jm ((fl nz []).drop 4) (nu x y out x.length) 1 f174 ao (lv (eW ((out.drop 0).take out.length))):=wy [aa (show(dd out.length (0:E)||bx 3 (.int .i64) (a8 3 (.int .i64) out) ((0:E)+out.length-(1:E)))=D from(by simp only[bC]<;>exact(DZ _ out:(dd out.length 0||bx 3 (.int .i64) (a8 3 (.int .i64) out) (out.length-1))=D))),aa (show(bP ((((bu (.int .i64) (a8 3 (.int .i64) out)).drop (0:E)).take out.length).length<=(1000000:E)))=D from(by simp only[a7]<;>exact ay (show((out.drop 0).take out.length).length<=1000000 from by rw[iW,dx];omega))),av (show(eW (((bu (.int .i64) (a8 3 (.int .i64) out)).drop (0:E)).take out.length))=(eW ((out.drop (0:E)).take out.length))from(by simp only[a7]<;>rfl))] 12417;rw[iW,dx,Bp J,C]at A;exact bM (s:=nu x y out x.length) o A
def aaG:R5.Ok em:=λ⟨a,b,_⟩ h=>by
 have h:(okB a&&okB b)=D:=h;rw[ae]at h;exact as1 a b h.1 h.2
def Bq:=NO f172
def tp:=NO f175
section
variable(a:I N)(d:N)
def tH(out:I N)(r:N)(k:E):bD:={n:=39,sl:=[(0,lv a),(1,iv d),(6,oT 64 out),(7,iv r),(8,iv ((k:N)-1))],bF:=[(64,oU out)],next:=65}
def Sa(out:I N)(r:N)(k:E):bD:={n:=39,sl:=[(0,lv a),(1,iv d),(6,oT 64 out),(7,iv r),(8,iv ((k:N)-1-1))],bF:=[(64,oU out)],next:=65}
def as2(e:a.length<=1000000)(o: -9223372036854775808<=(a.length:N)-1/\(a.length:N)-1<=9223372036854775807)(h3:a.length=(iu a.length).length)(h4:(bO (iu a.length).length)=(bO a.length))(h5:(F5 (ie a.length (I.map af.raw (uU #[Value.int .i64 (0:N)]))))=(A' (λx=>[iv x]) (iu a.length))):
  aD.path (sP em jm (fl Bq []) 4 39 [lv a,iv d]) (dl 1) (fy em 39 .normal [(64,64,O a.length)] (tH a d (iu a.length) 0 a.length)):=
 mp (Jy rt rt (show(bP (a.length<=a.length))=D from ay ω) (rB (show(bounded a.length (8:E))=D from kB e ω) (fA o) (rr a) (rr d) (an h3 (an (rr (aY.known a.length)) h4)) (rr (0:N)) (rr ((a.length:N)-1)) (an h5 h3) trivial))
def as3(out:I N)(r:N)(k:E)(e:(k:N)-1>=0)(A:i6 (r*1000000000))(h3:0<=(k:N)-1)(h4:((k:N)-1).toNat<a.length)(h5:i6 (r*1000000000+a.getD ((k:N)-1).toNat 0))(h6:d≠0)(h7:i6 (ej (r*1000000000+a.getD ((k:N)-1).toNat 0) d))(h8:((k:N)-1).toNat<out.length)(h9:i6 ((k:N)-1-1))(h10:out.length=(out.set ((k:N)-1).toNat (ej (r*1000000000+a.getD ((k:N)-1).toNat 0) d)).length)(o:(bO out.length)=(bO (out.set ((k:N)-1).toNat (ej (r*1000000000+a.getD ((k:N)-1).toNat 0) d)).length)):
  aR jm (fl Bq rO) (tH a d out r k) 3 .normal [(64,64,bs)] (Sa a d (out.set ((k:N)-1).toNat (ej (r*1000000000+a.getD ((k:N)-1).toNat 0) d)) (gl (r*1000000000+a.getD ((k:N)-1).toNat 0) d) k):=
 wy [ag e,yi A,ag h3,ag h4,yi h5,ag h6,yi h7,ag h8,jf 3 (.int .i64) h8,yi h9,av h10,av o,oK 3 (.int .i64) (Hj (out.set ((k:N)-(1:N)).toNat (ej (r*(1000000000:N)+a.getD ((k:N)-(1:N)).toNat (0:N)) d)))] 270000400999102384946506999662653569
end
abbrev yZ(n:E)(cap:aY):af:= .bZ 3 (.int .i64) 64 0 n cap
abbrev as6(xs:I N):I (E×gB):=[(64,.blk (.own 3 (.int .i64) xs))]
abbrev r64:Sv.Ren:=[(64,64,bs)]
def kO(xs v:I N)(j n:E)(cap:aY)(t r:N):bD:={n:=77,sl:=[(0,yZ n cap),(1,lv v),(2,iv j),(7,iv v.length),(9,iv t),(10,iv r)],bF:=as6 xs,next:=65}
def gu(xs v:I N)(j:E):N:=xs.getD ((j:N)+(v.length:N)).toNat 0*1000000000+xs.getD ((j:N)+(v.length:N)-1).toNat 0
abbrev dn(v:I N):N:=v.getD ((v.length:N)-1).toNat 0
abbrev pT(v:I N):N:=v.getD ((v.length:N)-2).toNat 0
abbrev rP(xs v:I N)(j:E):N:=xs.getD ((j:N)+(v.length:N)-2).toNat 0
def as7(xs v:I N)(j n:E)(cap:aY)(A:i6 ((j:N)+(v.length:N)))(F:((j:N)+(v.length:N)).toNat<n)(h3:(bx 3 (.int .i64) (O (bn.own 3 (.int .i64) xs)) ((j:N)+(v.length:N)).toNat)=D)(h4:i6 (xs.getD ((j:N)+(v.length:N)).toNat 0*1000000000))(h5:i6 ((j:N)+(v.length:N)-1))(h6:0<=(j:N)+(v.length:N)-1)(h7:((j:N)+(v.length:N)-1).toNat<n)(h8:(bx 3 (.int .i64) (O (bn.own 3 (.int .i64) xs)) ((j:N)+(v.length:N)-1).toNat)=D)(h9:i6 (xs.getD ((j:N)+(v.length:N)).toNat 0*1000000000+xs.getD ((j:N)+(v.length:N)-1).toNat 0))(h10:i6 ((v.length:N)-1))(B:0<=(v.length:N)-1)(C:((v.length:N)-1).toNat<v.length)(e:v.getD ((v.length:N)-1).toNat 0≠0)(o:i6 (ej (xs.getD ((j:N)+(v.length:N)).toNat 0*1000000000+xs.getD ((j:N)+(v.length:N)-1).toNat 0) (v.getD ((v.length:N)-1).toNat 0)))(G:(ej (xs.getD ((j:N)+(v.length:N)).toNat 0*1000000000+xs.getD ((j:N)+(v.length:N)-1).toNat 0) (v.getD ((v.length:N)-1).toNat 0))=(ej (gu xs v j) (v.getD ((v.length:N)-1).toNat 0)))(H:(gl (xs.getD ((j:N)+(v.length:N)).toNat 0*1000000000+xs.getD ((j:N)+(v.length:N)-1).toNat 0) (v.getD ((v.length:N)-1).toNat 0))=(gl (gu xs v j) (v.getD ((v.length:N)-1).toNat 0))):
  aD.path (jJ em (aA []) 77 ((fl tp []).take 4) (gI [yZ n cap,lv v,iv j] .nil 0) (sR 3 (.int .i64) xs)) (dl 1) (fy em 77 .normal r64 (kO xs v j n cap (ej (gu xs v j) (dn v)) (gl (gu xs v j) (dn v)))):=
 wy [yi A,ag F,aa (show(bx 3 (.int .i64) (O (bn.own 3 (.int .i64) xs)) ((0:E)+((j:N)+(v.length:N)).toNat))=D from(by simp only[bC]<;>exact h3)),aa (aI (v:=iv (xs.getD ((0:E)+((j:N)+(v.length:N)).toNat) (0:N)))),aa (show(fits iz (xs.getD ((0:E)+((j:N)+(v.length:N)).toNat) (0:N)*(1000000000:N)))=D from(by simp only[bC]<;>exact fA h4)),yi h5,ag h6,ag h7,aa (show(bx 3 (.int .i64) (O (bn.own 3 (.int .i64) xs)) ((0:E)+((j:N)+(v.length:N)-(1:N)).toNat))=D from(by simp only[bC]<;>exact h8)),aa (aI (v:=iv (xs.getD ((0:E)+((j:N)+(v.length:N)-(1:N)).toNat) (0:N)))),aa (show(fits iz (xs.getD ((0:E)+((j:N)+(v.length:N)).toNat) (0:N)*(1000000000:N)+xs.getD ((0:E)+((j:N)+(v.length:N)-(1:N)).toNat) (0:N)))=D from(by simp only[bC]<;>exact fA h9)),yi h10,ag B,ag C,aa (aI (v:=iv (v.getD ((v.length:N)-(1:N)).toNat (0:N)))),ag e,aa (show(fits iz (ej (xs.getD ((0:E)+((j:N)+(v.length:N)).toNat) (0:N)*(1000000000:N)+xs.getD ((0:E)+((j:N)+(v.length:N)-(1:N)).toNat) (0:N)) (v.getD ((v.length:N)-(1:N)).toNat (0:N))))=D from(by simp only[bC]<;>exact fA o)),av (show(ej (xs.getD ((0:E)+((j:N)+(v.length:N)).toNat) (0:N)*(1000000000:N)+xs.getD ((0:E)+((j:N)+(v.length:N)-(1:N)).toNat) (0:N)) (v.getD ((v.length:N)-(1:N)).toNat (0:N)))=(ej (gu xs v j) (v.getD ((v.length:N)-(1:N)).toNat (0:N)))from(by simp only[bC]<;>exact G)),av (show(gl (xs.getD ((0:E)+((j:N)+(v.length:N)).toNat) (0:N)*(1000000000:N)+xs.getD ((0:E)+((j:N)+(v.length:N)-(1:N)).toNat) (0:N)) (v.getD ((v.length:N)-(1:N)).toNat (0:N)))=(gl (gu xs v j) (v.getD ((v.length:N)-(1:N)).toNat (0:N)))from(by simp only[bC]<;>exact H))] 7745943541467187237997735947277335306600882047791326166786049
abbrev D1:I E:=[1,1,1,1,0,0,0]
section
variable(xs v:I N)(j n:E)(cap:aY)(t r:N)
def as8(e:t>=1000000000)(o:i6 (t-1))(h3:i6 ((v.length:N)-1))(h4:0<=(v.length:N)-1)(h5:((v.length:N)-1).toNat<v.length)(h6:i6 (r+v.getD ((v.length:N)-1).toNat 0))(h7:r+v.getD ((v.length:N)-1).toNat 0>=1000000000):
  aD.path (pD em (aA []) (fl tp D1) (kO xs v j n cap t r)) (dl 3932160) (w8 em f175 3 (.int .i64) xs (iv (t-1))):=
 wy [aa (aL (ay e)),ag e,yi o,yi h3,ag h4,ag h5,yi h6,ag h7,nU (an (rr (t-(1:N))) (rr (xs)))] 833670876018392705917515033473870691017842495553
def as9(e:t>=1000000000)(o:i6 (t-1))(h3:i6 ((v.length:N)-1))(h4:0<=(v.length:N)-1)(h5:((v.length:N)-1).toNat<v.length)(h6:i6 (r+v.getD ((v.length:N)-1).toNat 0))(h7:¬r+v.getD ((v.length:N)-1).toNat 0>=1000000000):
  aR (aA []) (fl tp D1) (kO xs v j n cap t r) 2883584 .normal r64 (kO xs v j n cap (t-1) (r+dn v)):=
 wy [aa (aL (ay e)),ag e,yi o,yi h3,ag h4,ag h5,yi h6,az h7] 11576205019759814427942315070961492461380440129
def ata(e:¬t>=1000000000)(G:i6 ((v.length:N)-2))(h3:0<=(v.length:N)-2)(h4:((v.length:N)-2).toNat<v.length)(h5:i6 (t*v.getD ((v.length:N)-2).toNat 0))(h6:i6 (r*1000000000))(h7:i6 ((j:N)+(v.length:N)))(h8:i6 ((j:N)+(v.length:N)-2))(h9:0<=(j:N)+(v.length:N)-2)(h10:((j:N)+(v.length:N)-2).toNat<n)(B:(bx 3 (.int .i64) (O (bn.own 3 (.int .i64) xs)) ((j:N)+(v.length:N)-2).toNat)=D)(C:i6 (r*1000000000+xs.getD ((j:N)+(v.length:N)-2).toNat 0))(o:t*v.getD ((v.length:N)-2).toNat 0>r*1000000000+xs.getD ((j:N)+(v.length:N)-2).toNat 0)(A:i6 (t-1))(H:i6 ((v.length:N)-1))(J:0<=(v.length:N)-1)(K:((v.length:N)-1).toNat<v.length)(L:i6 (r+v.getD ((v.length:N)-1).toNat 0))(F:r+v.getD ((v.length:N)-1).toNat 0>=1000000000):
  aD.path (pD em (aA []) (fl tp D1) (kO xs v j n cap t r)) (dl 3932159) (w8 em f175 3 (.int .i64) xs (iv (t-1))):=
 wy [aa (aL (ab e)),yi G,ag h3,ag h4,aa (aI (v:=iv (v.getD ((v.length:N)-(2:N)).toNat (0:N)))),yi h5,yi h6,yi h7,yi h8,ag h9,ag h10,aa (show(bx 3 (.int .i64) (O (bn.own 3 (.int .i64) xs)) ((0:E)+((j:N)+(v.length:N)-(2:N)).toNat))=D from(by simp only[bC]<;>exact B)),aa (aI (v:=iv (xs.getD ((0:E)+((j:N)+(v.length:N)-(2:N)).toNat) (0:N)))),aa (show(fits iz (r*(1000000000:N)+xs.getD ((0:E)+((j:N)+(v.length:N)-(2:N)).toNat) (0:N)))=D from(by simp only[bC]<;>exact fA C)),az e,aa (show(bP (t*v.getD ((v.length:N)-(2:N)).toNat (0:N)>r*(1000000000:N)+xs.getD ((0:E)+((j:N)+(v.length:N)-(2:N)).toNat) (0:N)))=D from(by simp only[bC]<;>exact ay o)),yi A,yi H,ag J,ag K,yi L,ag F,nU (an (rr (t-(1:N))) (rr (xs)))] 41254031541230140472553383178300452332773505826332860127072467285497352257
def atb(e:¬t>=1000000000)(G:i6 ((v.length:N)-2))(h3:0<=(v.length:N)-2)(h4:((v.length:N)-2).toNat<v.length)(h5:i6 (t*v.getD ((v.length:N)-2).toNat 0))(h6:i6 (r*1000000000))(h7:i6 ((j:N)+(v.length:N)))(h8:i6 ((j:N)+(v.length:N)-2))(h9:0<=(j:N)+(v.length:N)-2)(h10:((j:N)+(v.length:N)-2).toNat<n)(B:(bx 3 (.int .i64) (O (bn.own 3 (.int .i64) xs)) ((j:N)+(v.length:N)-2).toNat)=D)(C:i6 (r*1000000000+xs.getD ((j:N)+(v.length:N)-2).toNat 0))(o:t*v.getD ((v.length:N)-2).toNat 0>r*1000000000+xs.getD ((j:N)+(v.length:N)-2).toNat 0)(A:i6 (t-1))(H:i6 ((v.length:N)-1))(J:0<=(v.length:N)-1)(K:((v.length:N)-1).toNat<v.length)(L:i6 (r+v.getD ((v.length:N)-1).toNat 0))(F:¬r+v.getD ((v.length:N)-1).toNat 0>=1000000000):
  aR (aA []) (fl tp D1) (kO xs v j n cap t r) 2883583 .normal r64 (kO xs v j n cap (t-1) (r+dn v)):=
 wy [aa (aL (ab e)),yi G,ag h3,ag h4,aa (aI (v:=iv (v.getD ((v.length:N)-(2:N)).toNat (0:N)))),yi h5,yi h6,yi h7,yi h8,ag h9,ag h10,aa (show(bx 3 (.int .i64) (O (bn.own 3 (.int .i64) xs)) ((0:E)+((j:N)+(v.length:N)-(2:N)).toNat))=D from(by simp only[bC]<;>exact B)),aa (aI (v:=iv (xs.getD ((0:E)+((j:N)+(v.length:N)-(2:N)).toNat) (0:N)))),aa (show(fits iz (r*(1000000000:N)+xs.getD ((0:E)+((j:N)+(v.length:N)-(2:N)).toNat) (0:N)))=D from(by simp only[bC]<;>exact fA C)),az e,aa (show(bP (t*v.getD ((v.length:N)-(2:N)).toNat (0:N)>r*(1000000000:N)+xs.getD ((0:E)+((j:N)+(v.length:N)-(2:N)).toNat) (0:N)))=D from(by simp only[bC]<;>exact ay o)),yi A,yi H,ag J,ag K,yi L,az F] 616549051327300892137540661213326468741376198193624090275524655767097409
def atc(e:¬t>=1000000000)(C:i6 ((v.length:N)-2))(h3:0<=(v.length:N)-2)(h4:((v.length:N)-2).toNat<v.length)(h5:i6 (t*v.getD ((v.length:N)-2).toNat 0))(h6:i6 (r*1000000000))(h7:i6 ((j:N)+(v.length:N)))(h8:i6 ((j:N)+(v.length:N)-2))(h9:0<=(j:N)+(v.length:N)-2)(h10:((j:N)+(v.length:N)-2).toNat<n)(A:(bx 3 (.int .i64) (O (bn.own 3 (.int .i64) xs)) ((j:N)+(v.length:N)-2).toNat)=D)(B:i6 (r*1000000000+xs.getD ((j:N)+(v.length:N)-2).toNat 0))(o:¬t*v.getD ((v.length:N)-2).toNat 0>r*1000000000+xs.getD ((j:N)+(v.length:N)-2).toNat 0):
  aR (aA []) (fl tp D1) (kO xs v j n cap t r) 1310719 (.exit 0) r64 (kO xs v j n cap t r):=
 wy [aa (aL (ab e)),yi C,ag h3,ag h4,aa (aI (v:=iv (v.getD ((v.length:N)-(2:N)).toNat (0:N)))),yi h5,yi h6,yi h7,yi h8,ag h9,ag h10,aa (show(bx 3 (.int .i64) (O (bn.own 3 (.int .i64) xs)) ((0:E)+((j:N)+(v.length:N)-(2:N)).toNat))=D from(by simp only[bC]<;>exact A)),aa (aI (v:=iv (xs.getD ((0:E)+((j:N)+(v.length:N)-(2:N)).toNat) (0:N)))),aa (show(fits iz (r*(1000000000:N)+xs.getD ((0:E)+((j:N)+(v.length:N)-(2:N)).toNat) (0:N)))=D from(by simp only[bC]<;>exact fA B)),az e,aa (show(bP (t*v.getD ((v.length:N)-(2:N)).toNat (0:N)>r*(1000000000:N)+xs.getD ((0:E)+((j:N)+(v.length:N)-(2:N)).toNat) (0:N)))=ao from(by simp only[bC]<;>exact ab o))] 6522028266599319008889569978648965812446332058695169592266817
def atd:
  aD.path (pD em (aA []) ((fl tp []).drop 5) (kO xs v j n cap t r)) (dl 1) (w8 em f175 3 (.int .i64) xs (iv t)):=
 wy [nU (an (rr (t)) (rr (xs)))] 1
end
def aaH:=IN 172 [.list ao (.int .i64),.int .i64] [.list ao (.int .i64),.int .i64] ao (λd=>okB d.1&&(bP (1<=d.2.1)&&bP (d.2.1<1000000000))) λd=>(aJ (ah d.1/d.2.1),ah d.1%d.2.1,())
def qQ(e A o:N):E->N->N->N
 |0,t,_=>t
 |f+1,t,r=>if 1000000000<=t\/r*1000000000+o<t*A then(if 1000000000<=r+e then t-1 else qQ e A o f (t-1) (r+e))else t
def tI(xs v:I N)(j:N):N:=qQ (dn v) (pT v) (rP xs v j.toNat) 2 (gu xs v j.toNat/dn v) (gu xs v j.toNat%dn v)
def D2(xs:I N)(k len:E)(v:I N)(j:N):dF:=(dd k 0&&dd len xs.length)&&((DX xs&&DX v)&&((bP (2<=v.length)&&bP (0<=j))&&((bP (j+(v.length:N)<(xs.length:N))&&bP (500000000<=dn v))&&bP (xs.length<=1000000))))
noncomputable def y4:je:={f:=175,e:=3,t:= .int .i64,ps:=[.list ao (.int .i64),.int .i64],rs:=[.int .i64],pre:=λxs k o d=>D2 xs k o d.1 d.2.1,out:=λxs _ _ _=>xs,fn:=λxs _ _ d=>(tI xs d.1 d.2.1,())}
def ate(a:I N)(d:N)(h:okB a=D)(e:1<=d)(o:d<1000000000):Holds em ao 172 [lv a,iv d] (.tuple [lv (aJ (ah a/d)),iv (ah a%d)]):=by
 obtain⟨S,e⟩:=qO.1 h;have A:=Ld;refine bK Bq func172 λe F=>?_
 refine cE A 4 (as2 a d ω ω (eI _).symm (by rw[eI]) (R9 _)) ?_;refine c_q {x:I N×N×E//x.2.2<=a.length/\x.1.length=a.length/\aS 1000000000 x.1/\(0<=x.2.1/\x.2.1<d)/\ah (a.drop x.2.2)=ah (x.1.drop x.2.2)*d+x.2.1} 0 (cat Bq rO) ((fl Bq []).drop 5) (λx=>tH a d x.1.1 x.1.2.1 x.1.2.2) (λx=>x.1.2.2)
  ⟨(iu a.length,0,a.length),aC _,eI _,R8 _,⟨vc 0,show(0:N)<d by omega⟩,by
    show ah (a.drop a.length)=ah ((iu a.length).drop a.length)*d+0;rw[Gv,pB (by rw[eI];exact aC _)];simp[ah,vl]⟩ ?_
 rintro⟨⟨q,r,k⟩,G,C,B,H,e⟩;have G:k<=a.length:=G;have C:q.length=a.length:=C;have B:aS 1000000000 q:=B;have H:0<=r/\r<d:=H;have e:ah (a.drop k)=ah (q.drop k)*d+r:=e;cases k with
 |zero=>
  refine aT (s:=tH a d q r 0) A (wy [az (ω:¬(0:N)-1>=0)] 1:aR jm (fl Bq rO) (tH a d q r 0) 2 (.exit 0) [(64,64,bs)] (tH a d q r 0)) ?_;refine bY (cg ?_);rw[iW,iW]at e;obtain⟨Q,o⟩:=A6 (U:=ah a) (V:=d) (t:=ah q) ω ω ω;have K:ah a%d=r:=by omega
  have o:bw jm ((fl Bq []).drop 5) (tH a d q r 0) 1 f172 ao (.tuple [lv (eW ((q.drop 0).take q.length)),iv r]):=wy [aa (show(dd q.length (0:E)||bx 3 (.int .i64) (a8 3 (.int .i64) q) ((0:E)+q.length-(1:E)))=D from(by simp only[bC]<;>exact(DZ _ q:(dd q.length 0||bx 3 (.int .i64) (a8 3 (.int .i64) q) (q.length-1))=D))),aa (show(bP ((((bu (.int .i64) (a8 3 (.int .i64) q)).drop (0:E)).take q.length).length<=(1000000:E)))=D from(by simp only[a7]<;>exact ay (show((q.drop 0).take q.length).length<=1000000 from by rw[iW,dx];omega))),av (show(eW (((bu (.int .i64) (a8 3 (.int .i64) q)).drop (0:E)).take q.length))=(eW ((q.drop (0:E)).take q.length))from(by simp only[a7]<;>rfl))] 12417;rw[iW,dx,Bp B]at o;rw[Q,K];exact bM (s:=tH a d q r 0) A o
 |succ j=>
  have L:(((j+1:E):N)-1).toNat=j:=by omega
  have F:=S.get δ j;have F:0<=r*1000000000+a.getD j 0:=by omega
  have P:ej (r*1000000000+a.getD j 0) d=(r*1000000000+a.getD j 0)/d:=ku F;have M:gl (r*1000000000+a.getD j 0) d=(r*1000000000+a.getD j 0)%d:=lU F;have G:=jp (r*1000000000+a.getD j 0) d;have T:=fC (r*1000000000+a.getD j 0) (show d≠0 by omega);have G:=fZ (r*1000000000+a.getD j 0) (show 0<d by omega);have X:0<=(r*1000000000+a.getD j 0)/d:=jN F ω;have W:(r*1000000000+a.getD j 0)/d<1000000000:=(pA ω).2 (by
   have:(r+1)*1000000000<=d*1000000000:=iK ω δ;rw[iN _ d];omega)
  have o:=as3 a d q r (j+1) ω ω ω ω;rw[L,P,M]at o;refine aT (s:=tH a d q r (j+1)) A (o ω ω ω ω ω (by rw[cm]) (by rw[cm])) ?_;have o:(((j+1:E):N)-1-1)=(j:N)-1:=by omega
  refine⟨⟨(q.set j ((r*1000000000+a.getD j 0)/d),(r*1000000000+a.getD j 0)%d,j),by show j<=_;omega,by show(q.set j _).length=_;rw[cm];exact C,B.set ⟨X,W⟩,⟨T,G⟩,?_⟩,by show j<j+1;omega,?_,?_⟩
  .show ah (a.drop j)=ah ((q.set j ((r*1000000000+a.getD j 0)/d)).drop j)*d+(r*1000000000+a.getD j 0)%d;unfold ah at e ⊢;rw[w5 (l:=a) ω,w5 (l:=q.set j _) (by rw[cm];omega),yC ω,e];have J:(q.set j ((r*1000000000+a.getD j 0)/d)).drop (j+1)=q.drop (j+1):=by rw[I.drop_set];rw[dA ω]
   rw[J];generalize vl 1000000000 (q.drop (j+1))=z at*;generalize (r*1000000000+a.getD j 0)/d=e at*;generalize (r*1000000000+a.getD j 0)%d=e at*;grind
  .show(Sa a d _ _ (j+1)).T=(tH a d _ _ j).T;unfold Sa tH;rw[o]
  .rfl
def atf:aaH.Ok em:=λ⟨a,d,_⟩ h=>by
 have h:(okB a&&(bP (1<=d)&&bP (d<1000000000)))=D:=h;rw[ae,ae]at h;exact ate a d h.1 (cC h.2.1) (cC h.2.2)
def rQ{xs:I N}{i:E}(h:i<xs.length):bx 3 (.int .i64) (O (.own 3 (.int .i64) xs)) i=D:=by
 unfold bx;simp only[zX,decide_true,py];exact aw h
abbrev Lf(xs:I N)(t:N):sC->au af->ai->Prop:=M2 em f175 3 (.int .i64) xs (iv t)
def bp.Sb{X:Ext}{P:fd}{w0:du}{F:Sv.Env}{Q:sC->au af->ai->Prop}(A:gi P)(C:P.follows .mixedOrders=D){bB:bL}(B:bI P (bJ bB)){l:I mN}{s:bD}{fn:Ö}{e:ed}{t:aq}{xs:I t.den}{res:af}(o:I dF)(h:(pD P bB l s).path o (w8 P fn e t xs res))
  (G:∀T H,M2 P fn e t xs res .ret T H->Q .ret T H):bc X P w0 F s.n l s.T s.H Q:=
 bp.QG A C B (fn:=fn) (e:=e) (t:=t) (xs:=xs) (res:=res) l.length o (by rw[dx];exact h) G
def atg(xs v:I N)(j:E)(cap:aY)(S:aS 1000000000 xs)(e:aS 1000000000 v)(Q:2<=v.length)(o:j+v.length<xs.length)(G:500000000<=dn v)(B:xs.length<=1000000)(A:E->da (E×E))(Y:E->da Obj)(w:du)(F:Sv.Env):
  bc (sQ A Y) em w F 77 (fl tp []) (gI [yZ xs.length cap,lv v,iv j] .nil 0) (sR 3 (.int .i64) xs) (Lf xs (tI xs v j)):=by
 have B:=ba;have H:((j:N)+(v.length:N)).toNat=j+v.length:=by omega
 have L:((j:N)+(v.length:N)-1).toNat=j+v.length-1:=by omega
 have i2:((j:N)+(v.length:N)-2).toNat=j+v.length-2:=by omega
 have M:((v.length:N)-1).toNat=v.length-1:=by omega
 have o:((v.length:N)-2).toNat=v.length-2:=by omega
 have b0:=S.get δ (j+v.length);have C:=S.get δ (j+v.length-1);have C:=S.get δ (j+v.length-2);have C:=e.get δ (v.length-1);have C:=e.get δ (v.length-2);have V:=rQ (xs:=xs) (i:=j+v.length) ω;have W:=rQ (xs:=xs) (i:=j+v.length-1) ω;have o2:=rQ (xs:=xs) (i:=j+v.length-2) ω;have P:dn v=v.getD (v.length-1) 0:=by rw[<-M]
 have e:pT v=v.getD (v.length-2) 0:=by rw[<-o]
 have e:rP xs v j=xs.getD (j+v.length-2) 0:=by rw[<-i2]
 have K:gu xs v j=xs.getD (j+v.length) 0*1000000000+xs.getD (j+v.length-1) 0:=by unfold gu;rw[H,L]
 have e:tI xs v j=qQ (dn v) (pT v) (rP xs v j) 2 (gu xs v j/dn v) (gu xs v j%dn v):=by unfold tI;rw[kh]
 obtain⟨o,C⟩:∃o,qQ (dn v) (pT v) (rP xs v j) 2 (gu xs v j/dn v) (gu xs v j%dn v)=o:=⟨_,rfl⟩;rw[e,C];have J:0<=gu xs v j:=by rw[K];omega
 have S:gu xs v j<1000000000000000000:=by rw[K];omega
 have X:ej (gu xs v j) (dn v)=gu xs v j/dn v:=ku J;have e:gl (gu xs v j) (dn v)=gu xs v j%dn v:=lU J;have a':0<=gu xs v j/dn v:=jN J ω;have T:gu xs v j/dn v<=2000000000:=by
  have h3:gu xs v j/dn v*dn v<=gu xs v j:=Û _ ω;rcases zW 2000000000 (gu xs v j/dn v)with h|h
  .have:2000000001*500000000<=gu xs v j/dn v*dn v:=tj ω G δ ω;omega
  .exact h
 have a0:=fC (gu xs v j) (show dn v≠0 by omega);have J:=fZ (gu xs v j) (show 0<dn v by omega);have U:=as7 xs v j xs.length cap;rw[X,e,H,L,M]at U;have H:xs.getD (j+v.length) 0*1000000000+xs.getD (j+v.length-1) 0=gu xs v j:=K.symm;have J:v.getD (v.length-1) 0=dn v:=P.symm;rw[H,J,X]at U;have H:=U ω ω V ω ω ω ω W ω ω ω ω ω ω rfl e;refine cE B 4 H ?_;refine c_q {x:E×N×N//qQ (dn v) (pT v) (rP xs v j) x.1 x.2.1 x.2.2=o/\(0<=x.2.1/\x.2.1<=2000000000)/\(0<=x.2.2/\x.2.2<1000000000)/\(x.1=2\/(x.1=1/\1000000000<=x.2.2+dn v))} 0 (cat tp D1) ((fl tp []).drop 5) (λx=>kO xs v j xs.length cap x.1.2.1 x.1.2.2) (λx=>x.1.1) ⟨(2,gu xs v j/dn v,gu xs v j%dn v),C,⟨a',T⟩,⟨a0,by show _%_<_;omega⟩,.inl rfl⟩ ?_;rintro⟨⟨f,t,r⟩,e,C,V,W⟩;have e:qQ (dn v) (pT v) (rP xs v j) f t r=o:=e;have C:0<=t/\t<=2000000000:=C;have V:0<=r/\r<1000000000:=V;have W:f=2\/(f=1/\1000000000<=r+dn v):=W;obtain⟨g,rfl⟩:∃g,f=g+1:=⟨f-1,by omega⟩;unfold qQ at e;have d2:0<=t*pT v/\t*pT v<=2000000000*999999999:=⟨kv C.1 ω,tj C.2 ω ω δ⟩;have C:1<=t->¬1000000000<=r+dn v->qQ (dn v) (pT v) (rP xs v j) g (t-1) (r+dn v)=o->∃x:{x:E×N×N//qQ (dn v) (pT v) (rP xs v j) x.1 x.2.1 x.2.2=o/\(0<=x.2.1/\x.2.1<=2000000000)/\(0<=x.2.2/\x.2.2<1000000000)/\(x.1=2\/(x.1=1/\1000000000<=x.2.2+dn v))},x.1.1<g+1/\(kO xs v j xs.length cap (t-1) (r+dn v)).T=(kO xs v j xs.length cap x.1.2.1 x.1.2.2).T/\(kO xs v j xs.length cap (t-1) (r+dn v)).H=(kO xs v j xs.length cap x.1.2.1 x.1.2.2).H:=λG Q h3=>
  ⟨⟨(g,t-1,r+dn v),h3,⟨by show 0<=t-1;omega,by show t-1<=_;omega⟩,⟨by show 0<=r+dn v;omega,by show r+dn v<_;omega⟩,.inr ⟨by show g=1;omega,by show _<=r+dn v+dn v;omega⟩⟩,gR _,rfl,rfl⟩
 have G: -9223372036854775808<=r+dn v/\r+dn v<=9223372036854775807:=by omega
 have M: -9223372036854775808<=t*pT v/\t*pT v<=9223372036854775807:=by omega
 have P: -9223372036854775808<=r*1000000000+rP xs v j/\r*1000000000+rP xs v j<=9223372036854775807:=by omega
 have Q:∀z:N,z=o->∀T H,Lf xs z .ret T H->Lf xs o .ret T H:=λz o T H h=>by rw[<-o];exact h
 by_cases h3:t>=1000000000
 .rw[dA (.inl h3)]at e;by_cases h4:r+dn v>=1000000000
  .rw[dA h4]at e;exact bp.Sb (s:=kO xs v j xs.length cap t r) known mixed B _ (as8 xs v j xs.length cap t r h3 ω ω ω ω G h4) λT H h=>Q _ e T H h
  .rw[db h4]at e;exact aT (s:=kO xs v j xs.length cap t r) B (as9 xs v j xs.length cap t r h3 ω ω ω ω G h4) (C ω h4 e)
 .have L:bx 3 (.int .i64) (O (.own 3 (.int .i64) xs)) ((j:N)+(v.length:N)-2).toNat=D:=by rw[i2];exact o2
  by_cases h5:t*pT v>r*1000000000+rP xs v j
  .have S:1<=t:=by
    rcases zW 0 t with h|h
    .exact h
    .have o:t=0:=by omega
     rw[o,NA]at h5;omega
   rw[dA (.inr h5)]at e;by_cases h4:r+dn v>=1000000000
   .rw[dA h4]at e;exact bp.Sb (s:=kO xs v j xs.length cap t r) known mixed B _ (ata xs v j xs.length cap t r h3 ω ω ω M ω ω ω ω ω L P h5 ω ω ω ω G h4) λT H h=>Q _ e T H h
   .rw[db h4]at e;exact aT (s:=kO xs v j xs.length cap t r) B (atb xs v j xs.length cap t r h3 ω ω ω M ω ω ω ω ω L P h5 ω ω ω ω G h4) (C S h4 e)
  .rw[db ω]at e;refine aT (s:=kO xs v j xs.length cap t r) B (atc xs v j xs.length cap t r h3 ω ω ω M ω ω ω ω ω L P h5) ?_;refine bY (cg ?_);exact bp.Sb (s:=kO xs v j xs.length cap t r) known mixed B _ (atd xs v j xs.length cap t r) λT H h=>Q _ e T H h
def ati(xs:I N)(k len:E)(cap:aY)(v:I N)(j:N)(e:D2 xs k len v j=D)(A:E->da (E×E))(Y:E->da Obj)(w:du)(F:Sv.Env):
  bc (sQ A Y) em w F 77 (fl tp []) (gI [.bZ 3 (.int .i64) 64 k len cap,lv v,iv j] .nil 0) (sR 3 (.int .i64) xs) (Lf xs (tI xs v j)):=by
 unfold D2 at e;simp only[ae,aN,GV]at e;obtain⟨⟨o,B⟩,⟨h3,h4⟩,⟨h5,h6⟩,⟨h7,h8⟩,h9⟩:=e;obtain rfl:=ac o;obtain rfl:=ac B;obtain⟨n,rfl⟩:=Q2 h6;exact atg xs v n cap h3 h4 h5 ω h8 h9 A Y w F
def atj:y4.Ok em:=
 ⟨rfl,rfl,_,tp,func175,rfl,by decide,λxs k o cap d e _ B A Y w F=>ati xs k o cap d.1 d.2.1 e A Y w F⟩
def eN:=NO f122
def jP:=C0 [y4] (pJ [K6] (aA [R1,aaH,R5]))
abbrev Se:I E:=[1,1,1,1,1,1,1,0,0,0]
abbrev GY:I E:=[1,1,1,1,1,1,1,1,1,0,1,0,0]
abbrev xz:I E:=[1,1,1,1,1,1,1,1,1,0,1,0,0,1,0,0]
abbrev Lg:I E:=[1,1,1,1,1,1,1,1,1,0,1,0,0,1,0,0,1,1,0,1,0,0]
abbrev Lh:I E:=[1,1,1,1,1,1,1,1,1,0,1,0,0,1,0,0,1,1,1,1,0,1,0]
abbrev Sf:I E:=[1,1,1,1,1,1,1,1,1,0,1,0,0,1,0,0,1,1,1,1,0,1,0,1,1,0,1,0,0]
def Sg(a b:I N)(f:N):bD:={n:=206,sl:=[(0,lv a),(1,lv b),(8,oT 64 [f])],bF:=[(64,oU [f])],next:=65}
def D3(a b:I N)(f:N):bD:={n:=206,sl:=[(0,lv a),(1,lv b),(8,lv [f])],bF:=[],next:=64}
def vr(a v:I N)(f:N)(u:I N):bD:={n:=206,sl:=[(0,lv a),(8,lv [f]),(9,lv v),(10,iv v.length),(11,oT 64 u)],bF:=[(64,oU u)],next:=65}
abbrev GZ(u:I N):gB:= .blk (.own 3 (.int .i64) u)
section
variable(v:I N)(f:N)(c:aY)(u q:I N)
def jo(z:N):bD:={n:=206,sl:=[(8,lv [f]),(9,lv v),(10,iv v.length),(11,yZ u.length c),(12,oT 65 q),(13,iv z)],bF:=[(64,GZ u),(65,oU q)],next:=66}
def qR(z t bo:N)(i:E):bD:={n:=206,sl:=[(8,lv [f]),(9,lv v),(10,iv v.length),(11,yZ u.length c),(12,oT 65 q),(13,iv z),(14,iv t),(15,iv bo),(16,iv i)],bF:=[(64,GZ u),(65,oU q)],next:=66}
def Br(z t:N)(x:dF):bD:={n:=206,sl:=[(8,lv [f]),(9,lv v),(10,iv v.length),(11,yZ u.length c),(12,oT 65 q),(13,iv z),(14,iv t),(145,bv x)],bF:=[(64,GZ u),(65,oU q)],next:=66}
def vt(z t e:N)(i:E):bD:={n:=206,sl:=[(8,lv [f]),(9,lv v),(10,iv v.length),(11,yZ u.length c),(12,oT 65 q),(13,iv z),(14,iv t),(19,iv e),(20,iv i)],bF:=[(64,GZ u),(65,oU q)],next:=66}
def Sh(z t:N):bD:={n:=206,sl:=[(8,lv [f]),(9,lv v),(10,iv v.length),(11,yZ u.length c),(12,oT 65 q),(13,iv z),(14,iv t)],bF:=[(64,GZ u),(65,oU q)],next:=66}
end
abbrev pU:Sv.Ren:=[(64,64,bs),(65,65,bs)]
section
variable(a b:I N)(Z:(okA a&&okA b)=D)(Y:¬nk (ah a) (ah b)<0)
def atl(h3:(b.length:N)=1)(h4:ea 0<b.length)(h5:(okB a&&(bP ((1:aq.den (.int .i64))<=b.getD (ea 0) 0)&&bP (b.getD (ea 0) 0<(1000000000:aq.den (.int .i64)))))=D)(h6:1*1<=(iv (ah a%qm b (ea 0) 0)::I.append._f [] wS (I.flatten._f [] wS)).length)(h7:jC [ah a%qm b (ea 0) 0]<=1000000)(h8:(aJ (ah a/qm b (ea 0) 0))=(aJ (ah a/qm b 0 0)))(h9:(eW [ah a%qm b (ea 0) 0])=(eW [ah a%qm b 0 0])):
  bk jP (fl eN []) 5 206 [lv a,lv b] 6 f122 ao (.tuple [lv (aJ (ah a/b.getD 0 0)),lv (eW [ah a%b.getD 0 0])]):=
 wy [aa Z,az Y,cT h3,ag h4,aa h5,aa (show(dK ((0:E)+(1:E)*(1:E)) (iv (ah a%qm b (0:N).toNat (0:N))::I.append._f [] wS (I.flatten._f [] wS)).length)=D from(by simp only[bC]<;>exact aw h6)),ag h7,av h8,av h9] 164412590477291649
def atm(h3:¬(b.length:N)=1)(h4: -9223372036854775808<=(b.length:N)-1/\(b.length:N)-1<=9223372036854775807)(h5:(0:N)<=(b.length:N)-1)(h6:((b.length:N)-1).toNat<b.length)(h7: -9223372036854775808<=b.getD ((b.length:N)-1).toNat (0:N)+1/\b.getD ((b.length:N)-1).toNat (0:N)+1<=9223372036854775807)(h8:b.getD ((b.length:N)-1).toNat (0:N)+1≠0)(h9: -9223372036854775808<=ej (1000000000:N) (b.getD ((b.length:N)-1).toNat (0:N)+1)/\ej (1000000000:N) (b.getD ((b.length:N)-1).toNat (0:N)+1)<=9223372036854775807)(h10:(iv (ej (1000000000:N) (b.getD ((b.length:N)-1).toNat (0:N)+1))::I.append._f [] wS (I.flatten._f [] wS))=(A' (λx=>[iv x]) [ej (1000000000:N) (b.getD ((b.length:N)-1).toNat (0:N)+1)])):
  aD.path (sP em jP (fl eN []) 6 206 [lv a,lv b]) (dl 4) (fy em 206 .normal [(64,64,O 1)] (Sg a b (ej 1000000000 (b.getD ((b.length:N)-1).toNat 0+1)))):=
 mp (Pa Z (ab Y) (fB.mpr h3) (fA h4) (ay h5) (rB (ay h6) (fA h7) (ay h8) (fA h9) (rr a) (rr b) (an (rr (1:E)) (an (rr (aY.known (1:E))) (rr (bO (jC [ej (1000000000:N) (b.getD ((b.length:N)-1).toNat (0:N)+1)]))))) (an h10 (rr (1:E))) trivial))
end
def atn(a b:I N)(f:N):
  aD.path (aD.ret (R.normal ((Sg a b f).T.set 8 (O (lv [f]))) ((Sg a b f).H.drop 64) []):aD R) (dl 1) (fy em 206 .normal [] (D3 a b f)):=
 wy [] 0
def ato(a b:I N)(f:N)(e:(okB b&&okB [f])=D)(o:(okB a&&okB [f])=D)(h3:(dd (aJ (ah a*ah [f])).length 0)=ao)(h4:(aJ (ah a*ah [f])).length<=1000000)(h5:(aY.full)=(bO (aJ (ah a*ah [f])).length))(h6:(bu (.int .i64) bs++aJ (ah a*ah [f]))=(aJ (ah a*ah [f]))):
  di jP ((fl eN []).drop 6) 3 (D3 a b f) 2 .normal [(64,65,bs)] (vr a (aJ (ah b*ah [f])) f (aJ (ah a*ah [f]))):=
 wy [aa e,aa o,aa h3,aa (show(bounded ((0:E)+(aJ (ah a*ah [f])).length) (8:E))=D from(by simp only[bC]<;>exact kB h4 ω)),av (show((0:E)+(aJ (ah a*ah [f])).length)=((aJ (ah a*ah [f])).length)from(by simp only[bC]<;>rfl)),av h5,pF em 3 (.int .i64) h6] 2144323318104297413804161
def atr(a v:I N)(f:N)(x:N)(l:I N)(e: -9223372036854775808<=(↑(x::l).length:N)-(v.length:N)/\(↑(x::l).length:N)-(v.length:N)<=9223372036854775807)(o:(0:N)<=(↑(x::l).length:N)-(v.length:N))(h3:((↑(x::l).length:N)-(v.length:N)).toNat<=1000000)(h4: -9223372036854775808<=(↑(x::l).length:N)-(v.length:N)-1/\(↑(x::l).length:N)-(v.length:N)-1<=9223372036854775807)(h5:(((↑(x::l).length:N)-(v.length:N)).toNat)=(iu ((l.length:N)+1-(v.length:N)).toNat).length)(h6:(aY.known ((↑(x::l).length:N)-(v.length:N)).toNat)=(aY.known ((l.length:N)+1-(v.length:N)).toNat))(h7:(bO (iu ((l.length:N)+1-(v.length:N)).toNat).length)=(bO ((l.length:N)+1-(v.length:N)).toNat))(h8:((↑(x::l).length:N)-(v.length:N)-1)=((l.length:N)+1-(v.length:N)-1))(h9:(F5 (ie ((↑(x::l).length:N)-(v.length:N)).toNat (I.map af.raw (uU #[Value.int .i64 (0:N)]))))=(A' (λx=>[iv x]) (iu ((l.length:N)+1-(v.length:N)).toNat)))(h10:(((l.length:N)+1-(v.length:N)).toNat)=(iu ((l.length:N)+1-(v.length:N)).toNat).length):
  aD.path (CV em jP ((fl eN []).drop 10) 2 (vr a v f (x::l))) (dl 1) (fy em 206 .normal [(64,64,bs),(65,65,O ((l.length:N)+1-v.length).toNat)] (jo v f (bO (l.length+1)) (x::l) (iu ((l.length:N)+1-v.length).toNat) ((l.length:N)+1-v.length-1))):=
 mp (ajg (fA e) (ay o) (ay o) (show(bP (((↑(x::l).length:N)-(v.length:N)).toNat<=((↑(x::l).length:N)-(v.length:N)).toNat))=D from ay ω) (show(bounded ((↑(x::l).length:N)-(v.length:N)).toNat (8:E))=D from kB h3 ω) (fA e) (fA h4) (rB (rr ([f])) (rr v) (rr (v.length:N)) (an (rr (0:E)) (an (rr (x::l).length) (rr (bO (x::l).length)))) (an h5 (an h6 h7)) h8 (rr (x::l)) (an h9 h10) trivial))
section
variable(v:I N)(f:N)(c:aY)(u q:I N)(z t bo:N)(i:E)(Z:(i:N)<(v.length:N))(Y:i<v.length)(h3:i6 (t*v.getD i 0))(h4:i6 (t*v.getD i 0+bo))(h5:i6 ((i:N)+z))(h6:0<=(i:N)+z)(h7:((i:N)+z).toNat<u.length)(h8:(bx 3 (.int .i64) (O (bn.own 3 (.int .i64) u)) ((i:N)+z).toNat)=D)(h9:i6 (u.getD ((i:N)+z).toNat 0-gl (t*v.getD i 0+bo) 1000000000))(h10:i6 (ej (t*v.getD i 0+bo) 1000000000))
def atw(A:u.getD ((i:N)+z).toNat 0-gl (t*v.getD i 0+bo) 1000000000<0)(B:i6 (u.getD ((i:N)+z).toNat 0-gl (t*v.getD i 0+bo) 1000000000+1000000000))(e:i6 (ej (t*v.getD i 0+bo) 1000000000+1))(o:i6 ((i:N)+1))(C:u.length=(u.set ((i:N)+z).toNat (u.getD ((i:N)+z).toNat 0-gl (t*v.getD i 0+bo) 1000000000+1000000000)).length):
  aR jP (fl eN Lg) (qR v f c u q z t bo i) 7 .normal pU (qR v f c (u.set ((i:N)+z).toNat (u.getD ((i:N)+z).toNat 0-gl (t*v.getD i 0+bo) 1000000000+1000000000)) q z t (ej (t*v.getD i 0+bo) 1000000000+1) (i+1)):=
 wy [ag Z,ag Y,yi h3,yi h4,yi h5,ag h6,ag h7,aa (show(bx 3 (.int .i64) (O (bn.own 3 (.int .i64) u)) ((0:E)+((i:N)+z).toNat))=D from(by simp only[bC]<;>exact h8)),aa (show(fits iz (u.getD ((0:E)+((i:N)+z).toNat) (0:N)-gl (t*v.getD i (0:N)+bo) (1000000000:N)))=D from(by simp only[bC]<;>exact fA h9)),yi h10,aa (show(bP (u.getD ((0:E)+((i:N)+z).toNat) (0:N)-gl (t*v.getD i (0:N)+bo) (1000000000:N)<(0:N)))=D from(by simp only[bC]<;>exact ay A)),aa (show(fits iz (u.getD ((0:E)+((i:N)+z).toNat) (0:N)-gl (t*v.getD i (0:N)+bo) (1000000000:N)+(1000000000:N)))=D from(by simp only[bC]<;>exact fA B)),yi e,yi o,av C,av (show(u.set ((0:E)+((i:N)+z).toNat) (u.getD ((0:E)+((i:N)+z).toNat) (0:N)-gl (t*v.getD i (0:N)+bo) (1000000000:N)+(1000000000:N)))=(u.set ((i:N)+z).toNat (u.getD ((i:N)+z).toNat (0:N)-gl (t*v.getD i (0:N)+bo) (1000000000:N)+(1000000000:N)))from(by simp only[bC]<;>rfl))] 411376139330301531947457705006383748541443296955200566048071681
def atx(o:¬u.getD ((i:N)+z).toNat 0-gl (t*v.getD i 0+bo) 1000000000<0)(A:i6 ((i:N)+1))(e:u.length=(u.set ((i:N)+z).toNat (u.getD ((i:N)+z).toNat 0-gl (t*v.getD i 0+bo) 1000000000)).length):
  aR jP (fl eN Lg) (qR v f c u q z t bo i) 5 .normal pU (qR v f c (u.set ((i:N)+z).toNat (u.getD ((i:N)+z).toNat 0-gl (t*v.getD i 0+bo) 1000000000)) q z t (ej (t*v.getD i 0+bo) 1000000000) (i+1)):=
 wy [ag Z,ag Y,yi h3,yi h4,yi h5,ag h6,ag h7,aa (show(bx 3 (.int .i64) (O (bn.own 3 (.int .i64) u)) ((0:E)+((i:N)+z).toNat))=D from(by simp only[bC]<;>exact h8)),aa (show(fits iz (u.getD ((0:E)+((i:N)+z).toNat) (0:N)-gl (t*v.getD i (0:N)+bo) (1000000000:N)))=D from(by simp only[bC]<;>exact fA h9)),yi h10,aa (show(bP (u.getD ((0:E)+((i:N)+z).toNat) (0:N)-gl (t*v.getD i (0:N)+bo) (1000000000:N)<(0:N)))=ao from(by simp only[bC]<;>exact ab o)),yi A,av e,av (show(u.set ((0:E)+((i:N)+z).toNat) (u.getD ((0:E)+((i:N)+z).toNat) (0:N)-gl (t*v.getD i (0:N)+bo) (1000000000:N)))=(u.set ((i:N)+z).toNat (u.getD ((i:N)+z).toNat (0:N)-gl (t*v.getD i (0:N)+bo) (1000000000:N)))from(by simp only[bC]<;>rfl))] 87879424295413535223539924311789743421980991760571879399425
end
section
variable(v:I N)(f:N)(c:aY)(u q:I N)
def atz(z t bo:N)(i:E)(e:i6 (z+(v.length:N)))(o:0<=z+(v.length:N))(h3:(z+(v.length:N)).toNat<u.length)(h4:(bx 3 (.int .i64) (O (bn.own 3 (.int .i64) u)) (z+(v.length:N)).toNat)=D)(h5:i6 (u.getD (z+(v.length:N)).toNat 0-bo))(h6:(bx 3 (.int .i64) (O (bn.own 3 (.int .i64) (u.set (z+(v.length:N)).toNat (u.getD (z+(v.length:N)).toNat 0-bo)))) (z+(v.length:N)).toNat)=D)(h7:u.length=(u.set (z+(v.length:N)).toNat (u.getD (z+(v.length:N)).toNat 0-bo)).length)(h8:(bP ((u.set (z+(v.length:N)).toNat (u.getD (z+(v.length:N)).toNat 0-bo)).getD (z+(v.length:N)).toNat 0<0))=(bP ((u.set (z+(v.length:N)).toNat (u.getD (z+(v.length:N)).toNat 0-bo)).getD (z+(v.length:N)).toNat 0<0))):
  di jP ((fl eN xz).drop 4) 2 (qR v f c u q z t bo i) 1 .normal pU (Br v f c (u.set (z+(v.length:N)).toNat (u.getD (z+(v.length:N)).toNat 0-bo)) q z t (bP ((u.set (z+(v.length:N)).toNat (u.getD (z+(v.length:N)).toNat 0-bo)).getD (z+(v.length:N)).toNat 0<0))):=
 wy [yi e,ag o,ag h3,aa (show(bx 3 (.int .i64) (O (bn.own 3 (.int .i64) u)) ((0:E)+(z+(v.length:N)).toNat))=D from(by simp only[bC]<;>exact h4)),aa (show(fits iz (u.getD ((0:E)+(z+(v.length:N)).toNat) (0:N)-bo))=D from(by simp only[bC]<;>exact fA h5)),aa (show(bx 3 (.int .i64) (O (bn.own 3 (.int .i64) (u.set ((0:E)+(z+(v.length:N)).toNat) (u.getD ((0:E)+(z+(v.length:N)).toNat) (0:N)-bo)))) ((0:E)+(z+(v.length:N)).toNat))=D from(by simp only[bC]<;>exact h6)),av h7,av (show(bP ((u.set ((0:E)+(z+(v.length:N)).toNat) (u.getD ((0:E)+(z+(v.length:N)).toNat) (0:N)-bo)).getD ((0:E)+(z+(v.length:N)).toNat) (0:N)<(0:N)))=(bP ((u.set (z+(v.length:N)).toNat (u.getD (z+(v.length:N)).toNat (0:N)-bo)).getD (z+(v.length:N)).toNat (0:N)<(0:N)))from(by simp only[bC]<;>exact h8)),av (show(u.set ((0:E)+(z+(v.length:N)).toNat) (u.getD ((0:E)+(z+(v.length:N)).toNat) (0:N)-bo))=(u.set (z+(v.length:N)).toNat (u.getD (z+(v.length:N)).toNat (0:N)-bo))from(by simp only[bC]<;>rfl))] 13023635195941919408873694419534707774213333057
def atA(z t:N)(o:0<=z)(e:z.toNat<q.length)(h3:q.length=(q.set z.toNat t).length)(h4:(bO q.length)=(bO (q.set z.toNat t).length)):
  aR jP ((fl eN xz).drop 6) (Br v f c u q z t ao) 2 .normal pU (jo v f c u (q.set z.toNat t) z):=
 wy [ag o,ag e,jf 3 (.int .i64) e,av h3,av h4,oK 3 (.int .i64) (Hj (q.set z.toNat t))] 7427664142692601176974434368
def atC(z t e:N)(i:E)(o:(i:N)<(v.length:N))(B:i6 ((i:N)+z))(h3:0<=(i:N)+z)(h4:((i:N)+z).toNat<u.length)(h5:(bx 3 (.int .i64) (O (bn.own 3 (.int .i64) u)) ((i:N)+z).toNat)=D)(h6:i<v.length)(h7:i6 (u.getD ((i:N)+z).toNat 0+v.getD i 0))(h8:i6 (u.getD ((i:N)+z).toNat 0+v.getD i 0+e))(h9:i6 (ej (u.getD ((i:N)+z).toNat 0+v.getD i 0+e) 1000000000))(h10:i6 ((i:N)+1))(A:u.length=(u.set ((i:N)+z).toNat (gl (u.getD ((i:N)+z).toNat 0+v.getD i 0+e) 1000000000)).length):
  aR jP (fl eN Sf) (vt v f c u q z t e i) 3 .normal pU (vt v f c (u.set ((i:N)+z).toNat (gl (u.getD ((i:N)+z).toNat 0+v.getD i 0+e) 1000000000)) q z t (ej (u.getD ((i:N)+z).toNat 0+v.getD i 0+e) 1000000000) (i+1)):=
 wy [ag o,yi B,ag h3,ag h4,aa (show(bx 3 (.int .i64) (O (bn.own 3 (.int .i64) u)) ((0:E)+((i:N)+z).toNat))=D from(by simp only[bC]<;>exact h5)),aa (aI (v:=iv (u.getD ((0:E)+((i:N)+z).toNat) (0:N)))),ag h6,aa (aI (v:=iv (v.getD i (0:N)))),aa (show(fits iz (u.getD ((0:E)+((i:N)+z).toNat) (0:N)+v.getD i (0:N)))=D from(by simp only[bC]<;>exact fA h7)),aa (show(fits iz (u.getD ((0:E)+((i:N)+z).toNat) (0:N)+v.getD i (0:N)+e))=D from(by simp only[bC]<;>exact fA h8)),aa (show(fits iz (ej (u.getD ((0:E)+((i:N)+z).toNat) (0:N)+v.getD i (0:N)+e) (1000000000:N)))=D from(by simp only[bC]<;>exact fA h9)),yi h10,av A,av (show(ej (u.getD ((0:E)+((i:N)+z).toNat) (0:N)+v.getD i (0:N)+e) (1000000000:N))=(ej (u.getD ((i:N)+z).toNat (0:N)+v.getD i (0:N)+e) (1000000000:N))from(by simp only[bC]<;>rfl)),av (show(u.set ((0:E)+((i:N)+z).toNat) (gl (u.getD ((0:E)+((i:N)+z).toNat) (0:N)+v.getD i (0:N)+e) (1000000000:N)))=(u.set ((i:N)+z).toNat (gl (u.getD ((i:N)+z).toNat (0:N)+v.getD i (0:N)+e) (1000000000:N)))from(by simp only[bC]<;>rfl))] 6027390781975829659609134758914141726976902255265616766185601
def atE(z t e:N)(i:E)(o:i6 (z+(v.length:N)))(A:0<=z+(v.length:N))(h3:(z+(v.length:N)).toNat<u.length)(h4:(bx 3 (.int .i64) (O (bn.own 3 (.int .i64) u)) (z+(v.length:N)).toNat)=D)(h5:i6 (u.getD (z+(v.length:N)).toNat 0+e))(h6:u.length=(u.set (z+(v.length:N)).toNat (u.getD (z+(v.length:N)).toNat 0+e)).length):
  aR jP ((fl eN Lh).drop 4) (vt v f c u q z t e i) 1 .normal pU (Sh v f c (u.set (z+(v.length:N)).toNat (u.getD (z+(v.length:N)).toNat 0+e)) q z t):=
 wy [yi o,ag A,ag h3,aa (show(bx 3 (.int .i64) (O (bn.own 3 (.int .i64) u)) ((0:E)+(z+(v.length:N)).toNat))=D from(by simp only[bC]<;>exact h4)),aa (show(fits iz (u.getD ((0:E)+(z+(v.length:N)).toNat) (0:N)+e))=D from(by simp only[bC]<;>exact fA h5)),av h6,av (show(u.set ((0:E)+(z+(v.length:N)).toNat) (u.getD ((0:E)+(z+(v.length:N)).toNat) (0:N)+e))=(u.set (z+(v.length:N)).toNat (u.getD (z+(v.length:N)).toNat (0:N)+e))from(by simp only[bC]<;>rfl))] 9304595970496224499057210602646413377
def atF(z t:N)(o:0<=z)(e:z.toNat<q.length)(h3:q.length=(q.set z.toNat t).length)(h4:(bO q.length)=(bO (q.set z.toNat t).length)):
  aR jP ((fl eN xz).drop 7) (Sh v f c u q z t) 1 .normal pU (jo v f c u (q.set z.toNat t) z):=
 wy [ag o,ag e,jf 3 (.int .i64) e,av h3,av h4,oK 3 (.int .i64) (Hj (q.set z.toNat t))] 116057252229571893390225537
def atG(z:N)(e:i6 (z-1)):
  aR jP ((fl eN GY).drop 3) (jo v f c u q z) 1 .normal pU (jo v f c u q (z-1)):=
 wy [yi e] 1
def atH(z:N)(e:v.length<=u.length)(o:(dd v.length 0||bx 3 (.int .i64) (O (bn.own 3 (.int .i64) u)) (v.length-1))=D)(h3:((u.drop 0).take v.length).length<=1000000)(h4:ea 0<jC [f])(h5:(okB (eW ((u.drop 0).take v.length))&&(bP ((1:aq.den (.int .i64))<=qm [f] (ea 0) 0)&&bP (qm [f] (ea 0) 0<(1000000000:aq.den (.int .i64)))))=D)(h6:(dd q.length 0||bx 3 (.int .i64) (a8 3 (.int .i64) q) (q.length-1))=D)(h7:((q.drop 0).take q.length).length<=1000000)(h8:(aJ (ah (eW ((u.drop 0).take v.length))/qm [f] (ea 0) 0))=(aJ (ah (eW ((u.drop 0).take v.length))/f))):
  bw jP ((fl eN []).drop 13) (jo v f c u q z) 3 f122 ao (.tuple [lv (eW ((q.drop 0).take q.length)),lv (aJ (ah (eW ((u.drop 0).take v.length))/f))]):=
 wy [ag e,aa (show(dd v.length (0:E)||bx 3 (.int .i64) (O (bn.own 3 (.int .i64) u)) ((0:E)+v.length-(1:E)))=D from(by simp only[bC]<;>exact o)),ag h3,ag h4,aa (aI (v:=iv (qm [f] (0:N).toNat (0:N)))),aa h5,aa (show(dd q.length (0:E)||bx 3 (.int .i64) (a8 3 (.int .i64) q) ((0:E)+q.length-(1:E)))=D from(by simp only[bC]<;>exact h6)),aa (show(bP ((((bu (.int .i64) (a8 3 (.int .i64) q)).drop (0:E)).take q.length).length<=(1000000:E)))=D from(by simp only[a7]<;>exact ay h7)),av (show(eW (((bu (.int .i64) (a8 3 (.int .i64) q)).drop (0:E)).take q.length))=(eW ((q.drop (0:E)).take q.length))from(by simp only[a7]<;>rfl)),av h8] 196186516682196595138105344
end
end
def atI{e A v' aG B o u' s:N}(p:Dm 1000000000 e A v' aG B o u' s)(F:500000000<=e)(H:pO 1000000000 aG B o u' s<1000000000*iP 1000000000 e A v' s){Q:N}(G:0<=Q)(S:Q*iP 1000000000 e A v' s<=pO 1000000000 aG B o u' s)(X:Q<1000000000)(C:∀T,(T-1)*iP 1000000000 e A v' s<=pO 1000000000 aG B o u' s->T<=Q+1):
  ∀(f:E)(t r:N),aG*1000000000+B=t*e+r->0<=r->Q<=t->(f=2\/(f=1/\1000000000<=r+e))->Q<=qQ e A o f t r/\qQ e A o f t r<=Q+1:=by
 have F:aG*1000000000+B<1000000000*(e+1):=by
  have F:=p.s1;have F:=p.v2;have h3:=p.v';have P:=p.u2;have F:=p.u';unfold pO iP at H;have J:((aG*1000000000+B)*1000000000+o)*s=(aG*1000000000+B)*(1000000000*s)+o*s:=by rw[wq,km]
  have K:(e*1000000000+A)*s=e*(1000000000*s)+A*s:=by rw[wq,km]
  have F:0<=o*s:=kv P.1 ω;have F:A*s<=999999999*s:=iK ω ω;have L:(1000000000*(e+1))*(1000000000*s)=1000000000*(e*(1000000000*s)+1000000000*s):=by rw[km,wq,mT]
  rw[J,K]at H;refine Yj (x:=1000000000*s) ?_ ω;rw[L];generalize e*(1000000000*s)=F at*;generalize A*s=F at*;generalize o*s=F at*;generalize (aG*1000000000+B)*(1000000000*s)=F at*;omega
 intro f;induction f with
 |zero=>intro t r _ _ _ U;omega
 |succ g W=>
  intro t r F G M U;have F:aG*1000000000+B-t*e=r:=by omega
  unfold qQ;by_cases hc:1000000000<=t\/r*1000000000+o<t*A
  .rw[dA hc];have o:Q<t:=by
    rcases hc with hc|hc
    .omega
    .exact Yk p ω S (by rw[F];exact hc)
   have o:(t-1)*e=t*e-e:=by rw[sZ,mT]
   by_cases h4:1000000000<=r+e
   .rw[dA h4];refine⟨by omega,?_⟩;have G:t-1<1000000000:=by
     refine N.not_le.1 λV=>?_
     have:=iK V (show 0<=e by omega);omega
    exact C _ (vy p ⟨by omega,G⟩ (Yl p ⟨by omega,G⟩ ω))
   .rw[db h4];exact W (t-1) (r+e) ω ω ω ω
  .rw[db hc];exact⟨M,C _ (vy p ⟨by omega,by omega⟩ (by rw[F];omega))⟩
def Si{u:I N}{j m i:E}(h:i<m):((u.drop j).take m).getD i 0=u.getD (j+i) 0:=by
 simp only[ap,ly,z5,dA h]
def atK{u v:I N}{j n:E}(V:aS 1000000000 u)(W:aS 1000000000 v)(lv:v.length=n+2)(bN:j+(n+3)<=u.length)(T:500000000<=v.getD (n+1) 0)(G:ah ((u.drop j).take (n+3))<1000000000*ah v):
  ah ((u.drop j).take (n+3))/ah v<=tI u v j/\tI u v j<=ah ((u.drop j).take (n+3))/ah v+1:=by
 have B:aS 1000000000 ((u.drop j).take (n+3)):=(V.drop _).take _;have A:((u.drop j).take (n+3)).length=n+3:=by rw[er,p7];omega
 have p:=Qu (b:=1000000000) δ B W A lv ω;have e:iP 1000000000 (v.getD (n+1) 0) (v.getD n 0) (vl 1000000000 (v.take n)) (1000000000^n)=ah v:=Qv lv;have K:=Qw (b:=1000000000) A;have H:0<ah v:=by
  rw[<-e];unfold iP;have F:=p.v1;have M:=p.v2;have o:=p.v';have S:=p.s1;have:1*1<=(v.getD (n+1) 0*1000000000+v.getD n 0)*1000000000^n:=tj ω S ω ω;omega
 have J:0<=ah ((u.drop j).take (n+3)):=jl B;have X:((j:N)+(v.length:N)).toNat=j+(n+2):=by omega
 have A:((j:N)+(v.length:N)-1).toNat=j+(n+1):=by omega
 have B:((j:N)+(v.length:N)-2).toNat=j+n:=by omega
 have S:((v.length:N)-1).toNat=n+1:=by omega
 have V:((v.length:N)-2).toNat=n:=by omega
 have d0:=Si (u:=u) (j:=j) (m:=n+3) (i:=n+2) ω;have d1:=Si (u:=u) (j:=j) (m:=n+3) (i:=n+1) ω;have d2:=Si (u:=u) (j:=j) (m:=n+3) (i:=n) ω;have C:=Û (ah ((u.drop j).take (n+3))) (show ah v≠0 by omega);have L:ah ((u.drop j).take (n+3))/ah v<1000000000:=(pA H).2 G;have o:pO 1000000000 (((u.drop j).take (n+3)).getD (n+2) 0) (((u.drop j).take (n+3)).getD (n+1) 0) (((u.drop j).take (n+3)).getD n 0) (vl 1000000000 (((u.drop j).take (n+3)).take n)) (1000000000^n)=ah ((u.drop j).take (n+3)):=K;have F:=p.aG;have M:=p.u1;have F:0<=((u.drop j).take (n+3)).getD (n+2) 0*1000000000+((u.drop j).take (n+3)).getD (n+1) 0:=by omega
 have K:=atI p T (by rw[o,e];exact G) (Q:=ah ((u.drop j).take (n+3))/ah v) (jN J ω) (by rw[o,e];exact C) L (λT F=>by
  rw[o,e]at F;have:=Cm H F;omega) 2 ((((u.drop j).take (n+3)).getD (n+2) 0*1000000000+((u.drop j).take (n+3)).getD (n+1) 0)/v.getD (n+1) 0) ((((u.drop j).take (n+3)).getD (n+2) 0*1000000000+((u.drop j).take (n+3)).getD (n+1) 0)%v.getD (n+1) 0) (by
   have:=jp (((u.drop j).take (n+3)).getD (n+2) 0*1000000000+((u.drop j).take (n+3)).getD (n+1) 0) (v.getD (n+1) 0);rw[iN (v.getD (n+1) 0)]at this;omega) (fC _ ω) (by
   have U:=Ym p (q:=ah ((u.drop j).take (n+3))/ah v) (jN J ω) (by rw[o,e];exact C);exact Cm ω U) (.inl rfl)
 have P:tI u v j=qQ (v.getD (n+1) 0) (v.getD n 0) (((u.drop j).take (n+3)).getD n 0) 2 ((((u.drop j).take (n+3)).getD (n+2) 0*1000000000+((u.drop j).take (n+3)).getD (n+1) 0)/v.getD (n+1) 0) ((((u.drop j).take (n+3)).getD (n+2) 0*1000000000+((u.drop j).take (n+3)).getD (n+1) 0)%v.getD (n+1) 0):=by
  rw[d0,d1,d2];unfold tI gu dn pT rP;rw[kh,X,A,B,S,V]
 rw[P];exact K
structure G0(d0 v:I N)(t:N)(n:E)(d:I N)(bo:N)(i:E):Prop where
 len:d.length=n+1
 dg:aS 1000000000 (d.take n)
 top:d.getD n 0=d0.getD n 0
 sG:0<=bo/\bo<=1000000000
 val:ah d-1000000000^i*bo=ah d0-t*ah (v.take i)
def zV{d:I N}{n i:E}(h:i<n):(d.take n).getD i 0=d.getD i 0:=by
 simp only[ap,ly,dA h]
def aaM{d:I N}{n i:E}(h:aS 1000000000 (d.take n))(hi:i<n):0<=d.getD i 0/\d.getD i 0<1000000000:=by
 rw[<-zV hi];exact h.get δ i
def G0.step{d0 v:I N}{t:N}{n:E}{d:I N}{bo:N}{i:E}(e:G0 d0 v t n d bo i)(hi:i<n){x uT:N}(C:0<=x/\x<1000000000)(o:0<=uT/\uT<=1000000000)(he:x-1000000000*uT=d.getD i 0-(t*v.getD i 0+bo)):G0 d0 v t n (d.set i x) uT (i+1):=by
 have A:=e.len;refine⟨by rw[cm];exact A,by rw[I.take_set];exact e.dg.set C,by rw[qM,db ω];exact e.top,o,?_⟩;have B:=e.val;unfold ah at B ⊢;rw[i8 _ _ _ _ ω,mX v,hP];generalize vl 1000000000 d=F at*;generalize vl 1000000000 d0=H at*;generalize vl 1000000000 (v.take i)=J at*;generalize (1000000000:N)^i=P at*;generalize d.getD i 0=y at*;generalize v.getD i 0=w at*;have G:P*(x-1000000000*uT)=P*(y-(t*w+bo)):=by rw[he]
 grind
def atM{t w bo:N}(e:0<=t/\t<=1000000000)(o:0<=w/\w<1000000000)(C:0<=bo/\bo<=1000000000):
  (0<=t*w/\t*w<=999999999000000000)/\gl (t*w+bo) 1000000000+1000000000*ej (t*w+bo) 1000000000=t*w+bo/\(0<=gl (t*w+bo) 1000000000/\gl (t*w+bo) 1000000000<1000000000)/\(0<=ej (t*w+bo) 1000000000/\ej (t*w+bo) 1000000000<=1000000000):=by
 have A:0<=t*w:=kv e.1 o.1;have B:t*w<=1000000000*999999999:=tj e.2 ω o.1 δ;rw[lU ω,ku ω];generalize t*w=p at*;omega
structure G1(d0 v:I N)(n:E)(d:I N)(dD:N)(i:E):Prop where
 len:d.length=n+1
 dg:aS 1000000000 (d.take n)
 top:d.getD n 0=d0.getD n 0
 sG:0<=dD/\dD<=1
 val:ah d+1000000000^i*dD=ah d0+ah (v.take i)
def G1.step{d0 v:I N}{n:E}{d:I N}{o:N}{i:E}(e:G1 d0 v n d o i)(hi:i<n){x D4:N}(F:0<=x/\x<1000000000)(A:0<=D4/\D4<=1)(he:x+1000000000*D4=d.getD i 0+v.getD i 0+o):G1 d0 v n (d.set i x) D4 (i+1):=by
 have B:=e.len;refine⟨by rw[cm];exact B,by rw[I.take_set];exact e.dg.set F,by rw[qM,db ω];exact e.top,A,?_⟩;have C:=e.val;unfold ah at C ⊢;rw[i8 _ _ _ _ ω,mX v,hP];generalize vl 1000000000 d=G at*;generalize vl 1000000000 d0=J at*;generalize vl 1000000000 (v.take i)=K at*;generalize (1000000000:N)^i=P at*;generalize d.getD i 0=y at*;generalize v.getD i 0=w at*;have H:P*(x+1000000000*D4)=P*(y+w+o):=by rw[he]
 grind
section
variable{d:I N}{n:E}
def Lj(B:d.length=n+1)(A:aS 1000000000 (d.take n)):ah d=ah (d.take n)+1000000000^n*d.getD n 0/\0<=ah (d.take n)/\ah (d.take n)<1000000000^n:=by
 have e:=nY (b:=1000000000) (l:=d) (k:=n) ω;rw[eG ω]at e;have o:=gY (b:=1000000000) δ A;rw[er,ns ω]at o;exact⟨e,jl A,o⟩
def atN(A:d.length=n+1)(o:aS 1000000000 (d.take n)):d.getD n 0<0↔ah d<0:=by
 obtain⟨C,F,h3⟩:=Lj A o;have e:=eE (b:=1000000000) δ n;generalize d.getD n 0=x at*;constructor
 .intro B;have:=ar (show x<= -1 by omega) (cI e);omega
 .intro B;refine N.not_le.1 λh=>?_
  have:=kv (cI e) h;omega
def aaN{R:N}(B:d.length=n+1)(A:aS 1000000000 (d.take n))(F:ah d=R)(L:0<=R)(M:R<1000000000^n):d=gg 1000000000 (n+1) R:=by
 obtain⟨H,J,K⟩:=Lj B A;have o:=eE (b:=1000000000) δ n;have G:d.getD n 0=0:=by
  generalize d.getD n 0=x at*;rcases N.lt_trichotomy x 0 with h|h|h
  .have:=ar (show x<= -1 by omega) (cI o);omega
  .exact h
  .have:=ar (show 1<=x by omega) (cI o);omega
 have C:aS 1000000000 d:=by
  have e:=Yf (l:=d) (k:=n) ω;rw[eG ω,G]at e;rw[e];exact A.app (.cons ⟨vc _,by decide⟩ .nil)
 have:=Qt δ C;rw[B]at this;rw[<-F];exact this
end
noncomputable section
def G2:bI em (bJ jP):=WH (λc e=>by rw[kD.1 e];exact atj) (uE (λc e=>by rw[kD.1 e];exact R2) (dw λc e=>by
 simp only[cQ,iL,Xz]at e;rcases e with rfl |rfl |rfl
 .exact aaC
 .exact atf
 .exact aaG))
def Bs{p d r:I N}{n:E}(h:d.length=n+1):(p++(d++r)).length=p.length+(n+1)+r.length:=by
 simp only[fQ,h];omega
abbrev aaO(v:I N)(f:N)(c:aY)(u q:I N)(z:N):sC->au af->ai->Prop:=λe T H=>e=.normal/\T=(jo v f c u q z).T/\H=(jo v f c u q z).H
section
variable{v:I N}{f:N}{c:aY}{p d0 r q:I N}
def atO{t R:Int}{n:Nat}(a3:aS 1000000000 v)(lv:v.length=n)(b3:1<=n)(a9:n<=1000000)(b':p.length<=1000000)(a2:p.length<q.length)(P:d0.length=n+1)(a1:aS 1000000000 (d0.take n))(b1: -1000000000<=d0.getD n 0/\d0.getD n 0<=1000000000)(b2:0<=t/\t<=1000000000)(a0:ah d0+ah v=R)(V:0<=R)(W:R<1000000000^n)(w:World)(F:Sv.Env):
  bp prog w F 206 ((fl eN xz).drop 6) (Br v f c (p++(d0++r)) q (p.length:Int) t true).T (Br v f c (p++(d0++r)) q (p.length:Int) t true).H (aaO v f c (p++(gg 1000000000 (n+1) R++r)) (q.set p.length (t-1)) (p.length:Int)):=by
 have C:=G2;refine Zd (X:=mQ) (o:= .tmp 145) (x:=cat eN Lh) (y:= .skip) (rest:=(fl eN xz).drop 7) (by kernel_rfl) (by kernel_rfl) ?_;refine dH (s:=Br v f c (p++(d0++r)) q (p.length:Int) t true) C 3 (wy [yi (ω:i6 (t-1))] 1:di jP (fl eN Lh) 3 (Br v f c (p++(d0++r)) q (p.length:Int) t true) 1 .normal pU (vt v f c (p++(d0++r)) q (p.length:Int) (t-1) 0 0)) ?_;refine c_q {x:List Int×Int×Nat//x.2.2<=n/\G1 d0 v n x.1 x.2.1 x.2.2} 6 (cat eN Sf) ((fl eN Lh).drop 4) (λx=>vt v f c (p++(x.1.1++r)) q (p.length:Int) (t-1) x.1.2.1 x.1.2.2) (λx=>n-x.1.2.2)
  ⟨(d0,0,0),Nat.zero_le _,⟨P,a1,rfl,⟨Int.le_refl 0,show(0:Int)<=1 by decide⟩,by simp[ah,vl]⟩⟩ ?_
 rintro⟨⟨d,e,i⟩,G,A⟩;have G:i<=n:=G;have A:G1 d0 v n d e i:=A;have H:=A.len;have a6:=A.sG;have a':=Bs (p:=p) (r:=r) H;have a4:((i:Int)+(p.length:Int)).toNat=p.length+i:=by omega
 have S:((p.length:Int)+(v.length:Int)).toNat=p.length+n:=by omega
 by_cases J:i<n
 .have a5:=aaM A.dg J;have b4:=a3.get δ i;have K:0<=d.getD i 0+v.getD i 0+e:=by omega
  have B:=atC v f c (p++(d++r)) q (p.length:Int) (t-1) e i ω ω ω;rw[a4,fi ω,xb ω,Int.tmod_eq_emod_of_nonneg K,Int.tdiv_eq_ediv_of_nonneg K]at B;refine aT (s:=vt v f c (p++(d++r)) q (p.length:Int) (t-1) e i) C (B ω (rQ ω) ω ω ω ω ω (by simp only[fQ,cm])) ?_;have Q:=A.step J (x:=(d.getD i 0+v.getD i 0+e)%1000000000) (D4:=(d.getD i 0+v.getD i 0+e)/1000000000) ω ω ω;exact⟨⟨(_,_,i+1),by show i+1<=n;omega,Q⟩,by show n-(i+1)<n-i;omega,rfl,rfl⟩
 .obtain rfl:i=n:=by omega
  refine aT (s:=vt v f c (p++(d++r)) q (p.length:Int) (t-1) e i) C (wy [az (ω:¬(i:Int)<(v.length:Int))] 1:aR jP (fl eN Sf) (vt v f c (p++(d++r)) q (p.length:Int) (t-1) e i) 2 (.exit 6) pU (vt v f c (p++(d++r)) q (p.length:Int) (t-1) e i)) ?_;refine bY (cg ?_);have u5:=A.top;have B:=atE v f c (p++(d++r)) q (p.length:Int) (t-1) e i ω ω;rw[S,fi ω,xb ω]at B;have L:=A.val;rw[eG ω]at L;have l2:(d.set i (d.getD i 0+e)).length=i+1:=by rw[cm];exact H
  have U:aS 1000000000 ((d.set i (d.getD i 0+e)).take i):=by rw[Dn];exact A.dg
  have v2:ah (d.set i (d.getD i 0+e))=R:=by
   unfold ah at L a0 ⊢;rw[i8 _ _ _ _ ω,show d.getD i 0+e-d.getD i 0=e by omega];omega
  have T:=aaN l2 U v2 V W;rw[T]at B;refine aT (s:=vt v f c (p++(d++r)) q (p.length:Int) (t-1) e i) C (B ω (rQ ω) ω (by rw[a',Bs (A5 _ _ _)])) ?_;have M:=atF v f c (p++(gg 1000000000 (i+1) R++r)) q (p.length:Int) (t-1);rw[Int.toNat_natCast]at M;refine aT (s:=Sh v f c (p++(gg 1000000000 (i+1) R++r)) q (p.length:Int) (t-1)) C (M ω a2 (by rw[cm]) (by rw[cm])) ?_;exact⟨rfl,rfl,rfl⟩
def atQ{V:Int}{n:Nat}(W:aS 1000000000 (p++(d0++r)))(J:aS 1000000000 v)(lv:v.length=n)(e0:2<=n)(c':(p++(d0++r)).length<=1000000)(a9:p.length<q.length)(a0:d0.length=n+1)(H:ah v=V)(X:0<V)(u6:V<1000000000^n)(u5:500000000<=v.getD (n-1) 0)(a2:ah d0<1000000000*V)(w:World)(F:Sv.Env):
  bp prog w F 206 (fl eN xz) (jo v f c (p++(d0++r)) q (p.length:Int)).T (jo v f c (p++(d0++r)) q (p.length:Int)).H (aaO v f c (p++(gg 1000000000 (n+1) (ah d0%V)++r)) (q.set p.length (ah d0/V)) (p.length:Int)):=by
 have B:=G2;have a1:=Bs (p:=p) (r:=r) a0;have K:aS 1000000000 d0:=W.right.left;have b3:((p++(d0++r)).drop p.length).take (n+1)=d0:=by
  rw[List.drop_append,Nat.sub_self,List.drop_zero,List.drop_eq_nil_of_le (aC _),List.nil_append,List.take_append,eG ω,show n+1-d0.length=0 by omega,List.take_zero,List.append_nil]
 obtain⟨m,rfl⟩:∃m,n=m+2:=⟨n-2,by omega⟩;have a3:=atK (u:=p++(d0++r)) (j:=p.length) (n:=m) W J lv ω u5 (by rw[b3,H];exact a2);rw[b3,H]at a3;have c3:0<=ah d0:=jl K;have c5:ah d0/V<1000000000:=(Int.ediv_lt_iff_lt_mul X).2 a2;have e9:0<=ah d0/V:=Int.ediv_nonneg c3 (cI X);have e7:=Int.emod_add_mul_ediv (ah d0) V;have a6:=fC (ah d0) (show V≠0 by omega);have e3:=fZ (ah d0) X;have c2:D2 (p++(d0++r)) 0 (p++(d0++r)).length v (p.length:Int)=true:=by
  unfold D2;have i3:((v.length:Int)-1).toNat=m+1:=by omega
  have h5:500000000<=dn v:=by unfold dn;rw[i3];exact u5
  rw[Nat.beq_refl,Nat.beq_refl,GV.2 W,GV.2 J,ay (show 2<=v.length by omega),ay (show(0:Int)<=(p.length:Int) by omega),ay (show(p.length:Int)+(v.length:Int)<((p++(d0++r)).length:Int) by omega),ay h5,ay c'];rfl
 have c1:(bx (je.e y4) (je.t y4) (some (bn.own 3 (.int .i64) (p++(d0++r)))) ((p++(d0++r)).length-1)&&Nat.ble 1 (p++(d0++r)).length)=true:=by
  rw[aw ω,Bool.and_true];exact rQ ω
 refine dH (s:=jo v f c (p++(d0++r)) q (p.length:Int)) B 3 (wy [aa (show(bx (je.e y4) (je.t y4) (some (bn.own 3 (.int .i64) (p++(d0++r)))) ((0:Nat)+(p++(d0++r)).length-(1:Nat))&&Nat.ble (1:Nat) (p++(d0++r)).length)=true from(by simp only[bC]<;>exact c1)),aa c2] 129:di jP (fl eN xz) 3 (jo v f c (p++(d0++r)) q (p.length:Int)) 1 .normal pU (qR v f c (p++(d0++r)) q (p.length:Int) (tI (p++(d0++r)) v (p.length:Int)) 0 0)) ?_;generalize G:tI (p++(d0++r)) v (p.length:Int)=t at a3 ⊢;refine c_q {x:List Int×Int×Nat//x.2.2<=m+2/\G0 d0 v t (m+2) x.1 x.2.1 x.2.2} 4 (cat eN Lg) ((fl eN xz).drop 4) (λx=>qR v f c (p++(x.1.1++r)) q (p.length:Int) t x.1.2.1 x.1.2.2) (λx=>m+2-x.1.2.2)
  ⟨(d0,0,0),Nat.zero_le _,⟨a0,K.take _,rfl,⟨Int.le_refl 0,show(0:Int)<=1000000000 by decide⟩,by simp[ah,vl]⟩⟩ ?_
 rintro⟨⟨d,bo,i⟩,a4,e⟩;have a4:i<=m+2:=a4;have e:G0 d0 v t (m+2) d bo i:=e;have a5:=e.len;have c0:=e.sG;have a1:=Bs (p:=p) (r:=r) a5;have b1:((i:Int)+(p.length:Int)).toNat=p.length+i:=by omega
 have b4:((p.length:Int)+(v.length:Int)).toNat=p.length+(m+2):=by omega
 by_cases U:i<m+2
 .have d':=aaM e.dg U;have c4:=J.get δ i;obtain⟨s1,s2,s3,KJ⟩:=atM (t:=t) (w:=v.getD i 0) (bo:=bo) ω c4 c0;by_cases A:d.getD i 0-Int.tmod (t*v.getD i 0+bo) 1000000000<0
  .have o:=atw v f c (p++(d++r)) q (p.length:Int) t bo i ω ω ω ω ω ω;rw[b1,fi ω,xb ω]at o;have L:=e.step U (x:=d.getD i 0-Int.tmod (t*v.getD i 0+bo) 1000000000+1000000000) (uT:=Int.tdiv (t*v.getD i 0+bo) 1000000000+1) ω ω ω;refine aT (s:=qR v f c (p++(d++r)) q (p.length:Int) t bo i) B (o ω (rQ ω) ω ω A ω ω ω (by simp only[fQ,cm])) ?_;exact⟨⟨(_,_,i+1),by show i+1<=m+2;omega,L⟩,by show m+2-(i+1)<m+2-i;omega,rfl,rfl⟩
  .have o:=atx v f c (p++(d++r)) q (p.length:Int) t bo i ω ω ω ω ω ω;rw[b1,fi ω,xb ω]at o;have L:=e.step U (x:=d.getD i 0-Int.tmod (t*v.getD i 0+bo) 1000000000) (uT:=Int.tdiv (t*v.getD i 0+bo) 1000000000) ω ω ω;refine aT (s:=qR v f c (p++(d++r)) q (p.length:Int) t bo i) B (o ω (rQ ω) ω ω A ω (by simp only[fQ,cm])) ?_;exact⟨⟨(_,_,i+1),by show i+1<=m+2;omega,L⟩,by show m+2-(i+1)<m+2-i;omega,rfl,rfl⟩
 .obtain rfl:i=m+2:=by omega
  refine aT (s:=qR v f c (p++(d++r)) q (p.length:Int) t bo (m+2)) B (wy [az (ω:¬((m+2:Nat):Int)<(v.length:Int))] 1:aR jP (fl eN Lg) (qR v f c (p++(d++r)) q (p.length:Int) t bo (m+2)) 2 (.exit 4) pU (qR v f c (p++(d++r)) q (p.length:Int) t bo (m+2))) ?_;refine bY (cg ?_);have c9:=e.top;have e':=K.get δ (m+2);have o:=atz v f c (p++(d++r)) q (p.length:Int) t bo (m+2) ω ω;rw[b4,fi ω,xb ω,fi (by rw[cm];omega),yC ω]at o;have b':=e.val;rw[eG ω,H]at b';have C:(d.set (m+2) (d.getD (m+2) 0-bo)).length=m+2+1:=by rw[cm];exact a5
  have S:aS 1000000000 ((d.set (m+2) (d.getD (m+2) 0-bo)).take (m+2)):=by rw[Dn];exact e.dg
  have t2:(d.set (m+2) (d.getD (m+2) 0-bo)).getD (m+2) 0=d.getD (m+2) 0-bo:=yC ω;have v2:ah (d.set (m+2) (d.getD (m+2) 0-bo))=ah d0-t*V:=by
   rw[<-b'];unfold ah;rw[i8 _ _ _ _ ω,show d.getD (m+2) 0-bo-d.getD (m+2) 0= -bo by omega,Int.mul_neg];omega
  have a':=atN C S;rw[t2,v2]at a';refine dH (s:=qR v f c (p++(d++r)) q (p.length:Int) t bo (m+2)) B 2 (o ω (rQ ω) ω (rQ (by rw[Bs C];omega)) (by rw[a1,Bs C]) rfl) ?_;have c7:=Bs (p:=p) (r:=r) C;by_cases A:d.getD (m+2) 0-bo<0
  .rw[ay A];have T:=a'.1 A;have G:t=ah d0/V+1:=by
    rcases Int.lt_or_le (ah d0/V) t with h|h
    .omega
    .have M:t=ah d0/V:=by omega
     rw[M,Int.mul_comm]at T;omega
   have P:ah d0-t*V+V=ah d0%V:=by
    rw[G,Int.add_mul,Int.one_mul,Int.mul_comm (ah d0/V)];omega
   have Q:t-1=ah d0/V:=by omega
   rw[<-Q];exact atO J lv ω ω ω a9 C S (by rw[t2];omega) ω (by rw[v2,H];exact P) a6 ω w F
  .rw[ab A];have T:¬ah d0-t*V<0:=λh=>A (a'.2 h)
   have G:t=ah d0/V:=by
    rcases Int.lt_or_le (ah d0/V) t with h|h
    .have M:t=ah d0/V+1:=by omega
     rw[M,Int.add_mul,Int.one_mul,Int.mul_comm (ah d0/V)]at T;omega
    .omega
   have P:ah d0-t*V=ah d0%V:=by
    rw[G,Int.mul_comm (ah d0/V)];omega
   have Q:=aaN C S (v2.trans P) a6 ω;have b2:=atA v f c (p++(gg 1000000000 (m+2+1) (ah d0%V)++r)) q (p.length:Int) t;rw[Int.toNat_natCast]at b2;rw[Q,<-G];refine aT (s:=Br v f c (p++(gg 1000000000 (m+2+1) (ah d0%V)++r)) q (p.length:Int) t false) B (b2 ω a9 (by rw[cm]) (by rw[cm])) ?_;exact⟨rfl,rfl,rfl⟩
end
abbrev aaQ(x y:I N):sC->au af->ai->Prop:=ew em ao f122 (.tuple [lv x,lv y])
def atS{u:I N}{j n:E}(h:j+(n+1)<=u.length):u=u.take j++((u.drop j).take (n+1)++u.drop (j+(n+1)))/\(u.take j).length=j/\((u.drop j).take (n+1)).length=n+1:=by
 refine⟨?_,by rw[er];omega,by rw[er,p7];omega⟩;rw[show u.drop (j+(n+1))=(u.drop j).drop (n+1) by rw[PM],pa,pa]
def atT{v:I N}{f A B:N}{c:aY}{aG:I N}{n m:E}(H:aS 1000000000 aG)(a':aS 1000000000 v)(lv:v.length=n)(a2:2<=n)(o:m+n=aG.length)(C:1<=m)(e:aG.length<=200000)(X:1<=f/\f<1000000000)
  (M:ah v=B*f) (W:0<B) (C:0<=A) (o:ah aG=A*f) (e:ah (aG.drop m)<ah v) (u5:500000000<=v.getD (n-1) 0) (w:du) (F:Sv.Env):
  bp em w F 206 ((fl eN []).drop 12) (jo v f c aG (iu m) ((m:N)-1)).T (jo v f c aG (iu m) ((m:N)-1)).H (aaQ (aJ (A/B)) (aJ (A%B))):=by
 have G:=G2;have K:0<ah v:=by rw[M];exact G8 W ω
 have C:ah v<1000000000^n:=by rw[<-lv];exact gY δ a'
 have J:∀k,(iu m).getD k 0=0:=λk=>by
  unfold iu;rw[ap,I.getElem?_replicate];split<;>rfl
 refine c_q {x:I N×I N×E//x.2.2<=m/\x.1.length=aG.length/\aS 1000000000 x.1/\x.2.1.length=m/\aS 1000000000 x.2.1/\ah (x.1.drop x.2.2)<ah v/\ah x.1+ah v*ah x.2.1=A*f/\∀j,j<x.2.2->x.2.1.getD j 0=0} 2 (cat eN GY) ((fl eN []).drop 13) (λx=>jo v f c x.1.1 x.1.2.1 ((x.1.2.2:N)-1)) (λx=>x.1.2.2)
  ⟨(aG,iu m,m),aC _,rfl,H,eI _,R8 _,e,?_,λj _=>J j⟩ ?_
 .show ah aG+ah v*ah (iu m)=_;have:ah (iu m)=0:=Gh _ m;rw[this,o];omega
 rintro⟨⟨u,q,k⟩,P,Q,o,T,L,e,H,J⟩;have P:k<=m:=P;have Q:u.length=aG.length:=Q;have o:aS 1000000000 u:=o;have T:q.length=m:=T;have L:aS 1000000000 q:=L;have e:ah (u.drop k)<ah v:=e;have H:ah u+ah v*ah q=A*f:=H;have J:∀j,j<k->q.getD j 0=0:=J;cases k with
 |zero=>
  refine dH (s:=jo v f c u q ((0:E)-1:N)) G 2 (wy [az (ω:¬((0:E)-1:N)>=0)] 1:di jP (fl eN GY) 2 (jo v f c u q ((0:E)-1:N)) 2 (.exit 2) pU (jo v f c u q ((0:E)-1:N))) ?_;refine bY (bY (cg ?_));rw[iW]at e;have a0:0<=ah u:=jl o;obtain⟨g1,P⟩:=QA (A:=A) (b:=B) (V:=ah v) (S:=f) (U:=ah u) (q:=ah q) ω W M H a0 e;have W:0<=f*(A%B):=by rw[<-P];exact a0
  have a3:ah (u.take n)=f*(A%B):=by
   rw[<-P];exact Gj δ o (N.lt_trans e C)
  have M:eW ((u.drop 0).take v.length)=aJ (f*(A%B)):=by
   rw[iW,lv,Bp (o.take _),a3]
  have e2:ah (aJ (f*(A%B)))/f=A%B:=by
   rw[(jk W).2.2,N.mul_ediv_cancel_left _ ω]
  have a6:(aJ (f*(A%B))).length<=n:=Ds nt W (by rw[<-P];exact N.lt_trans e C);have P:=atH v f c u q ((0:E)-1:N) ω (by
   rw[qh];exact .inr (rQ ω)) (by rw[er,iW];omega) τ (by
   rw[M,qO.2 ⟨(jk W).1,by omega⟩];rw[ay (show(1:N)<=qm [f] (ea 0) 0 from X.1),ay (show qm [f] (ea 0) 0<(1000000000:N)from X.2)];rfl) (DZ _ q) (by rw[iW,dx];omega) rfl
  rw[M,e2,iW,dx,Bp L,<-g1]at P;exact bM (s:=jo v f c u q ((0:E)-1:N)) G P
 |succ j=>
  have a4:(((j+1:E):N)-1)=(j:N):=by omega
  obtain⟨w1,w2,M⟩:=Qz (b:=1000000000) δ o (j:=j) (n:=n) (V:=ah v) ω (cI C) e;obtain⟨M,X,c3⟩:=atS (u:=u) (j:=j) (n:=n) ω;obtain⟨n1,n2,n3,W⟩:=YP (b:=1000000000) δ o (j:=j) (n:=n) (V:=ah v) ω K (cI C) e rfl;have e:0<=ah ((u.drop j).take (n+1)):=jl ((o.drop j).take _);have P:ah ((u.drop j).take (n+1))<1000000000*ah v:=by unfold ah;rw[<-w1];exact w2
  have a5:0<=ah ((u.drop j).take (n+1))/ah v:=jN e (cI K);have a1:ah ((u.drop j).take (n+1))/ah v<1000000000:=(pA K).2 P;show bc _ _ _ _ _ _ (jo v f c u q (((j+1:E):N)-1)).T (jo v f c u q (((j+1:E):N)-1)).H _;rw[a4];refine dH (s:=jo v f c u q (j:N)) G 2 (wy [ag (ω:(j:N)>=0)] 1:di jP (fl eN GY) 2 (jo v f c u q (j:N)) 3 .normal pU (jo v f c u q (j:N))) ?_;refine ga (id:=3) (c:=cat eN xz) (rest:=(fl eN GY).drop 3) (by kernel_rfl) ?_;have e:=atQ (f:=f) (c:=c) (p:=u.take j) (d0:=(u.drop j).take (n+1)) (r:=u.drop (j+(n+1))) (q:=q) (V:=ah v) (n:=n) (by rw[<-M];exact o) a' lv a2 (by rw[<-M];omega) (by rw[X];omega) c3 rfl K C u5 P w F;rw[<-M,X]at e;refine bp.mono (λM K C o=>?_) e;obtain⟨rfl,rfl,rfl⟩:=o;have e:=atG v f c (u.take j++(gg 1000000000 (n+1) (ah ((u.drop j).take (n+1))%ah v)++u.drop (j+(n+1)))) (q.set j (ah ((u.drop j).take (n+1))/ah v)) (j:N) ω;refine aT (s:=jo v f c _ _ (j:N)) G e ?_;refine⟨⟨(_,_,j),by show j<=m;omega,n1.trans Q,n2,by show(q.set j _).length=m;rw[cm];exact T,L.set ⟨a5,a1⟩,W,?_,λi e=>?_⟩,gR _,rfl,rfl⟩
  .have C:ah (q.set j (ah ((u.drop j).take (n+1))/ah v))=ah q+1000000000^j*(ah ((u.drop j).take (n+1))/ah v):=by
    have o:=J j (gR _);show vl 1000000000 _=vl 1000000000 _+_;rw[i8 _ _ _ _ ω,o,N.sub_zero]
   have o:ah (u.take j++(gg 1000000000 (n+1) (ah ((u.drop j).take (n+1))%ah v)++u.drop (j+(n+1))))+1000000000^j*(ah ((u.drop j).take (n+1))/ah v)*ah v=ah u:=n3;show ah (u.take j++(gg 1000000000 (n+1) (ah ((u.drop j).take (n+1))%ah v)++u.drop (j+(n+1))))+ah v*ah (q.set j (ah ((u.drop j).take (n+1))/ah v))=_;rw[C,<-H,<-o];generalize ah (u.take j++(gg 1000000000 (n+1) (ah ((u.drop j).take (n+1))%ah v)++u.drop (j+(n+1))))=o;generalize ah ((u.drop j).take (n+1))/ah v=o;generalize (1000000000:N)^j=o;generalize ah q=o;generalize ah v=o;grind
  .have e:i<j:=e;show(q.set j _).getD i 0=0;rw[qM,db ω];exact J i ω
def Sk{x y:N}:nk x y<0↔x<y:=by
 unfold nk;by_cases h:x<y
 .rw[dA h];simp[h]
 .rw[db h];by_cases g:y<x
  .rw[dA g];simp[h]
  .rw[db g];simp[h]
def atU:aJ 0=[]:=(La (vc 0)).2 rfl
def aaR{y:N}(C:1<=y/\y<1000000000):(1<=1000000000/(y+1)/\1000000000/(y+1)<=500000000)/\500000000<=y*(1000000000/(y+1))/\(y+1)*(1000000000/(y+1))<=1000000000:=by
 have h:=jp 1000000000 (y+1);have G:=fC 1000000000 (show y+1≠0 by omega);have o:=fZ 1000000000 (show 0<y+1 by omega);have A:1<=1000000000/(y+1):=Cm ω ω;generalize 1000000000/(y+1)=q at*;generalize 1000000000%(y+1)=r at*;have e:(y+1)*q=y*q+q:=by rw[wq,mT]
 rw[e]at h ⊢;have H:1*q<=y*q:=iK C.1 ω;refine⟨⟨A,by omega⟩,?_,by omega⟩;by_cases B:q=1
 .rw[B]at h ⊢;omega
 .by_cases F:y=1
  .rw[F]at h o ⊢;omega
  .have h3:1*1<=(y-1)*(q-1):=tj ω ω δ ω;have h4:(y-1)*(q-1)=y*q-y-q+1:=by
    rw[sZ,LS,Cu,mT];omega
   omega
def Sl:=IN 122 [.list ao (.int .i64),.list ao (.int .i64)] [.list ao (.int .i64),.list ao (.int .i64)] ao (λd=>okA d.1&&(okA d.2.1&&bP (0<ah d.2.1))) λd=>(aJ (ah d.1/ah d.2.1),aJ (ah d.1%ah d.2.1),())
section
variable(a b:I N)(h:okA a=D)(g:okA b=D)
def atV(J:ah b<=ah a)(m:E)(L:b.length=m+2)(w:du)(F:Sv.Env):
  bp em w F 206 ((fl eN []).drop 6) (D3 a b (1000000000/(b.getD (m+1) 0+1))).T (D3 a b (1000000000/(b.getD (m+1) 0+1))).H (aaQ (aJ (ah a/ah b)) (aJ (ah a%ah b))):=by
 obtain⟨G,o,e⟩:=gG.1 h;obtain⟨o,S,e⟩:=gG.1 g;have C:=G2;have e:=o.get δ (m+1);have e:=S (m+1) L;obtain⟨⟨f1,f2⟩,f3,f4⟩:=aaR (y:=b.getD (m+1) 0) ω;generalize e:1000000000/(b.getD (m+1) 0+1)=f at*;have P:0<=ah a:=jl G;have V:ah a<1000000000^a.length:=gY δ G;have K:=eE (b:=1000000000) δ (m+1);have a':1000000000^(m+1)<=ah b:=vx δ o S L;obtain⟨e,A,B⟩:=Lj (d:=b) (n:=m+1) L (o.take _);have X:0<ah b:=by omega
 have M:ah [f]=f:=wW _ _;have e:0<=ah b*f:=kv ω ω;have H:ah b*f<1000000000^(m+2):=by
  have A:ah b<1000000000^(m+1)*(b.getD (m+1) 0+1):=by rw[oB,Cu];omega
  have B:=sk A (show 0<f by omega);have h3:=ar f4 (cI K);rw[km]at B;rw[hP];omega
 have L:ah b<=ah b*f:=by
  have:=ar f1 (cI X);omega
 obtain⟨T,L,U⟩:=jk e;have L:(aJ (ah b*f)).length=m+2:=by
  have A:(aJ (ah b*f)).length<=m+2:=Ds nt e H;by_cases e:m+2<=(aJ (ah b*f)).length
  .omega
  .have B:=gY (b:=1000000000) δ T;have h3:=j5 (b:=1000000000) δ (show(aJ (ah b*f)).length<=m+1 by omega);unfold ah at*;omega
 have a0:500000000<=(aJ (ah b*f)).getD (m+2-1) 0:=by
  obtain⟨e,H,Q⟩:=Lj (d:=aJ (ah b*f)) (n:=m+1) L (T.take _);show _<=(aJ (ah b*f)).getD (m+1) 0;rw[U]at e;have h3:1000000000^(m+1)*(b.getD (m+1) 0*f)<=ah b*f:=by
   rw[<-km];exact iK ω ω
  have h4:=ar f3 (cI K);have h5:1000000000^(m+1)*500000000<1000000000^(m+1)*((aJ (ah b*f)).getD (m+1) 0+1):=by
   rw[oB,Cu];omega
  have:=PQ h5 (cI K);omega
 have e:m+2<=a.length:=by
  refine E.not_lt.1 λe=>?_
  have:=yA δ G o S ω;unfold ah at J;omega
 have Q:0<=ah a*f:=kv P ω;have e:0<ah a*f:=G8 ω ω;have e:ah a*f<1000000000^(a.length+1):=by
  rw[hP];have A:=ar (show f<=1000000000 by omega) P;have B:=sk V (show(0:N)<1000000000 by decide);omega
 obtain⟨S,H,u3⟩:=jk Q;have H:(aJ (ah a*f)).length<=a.length+1:=Ds nt Q e;have K:aJ (ah a*f)≠[]:=λJ=>by
  have:=(La Q).1 J;omega
 have W:okB [f]=D:=qO.2 ⟨.cons ω .nil,by simp⟩;have e:=ato a b f (by rw[qO.2 ⟨o,by omega⟩,W];rfl) (by rw[qO.2 ⟨G,by omega⟩,W];rfl);rw[M]at e;have o:(aJ (ah a*f)).length≠0:=λJ=>K (ix J)
 refine bp.st (s:=D3 a b f) known mixed C 3 _ (e (by
  cases G:dd (aJ (ah a*f)).length 0 with
  |false=>rfl
  |true=>exact absurd (ac G) o) ω (by
  obtain⟨k,o⟩:∃k,(aJ (ah a*f)).length=k+1:=⟨(aJ (ah a*f)).length-1,by omega⟩;rw[o];rfl) rfl) (by kernel_rfl) ?_
 clear e;refine c_q {x:I N//x.length<=a.length+1/\aS 1000000000 x/\ah x=ah a*f} 0 (cat eN Se) ((fl eN []).drop 10) (λx=>vr a (aJ (ah b*f)) f x.1) (λx=>a.length+1-x.1.length)
  ⟨aJ (ah a*f),H,S,u3⟩ ?_
 rintro⟨u,o,M,H⟩;by_cases o:u.length<a.length+1
 .refine aT (s:=vr a (aJ (ah b*f)) f u) C (wy [yi (ω:i6 ((a.length:N)+1)),ag (ω:(u.length:N)<(a.length:N)+1),yk 3 (.int .i64) u,l8 8 (ω:u.length+1<=1000000),av (tF _ _:(u.length+1)=(u++[0]).length),av (xw _ _:(aY.full)=(bO (u++[0]).length)),pH 3 (.int .i64) (Hj (u++[(0:N)]))] 2144323318104297463349377:aR jP (fl eN Se) (vr a (aJ (ah b*f)) f u) 5 .normal [(64,66,bs)] (vr a (aJ (ah b*f)) f (u++[0]))) ?_;refine⟨⟨u++[0],by rw[fQ];simp;omega,M.app (.cons ⟨vc _,by decide⟩ .nil),?_⟩,by show a.length+1-(u++[0]).length<_;rw[fQ];simp;omega,rfl,rfl⟩;rw[<-H];show vl _ (u++[0])=vl _ u;rw[AY,Vh,N.add_zero]
 .refine aT (s:=vr a (aJ (ah b*f)) f u) C (wy [yi (ω:i6 ((a.length:N)+1)),az (ω:¬(u.length:N)<(a.length:N)+1)] 129:aR jP (fl eN Se) (vr a (aJ (ah b*f)) f u) 2 (.exit 0) [(64,64,bs)] (vr a (aJ (ah b*f)) f u)) ?_;refine bY (cg ?_);have o:u.length=a.length+1:=by omega
  cases u with
  |nil=>cases o
  |cons x l=>
   have G:l.length=a.length:=by simpa using o
   have K:((l.length:N)+1-(aJ (ah b*f)).length).toNat=a.length+1-(m+2):=by omega
   have o:(((x::l).length:N)-(aJ (ah b*f)).length).toNat=a.length+1-(m+2):=by rw[la];omega
   have G:((l.length:N)+1-(aJ (ah b*f)).length-1)=((a.length+1-(m+2):E):N)-1:=by omega
   have J:(((x::l).length:N)-(aJ (ah b*f)).length-1)=((a.length+1-(m+2):E):N)-1:=by rw[la];omega
   have e:=atr a (aJ (ah b*f)) f x l (by rw[la];omega) (by rw[la];omega);rw[K,o,G,J]at e;refine dH (s:=vr a (aJ (ah b*f)) f (x::l)) C 2 (e ω ω (eI _).symm rfl (by rw[eI]) rfl (R9 _) (eI _).symm) ?_;refine atT M T L ω ω ω ω ω U X P H ?_ a0 w F;have A:=uN 1000000000 (x::l) (a.length+1-(m+2)) ω;have B:=iq (b:=1000000000) δ (M.take (a.length+1-(m+2)));have X:=eE (b:=1000000000) δ (a.length+1-(m+2));refine PQ (a:=1000000000^(a.length+1-(m+2))) ?_ (cI X);have h3:1000000000^(a.length+1-(m+2))*ah ((x::l).drop (a.length+1-(m+2)))<=ah a*f:=by rw[<-H];unfold ah;omega
   have A:(1000000000:N)^a.length=1000000000^(a.length+1-(m+2))*1000000000^(m+1):=by rw[<-yL,show a.length+1-(m+2)+(m+1)=a.length by omega]
   have e:=sk V (show 0<f by omega);have e:=iK a' (show 0<=f by omega);have o:=ar e (cI X);rw[<-km,<-A]at o;rw[U];omega
def at3(U:0<ah b):Holds em ao 122 [lv a,lv b] (.tuple [lv (aJ (ah a/ah b)),lv (aJ (ah a%ah b))]):=by
 obtain⟨F,o,e⟩:=gG.1 h;obtain⟨T,A,e⟩:=gG.1 g;have C:=G2;have J:0<=ah a:=jl F;have B:(okA a&&okA b)=D:=by rw[h,g];rfl
 refine bK eN func122 λw L=>?_
 by_cases e:ah a<ah b
 .have Q:aJ (ah a/ah b)=[]:=by rw[N.ediv_eq_zero_of_lt J e];exact atU
  have e2:aJ (ah a%ah b)=a:=by rw[N.emod_eq_of_lt J e];exact K9 F o
  rw[Q,e2];exact bt C 3 (wy [aa B,ag (Sk.2 e:nk (ah a) (ah b)<0)] 129:bk jP (fl eN []) 3 206 [lv a,lv b] 3 f122 ao (.tuple [lv [],lv a]))
 .have H:¬nk (ah a) (ah b)<0:=λh=>e (Sk.1 h)
  obtain⟨n,G⟩:∃n,b.length=n+1:=by
   cases b with
   |nil=>exact absurd U δ
   |cons y r=>exact⟨r.length,rfl⟩
  have o:=T.get δ n;have V:=A n G;cases n with
  |zero=>
   obtain⟨y,rfl⟩:∃y,b=[y]:=Jz.1 G;have X:y≠0:=V;have e:0<=y/\y<1000000000:=o;have K:ah [y]=y:=wW _ _;rw[K];have o:=fC (ah a) X;have o:=fZ (ah a) (show 0<y by omega);have S:eW [ah a%y]=aJ (ah a%y):=by
    rw[Bp (.cons ω .nil)];congr 1;exact wW _ _
   have o:=atl a [y] B H τ τ (by
    rw[qO.2 ⟨F,by omega⟩];rw[ay (show(1:N)<=qm [y] (ea 0) 0 from show 1<=y by omega),ay (show qm [y] (ea 0) 0<(1000000000:N)from e.2)];rfl) (aC 1) τ rfl rfl
   rw[<-S];exact bt C 5 o
  |succ m=>
   have P:((b.length:N)-1).toNat=m+1:=by omega
   have M:(0:N)<=1000000000:=by decide
   have W:ej 1000000000 (b.getD (m+1) 0+1)=1000000000/(b.getD (m+1) 0+1):=ku M;obtain⟨⟨f1,f2⟩,f3,f4⟩:=aaR (y:=b.getD (m+1) 0) ω;have o:=atm a b B H ω ω ω;rw[P,W]at o;refine cE C 6 (o ω ω ω ω rfl) ?_;refine bp.Aw (λA=>?_) (i:=64) (s:=8) (e2:=3) (t:= .int .i64) (xs:=[1000000000/(b.getD (m+1) 0+1)]) (cap:=bO 1) (by kernel_rfl) (by kernel_rfl) ?_
   .have:((fl eN []).drop 6).isEmpty=ao:=by kernel_rfl
    rw[A]at this;cases this
   refine bp.qu (λA=>?_) (σ:=[]) (s:=D3 a b (1000000000/(b.getD (m+1) 0+1))) (atn a b _) ?_
   .have:((fl eN []).drop 6).isEmpty=ao:=by kernel_rfl
    rw[A]at this;cases this
   exact atV a b h g ω m G w L
end
def aaV:Sl.Ok em:=λ⟨a,b,_⟩ h=>by
 have h:(okA a&&(okA b&&bP (0<ah b)))=D:=h;rw[ae,ae]at h;exact at3 a b h.1 h.2.1 (cC h.2.2)
def aaW:=NO f244
def aaX:=NO f202
def Lm:=NO f216
def Bt:=NO f65
def vv:=pJ [GU,aaE] (aA [R1,aaF,R5,Sl])
def vZ(a:dF×I N):N:=bz a.1 (ah a.2)
def okZ(a:dF×I N):dF:=okA a.2&&(!a.1|| !(dd a.2.length 0))
def vw(a b:I N):bD:={n:=19,sl:=[(0,lv a),(1,lv b)],bF:=[],next:=64}
abbrev Sq:I E:=[1,0,0,0]
def aaY:=IN 244 [od] [od] ao (λd=>okZ d.1) λd=>(mkR (-vZ d.1),())
def aaZ:=IN 202 [od,od] [od] ao (λd=>okZ d.1&&okZ d.2.1) λd=>(mkR (vZ d.1*vZ d.2.1),())
def aa0:=IN 216 [od,od] [od] ao (λd=>okZ d.1&&okZ d.2.1) λd=>(mkR (vZ d.1+vZ d.2.1),())
def Sr:=IN 65 [.list ao (.int .i64),.list ao (.int .i64)] [.list ao (.int .i64)] ao (λd=>okA d.1&&okA d.2.1) λd=>(aJ (fo (ah d.1) (ah d.2.1)),())
def D5:bI em (bJ vv):=uE (λc e=>by
 simp only[cQ,iL,Xz]at e;rcases e with rfl |rfl
 .exact Lb
 .exact asX) (dw λc e=>by
 simp only[cQ,iL,Xz]at e;rcases e with rfl |rfl |rfl |rfl
 .exact aaC
 .exact asZ
 .exact aaG
 .exact aaV)
def rR{a:dF×I N}:okZ a=D↔okA a.2=D/\(a.1=D->0<ah a.2):=by
 unfold okZ;rw[ae];constructor
 .rintro⟨o,e⟩;refine⟨o,λh=>?_⟩;rw[h,dF.not_true,dF.false_or,Gp]at e;obtain⟨A,F,_⟩:=gG.1 o;have H:=jl A;have G:=J7 nt A F;rcases zW 0 (ah a.2)with h3|h3
  .exact h3
  .have:a.2=[]:=G.1 (by unfold ah at*;omega);rw[this]at e;cases e
 .rintro⟨o,e⟩;refine⟨o,?_⟩;cases C:a.1 with
  |false=>rfl
  |true=>
   have:=e C;rw[dF.not_true,dF.false_or,Gp];cases B:dd a.2.length 0 with
   |false=>rfl
   |true=>
    rw[ix (ac B)]at this;exact absurd this δ
def eR(z:N):vZ (mkR z)=z:=by
 show bz (bP (z<0)) (ah (aJ (z.natAbs:N)))=z;rw[(jk (lx _)).2.2];by_cases h:z<0
 .rw[ay h];show-(z.natAbs:N)=z;omega
 .rw[ab h];show(z.natAbs:N)=z;omega
section
variable{z:N}{k:E}(h:0<=z)(Z:z<1000000000^k)
def Ln:(aJ z).length<=k:=Ds nt h Z
def D6(e:k<=300000):okB (aJ z)=D:=qO.2 ⟨(jk h).1,cD (Ln h Z) e⟩
def Lo(e:k<=100000):okA (aJ z)=D:=gG.2 ⟨(jk h).1,(jk h).2.1,cD (Ln h Z) e⟩
end
def mD{z:N}{k:E}(o:(z.natAbs:N)<1000000000^k)(e:k<=100000):okZ (mkR z)=D:=by
 refine rR.2 ⟨Lo (lx _) o e,λh=>?_⟩;have h:bP (z<0)=D:=h;have h:=cC h;show 0<ah (aJ (z.natAbs:N));rw[(jk (lx _)).2.2];omega
def Ss{x:I N}(h:okA x=D):okB x=D:=by
 obtain⟨e,_,o⟩:=gG.1 h;exact qO.2 ⟨e,by omega⟩
def xA{x:I N}(h:okA x=D):ah x<1000000000^x.length:=gY δ (gG.1 h).1
def add_lt{x y:N}{i j:E}(A:x<1000000000^i)(B:y<1000000000^j):x+y<1000000000^(max i j+1):=by
 have e:=j5 (b:=1000000000) δ (show i<=max i j by omega);have o:=j5 (b:=1000000000) δ (show j<=max i j by omega);have h3:=eE (b:=1000000000) δ (max i j);rw[hP];omega
def Ix{x y:N}{i j:E}(o:0<=x)(F:0<=y)(e:x<1000000000^i)(A:y<1000000000^j):x*y<1000000000^(i+j):=by
 rw[yL];have B:x*y<=x*1000000000^j:=ar (cI A) o;have C:x*1000000000^j<1000000000^i*1000000000^j:=sk e (eE δ j);omega
def auf:aaY.Ok em:=λ⟨⟨n,x⟩,_⟩ h=>by
 obtain⟨o,A⟩:=rR.1 h;show Holds em ao 244 [rv (n,x)] (rv (mkR (-(bz n (ah x)))));have e: -(bz n (ah x))=bz (!n) (ah x):=by cases n<;>simp[bz]
 rw[e];refine bK aaW func244 λw F=>?_
 exact bt D5 9 (wy [aa (Ss o:(okB x)=D)] 1:bk vv (fl aaW []) 9 9 [rv (n,x)] 1 f244 ao (rv (mkR (bz (!n) (ah x)))))
def aug:aaZ.Ok em:=λ⟨⟨n,x⟩,⟨m,y⟩,_⟩ h=>by
 have h:(okZ (n,x)&&okZ (m,y))=D:=h;rw[ae]at h;obtain⟨o,M⟩:=rR.1 h.1;obtain⟨e,L⟩:=rR.1 h.2;have F:=(gG.1 o).2.2;have G:=(gG.1 e).2.2;have B:=jl (gG.1 o).1;have C:=jl (gG.1 e).1;have A:0<=ah x*ah y:=kv B C;show Holds em ao 202 [rv (n,x),rv (m,y)] (rv (mkR (bz n (ah x)*bz m (ah y))));have H:bz n (ah x)*bz m (ah y)=bz (!(n==m)) (ah (aJ (ah x*ah y))):=by
  rw[(jk A).2.2];cases n<;>cases m
  .rfl
  .exact N.mul_neg _ _
  .exact H7 _ _
  .exact N.neg_mul_neg _ _
 rw[H];refine bK aaX func202 λw K=>?_
 have J:okB (aJ (ah x*ah y))=D:=D6 A (Ix B C (xA o) (xA e)) (by have F:x.length<=100000:=F;have G:y.length<=100000:=G;omega);exact bt D5 9 (wy [aa (aI (v:=af.raw (Value.bool n))),aa (aI (v:=af.raw (Value.bool m))),aa (aI (v:=af.bh ao (.int .i64) x)),aa (aI (v:=af.bh ao (.int .i64) y)),aa (show(okB x&&okB y)=D from by rw[Ss o,Ss e];rfl),aa J] 18603807693877377:bk vv (fl aaX []) 9 16 [rv (n,x),rv (m,y)] 1 f202 ao (rv (mkR (bz (!(n==m)) (ah (aJ (ah x*ah y)))))))
def aa1{x y:N}:nk x y>=0↔y<=x:=by
 have:= @Sk x y;omega
def auh:aa0.Ok em:=λ⟨⟨n,x⟩,⟨m,y⟩,_⟩ h=>by
 have h:(okZ (n,x)&&okZ (m,y))=D:=h;rw[ae]at h;obtain⟨o,K⟩:=rR.1 h.1;obtain⟨e,J⟩:=rR.1 h.2;have o:okA x=D:=o;have e:okA y=D:=e;have P:=(gG.1 o).2.2;have Q:=(gG.1 e).2.2;have L:=jl (gG.1 o).1;have M:=jl (gG.1 e).1;have F:=xA o;have G:=xA e;show Holds em ao 216 [rv (n,x),rv (m,y)] (rv (mkR (bz n (ah x)+bz m (ah y))));refine bK Lm func216 λw H=>?_
 by_cases A:n=m
 .have B:bz n (ah x)+bz m (ah y)=bz n (ah (aJ (ah x+ah y))):=by
   rw[(jk ω).2.2,<-A];cases n<;>simp only[bz]<;>omega
  rw[B];exact bt D5 3 (wy [cT A,aa (aI (v:=af.raw (Value.bool n))),aa (aI (v:=af.bh ao (.int .i64) x)),aa (aI (v:=af.bh ao (.int .i64) y)),aa (GX.2 ⟨o,e⟩:(yX x y)=D),aa (D6 ω (add_lt F G) ω:(okB (aJ (ah x+ah y)))=D)] 414549291137:bk vv (fl Lm []) 3 40 [rv (n,x),rv (m,y)] 3 f216 ao (rv (mkR (bz n (ah (aJ (ah x+ah y)))))))
 .by_cases C:ah y<=ah x
  .have B:bz n (ah x)+bz m (ah y)=bz n (ah (aJ (ah x-ah y))):=by
    rw[(jk ω).2.2];cases n<;>cases m<;>first |exact absurd rfl A|(simp only[bz];omega)
   rw[B];exact bt D5 5 (wy [yn A,aa (show(okA x&&okA y)=D from by rw[o,e];rfl),ag (aa1.2 C:nk (ah x) (ah y)>=0),aa (aI (v:=af.raw (Value.bool n))),aa (aI (v:=af.bh ao (.int .i64) x)),aa (aI (v:=af.bh ao (.int .i64) y)),aa (show(yX x y&&bP (ah y<=ah x))=D from by rw[GX.2 ⟨o,e⟩,ay C];rfl),aa (D6 (k:=x.length) ω ω ω:(okB (aJ (ah x-ah y)))=D)] 2269879563464833:bk vv (fl Lm []) 5 40 [rv (n,x),rv (m,y)] 6 f216 ao (rv (mkR (bz n (ah (aJ (ah x-ah y)))))))
  .have B:bz n (ah x)+bz m (ah y)=bz m (ah (aJ (ah y-ah x))):=by
    rw[(jk ω).2.2];cases n<;>cases m<;>first |exact absurd rfl A|(simp only[bz];omega)
   rw[B];exact bt D5 9 (wy [yn A,aa (show(okA x&&okA y)=D from by rw[o,e];rfl),az (λh=>C (aa1.1 h):¬nk (ah x) (ah y)>=0),aa (aI (v:=af.raw (Value.bool m))),aa (aI (v:=af.bh ao (.int .i64) y)),aa (aI (v:=af.bh ao (.int .i64) x)),aa (show(yX y x&&bP (ah x<=ah y))=D from by rw[GX.2 ⟨e,o⟩,ay (show ah x<=ah y by omega)];rfl),aa (D6 (k:=y.length) ω ω ω:(okB (aJ (ah y-ah x)))=D)] 2269879563464833:bk vv (fl Lm []) 9 40 [rv (n,x),rv (m,y)] 4 f216 ao (rv (mkR (bz m (ah (aJ (ah y-ah x)))))))
def PH(a b:I N)(h:okA a=D)(g:okA b=D):Holds em ao 65 [lv a,lv b] (lv (aJ (fo (ah a) (ah b)))):=by
 have o:=D5;refine bK Bt func65 λw U=>?_
 refine cE o 1 (wy [] 0:cL vv (fl Bt []) 1 19 [lv a,lv b] 1 .normal [] (vw a b)) ?_;refine c_q {x:I N×I N//okA x.1=D/\okA x.2=D/\fo (ah x.1) (ah x.2)=fo (ah a) (ah b)} 0 (cat Bt Sq) ((fl Bt []).drop 2) (λx=>vw x.1.1 x.1.2) (λx=>(ah x.1.2).natAbs) ⟨(a,b),h,g,rfl⟩ ?_;rintro⟨⟨x,y⟩,B,e,A⟩;have B:okA x=D:=B;have e:okA y=D:=e;have A:fo (ah x) (ah y)=fo (ah a) (ah b):=A;obtain⟨G,tx,X⟩:=gG.1 B;obtain⟨F,T,S⟩:=gG.1 e;have L:=jl G;have W:=jl F;have M:ah y=0↔y=[]:=J7 nt F T;by_cases J:0<y.length
 .have C:0<ah y:=by
   rcases zW 0 (ah y)with h|h
   .exact h
   .rw[M.1 ω]at J;cases J
  have K:=fC (ah x) (show ah y≠0 by omega);have F:=fZ (ah x) C;have V:=xA e;have H:ah (aJ (ah x%ah y))=ah x%ah y:=(jk K).2.2;refine aT (s:=vw x y) o (wy [ag (ω:(y.length:N)>0),aa (show(okA x&&(okA y&&bP (0<ah y)))=D from by rw[B,e,ay C];rfl)] 129:aR vv (fl Bt Sq) (vw x y) 3 .normal [] (vw y (aJ (ah x%ah y)))) ?_;refine⟨⟨(y,aJ (ah x%ah y)),e,Lo (k:=y.length) K ω S,?_⟩,?_,rfl,rfl⟩
  .show fo (ah y) (ah (aJ (ah x%ah y)))=_;rw[H,Zv L C,A]
  .show(ah (aJ (ah x%ah y))).natAbs<(ah y).natAbs;rw[H];omega
 .refine aT (s:=vw x y) o (wy [az (ω:¬(y.length:N)>0)] 1:aR vv (fl Bt Sq) (vw x y) 2 (.exit 0) [] (vw x y)) ?_;refine bY (cg ?_);have Q:y=[]:=ix ω;have P:aJ ((fo (ah a) (ah b):E):N)=x:=by
   rw[<-A,M.2 Q,N.gcd_zero_right,N.natAbs_of_nonneg L];exact K9 G tx
  rw[P];exact bM (s:=vw x y) o (wy [] 0:bw vv ((fl Bt []).drop 2) (vw x y) 1 f65 ao (lv x))
def aa2:Sr.Ok em:=λ⟨a,b,_⟩ h=>by
 have h:(okA a&&okA b)=D:=h;rw[ae]at h;exact PH a b h.1 h.2
def nv(n:N):(cM n).data.toList=Lib.itoa n:=by unfold cM;simp
def itoa_neg{n:N}(h:n<0):Lib.itoa n=45::Lib.decDigits n.natAbs:=by
 unfold Lib.itoa;rw[dA h]
def Bu{n:N}(h:¬n<0):Lib.itoa n=Lib.decDigits n.natAbs:=by
 unfold Lib.itoa;rw[db h,show n.toNat=n.natAbs by omega]
def aa3(n:N):rN (cM n) fW=bP (n<0):=by
 unfold rN;rw[nv,show(fW:AT).data.toList=[45]from rfl];by_cases h:n<0
 .rw[itoa_neg h,ay h];simp[Lib.hasPrefix]
 .rw[Bu h,ab h];exact Dec.aaj _ (Dec.RO _)
def aa4(n:N):(tD (cM n) fW).data.toList=Lib.decDigits n.natAbs:=by
 have e:=aa3 n;unfold rN at e;unfold tD Lib.trimPrefix;rw[e,nv,show(fW:AT).data.toList=[45]from rfl];by_cases h:n<0
 .rw[itoa_neg h,ay h];simp
 .rw[Bu h,ab h];simp
def wl(n:N):xk (cM n)=n.natAbs:=by
 unfold xk;rw[aa4,Dec.aai]
def aui(n:N):DS (cM n)=n:=by
 unfold DS;rw[aa3,wl];by_cases h:n<0
 .rw[ay h,dA rfl];omega
 .rw[ab h,db δ];omega
def St(n:N):gO (cM n)=bg n:=by unfold gO;rw[aui]
def aa5{n:N}(h:aH (bg (n.natAbs:N))=D):ld (cM n)=D:=by
 unfold ld;rw[aa4,Dec.aai,wl,h];rfl
def xB:=NO f245
def Bv:=aA [JP]
abbrev mE(n m:N):AT:=⟨(cN 20 n m []).toArray⟩
abbrev Su(n:dF)(w:I N):gB:= .blk (.cells 109 [bv n,lv w] D ao ao)
def pV(n:dF)(w:I N)(s:AT)(z:N):bD:={n:=39,sl:=[(1,.ptr 64 0),(3,sv s),(4,iv z)],bF:=[(64,Su n w)],next:=65}
abbrev Sw:I E:=[1,1,1,0,1,0,0]
section
variable(n:dF)(w:I N)
def auj(e:(w.length:N)=0):
  bk Bv (fl xB []) 3 39 [rv (n,w)] 3 f245 D (sv ⟨#[48]⟩):=
 wy [cT e] 1
def auk(e:¬(w.length:N)=0)(o:i6 ((w.length:N)-1))(h3:0<=(w.length:N)-1)(h4:((w.length:N)-1).toNat<w.length)(h5:(bP ((0:aq.den (.int .i64))<=w.getD ((w.length:N)-1).toNat 0)&&(bP (w.getD ((w.length:N)-1).toNat 0<=(9223372036854775807:aq.den (.int .i64)))&&bP (1<=(20:aq.den (.int .i64)))))=D)(h6:i6 ((w.length:N)-2)):
  cL Bv (fl xB []) 5 39 [rv (n,w)] 2 .normal [(64,64,bs)] (pV n w (mE (w.getD ((w.length:N)-1).toNat 0) 1) ((w.length:N)-2)):=
 wy [yn e,yi o,ag h3,ag h4,aa h5,yi h6] 6527398017
def aul(s:AT)(z:N)(e:z>=0)(o:0<=z)(h3:z.toNat<w.length)(h4:(bP ((0:aq.den (.int .i64))<=w.getD z.toNat 0)&&(bP (w.getD z.toNat 0<=(9223372036854775807:aq.den (.int .i64)))&&bP (9<=(20:aq.den (.int .i64)))))=D)(h5:s.size+(eQ (qK (cN 20 (w.getD z.toNat 0) 9 []))).size<=9223372036854775807)(h6:i6 (z-1)):
  aR Bv (fl xB Sw) (pV n w s z) 3 .normal [(64,64,bs)] (pV n w (s++mE (w.getD z.toNat 0) 9) (z-1)):=
 wy [ag e,ag o,ag h3,aa h4,ag h5,yi h6] 6527398017
def aum(s:AT)(z:N)(e:¬z>=0):
  aR Bv (fl xB Sw) (pV n w s z) 2 (.exit 0) [(64,64,bs)] (pV n w s z):=
 wy [az e] 1
end
def aun(w:I N)(s:AT)(z:N)(e:(eQ (#[(45:hN)])).size+s.size<=9223372036854775807):
  bw Bv ((fl xB []).drop 6) (pV D w s z) 3 f245 D (sv (⟨#[45]⟩++s)):=
 wy [ag e] 64
def auo(w:I N)(s:AT)(z:N):
  bw Bv ((fl xB []).drop 6) (pV ao w s z) 2 f245 D (sv s):=
 wy [] 0
def Sy:=IN 245 [od] [.str] D (λd=>okZ d.1) λd=>(cM (vZ d.1),())
def xC:E->N->I hN
 |0,_=>[]
 |k+1,x=>xC k (x/10)++[uK x]
def aa6:∀(k:E)(x:N),(xC k x).length=k
 |0,_=>rfl
 |k+1,x=>by rw[xC,fQ,aa6 k];rfl
def aa7:∀(k f:E)(x:N)(s:I hN),k<=f->0<=x->x<10^k->cN f x ((s.length:N)+k) s=xC k x++s
 |0,f,x,s,_,o,e=>by
  have:x=0:=by simp at e;omega
  subst this;cases f with
  |zero=>rfl
  |succ f=>
   unfold cN;rw[db ω];rfl
 |k+1,f,x,s,A,o,e=>by
  obtain⟨g,rfl⟩:∃g,f=g+1:=⟨f-1,by omega⟩;rw[hP]at e;unfold cN;rw[dA ω];have:=aa7 k g (x/10) (uK x::s) ω ω ω;rw[la,show(((s.length+1:E):N)+(k:N))=(s.length:N)+((k+1:E):N) by omega]at this;rw[this,xC,ot];rfl
def aa8:∀(k:E)(u:E)(x:N),0<u->0<=x->x<10^k->Lib.decDigits (u*10^k+x.toNat)=Lib.decDigits u++xC k x
 |0,u,x,o,B,e=>by
  have:x=0:=by simp at e;omega
  subst this;simp[xC]
 |k+1,u,x,o,B,e=>by
  rw[hP]at e;have C:0<10^k:=E.pow_pos δ;have F:1*1<=u*10^k:=E.mul_le_mul o C;have A:u*10^(k+1)+x.toNat=(u*10^k+(x/10).toNat)*10+(x%10).toNat:=by
   rw[C',<-E.mul_assoc];omega
  have G:(x%10).toNat<10:=by omega
  rw[A,Bn ω,show((u*10^k+(x/10).toNat)*10+(x%10).toNat)/10=u*10^k+(x/10).toNat by omega,show((u*10^k+(x/10).toNat)*10+(x%10).toNat)%10=(x%10).toNat by omega,aa8 k u (x/10) o ω ω,xC,ot];rfl
def aup:bI em (bJ Bv):=dw (aV PE eH)
def aa9{x:N}(h:0<=x/\x<1000000000):(mE x 9).data.toList=xC 9 x:=by
 have:=aa7 9 20 x [] δ h.1 (by have:(10:N)^9=1000000000:=rfl;omega);show cN 20 x 9 []=_;rw[mS]at this;exact this
def auq{x:N}(h:0<=x/\x<1000000000):(mE x 1).data.toList=Lib.decDigits x.toNat:=by
 show cN 20 x 1 []=_;rw[GP h.1 ω];unfold Lib.itoa;rw[db ω]
def aba{s:AT}{u:E}(h:s.data.toList=Lib.decDigits u):s=cM (u:N):=kE (by rw[h,nv];exact(Dec.xp u).symm)
def Sz{w:I N}(e:aS 1000000000 w):(Lib.decDigits (ah w).toNat).length<=9*w.length+1:=by
 refine cD (Dec.arX (9*w.length) _ ?_) ω;have A:=gY (b:=1000000000) δ e;have B:=jl e;have o:(1000000000:N)^w.length=((10^(9*w.length):E):N):=by
  rw[E.pow_mul,N.natCast_pow];rfl
 have C:ah w<((10^(9*w.length):E):N):=by rw[<-o];exact A
 have h3:10^(9*w.length)<=10^(9*w.length+1):=Q3 δ ω;omega
def aur(n:Bool)(w:List Int)(h:okZ (n,w)=true):Holds prog true 245 [rv (n,w)] (sv (cM (bz n (ah w)))):=by
 obtain⟨G,B⟩:=rR.1 h;have G:okA w=true:=G;have B:n=true->0<ah w:=B;obtain⟨o,U,a3⟩:=gG.1 G;have e:=aup;refine bK xB func245 λw0 a'=>?_
 by_cases W:w.length=0
 .have V:w=[]:=List.eq_nil_of_length_eq_zero W;subst V;have S:n=false:=by
   cases n with
   |false=>rfl
   |true=>exact absurd (B rfl) δ
  subst S;have F:cM (bz false (ah []))=⟨#[48]⟩:=by
   refine kE ?_;rw[nv];show Lib.itoa ((0:Nat):Int)=[48];rw[Dec.xp,vq δ];rfl
  rw[F];exact bt e 3 (auj false [] τ)
 .obtain⟨m,Q⟩:∃m,w.length=m+1:=⟨w.length-1,by omega⟩;have H:=o.get δ m;have a0:=U m Q;have X:((w.length:Int)-1).toNat=m:=by omega
  have i2:((w.length:Int)-2)=(m:Int)-1:=by omega
  have A:=auk n w ω ω ω;rw[X,i2]at A;refine cE e 5 (A ω (by rw[ay H.1,ay (show w.getD m 0<=9223372036854775807 by omega)];rfl) ω) ?_;have T:mE (w.getD m 0) 1=cM ((ah (w.drop m)).toNat:Int):=aba (by
   rw[auq H];congr 2;unfold ah;rw[w5 ω,List.drop_eq_nil_of_le ω];simp[vl])
  rw[T];refine c_q {k:Nat//k<=m} 0 (cat xB Sw) ((fl xB []).drop 6) (λk=>pV n w (cM ((ah (w.drop k.1)).toNat:Int)) ((k.1:Int)-1)) (λk=>k.1) ⟨m,aC _⟩ ?_;rintro⟨k,a2⟩;have P:(cM ((ah (w.drop k)).toNat:Int)).size<=9*w.length+1:=by
   have h3:=Sz (o.drop k);rw[p7]at h3;rw[wR,nv,Dec.xp];omega
  cases k with
  |zero=>
   refine aT (s:=pV n w (cM ((ah (w.drop 0)).toNat:Int)) (((0:Nat):Int)-1)) e (aum n w _ _ ω) ?_;refine bY (cg ?_);have M:=jl o;rw[List.drop_zero,Int.toNat_of_nonneg M]at P ⊢;cases n with
   |false=>exact bM (s:=pV false w (cM (ah w)) (((0:Nat):Int)-1)) e (auo w _ _)
   |true=>
    have a4:=B rfl;have F:(⟨#[45]⟩:AT)++cM (ah w)=cM (bz true (ah w)):=by
     refine kE ?_;rw[nW,nv,nv,itoa_neg (show bz true (ah w)<0 by show-ah w<0;omega),Bu ω];show _=45::Lib.decDigits (-ah w).natAbs;rw[Int.natAbs_neg];rfl
    rw[<-F];exact bM (s:=pV true w (cM (ah w)) (((0:Nat):Int)-1)) e (aun w _ _ (by show 1+_<=_;omega))
  |succ j=>
   have C:=o.get δ j;have K:(((j+1:Nat):Int)-1)=(j:Int):=by omega
   have L:(j:Int).toNat=j:=by omega
   have a1:(mE (w.getD j 0) 9).size=9:=by rw[wR,aa9 C,aa6]
   have A:=aul n w (cM ((ah (w.drop (j+1))).toNat:Int)) (j:Int) ω ω;rw[L]at A;have a5:0<ah (w.drop (j+1)):=by
    have h3:=uN 1000000000 (w.drop (j+1)) (m-(j+1)) (by rw[p7];omega);have h4:=jl ((o.drop (j+1)).take (m-(j+1)));rw[List.drop_drop,show j+1+(m-(j+1))=m by omega]at h3;have h5:vl 1000000000 (w.drop m)=w.getD m 0:=by
     rw[w5 ω,List.drop_eq_nil_of_le ω];simp[vl]
    rw[h5]at h3;have h6:=Int.mul_pos (eE (b:=1000000000) δ (m-(j+1))) (show 0<w.getD m 0 by omega);unfold ah at*;omega
   have J:cM ((ah (w.drop (j+1))).toNat:Int)++mE (w.getD j 0) 9=cM ((ah (w.drop j)).toNat:Int):=aba (by
    rw[nW,nv,Dec.xp,aa9 C,<-aa8 9 _ _ ω C.1 (by have:(10:Int)^9=1000000000:=rfl;omega)];congr 1;have h3:ah (w.drop j)=w.getD j 0+1000000000*ah (w.drop (j+1)):=w5 ω;have h4:(10:Nat)^9=1000000000:=rfl;rw[h3,h4];omega)
   show bc _ _ _ _ _ _ (pV n w (cM ((ah (w.drop (j+1))).toNat:Int)) (((j+1:Nat):Int)-1)).T (pV n w (cM ((ah (w.drop (j+1))).toNat:Int)) (((j+1:Nat):Int)-1)).H _;rw[K];refine aT (s:=pV n w (cM ((ah (w.drop (j+1))).toNat:Int)) (j:Int)) e (A ω (by rw[ay C.1,ay (show w.getD j 0<=9223372036854775807 by omega)];rfl) (by show _+(mE (w.getD j 0) 9).size<=_;omega) ω) ?_;rw[J];exact⟨⟨j,by omega⟩,gR _,rfl,rfl⟩
def abc:Sy.Ok em:=λ⟨⟨n,w⟩,_⟩ h=>aur n w h
def vz:=NO f120
def wn:=pJ [GU] (aA [PB])
def pW(s:AT)(neg:dF)(w:I N):bD:={n:=40,sl:=[(0,sv s),(2,.ptr 64 0),(3,bv neg),(4,oT 65 w)],bF:=[(64,aay),(65,oU w)],next:=66}
abbrev SA:I E:=[1,1,1,1,0,0,0]
section
variable(s:AT)(Z:(s.size:N)>0)(Y:ea 0<s.size)
def aut(h3:(↑(lK (s.data.toList.getD (ea 0) (0:hN))):N)=45)(h4:ea 1<=s.size)(h5:(s.extract (ea 1) s.size)=(s.extract 1 s.size)):
  cL wn (fl vz []) 5 40 [sv s] 63 .normal [(64,64,bs)] (pW (s.extract 1 s.size) D []):=
 wy [aa (aK (ay Z)),ag Y,ag Z,cT h3,ag h4,ag (by omega:s.size<=s.size),av h5,av (gw.mpr h3)] 37787111807533466517569
def auu(h3:¬(↑(lK (s.data.toList.getD (ea 0) (0:hN))):N)=45):
  cL wn (fl vz []) 5 40 [sv s] 47 .normal [(64,64,bs)] (pW s ao []):=
 wy [aa (aK (ay Z)),ag Y,ag Z,yn h3,av (fB.mpr h3)] 90072270663843905
end
def auw(s:AT)(neg:dF)(w:I N)(e:(s.size:N)>9)(o:i6 ((s.size:N)-9))(h3:0<=(s.size:N)-9)(h4:(bP ((s.extract ((s.size:N)-9).toNat s.size).size<=17)&&cj (s.extract ((s.size:N)-9).toNat s.size).data.toList)=D)(h5:w.length+1<=1000000)(h6:(w.length+1)=(w++[bA (s.extract ((s.size:N)-9).toNat s.size).data.toList]).length)(h7:(aY.full)=(bO (w++[bA (s.extract ((s.size:N)-9).toNat s.size).data.toList]).length)):
  aR wn (fl vz SA) (pW s neg w) 5 .normal [(64,64,bs),(65,67,bs)] (pW (s.extract 0 ((s.size:N)-9).toNat) neg (w++[bA (ak (s.extract ((s.size:N)-9).toNat s.size))])):=
 wy [ag e,yi o,ag h3,ag (by omega:((s.size:N)-(9:N)).toNat<=s.size),ag (by omega:s.size<=s.size),aa h4,yk 3 (.int .i64) w,l8 8 h5,av h6,av h7,pH 3 (.int .i64) (Hj (w++[bA (s.extract ((s.size:N)-(9:N)).toNat s.size).data.toList]))] 59889907190626495097649245648290902454401
def auz(s:AT)(neg:dF)(w:I N)(e:(bP (s.size<=17)&&cj s.data.toList)=D)(o:w.length+1<=1000000)(h3:(dd (w.length+1) 0||bx 3 (.int .i64) (O (bn.own 3 (.int .i64) (w++[bA s.data.toList]))) (w.length+1-1))=D)(h4:(okB (((w++[bA s.data.toList]).drop 0).take (w.length+1)))=D)(h5:(mkR (bz neg (ah (((w++[bA s.data.toList]).drop 0).take (w.length+1))))).1=(mkR (bz neg (ah (w++[bA s.data.toList])))).1)(h6:(mkR (bz neg (ah (((w++[bA s.data.toList]).drop 0).take (w.length+1))))).2=(mkR (bz neg (ah (w++[bA s.data.toList])))).2):
  bw wn ((fl vz []).drop 6) (pW s neg w) 2 f120 ao (rv (mkR (bz neg (ah (w++[bA (ak s)]))))):=
 wy [aa e,yk 3 (.int .i64) w,l8 8 o,aa (show(dd (w.length+(1:E)) (0:E)||bx 3 (.int .i64) (O (bn.own 3 (.int .i64) (bu (.int .i64) (a8 3 (.int .i64) w)++[bA s.data.toList]))) ((0:E)+(w.length+(1:E))-(1:E)))=D from(by simp only[a7,bC]<;>exact h3)),aa (show(okB (((bu (.int .i64) (a8 3 (.int .i64) w)++[bA s.data.toList]).drop (0:E)).take (w.length+(1:E))))=D from(by simp only[a7]<;>exact h4)),av (show((mkR (bz neg (ah (((bu (.int .i64) (a8 3 (.int .i64) w)++[bA s.data.toList]).drop (0:E)).take (w.length+(1:E)))))).1)=((mkR (bz neg (ah (w++[bA s.data.toList])))).1)from(by simp only[a7]<;>exact h5)),av (show((mkR (bz neg (ah (((bu (.int .i64) (a8 3 (.int .i64) w)++[bA s.data.toList]).drop (0:E)).take (w.length+(1:E)))))).2)=((mkR (bz neg (ah (w++[bA s.data.toList])))).2)from(by simp only[a7]<;>exact h6))] 1997061059248129
def ck(s:AT):dF:=bP (0<s.size)&&bP ((cr s 0).toNat=45)
def bW(s:AT):AT:=match ck s with |true=>s.extract 1 s.size|false=>s
def nw(s:AT):N:=bz (ck s) (bA (ak (bW s)))
def abd:=IN 120 [.str] [od] ao (λd=>decide (d.1.size<=800000)&&cj (ak (bW d.1))) λd=>(mkR (nw d.1),())
def abe:bI em (bJ wn):=uE (λc e=>by
 simp only[cQ,iL,Xz]at e;obtain rfl:=e;exact Lb) (dw λc e=>by
 simp only[cQ,iL,Xz]at e;obtain rfl:=e;exact Xx)
def SB(a b:I hN):bA (a++b)=bA a*10^b.length+bA b:=by
 show(a++b).foldl _ 0=_;rw[alz,ne];rfl
def Lr{a b:I hN}:cj (a++b)=D↔cj a=D/\cj b=D:=by
 unfold cj;rw[I.all_append,ae]
def xD{s:AT}(h:cj (ak s)=D):0<=bA (ak s)/\bA (ak s)<10^s.size:=by
 have:=Da h (ak s).length (aC _);rw[dx]at this;rw[eD];exact this
def auA{t:AT}(h:9<t.size)(C:cj (ak t)=D):
  (t.extract 0 (t.size-9)).size=t.size-9/\cj (ak (t.extract 0 (t.size-9)))=D/\(t.extract (t.size-9) t.size).size=9/\cj (ak (t.extract (t.size-9) t.size))=D/\bA (ak t)=bA (ak (t.extract 0 (t.size-9)))*1000000000+bA (ak (t.extract (t.size-9) t.size)):=by
 have o:ak (t.extract 0 (t.size-9))=(ak t).take (t.size-9):=by rw[fw,iW]
 have A:ak (t.extract (t.size-9) t.size)=(ak t).drop (t.size-9):=by rw[fw,eD,dx]
 have B:ak t=(ak t).take (t.size-9)++(ak t).drop (t.size-9):=(pa _ _).symm;have e:=C;rw[B,Lr]at e;have F:((ak t).drop (t.size-9)).length=9:=by rw[p7,<-eD];omega
 refine⟨mW _ _ _ ω,by rw[o];exact e.1,by rw[mW _ _ _ (aC _)];omega,by rw[A];exact e.2,?_⟩;rw[o,A];have:=SB ((ak t).take (t.size-9)) ((ak t).drop (t.size-9));rw[<-B,F]at this;exact this
def SC(t:AT)(neg:dF)(S:cj (ak t)=D)(U:t.size<=800000)(w0:du)(F:Sv.Env):
  bp em w0 F 40 ((fl vz []).drop 5) (pW t neg []).T (pW t neg []).H (ew em ao f120 (rv (mkR (bz neg (bA (ak t)))))):=by
 have B:=abe;refine c_q {x:AT×I N//cj (ak x.1)=D/\x.1.size<=800000/\x.2.length<=800000-x.1.size/\aS 1000000000 x.2/\bA (ak t)=ah x.2+1000000000^x.2.length*bA (ak x.1)/\9*x.2.length+x.1.size<=800000} 0 (cat vz SA) ((fl vz []).drop 6) (λx=>pW x.1.1 neg x.1.2) (λx=>x.1.1.size) ⟨(t,[]),S,U,gt _,.nil,by simp[ah,vl],by show 9*0+t.size<=_;omega⟩ ?_;rintro⟨⟨s,w⟩,e,H,h3,h4,h5,h6⟩;have e:cj (ak s)=D:=e;have H:s.size<=800000:=H;have h4:aS 1000000000 w:=h4;have h5:bA (ak t)=ah w+1000000000^w.length*bA (ak s):=h5;have h6:9*w.length+s.size<=800000:=h6;have J:(10:N)^9=1000000000:=rfl;by_cases T:9<s.size
 .have K:((s.size:N)-9).toNat=s.size-9:=by omega
  obtain⟨W,L,M,G,P⟩:=auA T e;have C:=xD G;rw[M,J]at C;have o:=auw s neg w ω ω ω;rw[K]at o;refine aT (s:=pW s neg w) B (o (by rw[ay ω,show cj (s.extract (s.size-9) s.size).data.toList=D from G];rfl) ω (tF _ _) (xw _ _)) ?_;refine⟨⟨(s.extract 0 (s.size-9),w++[bA (ak (s.extract (s.size-9) s.size))]),L,by show(s.extract 0 (s.size-9)).size<=_;omega,by show(w++[_]).length<=_-(s.extract 0 (s.size-9)).size;rw[fQ,IW];omega,h4.app (.cons C .nil),?_,by show 9*(w++[_]).length+(s.extract 0 (s.size-9)).size<=_;rw[fQ,IW];omega⟩,by show(s.extract 0 (s.size-9)).size<s.size;omega,rfl,rfl⟩;show bA (ak t)=vl 1000000000 (w++[bA (ak (s.extract (s.size-9) s.size))])+1000000000^(w++[bA (ak (s.extract (s.size-9) s.size))]).length*bA (ak (s.extract 0 (s.size-9)));rw[AY,fQ,IW,hP,h5,P];unfold ah;generalize bA (ak (s.extract (s.size-9) s.size))=A;generalize bA (ak (s.extract 0 (s.size-9)))=A;generalize (1000000000:N)^w.length=A;grind
 .refine aT (s:=pW s neg w) B (wy [az (ω:¬(s.size:N)>9)] 1:aR wn (fl vz SA) (pW s neg w) 2 (.exit 0) [(64,64,bs),(65,65,bs)] (pW s neg w)) ?_;refine bY (cg ?_);have C:=xD e;have X:(10:N)^s.size<=10^9:=j5 δ ω;have Q:ah (w++[bA (ak s)])=bA (ak t):=by
   rw[h5];show vl _ _=vl _ _+_;rw[AY]
  have V:aS 1000000000 (w++[bA (ak s)]):=h4.app (.cons ω .nil);have A:((w++[bA (ak s)]).drop 0).take (w.length+1)=w++[bA (ak s)]:=by
   rw[iW,eG τ]
  have o:=auz s neg w (by rw[ay ω,show cj s.data.toList=D from e];rfl) ω (by
   rw[qh];exact .inr (rQ τ)) (by rw[A];exact qO.2 ⟨V,by simp;omega⟩) (by rw[A]) (by rw[A])
  rw[Q]at o;exact bM (s:=pW s neg w) B o
def auB(s:AT)(H:s.size<=800000)(A:cj (ak (bW s))=D):Holds em ao 120 [sv s] (rv (mkR (nw s))):=by
 have C:=abe;refine bK vz func120 λG F=>?_
 unfold nw;by_cases B:0<s.size
 .by_cases J:(cr s 0).toNat=45
  .have e:ck s=D:=by unfold ck;rw[ay B,ay J];rfl
   have o:bW s=s.extract 1 s.size:=by unfold bW;rw[e]
   rw[o]at A;rw[e,o];refine cE C 5 (aut s ω (by show 0<s.size;exact B) (by show((cr s 0).toNat:N)=45;omega) (by show 1<=s.size;omega) rfl) ?_;exact SC _ D A (by rw[mW _ _ _ (aC _)];omega) G F
  .have e:ck s=ao:=by unfold ck;rw[ay B,ab J];rfl
   have o:bW s=s:=by unfold bW;rw[e]
   rw[o]at A;rw[e,o];refine cE C 5 (auu s ω (by show 0<s.size;exact B) (by show¬((cr s 0).toNat:N)=45;omega)) ?_;exact SC _ ao A H G F
 .have e:ck s=ao:=by unfold ck;rw[ab B];rfl
  have o:bW s=s:=by unfold bW;rw[e]
  rw[o]at A;rw[e,o];refine cE C 5 (wy [aa (aK (ab (ω:¬(s.size:N)>0))),az (ω:¬(s.size:N)>0)] 528449:cL wn (fl vz []) 5 40 [sv s] 32 .normal [(64,64,bs)] (pW s ao [])) ?_;exact SC _ ao A H G F
def auC:abd.Ok em:=λ⟨s,_⟩ h=>by
 have h:(bP (s.size<=800000)&&cj (ak (bW s)))=D:=h;rw[ae,aN]at h;exact auB s h.1 h.2
def auD(l:I hN)(h:∀b∈l,b≠47):Lib.index l [47]= -1:=by
 induction l with
 |nil=>rfl
 |cons b r B=>
  have o:(47==b)=ao:=by
   rw[fB];intro e;exact h b τ e.symm
  have:=B (λc A=>h c (by simp[A]));simp[Lib.index,QY,o,this]
def auE(l r:I hN)(h:∀b∈l,b≠47):Lib.index (l++47::r) [47]=(l.length:N):=by
 induction l with
 |nil=>simp[Lib.index,QY]
 |cons b t B=>
  have o:(47==b)=ao:=by
   rw[fB];intro e;exact h b τ e.symm
  have:=B (λc A=>h c (by simp[A]));rw[Aj];unfold Lib.index;rw[this];simp only[QY,o,dF.false_and,dF.false_eq_true,á,la];rw[db τ];omega
def abg(n:N):∀b∈Lib.itoa n,b≠47:=by
 have e:∀b∈Lib.decDigits n.natAbs,b≠47:=λb hb o=>by
  have:=Dec.RO _ b hb;subst o;exact absurd this.1 δ
 by_cases h:n<0
 .rw[itoa_neg h];intro b hb;rcases cQ.1 hb with rfl |hb
  .decide
  .exact e b hb
 .rw[Bu h];exact e
def abh{l:I hN}(h:∀b∈l,b≠47):Lib.cut l [47]=(l,[],ao):=by
 unfold Lib.cut;rw[auD l h];rfl
def abi{l r:I hN}(h:∀b∈l,b≠47):Lib.cut (l++47::r) [47]=(l,r,D):=by
 unfold Lib.cut;rw[auE l r h];simp
def aW(r:qA):AT:=if r.den=1 then cM r.num else⟨(Lib.itoa r.num++47::Lib.itoa r.den).toArray⟩
def auF{n:E}{r:qA}(S:1<=n)(L:n<=100000)(J:cn n (bg (r.num.natAbs:N))=D)(K:cn n (bg (r.den:N))=D)(T:(aW r).size<4294967281):
  jb (aW r)=D/\QR n (cW (aW r)) r:=by
 have M:cn n (bg r.num)=D:=by
  have:=mj J S;rw[val_mk]at this;exact(nh ω).1
 have B:vn (aW r)=D:=by unfold vn;rw[ay T]
 have G:(lS:AT).data.toList=[47]:=rfl;have P:ld (cM r.num)=D:=aa5 (kG L J);by_cases C:r.den=1
 .have F:aW r=cM r.num:=by unfold aW;rw[dA C]
  have e:Lib.cut (cM r.num).data.toList (lS:AT).data.toList=(Lib.itoa r.num,[],ao):=by rw[nv,G,abh (abg _)]
  have o:ke (cM r.num) lS=cM r.num:=by unfold ke;rw[e];rfl
  have A:qN (cM r.num) lS=ao:=by unfold qN;rw[e]
  rw[F]at B ⊢;refine⟨?_,?_⟩
  .unfold jb;rw[B,o,P,A];rfl
  .unfold cW;rw[A,db δ,o,St];have:=Rp M;rw[val_mk]at this;have Q:(r.num:qA)=r:=qA.ext rfl C.symm;rw[Q]at this;exact this
 .have F:aW r=⟨(Lib.itoa r.num++47::Lib.itoa r.den).toArray⟩:=by unfold aW;rw[db C]
  have e:Lib.cut (aW r).data.toList (lS:AT).data.toList=(Lib.itoa r.num,Lib.itoa r.den,D):=by
   rw[F,G,<-abi (abg r.num)]
  have o:ke (aW r) lS=cM r.num:=by unfold ke;rw[e];rfl
  have H:xn (aW r) lS=cM r.den:=by unfold xn;rw[e];rfl
  have A:qN (aW r) lS=D:=by unfold qN;rw[e]
  have U:ld (cM r.den)=D:=aa5 (kG L (by rw[N.natAbs_natCast];exact K));refine⟨?_,?_⟩
  .unfold jb;rw[B,o,H,P,U,A];rfl
  .unfold cW;rw[A,dA rfl,o,H,St,St];exact⟨M,K,val_mk _,val_mk _⟩
def SD:=NO f64
def Bw:=NO f201
def SE:=aA [F0,abd,R3]
def D9:=pJ [GU] (aA [aaY,Sr,Sl,Sy])
def auH(s:AT)(e:s.size<=1000000000)(o:¬(↑(bE s.data.toList):N)=(s.size:N))(h3:bE s.data.toList<=s.size)(h4:(bP ((s.extract 0 (bE s.data.toList)).size<=800000)&&cj (bW (s.extract 0 (bE s.data.toList))).data.toList)=D)(h5:i6 ((↑(bE s.data.toList):N)+1))(h6:((↑(bE s.data.toList):N)+1).toNat<=s.size)(h7:(bP ((s.extract ((↑(bE s.data.toList):N)+1).toNat s.size).size<=800000)&&cj (bW (s.extract ((↑(bE s.data.toList):N)+1).toNat s.size)).data.toList)=D)(h8:(mkR (nw (s.extract ((↑(bE s.data.toList):N)+1).toNat s.size))).1=(mkR (nw (s.extract (bE s.data.toList+1) s.size))).1)(h9:(mkR (nw (s.extract ((↑(bE s.data.toList):N)+1).toNat s.size))).2=(mkR (nw (s.extract (bE s.data.toList+1) s.size))).2):
  bk SE (fl SD []) 9 25 [sv s] 2 f64 ao (.tuple [rv (mkR (nw (s.extract 0 (bE (ak s))))),rv (mkR (nw (s.extract (bE (ak s)+1) s.size)))]):=
 wy [ag e,yn o,ag h3,aa h4,yi h5,ag h6,ag (by omega:s.size<=s.size),aa h7,av h8,av h9] 196148223583635607820173441
def vA(n:dF)(x:I N)(m:dF)(y:I N):bD:={n:=57,sl:=[(2,.ptr 64 0),(3,.ptr 65 0)],bF:=[(64,Su n x),(65,Su m y)],next:=66}
def SF(x y:I N):I N:=aJ (fo (ah x) (ah y))
def Bx(n:dF)(x y:I N):AT:=cM (vZ (mkR (bz n (ah (aJ (ah x/ah (SF x y)))))))
def G5(x y:I N):I N:=aJ (ah y/ah (SF x y))
abbrev jQ:AT:=⟨#[47]⟩
section
variable(n:dF)(x:I N)(m:dF)(y:I N)(Z:(okA x&&okA y)=D)(Y:(okA x&&(okA (aJ (↑(fo (ah x) (ah y)):N))&&bP (0<ah (aJ (↑(fo (ah x) (ah y)):N)))))=D)(h3:(okA y&&(okA (aJ (↑(fo (ah x) (ah y)):N))&&bP (0<ah (aJ (↑(fo (ah x) (ah y)):N)))))=D)(h4:(okB (aJ (ah x/ah (aJ (↑(fo (ah x) (ah y)):N)))))=D)(h5:(okZ (mkR (bz n (ah (aJ (ah x/ah (aJ (↑(fo (ah x) (ah y)):N))))))))=D)
def auK(h6:(↑(aJ (ah y/ah (aJ (↑(fo (ah x) (ah y)):N)))).length:N)=1)(h7:ea 0<(aJ (ah y/ah (aJ (↑(fo (ah x) (ah y)):N)))).length)(h8:(aJ (ah y/ah (aJ (↑(fo (ah x) (ah y)):N)))).getD (ea 0) 0=1)(h9:(cM (vZ (mkR (bz n (ah (aJ (ah x/ah (aJ (↑(fo (ah x) (ah y)):N)))))))))=(Bx n x y)):
  bw D9 ((fl Bw []).drop 3) (vA n x m y) 127 f201 D (sv (Bx n x y)):=
 wy [aa Z,aa Y,aa h3,aa h4,aa h5,aa (aK (gw.mpr h6)),ag h7,cT h6,cT h8,av h9] 3065413170778920828547201
def auL(h6:(↑(aJ (ah y/ah (aJ (↑(fo (ah x) (ah y)):N)))).length:N)=1)(h7:ea 0<(aJ (ah y/ah (aJ (↑(fo (ah x) (ah y)):N)))).length)(h8:¬(aJ (ah y/ah (aJ (↑(fo (ah x) (ah y)):N)))).getD (ea 0) 0=1)(h9:(cM (vZ (mkR (bz n (ah (aJ (ah x/ah (aJ (↑(fo (ah x) (ah y)):N))))))))).size+(eQ (#[(47:hN)])).size<=9223372036854775807)(h10:(okB (aJ (ah y/ah (aJ (↑(fo (ah x) (ah y)):N)))))=D)(o:(okZ (mkR (bz ao (ah (aJ (ah y/ah (aJ (↑(fo (ah x) (ah y)):N))))))))=D)(A:(cM (vZ (mkR (bz n (ah (aJ (ah x/ah (aJ (↑(fo (ah x) (ah y)):N))))))))++(eQ (#[(47:hN)]))).size+(cM (vZ (mkR (bz ao (ah (aJ (ah y/ah (aJ (↑(fo (ah x) (ah y)):N))))))))).size<=9223372036854775807)(e:(cM (vZ (mkR (bz n (ah (aJ (ah x/ah (aJ (↑(fo (ah x) (ah y)):N))))))))++(eQ (#[(47:hN)]))++cM (vZ (mkR (bz ao (ah (aJ (ah y/ah (aJ (↑(fo (ah x) (ah y)):N)))))))))=(Bx n x y++(eQ (#[(47:hN)]))++cM (vZ (mkR (bz ao (ah (G5 x y))))))):
  bw D9 ((fl Bw []).drop 3) (vA n x m y) 95 f201 D (sv (Bx n x y++jQ++cM (vZ (mkR (bz ao (ah (G5 x y))))))):=
 wy [aa Z,aa Y,aa h3,aa h4,aa h5,aa (aK (gw.mpr h6)),ag h7,cT h6,yn h8,ag h9,aa h10,aa o,ag A,av e] 72033470842295130389485817180289
def auM(h6:¬(↑(aJ (ah y/ah (aJ (↑(fo (ah x) (ah y)):N)))).length:N)=1)(h7:(cM (vZ (mkR (bz n (ah (aJ (ah x/ah (aJ (↑(fo (ah x) (ah y)):N))))))))).size+(eQ (#[(47:hN)])).size<=9223372036854775807)(h8:(okB (aJ (ah y/ah (aJ (↑(fo (ah x) (ah y)):N)))))=D)(h9:(okZ (mkR (bz ao (ah (aJ (ah y/ah (aJ (↑(fo (ah x) (ah y)):N))))))))=D)(h10:(cM (vZ (mkR (bz n (ah (aJ (ah x/ah (aJ (↑(fo (ah x) (ah y)):N))))))))++(eQ (#[(47:hN)]))).size+(cM (vZ (mkR (bz ao (ah (aJ (ah y/ah (aJ (↑(fo (ah x) (ah y)):N))))))))).size<=9223372036854775807)(e:(cM (vZ (mkR (bz n (ah (aJ (ah x/ah (aJ (↑(fo (ah x) (ah y)):N))))))))++(eQ (#[(47:hN)]))++cM (vZ (mkR (bz ao (ah (aJ (ah y/ah (aJ (↑(fo (ah x) (ah y)):N)))))))))=(Bx n x y++(eQ (#[(47:hN)]))++cM (vZ (mkR (bz ao (ah (G5 x y))))))):
  bw D9 ((fl Bw []).drop 3) (vA n x m y) 64 f201 D (sv (Bx n x y++jQ++cM (vZ (mkR (bz ao (ah (G5 x y))))))):=
 wy [aa Z,aa Y,aa h3,aa h4,aa h5,aa (aK (fB.mpr h6)),yn h6,ag h7,aa h8,aa h9,ag h10,av e] 15071116821947747238537080961
end
def ptN(s:AT):N:=nw (s.extract 0 (bE (ak s)))
def ptD(s:AT):N:=if bE (ak s)<s.size then nw (s.extract (bE (ak s)+1) s.size)else 1
def j9(s:AT):dF:=bP (s.size<=800000)&&(cj (ak (bW (s.extract 0 (bE (ak s)))))&&cj (ak (bW (s.extract (bE (ak s)+1) s.size))))
def SG:=IN 64 [.str] [od,od] ao (λd=>j9 d.1) λd=>(mkR (ptN d.1),mkR (ptD d.1),())
def abk:=IN 201 [od,od] [.str] D (λd=>okZ d.1&&(okZ d.2.1&& !(dd (jC (α:=N) d.2.1.2) 0))) λd=>(aW (gp (vZ d.1) (vZ d.2.1)),())
def abl:bI em (bJ SE):=dw (aV PC (aV auC (aV aaD eH)))
def abm:bI em (bJ D9):=uE (λc e=>by rw[kD.1 e];exact Lb) (dw λc e=>by
 simp only[cQ,iL,Xz]at e;rcases e with rfl |rfl |rfl |rfl
 .exact auf
 .exact aa2
 .exact aaV
 .exact abc)
def abn(s:AT):s.extract 0 s.size=s:=kE (by rw[K1,wR,dx])
def auN(s:AT)(h:j9 s=D):Holds em ao 64 [sv s] (.tuple [rv (mkR (ptN s)),rv (mkR (ptD s))]):=by
 unfold j9 at h;rw[ae,ae,aN]at h;obtain⟨F,e,C⟩:=h;have G:bE (ak s)<=s.size:=by rw[eD];exact nd _
 have o:bE s.data.toList=bE (ak s):=rfl;refine bK SD func64 λw J=>?_
 unfold ptN ptD;by_cases A:bE (ak s)<s.size
 .rw[dA A];have H:((bE (ak s):N)+1).toNat=bE (ak s)+1:=by omega
  have B:=auH s ω ω ω (by rw[o,ay (by rw[mW _ _ _ G];omega)];exact e) ω ω;rw[o,H]at B;exact bt abl 9 (B (by rw[ay (by rw[mW _ _ _ (aC _)];omega)];exact C) rfl rfl)
 .rw[db A,show bE (ak s)=s.size by omega,abn];rw[show bE (ak s)=s.size by omega,abn]at e;exact bt abl 5 (wy [ag (ω:s.size<=1000000000),cT (ω:(↑(bE s.data.toList):N)=(s.size:N)),aa (show(bP (s.size<=800000)&&cj (bW s).data.toList)=D from by rw[ay F];exact e)] 12417:bk SE (fl SD []) 5 25 [sv s] 3 f64 ao (.tuple [rv (mkR (nw s)),rv (mkR 1)]))
def abo:SG.Ok em:=λ⟨s,_⟩ h=>auN s h
def auO{n:dF}{x:N}{g:N}(h:g∣x):bz n x/g=bz n (x/g):=by
 cases n with
 |false=>rfl
 |true=>exact N.neg_ediv_of_dvd h
def Ls{n:dF}{x y:N}:fo (bz n x) y=fo x y:=by
 cases n with
 |false=>rfl
 |true=>exact N.neg_gcd
def abp{n:dF}{x y:N}(B:0<y):(gp (bz n x) y).num=bz n (x/fo x y)/\((gp (bz n x) y).den:N)=y/fo x y:=by
 have e:=arZ (n:=bz n x) (d:=y) ω;have o:=ar0 (n:=bz n x) (d:=y) ω;have C:0<fo x y:=sq _ ω;have A:1<=Dc (bz n x) y:=by
  unfold Dc;rw[Ls];exact Cm ω (by rw[mT];exact N.le_of_dvd B (D8 ..))
 obtain⟨h3,h4⟩:=RQ A o;rw[e]at h3 h4;refine⟨?_,?_⟩
 .rw[h3];unfold JR;rw[Ls,auO (Tq ..)]
 .rw[h4];unfold Dc;rw[Ls]
def abq{z:N}{k:E}(h:(z.natAbs:N)<1000000000^k):(cM z).size<=9*k+2:=by
 have o:=Sz (jk (z:=(z.natAbs:N)) (lx _)).1;rw[(jk (z:=(z.natAbs:N)) (lx _)).2.2,kh]at o;have A:=Ln (lx _) h;rw[wR,nv];by_cases e:z<0
 .rw[itoa_neg e,la];omega
 .rw[Bu e];omega
def Ea{n:dF}{x:N}(h:0<=x):((bz n x).natAbs:N)=x:=by
 cases n with
 |false=>show(x.natAbs:N)=x;omega
 |true=>show((-x).natAbs:N)=x;omega
def abr(n m:Bool)(x y:List Int)(o:okA x=true)(A:okA y=true)(a0:0<ah y)(w:World)(F:Sv.Env):
  bp prog w F 57 ((fl Bw []).drop 3) (vA n x m y).T (vA n x m y).H (ew prog true f201 (sv (aW (Rat.divInt (bz n (ah x)) (ah y))))):=by
 have M:=abm;obtain⟨a3,tx,b4⟩:=gG.1 o;obtain⟨c',e3,a1⟩:=gG.1 A;have a':=jl a3;have d':=xA o;have e':=xA A;have c4:0<Int.gcd (ah x) (ah y):=Int.gcd_pos_of_ne_zero_right _ ω;have a4:(Int.gcd (ah x) (ah y):Int)<=ah y:=Int.le_of_dvd a0 (Int.gcd_dvd_right ..);obtain⟨r1,r2⟩:=abp (n:=n) (x:=ah x) (y:=ah y) a0;have a5:ah (aJ (Int.gcd (ah x) (ah y)))=Int.gcd (ah x) (ah y):=(jk (Int.natCast_nonneg _)).2.2;have S:okA (aJ (Int.gcd (ah x) (ah y)))=true:=Lo (k:=y.length) (Int.natCast_nonneg _) ω a1;have c0:1<=ah y/Int.gcd (ah x) (ah y):=Int.le_ediv_of_mul_le ω (by rw[Int.one_mul];exact a4);have B:0<=ah x/Int.gcd (ah x) (ah y):=Int.ediv_nonneg a' ω;have c1:ah x/Int.gcd (ah x) (ah y)<=ah x:=Int.ediv_le_self _ a';have c2:ah y/Int.gcd (ah x) (ah y)<=ah y:=Int.ediv_le_self _ ω;have C:=auK n x m y;have G:=auL n x m y;have e:=auM n x m y;unfold Bx G5 SF at*;generalize c3:(Int.gcd (ah x) (ah y):Int)=g at*;rw[a5]at C G e;generalize c5:ah x/g=p at*;generalize c9:ah y/g=q at*;have a6:ah (aJ p)=p:=(jk B).2.2;have T:ah (aJ q)=q:=(jk ω).2.2;rw[a6]at C G e;rw[T]at G e;have P:(okA x&&okA y)=true:=by rw[o,A];rfl
 have H:(okA x&&(okA (aJ g)&&decide (0<g)))=true:=by rw[o,S,ay ω];rfl
 have J:(okA y&&(okA (aJ g)&&decide (0<g)))=true:=by rw[A,S,ay ω];rfl
 have Q:okB (aJ p)=true:=D6 (k:=x.length) B ω ω;have qB:okB (aJ q)=true:=D6 (k:=y.length) ω ω ω;have K:okZ (mkR (bz n p))=true:=mD (k:=x.length) (by rw[Ea B];omega) b4;have U:okZ (mkR (bz false q))=true:=mD (k:=y.length) (by rw[Ea ω];omega) a1;have e0:(cM (vZ (mkR (bz n p)))).size<=9*x.length+2:=by rw[eR];exact abq (by rw[Ea B];omega)
 have e2:(cM (vZ (mkR (bz false q)))).size<=9*y.length+2:=by rw[eR];exact abq (by rw[Ea ω];omega)
 have a9:((Rat.divInt (bz n (ah x)) (ah y)).den:Int)=q:=r2;have V:(Rat.divInt (bz n (ah x)) (ah y)).num=bz n p:=r1;by_cases b3:q=1
 .have L:aW (Rat.divInt (bz n (ah x)) (ah y))=cM (vZ (mkR (bz n p))):=by
   unfold aW;rw[if_pos ω,V,eR]
  have e1:aJ q=[1]:=by
   have b':fT [(1:Int)]:=λk b1=>by
    obtain rfl:k=0:=by simpa using b1.symm
    show(1:Int)≠0;decide
   have:=K9 (l:=[(1:Int)]) (.cons (show(0:Int)<=1/\(1:Int)<1000000000 by decide) .nil) b';rw[show ah [(1:Int)]=1 from wW _ _]at this;rw[b3];exact this
  rw[L];rw[e1]at C;exact bM (s:=vA n x m y) M (C P H J Q K rfl δ rfl rfl)
 .have L:aW (Rat.divInt (bz n (ah x)) (ah y))=cM (vZ (mkR (bz n p)))++jQ++cM (vZ (mkR (bz false q))):=by
   unfold aW;rw[if_neg ω,V,a9,eR,eR];refine kE ?_;rw[nW,nW,nv,nv];show _++47::_=_++[47]++_;rw[ot];rfl
  rw[L];have W:(cM (vZ (mkR (bz n p)))).size+(ByteArray.mk #[47]).size<=9223372036854775807:=by
   show _+1<=_;omega
  have z2:(cM (vZ (mkR (bz n p)))++ByteArray.mk #[47]).size+(cM (vZ (mkR (bz false q)))).size<=9223372036854775807:=by
   rw[ByteArray.size_append];show _+1+_<=_;omega
  by_cases a2:((aJ q).length:Int)=1
  .have b2:¬(aJ q).getD 0 0=1:=λh=>by
    obtain⟨c,X⟩:∃c,aJ q=[c]:=List.length_eq_one_iff.1 ω;rw[X]at h;have h:c=1:=h;rw[X,h]at T;have:ah [(1:Int)]=1:=wW _ _;omega
   exact bM (s:=vA n x m y) M (G P H J Q K a2 (by show 0<_;omega) b2 W qB U z2 rfl)
  .exact bM (s:=vA n x m y) M (e P H J Q K a2 W qB U z2 rfl)
def auS{y:I N}(h:okA y=D)(A:dd y.length 0=ao):0<ah y:=by
 obtain⟨e,B,_⟩:=gG.1 h;have C:=jl e;rcases zW 0 (ah y)with o|o
 .exact o
 .have:y=[]:=(J7 nt e B).1 (by unfold ah at*;omega);rw[this]at A;cases A
def auT(n m:dF)(x y:I N)(h:okZ (n,x)=D)(g:okZ (m,y)=D)(A:0<ah y):Holds em D 201 [rv (n,x),rv (m,y)] (sv (aW (gp (bz n (ah x)) (bz m (ah y))))):=by
 have C:=abm;obtain⟨e,P⟩:=rR.1 h;obtain⟨o,M⟩:=rR.1 g;refine bK Bw func201 λw F=>?_
 cases m with
 |false=>
  refine cE C 3 (wy [] 0:cL D9 (fl Bw []) 3 57 [rv (n,x),rv (ao,y)] 2 .normal [(64,64,bs),(65,65,bs)] (vA n x ao y)) ?_;exact abr n ao x y e o A w F
 |true=>
  refine cE C 3 (wy [aa (aI (v:=af.agg [af.raw (Value.bool n),af.bh ao (.int .i64) x])),aa h,aa (aI (v:=af.agg [af.raw (Value.bool D),af.bh ao (.int .i64) y])),aa g] 4346093632:cL D9 (fl Bw []) 3 57 [rv (n,x),rv (D,y)] 3 .normal [(64,64,bs),(65,65,bs)] (vA (mkR (-vZ (n,x))).1 (mkR (-vZ (n,x))).2 (mkR (-vZ (D,y))).1 (mkR (-vZ (D,y))).2)) ?_;have H:okZ (mkR (-vZ (n,x)))=D:=mD (k:=x.length) (by
   rw[P3];show((bz n (ah x)).natAbs:N)<_;rw[Ea (jl (gG.1 e).1)];exact xA e) (gG.1 e).2.2
  have J:okZ (mkR (-vZ (D,y)))=D:=mD (k:=y.length) (by
   rw[P3];show((bz D (ah y)).natAbs:N)<_;rw[Ea (cI A)];exact xA o) (gG.1 o).2.2
  have K:bz (mkR (-vZ (n,x))).1 (ah (mkR (-vZ (n,x))).2)= -vZ (n,x):=eR _;have B:ah (mkR (-vZ (D,y))).2=ah y:=by
   show ah (aJ ((-vZ (D,y)).natAbs:N))=_;rw[(jk (lx _)).2.2];show((-(-ah y)).natAbs:N)=_;omega
  have G:=abr (mkR (-vZ (n,x))).1 (mkR (-vZ (D,y))).1 (mkR (-vZ (n,x))).2 (mkR (-vZ (D,y))).2 (rR.1 H).1 (rR.1 J).1 (by rw[B];exact A) w F;rw[K,B]at G;have L:gp (bz n (ah x)) (bz D (ah y))=gp (-vZ (n,x)) (ah y):=by
   show gp (bz n (ah x)) (-ah y)=gp (-(bz n (ah x))) (ah y);have:=qA.neg_divInt_neg (bz n (ah x)) (-ah y);rw[N.neg_neg]at this;exact this.symm
  rw[L];exact G
def auU:abk.Ok em:=λ⟨⟨n,x⟩,⟨m,y⟩,_⟩ h=>by
 have h:(okZ (n,x)&&(okZ (m,y)&& !(dd y.length 0)))=D:=h;rw[ae,ae,Gp]at h;exact auT n m x y h.1 h.2.1 (auS (rR.1 h.2.1).1 h.2.2)
