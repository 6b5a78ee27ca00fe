import Derived.Test.YtdajfemhnlpegaaGreatDoorGbGSel2
import Derived.Deep.RegionHeldLaw
import Derived.Deep.RegionLawGrows
import Derived.StillTailTactics
import Derived.Deep.AppendLies
import Derived.RangeFuncBound
open Array renaming replicate_succ->UU,replicate_zero->U0,length_toList->KQ,getElem?_toList->IF,getElem?_eq_getElem->E',getElem?_setIfInBounds->pp
open Bool renaming true->D,false->ao,eq_iff_iff->tC,or_eq_true->qh
open ByteArray renaming mk->eQ
open Classical renaming byContradiction->G4
open Function renaming comp->Ć
open Go renaming World->du,TypeId->ed,Program->fd,Oper->ls,Act->Zq,Exit->sC,yielded->Î,Operand->gn,Builtin->na,Addr->wu,execOp->gy,resolve->WK,builtin->OH,CallsIn->GC,Calls->DG,callsIn_wide->wQ,DataW->Xs,MapEntry->rb,IntKind->be,Deferred->ö,Fence->wI,Func->Ö,Code->mN,callFunc->Ki,wpIn_mono->zS,FuncId->ya,undef->lk,callsIn_of_wp_marks->Ã
open Go.Act renaming eval->ç
open Go.CallsIn renaming inRound->D'
open Go.Code renaming rangeFunc->Oz,wpIn->Lz,block->QM,seq->LC,region->yO
open Go.Ending renaming returned->Fy
open Go.Fence renaming wide->pI
open Go.Instr renaming beginRound->ċ
open Go.IntWalk renaming i64_in->Y'
open Go.Proofs renaming enters_of->û
open Go.Proofs.Tryz renaming prog->em
open Go.Region renaming wanted->S'
open Go.Result renaming andThen->Q7
open Go.RowKit.Below renaming refl->qg,heap_alloc->I'
open Go.WideElems renaming rg->ą
open Go.World renaming ownsRow_nil->YX,cell?->Hf,putObj_heap_other->hV,alloc_heap_new->JC,putObj_heap_same->yP
open Int renaming toNat_natCast->kh,mul_nonneg->kv,mul_le_mul->tj
open List renaming eq_nil_of_length_eq_zero->ix,append_nil->mS,length_cons->la,length_nil->IJ,nil_append->ts,cons_append->Aj,drop_eq_getElem_cons->kl,getElem_mem->ra,take_add_one->wL,count_append->Pi,map_append->B',drop_length->Gv,take_succ_cons->uZ,getElem?_take->ly,take_take->KE,replicate->ie,length_eq_zero_iff->ut,mem_map->rK,pairwise_mergeSort->QK,mergeSort_perm->WX,mem_filter->xF,flatMap_append->Lt,mem_flatMap->sp,mem_range->DJ,length->jC,drop_eq_nil_of_le->pB,drop_zero->iW,mem_map_of_mem->sL,mem_of_mem_take->wT,take_zero->GD,take_succ_eq_append_getElem->sF,mem_singleton->kD,all_eq_true->ky,map_cons->Li,count_cons->tY,flatMap->A'
open List.Perm renaming eq_of_pairwise->Va
open Nat renaming zero_le->gt,lt_of_lt_of_le->iy,min_eq_left->ns,mul_one->Au,succ->nX,sub_self->Ru,pow_le_pow_left->V',pow_le_pow_right->Q3
open Option renaming some->O,none->bs,getD_some->N',isSome_iff_exists->DF
open Prod renaming fst->ql
open Rat renaming divInt->gp
open _root_ renaming Int->N,Nat->E,List->I,Array->fh,Option->da,if_pos->dA,decide->bP,if_neg->db,False->lm,Bool->dF,Rat->qA,beq_self_eq_true->Kr,not_true_eq_false->Gy
set_option linter.defProp false
set_option linter.unusedSimpArgs false
set_option linter.unusedVariables false
set_option maxRecDepth 100000
namespace Go.Proofs.YtdajfemhnlpegaaGreatDoor
open Go.RowKit Go.Shelf Sv
section
attribute [local go_sem] Oper.semAt_some
set_option maxHeartbeats 4000000
def QQ(left:N->N)(d:E)(a:I N):dQ left (d+1) [] a=[]:=rfl
def adG(left:N->N)(d:E)(k:N)(r a:I N):dQ left (d+1) (k::r) a=(if((a.count k:E):N)<left k then dQ left d (k::r) (a++[k])else [])++dQ left (d+1) r a:=rfl
def zi{w:du}{b f n:E}{e:ed}{v:Value}{vs:I Value}(h:w.ownsRow b e f v n vs):∃A c,v=.slice A n c/\n<=c/\Row w w.heap.size A vs:=by
 obtain⟨A,c,rfl,_,d⟩:=Row.amg h;refine⟨A,c,rfl,?_,d⟩;rcases h.2 with⟨a,k⟩|⟨j,g,i,a,_,_,l,_⟩
 .omega
 .injection a with _ _ a;omega
def aAA{P:fd}{ops:fh ls}{o:ls}{a:Zq}{w:du}{K:Zq->du->Prop}{Q:sC->Zq->du->Prop}{r:Prop}
  (y:S' o (Î ops a.tmps)=D) (s x:gn) (t:ed) (a':o.op=Op.call {callee:=Callee.builtin na.append,args:= #[s,x],argTypes:= #[t,t]})
  (e:ed) (i:TypeInfo) (z:Value) (b bytes:E) (C:P.underlying t=O (.slice e)) (F:P.info? e=O i) (H:i.zero=O z) (J:i.size=b) (L:i.bytes=bytes) (M:z.cells.size=b) (S:0<b)
  (q:da wu) (n cap:E) (l:I Value) (a0:a.eval s=.slice q n cap) (a3:q=bs->n=0/\cap=0) (V:l.length=n*b) (a4:∀j,q=O j->∀k u,l[k]? =O u->w.cell? (j.add k)=O u)
  (p:wu) (m c:E) (f:I Value) (a1:a.eval x=.slice (O p) m c) (X:f.length=m*b) (U:∀k u,f[k]? =O u->w.cell? (p.add k)=O u) (a2:∀u∈f,u.oneCell'=D)
  (k:cap<n+m) (A:n+m<=maxLen) (B:(n+m)*bytes<=140737488355328)
  (T:∀g d,d.ownsRow w.heap.size e b g (n+m) (l++f)->w.grownBy d bs->K (a.put o.dst g) d):
  if S' o (Î ops a.tmps)=D then ls.wp P o a w K Q else r:=by
 rw[dA y];cases q with
 |some j=>
  obtain⟨g,d,r,y,r2⟩:=run_append_arg_grows (P:=P) w t o.type e i z b bytes C F H J L M S j n cap l V (a4 j rfl) p m c f X U k A B;unfold ls.wp;simp[gy,a',WK,invoke,OH,a0,a1,r,Q7];exact T g d y r2
 |none=>
  obtain⟨rfl,rfl⟩:=a3 rfl;obtain rfl:l=[]:=ix (by simpa using V);obtain⟨g,d,r,y,r2,_⟩:=run_append_own (P:=P) w w.heap.size t o.type e i z b bytes C F H J L M S (.slice bs 0 0) 0 [] (YX w _ e b) p m c f X U a2 A B (aC _);unfold ls.wp;simp[gy,a',WK,invoke,OH,a0,a1,r,Q7];exact T g d y r2
def aAB{R:E->Prop}{G:I N->Prop}{ei dB cc B cP n cO mn kc:E}{ek:da wu}{kinds:I N}{left:N->N}{J:I (b7 N)->(E->Prop)->du->Prop}
  (hY:adF R G B cP J) (adH:tK J) (hn:n<=1000) (jG:kinds.length<=1000) (p5:∀x∈kinds,lf x) (GF:∀b,R b->b<B):
  ∀(d:E)(ch:I N)(rX:E)(iJ O_q:E->Prop)(pre:I (b7 N))(W:du)(js:da wu)(gc:E),ch.length+d=n->rX<=kinds.length->(∀p∈dQ left d (kinds.drop rX) ch,G p)->
   tM R ei dB cc n cO mn kc ek kinds left W->zh ei dB cc B cP W->W.ownsRow B 3 1 (.slice js ch.length gc) ch.length (b9 ch)->(∀b,O b=(Value.slice js ch.length gc).ownBlock->O_q b)->
   (∀b,O_q b->B<=b)->(∀b,O_q b->b<W.heap.size)->(∀b,iJ b->O_q b/\O b≠(Value.slice js ch.length gc).ownBlock)->iJ B->iJ (B+1)->J pre O_q W->
   GC pI 0 Tryz.prog 154 #[.int .i64 (rX:N),.slice js ch.length gc,.pointer (O ⟨ei,0,bs⟩),.pointer (O ⟨B,0,bs⟩),.pointer (O ⟨dB,0,bs⟩),.pointer (O ⟨cc,0,bs⟩),.pointer (O ⟨B+1,0,bs⟩)] W λe W'=>e=.returned (.bool D)/\QP J R iJ B pre (dQ left d (kinds.drop rX) ch) W W':=by
 have adI:Tryz.prog.follows .mixedOrders=D:=by kernel_rfl
 intro d;induction d with
 |zero=>
  intro ch rX iJ O_q pre W js gc hd hf bR hS dI hown hin hlo hhi hK TC TD hJ;exact aAz hY hn ch ω (bR ch (by simp[dQ])) O_q pre W js gc rX hS dI hown hin hlo hhi hK hJ
 |succ d ih=>
  intro ch rX iJ O_q pre W js gc hd hf bR hS dI hown hin hlo hhi hK TC TD hJ;obtain⟨Own,adJ⟩:∃Own:E->Prop,Own=λb=>O b=(Value.slice js ch.length gc).ownBlock:=⟨_,rfl⟩
  obtain⟨E_q,hE⟩:∃E_q,dQ left (d+1) (kinds.drop rX) ch=E_q:=⟨_,rfl⟩;rw[hE];have hne:¬(ch.length:N)=(n:N):=by omega
  have hb0:((ch.length:N)==(n:N))=ao:=by rw[fB];exact hne
  have x0:=hS.n.cell 0;have IH:=Lib.hid ih;have rH:=Lib.hid (⟨hS,dI,hown,hin,hlo,hhi,hK,TC,TD⟩:tM R ei dB cc n cO mn kc ek kinds left W/\zh ei dB cc B cP W/\W.ownsRow B 3 1 (.slice js ch.length gc) ch.length (b9 ch)/\(∀b,O b=(Value.slice js ch.length gc).ownBlock->O_q b)/\(∀b,O_q b->B<=b)/\(∀b,O_q b->b<W.heap.size)/\(∀b,iJ b->O_q b/\O b≠(Value.slice js ch.length gc).ownBlock)/\iJ B/\iJ (B+1));have RT:=Lib.hid bR;have oc:=Lib.hid hE;have Me:=Lib.hid adH;have HV:=Lib.hid GF;have yy:=Lib.hid p5;have hst:∃xs O',xs.map (λx:b7 N=>x.2.2)++dQ left (d+1) (kinds.drop rX) ch=E_q/\J (pre++xs) O' W/\(∀b,iJ b\/Own b->O' b)/\(∀b,O' b->B<=b)/\(∀b,O' b->b<W.heap.size)/\aX (λb=>¬((iJ b\/Own b)\/R b)) W W:=
   ⟨[],O_q,hE,by rw[mS];exact hJ,λb hb=>hb.elim (λh=>(hK b h).1) (λh=>hin b (by rw[adJ]at h;exact h)),hlo,hhi,aX.refl _ _⟩
  clear ih hS dI hown hin hlo hhi hK TC TD bR hE adH hJ GF p5 hY;refine callsIn_of_wp Tryz.func154 rfl trivial ?_ rfl;simp only[Tryz.ntmps154,I.size_toArray,la,IJ,E.reduceAdd,E.reduceSub,UU,U0,I.push_toArray,I.append_toArray,ts,Aj]
  gi_wp2
  gi_loopw [10] (λi wr=>∃k:E,k<=kinds.length/\i=.int .i64 (k:N)/\∃xs O',xs.map (λx:b7 N=>x.2.2)++dQ left (d+1) (kinds.drop k) ch=E_q/\J (pre++xs) O' wr/\(∀b,iJ b\/Own b->O' b)/\(∀b,O' b->B<=b)/\(∀b,O' b->b<wr.heap.size)/\aX (λb=>¬((iJ b\/Own b)\/R b)) W wr) (λi _=>kinds.length-(intOf i).toNat)
  case atStart=>exact⟨rX,hf,rfl,hst⟩
  case round=>
   obtain⟨k,hk,rfl,xs,O',hxs,zj,hKr,hlor,vO,htr⟩:=hrel;clear x0 hst;have Mf:=rH.out.1.turns htr λb hb h=>h (.inr hb)
   have hOr:=rH.out.2.1.turns htr (λh=>h (.inl (.inl rH.out.2.2.2.2.2.2.2.1))) (λh=>h (.inl (.inl rH.out.2.2.2.2.2.2.2.2)));have y0:=Mf.k.cell 0;by_cases hlt:k<kinds.length
   .obtain⟨kb,off,HC,Mg,TE,yl⟩:=Mf.r k hlt;obtain⟨q,hq⟩:∃q,kinds[k]=q:=⟨_,rfl⟩;rw[hq]at yl;have uB:kinds.drop k=q::kinds.drop (k+1):=by rw[kl hlt,hq]
    have aAC:=Lib.hid (⟨hxs,zj,hKr,hlor,vO,htr,uB,HC,Mg⟩:xs.map (λx:b7 N=>x.2.2)++dQ left (d+1) (kinds.drop k) ch=E_q/\J (pre++xs) O' wr/\(∀b,iJ b\/Own b->O' b)/\(∀b,O' b->B<=b)/\(∀b,O' b->b<wr.heap.size)/\aX (λb=>¬((iJ b\/Own b)\/R b)) W wr/\kinds.drop k=q::kinds.drop (k+1)/\ek=O ⟨kb,off,bs⟩/\R kb);have TF:wr.ownsRow B 3 1 (.slice js ch.length gc) ch.length (b9 ch):=htr.own rH.out.2.2.1 λb hb h=>h (.inl (.inr (by rw[adJ];exact hb)))
    have rY:=Lib.hid (⟨Mf,hOr,TF⟩:tM R ei dB cc n cO mn kc ek kinds left wr/\zh ei dB cc B cP wr/\wr.ownsRow B 3 1 (.slice js ch.length gc) ch.length (b9 ch));have Mh:lf q:=yy.out q (by rw[<-hq];exact ra hlt);subst HC;have hki:(k:N)<(kinds.length:N):=by omega
    obtain⟨aEO,aEP,aAD,adK,hrow⟩:=zi TF;cases aAD;have adL:=Lib.hid hrow;clear hxs zj hKr hlor vO htr Mf hOr TF hrow hq uB Mg
    gi_wp2
    gi_loopw [11,30] (λu i e7=>∃j:E,j<=ch.length/\i=.int .i64 (j:N)/\u=.int .i64 (((ch.take j).count q:E):N)/\e7=wr) (λ_ i _=>ch.length-(intOf i).toNat)
    case atStart=>exact⟨0,gt _,rfl,rfl,rfl⟩
    case round=>
     obtain⟨j,hj,rfl,rfl,rfl⟩:=hrel;by_cases hlj:j<ch.length
     .obtain⟨b,aEQ,p,aAE,aas,hp,aER⟩:=adL.out.int j hlj;cases aAE;have hji:(j:N)<(ch.length:N):=by omega
      have adM:(ch.take (j+1)).count q=(ch.take j).count q+if p=q then 1 else 0:=by
       rw[wL,hp,Pi];by_cases e:p=q<;>simp[e]
      have jg:(ch.take j).count q<=1000:=by
       have h1:=I.count_le_length (a:=q) (l:=ch.take j);rw[er]at h1;omega
      have rZ:=Lib.hid adM;clear adM hp;by_cases hpq:p=q
      .have c9:bP (p=q)=D:=ay hpq
       gi_wp2
       go_roundw
       case rel=>exact⟨j+1,by omega,by go_num,by rw[rZ.out,dA hpq];go_num,by first |rfl |trivial⟩
       case measure=>simp[intOf];omega
      .have c9:bP (p=q)=ao:=ab hpq
       gi_wp2
       go_roundw
       case rel=>exact⟨j+1,by omega,by go_num,by rw[rZ.out,db hpq];rfl,by first |rfl |trivial⟩
       case measure=>simp[intOf];omega
     .obtain rfl:j=ch.length:=by omega
      rw[dx]
      gi_wp2
      obtain⟨hxs,zj,hKr,hlor,vO,htr,uB,_,Mg⟩:=aAC.out;have hl0:=rY.out.1.m.look q Mh;have z0:=rY.out.1.l.cell 0;have dJ:=rY.out.2.1.h.cell 0;by_cases Mi:((ch.count q:E):N)<left q
      .have c9:bP (((ch.count q:E):N)<left q)=D:=ay Mi;have r0:∀(jy:da wu)(c5:E)(dS:du),dS.ownsRow (wr.heap.size+1) 3 1 (.slice jy (ch.length+1) c5) (ch.length+1) (b9 ch++[.int .i64 q])->aX (λ_=>lm) wr dS->
         DG Tryz.prog 154 #[.int .i64 (k:N),.slice jy (ch.length+1) c5,.pointer (O ⟨ei,0,bs⟩),.pointer (O ⟨B,0,bs⟩),.pointer (O ⟨dB,0,bs⟩),.pointer (O ⟨cc,0,bs⟩),.pointer (O ⟨B+1,0,bs⟩)] dS λe w'=>e=.returned (.bool D)/\
          (∃mM vP,mM.map (λx:b7 N=>x.2.2)++dQ left (d+1) (kinds.drop (k+1)) ch=E_q/\J (pre++mM) vP w'/\(∀b,iJ b\/Own b->vP b)/\(∀b,vP b->B<=b)/\(∀b,vP b->b<w'.heap.size)/\aX (λb=>¬((iJ b\/Own b)\/R b)) W w')/\
          w'.cell? ⟨dB,0,bs⟩=O (.slice (O ⟨kb,off,bs⟩) kinds.length kc)/\w'.cell? ⟨cc,0,bs⟩=O (.map (O cO))/\w'.cell? ⟨B+1,0,bs⟩=O (.func (.func 154) #[] #[.pointer (O ⟨ei,0,bs⟩),.pointer (O ⟨B,0,bs⟩),.pointer (O ⟨dB,0,bs⟩),.pointer (O ⟨cc,0,bs⟩),.pointer (O ⟨B+1,0,bs⟩)])/\w'.cell? ⟨kb,off+k,bs⟩=O (.int .i64 q):=by
        intro jy c5 dS pM vQ;have fV:∀b,O b=(Value.slice jy (ch.length+1) c5).ownBlock->wr.heap.size+1<=b/\b<dS.heap.size:=λb hb=>Mc pM hb
        have e1:(ch++[q]).length=ch.length+1:=by simp
        have e2:b9 (ch++[q])=b9 ch++[.int .i64 q]:=by simp[b9]
        have hBw:B<wr.heap.size:=vO _ (hKr _ (.inl rH.out.2.2.2.2.2.2.2.1));have hsel:dQ left (d+1) (kinds.drop k) ch=dQ left d (kinds.drop k) (ch++[q])++dQ left (d+1) (kinds.drop (k+1)) ch:=by
         rw[uB,adG,dA Mi]
        have Mj:=rY.out.1.turns vQ λb _ h=>h
        have adN:=rY.out.2.1.turns vQ (λh=>h) (λh=>h);have aAF:=Me.out (pre++xs) O' (λb=>O' b\/O b=(Value.slice jy (ch.length+1) c5).ownBlock) wr dS zj (vQ.mono λb h=>h.elim) (λb hb=>hb.imp id λh=>by have:=(fV b h).1;omega);have hI:=IH.out (ch++[q]) k (λb=>iJ b\/Own b) (λb=>O' b\/O b=(Value.slice jy (ch.length+1) c5).ownBlock) (pre++xs) dS jy c5 (by rw[e1];omega) hk
         (λp hp=>RT.out p (by rw[oc.out,<-hxs,hsel];simp[hp])) Mj adN (by rw[e1,e2];exact vN pM ω) (λb hb=>.inr (by rw[e1]at hb;exact hb))
         (λb hb=>hb.elim (hlor b) λh=>by have:=(fV b h).1;omega) (λb hb=>hb.elim (λh=>iy (vO b h) vQ.size) λh=>(fV b h).2)
         (λb hb=>⟨.inl (hKr b hb),λh=>by rw[e1]at h;have h1:=(fV b h).1;have h2:=vO b (hKr b hb);omega⟩) (.inl rH.out.2.2.2.2.2.2.2.1) (.inl rH.out.2.2.2.2.2.2.2.2) aAF
        rw[e1]at hI;refine(wQ.1 hI).mono ?_;rintro e w' ⟨rfl,mM,vP,TG,TH,aAG,aAH,aAI,Mk⟩;have TI:=Mj.turns Mk λb hb h=>h (.inr hb)
        have aAJ:=adN.turns Mk (λh=>h (.inl (.inl rH.out.2.2.2.2.2.2.2.1))) (λh=>h (.inl (.inl rH.out.2.2.2.2.2.2.2.2)));refine⟨rfl,⟨xs++mM,vP,?_,by rw[<-ot];exact TH,aAG,aAH,aAI,htr.then ((vQ.mono λb h=>h.elim).then Mk)⟩,TI.k.cell 0,TI.l.cell 0,aAJ.h.cell 0,?_⟩
        .rw[B',TG,<-hxs,hsel,ot]
        .have Em:=(Mk.block kb (iy TE vQ.size) λh=>h (.inr Mg)).trans (vQ.block kb TE λh=>h);rw[<-yl];simp only[Hf,Em]
       have aAK:=Lib.hid r0;obtain⟨i0,lX,AP,Dh,Ga⟩:=info_parts Tryz.JX;have Ml:∀(w':du),aX (λ_=>lm) wr w'->w'.cell? ⟨dB,0,bs⟩=O (.slice (O ⟨kb,off,bs⟩) kinds.length kc)/\w'.cell? ⟨cc,0,bs⟩=O (.map (O cO))/\w'.cell? ⟨B+1,0,bs⟩=O (.func (.func 154) #[] #[.pointer (O ⟨ei,0,bs⟩),.pointer (O ⟨B,0,bs⟩),.pointer (O ⟨dB,0,bs⟩),.pointer (O ⟨cc,0,bs⟩),.pointer (O ⟨B+1,0,bs⟩)])/\w'.cell? ⟨kb,off+k,bs⟩=O (.int .i64 q):=λw' t=>by
        refine⟨(rY.out.1.turns t λb _ h=>h).k.cell 0,(rY.out.1.turns t λb _ h=>h).l.cell 0,(rY.out.2.1.turns t (λh=>h) (λh=>h)).h.cell 0,?_⟩;rw[<-yl];simp only[Hf,t.block kb TE λh=>h]
       have qi:=(rY.out.1.m.turns ((aX.refl (λ_=>lm) wr).drew) λh=>h).look q Mh;have TJ:=Ml wr.drew (aX.refl (λ_=>lm) wr).drew;have TK:=λo=>Ml (wr.drew.alloc o) ((aX.refl (λ_=>lm) wr).drew.alloc o)
       have Gb:=Lib.hid Ml;have hnone:js=bs->ch.length=0/\ch.length=0:=λh=>by
        subst h;rcases rY.out.2.2.2 with⟨_,h0⟩|⟨g,cap,cur,hv,_⟩
        .exact⟨h0,h0⟩
        .cases hv
       have hcells:∀(o:Obj)(b:wu),js=O b->∀(j:E)(u:Value),(b9 ch)[j]? =O u->(wr.drew.alloc o).cell? (b.add j)=O u:=λo b hb j u hu=>by
        rcases adL.out with h|⟨b',off',e,hlt',sD⟩
        .rw[h]at hu;cases hu
        .rw[hb]at e;injection e with e
         subst e;obtain⟨hj,hj2⟩:=I.getElem?_eq_some_iff.1 hu;have:=sD j hj;rw[ap,hu,N']at this;rw[<-this];have hbk:=((aX.refl (λ_=>lm) wr).drew.alloc o).block b' hlt' λh=>h
         by_cases hj0:j=0
         .subst hj0;simp only[Hf,wu.add,if_true,E.add_zero,hbk]
         .simp only[Hf,wu.add,db hj0,hbk]
       have wV:=Lib.hid hnone;have Mm:=Lib.hid hcells;have aAL:=Lib.hid adK;clear hxs zj hKr hlor vO htr r0 Ml hnone hcells adK hl0 z0 dJ y0;refine wpIn_wide.2 ?_
       go_region_held_law (λw'=>w'.cell? ⟨dB,0,bs⟩=O (.slice (O ⟨kb,off,bs⟩) kinds.length kc)/\w'.cell? ⟨cc,0,bs⟩=O (.map (O cO))/\w'.cell? ⟨B+1,0,bs⟩=O (.func (.func 154) #[] #[.pointer (O ⟨ei,0,bs⟩),.pointer (O ⟨B,0,bs⟩),.pointer (O ⟨dB,0,bs⟩),.pointer (O ⟨cc,0,bs⟩),.pointer (O ⟨B+1,0,bs⟩)])/\w'.cell? ⟨kb,off+k,bs⟩=O (.int .i64 q))
        (first |exact TJ|exact TK _|assumption)
        (first
          |(go_at_call 155;refine(aAy _ _ _ _ ω aAL.out).mono ?_;rintro e w1 ⟨rfl,rfl⟩)
          |(refine aAA (by first |rfl |simp[S',Î]) (.tmp 55) (.tmp 60) 98 rfl 3 i0 (.int .i64 0) 1 8 Tryz.underlying98 lX AP Dh Ga rfl δ js ch.length ch.length (b9 ch) (by simp[ç,Zq.put]) wV.out (by simp[b9]) (Mm.out _) ⟨wr.heap.size,0,bs⟩ 1 1 [.int .i64 q] (by simp[ç,Zq.put]) rfl (cell_one_new _ _ _) (by intro u hu;simp at hu;subst hu;rfl) ω (by unfold maxLen;omega) ω ?_;intro v5 dS pM aAM;obtain⟨jy,c5,rfl,aES,_⟩:=zi pM;have vQ:aX (λ_=>lm) wr dS:=((aX.refl _ wr).drew.alloc _).grown aAM (λr hr=>by cases hr);have aAN:=aAK.out jy c5 dS (by simpa using pM) vQ;have Mj:=Gb.out dS vQ)
          |(go_at_call 154;refine aAN.mono ?_;rintro e jV ⟨rfl,aAO,TI⟩))
       all_goals
        obtain⟨mM,vP,g1,g2,g3,g4,g5,g6⟩:=aAO
        gi_wp2
        go_roundw
        case rel=>exact⟨k+1,by omega,by go_num,mM,vP,g1,g2,g3,g4,g5,g6⟩
        case measure=>simp[intOf];omega
      .have c9:bP (((ch.count q:E):N)<left q)=ao:=ab Mi;have hsel:dQ left (d+1) (kinds.drop k) ch=dQ left (d+1) (kinds.drop (k+1)) ch:=by
        rw[uB,adG,db Mi,ts]
       have qi:=(rY.out.1.m.turns ((aX.refl (λ_=>lm) wr).drew) λh=>h).look q Mh;have aAP:=Lib.hid (⟨by rw[<-hsel];exact hxs,zj,hKr,hlor,vO,htr⟩:xs.map (λx:b7 N=>x.2.2)++dQ left (d+1) (kinds.drop (k+1)) ch=E_q/\J (pre++xs) O' wr/\(∀b,iJ b\/Own b->O' b)/\(∀b,O' b->B<=b)/\(∀b,O' b->b<wr.heap.size)/\aX (λb=>¬((iJ b\/Own b)\/R b)) W wr);have hlk:=λn=>(rY.out.1.m.turns ((aX.refl (λ_=>lm) wr).drewN n) λh=>h).look q Mh
       clear hxs zj hKr hlor vO htr hsel;refine wpIn_wide.2 ?_
       go_quiet (fail)
       gi_wp2
       go_roundw
       case rel=>
        obtain⟨g1,g2,g3,g4,g5,g6⟩:=aAP.out;exact⟨k+1,by omega,by go_num,xs,O',g1,Me.out _ _ _ _ _ g2 ((aX.refl O' wr).drewN nq) (λb hb=>.inl hb),g3,g4,g5,g6.drewN nq⟩
       case measure=>simp[intOf];omega
   .obtain rfl:k=kinds.length:=by omega
    gi_wp2
    (try refine noGoto_ret ?_)
    go_ret
    rw[Gv,QQ,mS]at hxs;exact⟨rfl,xs,O',hxs,zj,λb hb=>hKr b (.inl hb),hlor,vO,htr.mono λb h g=>h (g.imp .inl id)⟩
end
section
attribute [local go_sem] Oper.semAt_some
def run_store_func{P:fd}{w:du}{a:wu}{m:Mode}(f:Fn)(x y:fh Value):(store a (.func f x y) m).run P w=stored P w a (.func f x y) m:=run_store P w a _ m rfl
attribute [local go_sem] run_store_func
set_option maxHeartbeats 4000000
def adO{R:E->Prop}{ei dB cc n cO mn kc:E}{ek:da wu}{kinds:I N}{left:N->N}(hn:n<=1000)(jG:kinds.length<=1000)(p5:∀x∈kinds,lf x)(w0:du)(hS:tM R ei dB cc n cO mn kc ek kinds left w0)(hR:∀b,R b->b<w0.heap.size):
  zc El Tryz.prog 153 #[.pointer (O ⟨ei,0,bs⟩),.pointer (O ⟨dB,0,bs⟩),.pointer (O ⟨cc,0,bs⟩)] R (λ_=>lm) (λp=>p∈dQ left n kinds []) (λps=>ps=dQ left n kinds []) w0:=by
 intro cP J W hb hJ hY HW;have vu:aX (λ_=>lm) w0 W\/True:= .inr trivial;have Mn:∀b,R b->b<W.heap.size:=λb h=>iy (hR b h) hb.size
 have tN:tM R ei dB cc n cO mn kc ek kinds left W:=by
  refine hS.turns (T:=λb=>¬b<w0.heap.size) ⟨hb.os,hb.tape,hb.output,hb.size,λk h1 h2=>hb.block k h1⟩ λb h g=>g (hR b h)
 obtain⟨iV,En⟩:∃iV,((W.alloc (.cells #[.func (.yield cP) #[] #[]] 189)).alloc (.cells #[.func (.func 154) #[] #[.pointer (O ⟨ei,0,bs⟩),.pointer (O ⟨W.heap.size,0,bs⟩),.pointer (O ⟨dB,0,bs⟩),.pointer (O ⟨cc,0,bs⟩),.pointer (O ⟨W.heap.size+1,0,bs⟩)]] 190))=iV:=⟨_,rfl⟩;have hs4:iV.heap.size=W.heap.size+2:=by rw[<-En];simp
 have fY:aX (λ_=>lm) W iV:=by rw[<-En];exact((aX.refl _ W).alloc _).alloc _
 have adP:zh ei dB cc W.heap.size cP iV:=by
  constructor
  .rw[<-En];exact(bH.new _ _ _).alloc _
  .rw[<-En];exact bH.new' _ _ _ _ τ
 have adQ:=hJ [] _ (λb=>b=W.heap.size\/b=W.heap.size+1) W iV HW fY (λb hb=>by right;omega);have TL:=aAB (R:=R) (G:=λp=>p∈dQ left n kinds []) (B:=W.heap.size) (cP:=cP) (J:=J)
  (λpre x O_q bS h1 h2 h3 h4=>hY pre x O_q bS h1 (λb h=>.inr (h2 b h)) h3 h4) hJ hn jG p5 Mn n [] 0 (λb=>b=W.heap.size\/b=W.heap.size+1) (λb=>b=W.heap.size\/b=W.heap.size+1) [] iV bs 0 τ (gt _) (λp hp=>hp)
  (tN.turns fY λb _ h=>h) adP (YX _ _ _ _) (λb hb=>by cases hb) (λb hb=>by omega) (λb hb=>by omega) (λb hb=>⟨hb,λh=>by cases h⟩) (.inl rfl) (.inr rfl) adQ
 rw[<-En]at TL;have rZ:=Lib.hid TL;clear hJ hY HW adP adQ hS tN hb TL En hs4 fY iV Mn vu;refine callsIn_of_wp Tryz.func153 rfl trivial ?_ rfl;simp only[Tryz.ntmps153,I.size_toArray,la,IJ,E.reduceAdd,E.reduceSub,UU,U0,I.push_toArray,I.append_toArray,ts,Aj]
 gi_wp2_with (first |refine⟨trivial,rfl,?_⟩|skip;gi_at_call 154;refine(Dg rZ.out).mono ?_;rintro e w7 ⟨rfl,mM,vP,TG,TH,aET⟩)
 go_end0
 exact⟨⟨_,rfl⟩,mM,vP,by rw[TG];rfl,TH⟩
end
section
attribute [local go_sem] Oper.semAt_some
set_option maxHeartbeats 4000000
def aAQ(A:da wu)(c B:E)(xs:I N)(x:N)(w:du)(h:Row w B A (b9 xs))(l:xs.length<=1000000):
  DG Tryz.prog 103 #[.slice A xs.length c,.int .i64 x] w λe f=>e=.returned (.bool (bP (x∈xs)))/\w=f:=by
 rcases h with h|⟨b,k,rfl,_,i⟩
 .obtain rfl:xs=[]:=I.map_eq_nil_iff.1 h;exact(Tryz.slices_Contains_int_empty A c x w).mono λe f ⟨a,d⟩=>⟨by rw[a];simp,d.symm⟩
 .refine(Tryz.slices_Contains_int b k xs.length c xs x w (aC _) ω λj g=>?_).mono λe f ⟨a,d⟩=>⟨?_,d.symm⟩
  .rw[i j (by simpa[b9]using g)];simp[ap,g,b9]
  .rw[a,dx];refine congrArg (λb=>Fy (Value.bool b)) ?_;rw[tC];simp
def adR(bd:E)(A:da wu)(c B:E)(ds:I N)(t:N)(w:du)(hd:w.cell? ⟨bd,0,bs⟩=O (.slice A ds.length c))(h:Row w B A (b9 ds))(hl:ds.length<=1000000):
  DG Tryz.prog 102 #[.int .i64 t,.pointer (O ⟨bd,0,bs⟩)] w λe w'=>e=.returned (.bool (bP (t∈ds)))/\w=w':=by
 have rZ:=Lib.hid (aAQ A c B ds t w h hl);clear h
 go_enter Tryz.func102,Tryz.ntmps102
 go_wp2_with (go_at_call 103;refine rZ.out.mono ?_;rintro e w1 ⟨rfl,rfl⟩)
 go_ret
 exact⟨rfl,rfl⟩
def xO(a:I N):E->I N->N
 |_,[]=> -1
 |k,y::l=>if y∈a then(k:N)else xO a (k+1) l
def adS(bd:E)(A gv:da wu)(c c2 B aAR:E)(ds l:I N)(w:du)(hd:w.cell? ⟨bd,0,bs⟩=O (.slice A ds.length c))(h:Row w B A (b9 ds))(h2:Row w aAR gv (b9 l))(hl:ds.length<=1000000)(iD:l.length<=1000000):
  DG Tryz.prog 156 #[.slice gv l.length c2,.func (.func 102) #[] #[.pointer (O ⟨bd,0,bs⟩)]] w λe w'=>e=.returned (.int .i64 (xO ds 0 l))/\w=w':=by
 have rZ:=Lib.hid (λt=>adR bd A c B ds t w hd h hl);have H:=Lib.hid h2;clear h h2 hd;obtain⟨r,hr⟩:∃r,xO ds 0 l=r:=⟨_,rfl⟩;rw[hr];have HV:=Lib.hid hr;clear hr
 go_enter Tryz.func156,Tryz.ntmps156
 go_wp2_with fail
 go_loop [8] (λi=>∃k:E,k<=l.length/\i=.int .i64 k/\xO ds k (l.drop k)=r) (λi=>l.length-(intOf i).toNat)
 case atStart=>exact⟨0,gt _,rfl,HV.out⟩
 case round=>
  obtain⟨k,hk,rfl,hpre⟩:=hrel;have BN:=Lib.hid hpre;clear hpre;by_cases hlt:k<l.length
  .obtain⟨b,off,y,rfl,aas,hx,hc⟩:=H.out.int k hlt;have hd:l.drop k=y::l.drop (k+1):=by
    rw[kl hlt];rw[iw hlt]at hx;rw[kT hx]
   have hp:=BN.out;rw[hd]at hp;unfold xO at hp;have hlt':(k:N)<(l.length:N):=by omega
   clear hx hd BN;by_cases hy:y∈ds
   .rw[dA hy]at hp;have wV:=Lib.hid hp;clear hp;have c9:bP (y∈ds)=D:=ay hy
    go_wp2_with (go_at_call 102;refine(rZ.out y).mono ?_;rintro e w1 ⟨rfl,rfl⟩;rw[c9])
    go_ret
    exact⟨congrArg (λz=>Fy (Value.int .i64 z)) wV.out,rfl⟩
   .rw[db hy]at hp;have wV:=Lib.hid hp;clear hp;have c9:bP (y∈ds)=ao:=ab hy
    go_wp2_with (go_at_call 102;refine(rZ.out y).mono ?_;rintro e w1 ⟨rfl,rfl⟩;rw[c9])
    go_round
    case rel=>exact⟨k+1,by omega,by go_num,wV.out⟩
    case measure=>simp[intOf];omega
  .obtain rfl:k=l.length:=by omega
   have hp:=BN.out;rw[Gv]at hp;have wV:=Lib.hid (show(-1:N)=r from hp);clear hp BN
   go_wp2_with fail
   go_ret
   exact⟨congrArg (λz=>Fy (Value.int .i64 z)) wV.out,rfl⟩
end
section
attribute [local go_sem] Oper.semAt_some
set_option maxHeartbeats 4000000
def dY(a l:I N):I N:=l.filter λt=> !decide (t∈a)
def adT(a:I N)(y:N)(l:I N):dY a (y::l)=if y∈a then dY a l else y::dY a l:=by
 by_cases h:y∈a<;>simp[dY,h]
def adU(a l:I N){j:E}(h:j<l.length):dY a (l.take (j+1))=dY a (l.take j)++if l[j]∈a then []else [l[j]]:=by
 unfold dY;rw[wL,iw h,I.filter_append];congr 1;by_cases g:l[j]∈a<;>simp[g]
def adV(a l:I N):(dY a l).length<=l.length:=I.length_filter_le _ _
def adW(a:I N):∀(l:I N)(k:E),(xO a k l= -1/\dY a l=l)\/∃p,p<l.length/\xO a k l=((k+p:E):N)/\dY a (l.take (p+1))=l.take p
 |[],k=>.inl ⟨rfl,rfl⟩
 |y::l,k=>by
  unfold xO;by_cases h:y∈a
  .rw[dA h];exact .inr ⟨0,by simp,by simp,by simp[dY,h]⟩
  .rw[db h];rcases adW a l (k+1)with⟨c,b⟩|⟨p,c,b,d⟩
   .exact .inl ⟨c,by rw[adT,db h,b]⟩
   .refine .inr ⟨p+1,by simp;omega,by rw[b];congr 1;omega,?_⟩;rw[uZ,adT,db h,d,uZ]
structure zk(w:du)(g cap:E)(ds l:I N)(i j:E)(e7:du):Prop where
 row:∃cur:fh Value,bH e7 g 3 cur/\cur.size=cap/\cur.toList.take i=b9 (dY ds (l.take j))/\∀q (h:q<l.length),j<=q->cur[q]? =O (.int .i64 l[q])
 len:i=(dY ds (l.take j)).length
 lt:i<j
 t:aX (λb=>b=g) w e7
def zk.skip{w b:du}{g cap i j:E}{a l:I N}(h:zk w g cap a l i j b)(n:j<l.length)(p:l[j]∈a):zk w g cap a l i (j+1) b:=by
 obtain⟨c,d,f,k,m⟩:=h.row;have e:dY a (l.take (j+1))=dY a (l.take j):=by rw[adU a l n,dA p,mS]
 exact⟨⟨c,d,f,by rw[e];exact k,λq o r=>m q o ω⟩,by rw[e];exact h.len,by have:=h.lt;omega,h.t⟩
def zk.put{w c:du}{g cap i j:E}{a l:I N}(h:zk w g cap a l i j c)(q:j<l.length)(y:l.length<=cap)(t:l[j]∉a):zk w g cap a l (i+1) (j+1) (c.setCell ⟨g,i,bs⟩ (.int .i64 l[j])):=by
 obtain⟨b,f,k,m,n⟩:=h.row;have A:=h.lt;have e:dY a (l.take (j+1))=dY a (l.take j)++[l[j]]:=by rw[adU a l q,db t]
 refine⟨⟨b.setIfInBounds i (.int .i64 l[j]),f.set _ _,by simp[k],?_,λu r z=>?_⟩,by rw[e,fQ,<-h.len];rfl,by omega,h.t.setCell (p:=⟨g,i,bs⟩) rfl _⟩
 .have o:i<b.toList.length:=by rw[KQ];omega
  rw[e,fh.toList_setIfInBounds,wL,I.getElem?_set_self o];have d:(b.toList.set i (.int .i64 l[j])).take i=b.toList.take i:=by rw[I.take_set_of_le (aC i)]
  rw[d,m];simp[b9]
 .rw[fh.getElem?_setIfInBounds_ne ω];exact n u r ω
def aAS(bd g cap c:E)(A:da wu)(ds l:I N)(cur:fh Value)(w:du)(hb:bH w g 3 cur)(hcs:cur.size=cap)(hlc:l.length<=cap)(kY:cur.toList.take l.length=b9 l)
  (hdr:∀e7,aX (λb=>b=g) w e7->e7.cell? ⟨bd,0,bs⟩=O (.slice A ds.length c)/\Row e7 e7.heap.size A (b9 ds)) (hl:ds.length<=1000000) (iD:l.length<=1000000):
  DG Tryz.prog 100 #[.slice (O ⟨g,0,bs⟩) l.length cap,.func (.func 102) #[] #[.pointer (O ⟨bd,0,bs⟩)]] w λe w'=>e=.returned (.slice (O ⟨g,0,bs⟩) (dY ds l).length cap)/\
   (∃cur':fh Value,bH w' g 3 cur'/\cur'.size=cap/\cur'.toList.take (dY ds l).length=b9 (dY ds l))/\aX (λb=>b=g) w w':=by
 have qy:∀q (h:q<l.length),cur[q]? =O (.int .i64 l[q]):=λq h=>by
  have h1:(cur.toList.take l.length)[q]? =(b9 l)[q]? :=by rw[kY]
  rw[ly,dA h,IF]at h1;rw[h1];simp[b9,h]
 have hrow:Row w w.heap.size (O ⟨g,0,bs⟩) (b9 l):=by
  refine .inr ⟨g,0,rfl,hb.lt,λq hq=>?_⟩;have Fv:q<l.length:=by simpa[b9]using hq
  rw[bC,hb.cell,qy q Fv];simp[b9,ap,Fv]
 have fJ:=adS bd A (O ⟨g,0,bs⟩) c cap w.heap.size w.heap.size ds l w (hdr w (aX.refl _ w)).1 (hdr w (aX.refl _ w)).2 hrow hl iD;have aAT:=Lib.hid (λt e7 (h:aX (λb=>b=g) w e7)=>adR bd A c e7.heap.size ds t e7 (hdr e7 h).1 (hdr e7 h).2 hl);rcases adW ds l 0 with⟨f1,f2⟩|⟨p,hp,f1,f2⟩
 .rw[f1]at fJ;have HX:=Lib.hid fJ;have K2:=Lib.hid (⟨⟨cur,hb,hcs,by rw[f2];exact kY⟩,f2⟩:(∃cur':fh Value,bH w g 3 cur'/\cur'.size=cap/\cur'.toList.take (dY ds l).length=b9 (dY ds l))/\dY ds l=l);clear fJ hb kY qy hrow hdr f2 f1
  go_enter Tryz.func100,Tryz.ntmps100
  go_wp2_with (go_at_call 156;refine HX.out.mono ?_;rintro e w1 ⟨rfl,rfl⟩)
  go_ret
  exact⟨congrArg (λz:I N=>Fy (Value.slice (O ⟨g,0,bs⟩) z.length cap)) K2.out.2.symm,K2.out.1,aX.refl _ _⟩
 .rw[f1,bC]at fJ;have HX:=Lib.hid fJ;have aaP:cur.toList.take p=b9 (l.take p):=by
   have h1:(cur.toList.take l.length).take p=(b9 l).take p:=by rw[kY]
   rw[KE,ns ω]at h1;rw[h1];simp[b9,I.map_take]
  have hst:zk w g cap ds l p (p+1) w:=⟨⟨cur,hb,hcs,by rw[f2];exact aaP,λq hq _=>qy q hq⟩,by rw[f2,er];omega,by omega,aX.refl _ _⟩;have Gb:=Lib.hid hst;clear fJ hb kY qy hrow hdr f2 f1 hst hcs;have aEU:((p:N)== -1)=ao:=by rw[fB];omega
  go_enter Tryz.func100,Tryz.ntmps100
  go_wp2_with (go_at_call 156;refine HX.out.mono ?_;rintro e w1 ⟨rfl,rfl⟩)
  go_loopw [5,6] (λi j e7=>∃i' j':E,i=.int .i64 (i':N)/\j=.int .i64 (j':N)/\j'<=l.length/\zk w g cap ds l i' j' e7) (λ_ j _=>l.length-(intOf j).toNat)
  case atStart=>exact⟨p,p+1,rfl,by go_num,by omega,Gb.out⟩
  case round=>
   obtain⟨i,j,rfl,rfl,hj,hdf⟩:=hrel;have HY:=Lib.hid hdf;obtain⟨aEV,k1,k2,c7,gJ⟩:=hdf.row;have hij:=hdf.lt;have adX:=Lib.hid (λt=>aAT.out t wr hdf.t);by_cases hlt:j<l.length
   .obtain⟨y,hy⟩:∃y,l[j]=y:=⟨_,rfl⟩;have aEW:wr.cell? ⟨g,j,bs⟩=O (.int .i64 y):=by rw[k1.cell,gJ j hlt (aC _),hy]
    have hci:(wr.cell? ⟨g,i,bs⟩).isSome=D:=by rw[k1.cell,E' ω];rfl
    have CT:=k1.frozen i;have hji:(j:N)<(l.length:N):=by omega
    have hii:(i:N)<(l.length:N):=by omega
    obtain⟨u,hu⟩:=DF.1 hci;clear k1 k2 c7 gJ hdf hci;by_cases hm:y∈ds
    .have c9:bP (y∈ds)=D:=ay hm
     go_wp2_with (go_at_call 102;refine(adX.out y).mono ?_;rintro e w2 ⟨rfl,rfl⟩;rw[c9])
     go_roundw
     case rel=>exact⟨i,j+1,rfl,by go_num,by omega,HY.out.skip hlt (by rw[hy];exact hm)⟩
     case measure=>simp[intOf];omega
    .have c9:bP (y∈ds)=ao:=ab hm
     go_wp2_with (go_at_call 102;refine(adX.out y).mono ?_;rintro e w2 ⟨rfl,rfl⟩;rw[c9])
     go_roundw
     case rel=>
      have:=HY.out.put hlt hlc (by rw[hy];exact hm);rw[hy]at this;exact⟨i+1,j+1,by go_num,by go_num,by omega,this⟩
     case measure=>simp[intOf];omega
   .obtain rfl:j=l.length:=by omega
    have hlen:=hdf.len;rw[dx]at hlen c7;obtain⟨i0,lX,AP,Dh,Ga⟩:=info_parts Tryz.JX;have ri:∀w,(zeroValue 3).run Tryz.prog w=.ok (.int .i64 0) w:=λw=>Fj (by simp[ou,lX,AP]) w
    have hc1:∀q,q<l.length-i->(wr.cell? ⟨g,i+q,bs⟩).isSome=D:=λq hq=>by
     rw[k1.cell,E' ω];rfl
    have AM:∀q,q<l.length-i->wr.frozen? ⟨g,i+q,bs⟩=ao:=λq hq=>k1.frozen _
    have jg:∀ty,(na.clear_ #[98] ty #[.slice (O ⟨g,i,bs⟩) (l.length-i) (cap-i)]).run Tryz.prog wr=.ok (.tuple #[]) (wr.setCells g i (ie (l.length-i) (.int .i64 0))):=λty=>
     Lib.run_clear_slice wr _ _ ty _ Tryz.underlying98 ri rfl rfl g i (l.length-i) (cap-i) ω hc1 AM
    have HZ:=Lib.hid (⟨⟨_,aan (ie (l.length-i) (.int .i64 0)) i k1,by rw[aao];exact k2,by
      rw[<-hlen,<-c7];apply I.ext_getElem?;intro q;rw[ly,ly];by_cases hq:q<i
      .rw[dA hq,dA hq,IF,IF,aap,db ω]
      .rw[db hq,db hq]⟩,hdf.t.grown (aaq (ie (l.length-i) (.int .i64 0)) i wr) (λr hr=>by injection hr with hr;exact hr.symm)⟩:
     (∃cur':fh Value,bH (wr.setCells g i (ie (l.length-i) (.int .i64 0))) g 3 cur'/\cur'.size=cap/\cur'.toList.take (dY ds l).length=b9 (dY ds l))/\aX (λb=>b=g) w (wr.setCells g i (ie (l.length-i) (.int .i64 0))))
    have aAU:=Lib.hid hlen;have hi1:(0:N)<=(i:N):=by omega
    have hi2:(i:N)<=(l.length:N):=by omega
    have Ek:(i:N)<=(cap:N):=by omega
    have hnk:¬cap=i:=by omega
    clear k1 k2 c7 gJ hdf hlen hc1 AM ri
    go_wp2_with fail
    go_ret
    exact⟨congrArg (λz=>Fy (Value.slice (O ⟨g,0,bs⟩) z cap)) aAU.out,HZ.out.1,HZ.out.2⟩
end
section
attribute [local go_sem] Oper.semAt_some
set_option maxHeartbeats 4000000
def aAV:(Tryz.prog.info? 67).map (λi=>(i.zero,i.size,i.bytes))=O (O (.agg #[.int .i64 0,.int .i64 0]),2,16):=by kernel_rfl
def jD(l:I (N×N)):I Value:=l.flatMap λp=>[.int .i64 p.1,.int .i64 p.2]
def vR:HT (N×N):={et:=67,sz:=2,HD:=jD}
def aAW{w:du}{a b n:E}{e:ed}{v:Value}{vs:I Value}(h:w.ownsRow a e b v n vs):∃z,z=v:=⟨v,rfl⟩
def aAX(A gv:da wu)(c c2:E)(a b:I N)(w:du)(h:Row w w.heap.size A (b9 a))(h2:Row w w.heap.size gv (b9 b))(hl:a.length<=b.length)(iD:a.length<=1000)(tL:b.length<=1000000):
  DG Tryz.prog 80 #[.slice A a.length c,.slice gv b.length c2] w λe w'=>∃v,e=.returned v/\w'.ownsRow w.heap.size 67 2 v a.length (jD (bQ a b))/\Below w.heap.size w w':=by
 have HV:=Lib.hid (⟨h,h2⟩:Row w w.heap.size A (b9 a)/\Row w w.heap.size gv (b9 b));obtain⟨aAY,aAZ,aA0,aA1,aA2⟩:=info_parts aAV;clear h h2
 go_enter Tryz.func80,Tryz.ntmps80
 go_wp2_with fail
 go_loopw [5,9] (λv i wr=>∃k:E,k<=a.length/\i=.int .i64 (k:N)/\wr.ownsRow w.heap.size 67 2 v k (jD ((bQ a b).take k))/\Below w.heap.size w wr) (λ_ i _=>a.length-(intOf i).toNat)
 case atStart=>exact⟨0,gt _,rfl,YX _ _ _ _,qg _ _⟩
 case round=>
  obtain⟨k,hk,rfl,hv,eb⟩:=hrel;obtain⟨v,rfl⟩:=aAW hv;by_cases hlt:k<a.length
  .obtain⟨b1,o1,x,rfl,c9,hx,hc1⟩:=HV.out.1.int k hlt;obtain⟨b2,o2,y,rfl,gz,hy,hc2⟩:=HV.out.2.int k ω;have aaI:=(eb.cell (p:=⟨b1,o1+k,bs⟩) c9).trans hc1;have gV:=(eb.cell (p:=⟨b2,o2+k,bs⟩) gz).trans hc2;have ha:(k:N)<(a.length:N):=by omega
   have hbb:(k:N)<(b.length:N):=by omega
   have hstep:jD ((bQ a b).take (k+1))=jD ((bQ a b).take k)++[.int .i64 x,.int .i64 y]:=by
    rw[W0 hlt hl];simp[jD,ap,hx,hy]
   have r0:=Lib.hid (⟨hv,eb,hstep⟩:wr.ownsRow w.heap.size 67 2 _ k (jD ((bQ a b).take k))/\Below w.heap.size w wr/\jD ((bQ a b).take (k+1))=jD ((bQ a b).take k)++[.int .i64 x,.int .i64 y]);have Mo:∀w',Below w.heap.size wr w'->w'.cell? ⟨b1,o1+k,bs⟩=O (.int .i64 x)/\w'.cell? ⟨b2,o2+k,bs⟩=O (.int .i64 y):=λw' t=>⟨(t.cell (p:=⟨b1,o1+k,bs⟩) c9).trans aaI,(t.cell (p:=⟨b2,o2+k,bs⟩) gz).trans gV⟩
   have TJ:=Mo wr.drew (qg _ wr).drew;have TK:=λo=>Mo (wr.drew.alloc o) ((qg _ wr).drew.alloc eb.size o)
   have aA3:=Lib.hid Mo;clear hc1 hc2 hx hy hstep eb hv Mo
   go_wp2_with fail
   go_region_held_law (λw'=>w'.cell? ⟨b1,o1+k,bs⟩=O (.int .i64 x)/\w'.cell? ⟨b2,o2+k,bs⟩=O (.int .i64 y))
    (first |exact TJ|exact TK _|assumption)
    (first
      |(refine step_append_lies _ rfl (.tmp 12) (.tmp 22) 26 rfl w.heap.size 67 aAY (.agg #[.int .i64 0,.int .i64 0]) 2 16 Tryz.underlying26 aAZ aA0 aA1 aA2 rfl δ v k (jD ((bQ a b).take k)) (by simp[ç,Zq.put]) (aAw r0.out.1.drew _) ⟨wr.heap.size,0,bs⟩ 1 1 [.int .i64 x,.int .i64 y] (by simp[ç,Zq.put]) rfl (cell_two_new _ _ _ _) (by intro u hu;simp at hu;rcases hu with hu|hu<;>subst hu<;>rfl) ω (by unfold maxLen;omega) ω (by have:=r0.out.2.1.size;simp;omega) _ rfl ?_;intro g cap dS pM Ge aEX X2;have kz:Below w.heap.size wr dS:=((((aX.refl (λb=>O b=v.ownBlock) wr).drew).alloc _).grown Ge (λr hr=>hr.symm)).below (λb hb=>(r0.out.1.lt b hb.symm).1) r0.out.2.1.size;have Mj:=aA3.out dS kz))
   all_goals
    go_wp2_with fail
    go_roundw
    case rel=>exact⟨k+1,by omega,by go_num,by rw[r0.out.2.2];exact pM,r0.out.2.1.trans kz⟩
    case measure=>simp[intOf];omega
  .obtain rfl:k=a.length:=by omega
   rw[eG (by rw[Pn hl];omega)]at hv;have r0:=Lib.hid (⟨hv,eb⟩:wr.ownsRow w.heap.size 67 2 _ a.length (jD (bQ a b))/\Below w.heap.size w wr);clear hv eb
   go_wp2_with fail
   go_ret
   exact⟨_,rfl,r0.out.1,r0.out.2⟩
end
section
def aA4(A:da wu)(c B:E)(xs:I N)(w:du)(h:Row w B A (b9 xs))(n:xs.length<=1000000):
  DG Tryz.prog 101 #[.slice A xs.length c] w λe d=>∃v,e=.returned v/\d.ownsRow w.heap.size 3 1 v xs.length (b9 xs)/\Below w.heap.size w d:=by
 rcases h with h|⟨j,m,rfl,_,k⟩
 .obtain rfl:xs=[]:=I.map_eq_nil_iff.1 h;cases A with
  |none=>exact(Tryz.slices_Clone_int_nil 0 c w).mono λe d ⟨b,a⟩=>by subst a;exact⟨_,b,⟨rfl,.inl ⟨rfl,rfl⟩⟩,qg _ _⟩
  |some i=>exact(Tryz.slices_Clone_int_zero i c w).mono λe d ⟨v,b,a,_,f⟩=>⟨v,b,a,f⟩
 .refine(Tryz.slices_Clone_int j m xs.length c xs w (aC _) ω λl g=>?_).mono λe d ⟨v,b,a,_,f⟩=>⟨v,b,?_,f⟩
  .rw[k l (by simpa[b9]using g)];simp[ap,g,b9]
  .rw[dx]at a;exact a
def aA5(bd c:E)(k:E)(A:da wu)(a l:I N)(v:Value)(w:du)(M:w.ownsRow k 3 1 v l.length (b9 l))(F:∀d,aX (λb=>O b=v.ownBlock) w d->d.cell? ⟨bd,0,bs⟩=O (.slice A a.length c)/\Row d d.heap.size A (b9 a))(J:a.length<=1000000)(Q:l.length<=1000000)(L:l≠[]):
  DG Tryz.prog 100 #[v,.func (.func 102) #[] #[.pointer (O ⟨bd,0,bs⟩)]] w λm i=>∃f,m=.returned f/\i.ownsRow k 3 1 f (dY a l).length (b9 (dY a l))/\f.ownBlock=v.ownBlock/\aX (λb=>O b=v.ownBlock) w i:=by
 rcases M.2 with⟨_,y⟩|⟨g,e,q,rfl,U,H,o,C,X,P⟩
 .exact absurd (ut.1 y) L
 .have V:(Value.slice (O ⟨g,0,bs⟩) l.length e).ownBlock=O g:=rfl;have n:∀{j b:du},aX (λb=>b=g) j b->aX (λb=>O b=(Value.slice (O ⟨g,0,bs⟩) l.length e).ownBlock) j b:=λt=>t.mono λb B=>by rw[B];rfl
  refine(aAS bd g e c A a l q w H ω o (by rw[<-P,Au]) (λd t=>F d (n t)) J Q).mono ?_;rintro m i ⟨z,⟨r,S,T,p⟩,u⟩;exact⟨_,z,⟨by simp[b9],.inr ⟨g,e,r,rfl,U,S,cD (adV a l) o,C,by rw[T,Au],by rw[Au];exact p⟩⟩,rfl,n u⟩
attribute [local go_sem] Oper.semAt_some
set_option maxHeartbeats 4000000 in
def aA6(bd c c2:E)(A gv:da wu)(ds:I N)(w:du)(hd:w.cell? ⟨bd,0,bs⟩=O (.slice A ds.length c))(h:Row w w.heap.size A (b9 ds))(hl:ds.length<=1000000):
  DG Tryz.prog 100 #[.slice gv 0 c2,.func (.func 102) #[] #[.pointer (O ⟨bd,0,bs⟩)]] w λe w'=>e=.returned (.slice gv 0 c2)/\w=w':=by
 have HX:=Lib.hid (adS bd A gv c c2 w.heap.size w.heap.size ds [] w hd h (.inl rfl) hl τ);clear hd h
 go_enter Tryz.func100,Tryz.ntmps100
 go_wp2_with (go_at_call 156;refine HX.out.mono ?_;rintro e w1 ⟨rfl,rfl⟩;dsimp only[xO])
 go_ret
 exact⟨rfl,rfl⟩
end
end Go.Proofs.YtdajfemhnlpegaaGreatDoor
namespace Go.Proofs.YtdajfemhnlpegaaGreatDoor
open Go.RowKit Sv Go.Proofs.Tryz
def adY{H:Type}(f:Lit×Xs H->dF):∀l:I (Lit×Xs H),(l.foldr Xs.insert []).any f=l.any f
 |[]=>rfl
 |x::r=>by rw[I.foldr_cons,Maps.any_insert,adY f r,I.any_cons]
def BO(e:rb):N:=match e.key with |.int _ x=>x|_=>0
def aA7{w:du}{b n:E}{f:N->N}(h:jO w b n f):∃a i k,w.heap[b]? =O (.map a i)/\(∀x∈a.toList,x.born<i)/\(a.toList.map (·.born)).Nodup/\a.toList.map (·.key)=b9 k/\k.length<=n/\k.Nodup/\(∀x,x∈k↔f x≠0)/\∀x∈k,lf x:=by
 obtain⟨P,⟨a,i,j,F,C,z⟩,Q,S,y⟩:=h;obtain⟨M,s2,s3⟩:=(MapKept.stamped_iff a i).1 F.stamped;have d:∀e∈a.toList,e.key=.int .i64 (BO e)/\(ą em 3 (plainElem em 3) e:Lit×Xs Unit).1=.int .i64 (BO e)/\lf (BO e):=by
  intro e c;obtain⟨T,r⟩:=F.reads e c;obtain⟨x,p,t,H⟩:=Maps.keyOf_int_inv Tryz.underlying3 (WideElems.rd_key r);have u:BO e=x:=by unfold BO;rw[p]
  rw[u];refine⟨p,by rw[WideElems.rg_of r,t],?_⟩;simp[Lit.wf,be.min,be.max,be.signed,be.bits]at H;unfold lf;omega
 refine⟨a,i,a.toList.map BO,j,M,s2,?_,by rw[mG,KQ];exact C,?_,λx=>?_,λx J=>?_⟩
 .unfold b9;rw[I.map_map];exact I.map_congr_left λe c=>(d e c).1
 .refine I.Pairwise.map _ ?_ (s3.imp_of_mem λ{l b} o j h=>(show l∈a.toList/\b∈a.toList/\l.key≠b.key from⟨o,j,h⟩));rintro l b ⟨o,j,h⟩ g;exact h (by rw[(d l o).1,(d b j).1,g])
 .have g:=y x;rw[z,Maps.has_eq,adY,I.any_map]at g;rw[rK];constructor
  .rintro⟨e,c,rfl⟩;have:(a.toList.any ((λL:Lit×Xs Unit=>L.1.sameKey (.int .i64 (BO e))) ∘ ą em 3 (plainElem em 3)))=D:=by
    refine I.any_eq_true.2 ⟨e,c,?_⟩;simp only[Ć];rw[(d e c).2.1];simp[Lit.sameKey]
   rw[this]at g;exact cC g.symm
  .intro A;have g:=g.trans (ay A);obtain⟨e,c,m⟩:=I.any_eq_true.1 g;simp only[Ć]at m;rw[(d e c).2.1]at m;refine⟨e,c,?_⟩;refine G4 λB=>?_
   rw[Maps.sameKey_ne (by intro q;injection q with _ q;exact B q)]at m;cases m
 .obtain⟨e,c,rfl⟩:=rK.1 J;exact(d e c).2.2
--PLAIN
def aA8{a:I N}(h:a.Nodup):(a.mergeSort λx y=>decide (x<=y)).Pairwise (· < ·):=by
 have e:∀x y z:N,bP (x<=y)=D->bP (y<=z)=D->bP (x<=z)=D:=λx y z b c=>by rw[aN]at*;omega
 have f:∀x y:N,(bP (x<=y)||decide (y<=x))=D:=λx y=>by rw[qh,aN,aN];omega
 have b:=QK e f a;have c:(a.mergeSort λx y=>decide (x<=y)).Nodup:=(WX a _).nodup_iff.2 h;refine(b.and c).imp λ{g i} d=>?_
 have:=cC d.1;have:=d.2;omega
def aA9{a b:I N}(c:a.Pairwise (· < ·))(d:b.Pairwise (· < ·))(h:∀x,x∈a↔x∈b):a=b:=by
 have f:a.Nodup:=c.imp λ{x y} h e=>by omega
 have g:b.Nodup:=d.imp λ{x y} h e=>by omega
 exact Va (le:=λx y=>x<y) (λx y _ _ i j=>by omega) c d ((I.perm_ext_iff_of_nodup f g).2 h)
def adZ{s:I (N×N)}:∀(n:E),n<=s.length->(∀k,k<s.length->(g0 s k).2≠0)->∀x,lT s n x≠0↔x∈(s.take n).map ql
 |0,_,_,x=>by simp[lT]
 |n+1,b,h,x=>by
  have e:s.take (n+1)=s.take n++[g0 s n]:=by
   rw[wL];simp[ap,iw (show n<s.length by omega)]
  rw[e,B',I.mem_append,<-adZ n ω h x];show nj (lT s n) (g0 s n).1 (g0 s n).2 x≠0↔_;unfold nj;by_cases a:x=(g0 s n).1
  .rw[dA a];exact⟨λ_=>.inr (by simp[a]),λ_=>h n ω⟩
  .rw[db a];exact⟨.inl,λg=>g.elim id λg=>absurd (by simpa using g) a⟩
--END
end Go.Proofs.YtdajfemhnlpegaaGreatDoor
namespace Go.Proofs.YtdajfemhnlpegaaGreatDoor
open Go.RowKit Go.Shelf Sv
attribute [local go_sem] Oper.semAt_some
set_option maxHeartbeats 4000000
def cf{α:Type}{l:I α}{n:E}(h:l.length=n+1):∃x r,l=x::r/\r.length=n:=by
 cases l with
 |nil=>cases h
 |cons x r=>exact⟨x,r,rfl,E.succ.inj h⟩
def H6{a:Array Value}(h:a.size=48):∃g0 g1 g2 g3 g4 g5 g6 g7 g8 g9 c' c0 c1 c2 c3 c4 c5 c7 c9 d' e' e0 e1 e2 e3 o p q r t u y z A B C b c d e f g i j k l m n:Value,a= #[g0,g1,g2,g3,g4,g5,g6,g7,g8,g9,c',c0,c1,c2,c3,c4,c5,c7,c9,d',e',e0,e1,e2,e3,o,p,q,r,t,u,y,z,A,B,C,b,c,d,e,f,g,i,j,k,l,m,n]:=by
 obtain⟨l0⟩:=a;have h0:l0.length=48:=h;clear h;obtain⟨x0,l1,rfl,h1⟩:=cf h0;obtain⟨x1,l2,rfl,h2⟩:=cf h1;obtain⟨x2,l3,rfl,h3⟩:=cf h2;obtain⟨x3,l4,rfl,h4⟩:=cf h3;obtain⟨z2,l7,rfl,h5⟩:=cf h4;obtain⟨z3,m',rfl,h6⟩:=cf h5;obtain⟨j2,j7,rfl,h7⟩:=cf h6;obtain⟨j6,k',rfl,h8⟩:=cf h7;obtain⟨k0,k1,rfl,h9⟩:=cf h8;obtain⟨k2,l10,rfl,e9⟩:=cf h9;obtain⟨k3,k6,rfl,f'⟩:=cf e9;obtain⟨l',l5,rfl,g'⟩:=cf f';obtain⟨l6,t',rfl,b4⟩:=cf g';obtain⟨u',u1,rfl,e7⟩:=cf b4;obtain⟨u2,u3,rfl,i2⟩:=cf e7;obtain⟨u4,u5,rfl,i3⟩:=cf i2;obtain⟨u6,u7,rfl,j'⟩:=cf i3;obtain⟨u8,v',rfl,j1⟩:=cf j';obtain⟨v0,v1,rfl,h'⟩:=cf j1;obtain⟨v2,v3,rfl,F⟩:=cf h';obtain⟨v4,v5,rfl,J⟩:=cf F;obtain⟨v9,w',rfl,L⟩:=cf J;obtain⟨w0,w1,rfl,i'⟩:=cf L;obtain⟨w2,w3,rfl,M⟩:=cf i';obtain⟨w7,x',rfl,P⟩:=cf M;obtain⟨x5,o0,rfl,Q⟩:=cf P;obtain⟨o1,o2,rfl,S⟩:=cf Q;obtain⟨o3,o8,rfl,T⟩:=cf S;obtain⟨o9,p',rfl,U⟩:=cf T;obtain⟨p1,p2,rfl,V⟩:=cf U;obtain⟨p3,p5,rfl,X⟩:=cf V;obtain⟨p6,q',rfl,a'⟩:=cf X;obtain⟨q0,q1,rfl,a0⟩:=cf a';obtain⟨q9,r',rfl,a1⟩:=cf a0;obtain⟨r0,r1,rfl,a2⟩:=cf a1;obtain⟨r3,r5,rfl,a3⟩:=cf a2;obtain⟨r7,s',rfl,a4⟩:=cf a3;obtain⟨s1,s4,rfl,a5⟩:=cf a4;obtain⟨s5,m1,rfl,a6⟩:=cf a5;obtain⟨m2,m3,rfl,H⟩:=cf a6;obtain⟨n',n0,rfl,a9⟩:=cf H;obtain⟨n1,n2,rfl,b'⟩:=cf a9;obtain⟨n3,n5,rfl,b1⟩:=cf b';obtain⟨o',x6,rfl,b2⟩:=cf b1;obtain⟨y',y0,rfl,i4⟩:=cf b2;obtain⟨y1,y2,rfl,i0⟩:=cf i4;obtain⟨y3,y7,rfl,b3⟩:=cf i0;obtain⟨z',z0,rfl,i1⟩:=cf b3;obtain rfl:=List.eq_nil_of_length_eq_zero i1;exact⟨_,_,_,_,_,_,_,_,_,_,_,_,_,_,_,_,_,_,_,_,_,_,_,_,_,_,_,_,_,_,_,_,_,_,_,_,_,_,_,_,_,_,_,_,_,_,_,_,rfl⟩
def aBx(bd c:E)(e:E)(A:da wu)(a l:I N)(v:Value)(w:du)(g:w.ownsRow e 3 1 v l.length (b9 l))(f:∀b,aX (λd=>O d=v.ownBlock) w b->b.cell? ⟨bd,0,bs⟩=O (.slice A a.length c)/\Row b b.heap.size A (b9 a))(n:a.length<=1000000)(t:l.length<=1000000):
  DG Tryz.prog 100 #[v,.func (.func 102) #[] #[.pointer (O ⟨bd,0,bs⟩)]] w λk j=>∃i,k=.returned i/\j.ownsRow e 3 1 i (dY a l).length (b9 (dY a l))/\i.ownBlock=v.ownBlock/\aX (λd=>O d=v.ownBlock) w j:=by
 by_cases o:l=[]
 .subst o;obtain⟨q,p,rfl⟩:=mf g;exact(aA6 bd c p A q a w (f w (aX.refl _ w)).1 (f w (aX.refl _ w)).2 n).mono λk j ⟨r,m⟩=>⟨_,r,m ▸ g,rfl,m ▸ aX.refl _ _⟩
 .exact aA5 bd c e A a l v w g f n t o
def ad0(A:da wu)(ad1 c cO n:E)(w:du):
  DG Tryz.prog 99 #[.slice A ad1 c,.map (O cO),.int .i64 (n:N)] w λe w'=>e=.returned (.func (.func 153) #[] #[.pointer (O ⟨w.heap.size+2,0,bs⟩),.pointer (O ⟨w.heap.size,0,bs⟩),.pointer (O ⟨w.heap.size+1,0,bs⟩)])/\
   bH w' (w.heap.size+2) 3 #[.int .i64 (n:N)]/\bH w' w.heap.size 98 #[.slice A ad1 c]/\bH w' (w.heap.size+1) 86 #[.map (O cO)]/\w'.heap.size=w.heap.size+3/\Below w.heap.size w w':=by
 go_enter Tryz.func99,Tryz.ntmps99
 go_wp2_with fail
 go_ret
 refine⟨rfl,bH.new' _ _ _ _ τ,?_,?_,by simp,?_⟩
 .exact((bH.new _ _ _).alloc _).alloc _
 .exact(bH.new' _ _ _ _ τ).alloc _
 .exact(((qg _ w).alloc (aC _) _).alloc τ _).alloc (by simp;omega) _
def mark(a:E):ö:={target:= .collected a,args:= #[]}
def ad2{F:wI}{n:E}{P:fd}{fn:Ö}{g:fh Value}{R:Ending->du->Prop}:∀(a:I E)(w:du),a.Nodup->(∀b∈a,w.heap[b]? =O (.deferred (O [])))->
  (∀d,aX (λc=>c∈a) w d->LeavesInM F n P fn g R [] .returning d)->LeavesInM F n P fn g R (a.map mark) .returning w
 |[],w,_,_,h=>h w (aX.refl _ _)
 |b::a,w,o,e,h=>by
  obtain⟨k,l⟩:=I.nodup_cons.1 o;refine⟨by simp,.inl ⟨b,_,rfl,run_takeDeferred (e b (gb ..)),?_⟩⟩;refine ad2 a _ l (λi f=>?_) λd p=>h d ?_
  .refine(hV λj=>?_).trans (e i (gQ _ f));subst j;exact k f
  .exact((aX.refl (λc=>c∈b::a) w).putObj (gb ..) _).then (p.mono λc m=>gQ _ m)
end Go.Proofs.YtdajfemhnlpegaaGreatDoor
namespace Go.Proofs.YtdajfemhnlpegaaGreatDoor
open Go.RowKit
section
variable{α:Type}(K:HT α)
def aBy{n:E}{P:fd}{g:gn}{ps:fh Tmp}{assign body:mN}{Q:sC->Zq->du->Prop}{a:Zq}{w:du}{gf:E}{lb:fh Value}{R iU:E->Prop}{G:I α->Prop}{S:I (I α)->Prop}{w0:du}
  (hg:a.eval g=.func (.func gf) #[] lb) (eg:∀args w,(Ki gf args).run P w=.ok (.enter gf args) w) (hseq:zc K P gf lb R iU G S w0) (hb0:Below w0.heap.size w0 w) (hps:ps.size=1) (ze:∀b,iU b->b<w.heap.size) (hR:∀b,R b->b<w.heap.size)
  (I_q:I (b7 α)->(E->Prop)->du->Prop) (hI:tK I_q) (h0:I_q [] iU w) (a₁:b7 α->du->Zq) (box:b7 α->du->du) (BP:∀x W,aX (λ_=>lm) W (box x W))
  (hassign:∀(l:E)(x:b7 α)(W:du)(K:Zq->du->Prop),K (a₁ x W) (box x W)->assign.wpIn (wI.wide.inRound l) 0 P (sC.then K (λ_ _ _=>lm)) {tmps:=(ps.zip #[eJ x]).foldl (λt (p,v)=>t.setIfInBounds p v) a.tmps,defers:=[]} W)
  (hbody:∀(l:E)(pre:I (b7 α))(x:b7 α)(O_q:E->Prop)(gP W:du),aX (λb=>b=l) (box x gP) W->l<gP.heap.size->(∃r:Loop,W.heap[l]? =O (.loop r))->eA O_q x l->I_q pre (λb=>O_q b\/gP.heap.size<=b) W->(∀b,O_q b->iU b\/w.heap.size<=b)->(∀b,O_q b->b<gP.heap.size)->nH K w.heap.size O_q G x W->body.wpIn (wI.wide.inRound l) 0 P (HU I_q R (eA O_q x) (pre++[x]) W) (a₁ x gP) W)
  (hdone:∀(D_q:E)(xs:I (b7 α))(O_q:E->Prop)(W:du),w.heap.size<=D_q->O_q D_q->S (xs.map λx=>x.2.2)->I_q xs O_q W->W.heap[D_q]? =O (.deferred (O []))->Q .normal {a with defers:={target:= .collected D_q,args:= #[]}::a.defers} W):
  (Oz g ps assign body).wpIn pI n P Q a w:=by
 refine wpIn_rangeFunc ?_;intro fn hfn;obtain⟨rec,dh⟩:∃rec:LoopState->da mN->Loop,rec=λst pe=>{state:=st,pending:=pe,fn,tmps:=a.tmps,params:=ps,assign,body,defers:=w.heap.size}:=⟨_,rfl⟩
 obtain⟨bS,jU⟩:∃bS,(w.alloc (.deferred (O []))).alloc (.loop (rec .ready bs))=bS:=⟨_,rfl⟩;have hs1:bS.heap.size=w.heap.size+2:=by rw[<-jU];simp
 have A9:bS.heap[w.heap.size+1]? =O (.loop (rec .ready bs)):=by
  rw[<-jU];have:=JC (w.alloc (.deferred (O []))) (.loop (rec .ready bs));rwa[du.size_alloc]at this
 have TB:bS.heap[w.heap.size]? =O (.deferred (O [])):=by
  rw[<-jU];exact(I' _ _ _ τ).trans (JC w _)
 have ht1:aX iU w bS:=by rw[<-jU];exact((aX.refl _ w).alloc _).alloc _
 have c9:Below w0.heap.size w0 bS:=by
  rw[<-jU];exact hb0.trans ((((qg _ w).alloc (aC _) _).alloc τ _).mono hb0.size)
 have hrun:=run_enterLoop_outer (P:=P) (w:=w) fn a.tmps ps assign body;refine⟨w.heap.size+1,[{target:= .collected w.heap.size,args:= #[]}],bS,{target:= .fn (.func gf) lb,args:= #[.func (.yield (w.heap.size+1)) #[] #[]]},bS,gf,
  #[.func (.yield (w.heap.size+1)) #[] #[]]++lb,bS,?_,?_,?_,?_,λh=>by simp[pI]at h,?_⟩
 .rw[<-jU,dh];exact hrun
 .simp only[WK,hg];simp[go_sem]
 .intro f' hf';trivial
 .simp[invoke,go_sem,eg]
 . -- the iterator's contract, where what the caller knows has the loop's own two blocks among those that turn
   refine(Dg (hseq (w.heap.size+1)
    (λpre O_q W=>(∀b,O_q b->iU b\/w.heap.size+2<=b)/\I_q pre (λb=>b=w.heap.size\/b=w.heap.size+1\/O_q b) W/\W.heap[w.heap.size+1]? =O (.loop (rec .ready bs))/\W.heap[w.heap.size]? =O (.deferred (O [])))
    bS c9 ?abides ?round ⟨λb hb=>.inl hb,hI _ _ _ _ _ h0 ht1 (λb hb=>by rcases hb with rfl |rfl |hb<;>first |(right;omega)|exact .inl hb),A9,TB⟩)).mono ?behind
   case abides=>
    rintro pre O_q O' A B ⟨hlo,hi,hl,hk⟩ ht dI;have hne:∀b,b=w.heap.size\/b=w.heap.size+1->¬O_q b:=λb hb e=>by rcases hlo b e with h|h<;>first |omega |(have:=ze b h;omega)
    have hlt:w.heap.size+1<A.heap.size:=(cy.1 hl).1;refine⟨λb hb=>?_,hI _ _ _ _ _ hi (ht.mono λb hb=>.inr (.inr hb)) (λb hb=>?_),(ht.block _ hlt (hne _ (.inr rfl))).trans hl,(ht.block _ ω (hne _ (.inl rfl))).trans hk⟩
    .rcases dI b hb with h|h
     .exact hlo b h
     .right;omega
    .rcases hb with rfl |rfl |hb
     .exact .inl (.inl rfl)
     .exact .inl (.inr (.inl rfl))
     .rcases dI b hb with h|h
      .exact .inl (.inr (.inr h))
      .exact .inr h
   case round=>
    rintro pre x O_q p6 ⟨hlo,hi,hl0,hk⟩ hlo2 ki cA;have hne:∀b,b=w.heap.size\/b=w.heap.size+1->¬O_q b:=λb hb e=>by rcases hlo b e with h|h<;>first |omega |(have:=ze b h;omega)
    have H8:w.heap.size+1<p6.heap.size:=(cy.1 hl0).1;have hy:=run_yield (P:=P) (args:= #[eJ x]) hl0 (by rw[dh];exact hps.symm);rw[dh]at hy;have htb:=BP x p6;have TM:=ki;obtain⟨W,BQ⟩:∃W,box x p6=W:=⟨_,rfl⟩;rw[BQ]at htb;have hl:W.heap[w.heap.size+1]? =O (.loop (rec .ready bs)):=(htb.block _ H8 λh=>h).trans hl0
    replace hk:W.heap[w.heap.size]? =O (.deferred (O [])):=(htb.block _ ω λh=>h).trans hk
    have lX:=hi
    replace hi:=hI _ _ (λb=>b=w.heap.size\/b=w.heap.size+1\/O_q b) _ W hi (htb.mono λ_ h=>h.elim) (λb hb=>.inl hb)
    replace ki:∀b,O_q b->b<W.heap.size:=λb hb=>iy (ki b hb) htb.size
    replace cA:=(⟨htb.own cA.own λ_ _ h=>h,cA.Ej,cA.good⟩:nH K bS.heap.size O_q G x W)
    have hlt:w.heap.size+1<W.heap.size:=(cy.1 hl).1;have AL:(ċ (w.heap.size+1)).run P W=.ok () (W.putObj (w.heap.size+1) (.loop (rec .busy bs))):=by
     have:=run_beginRound (P:=P) hl (by rw[dh]);rw[dh]at this ⊢;exact this
    refine⟨fn,_,assign,body,hy,roundIn_of_wpIn hfn (hassign _ x p6 _ ?_)⟩;rw[BQ];refine⟨_,AL,?_⟩;have iD:(W.putObj (w.heap.size+1) (.loop (rec .busy bs))).heap[w.heap.size+1]? =O (.loop (rec .busy bs)):=yP hlt;have hk2:(W.putObj (w.heap.size+1) (.loop (rec .busy bs))).heap[w.heap.size]? =O (.deferred (O [])):=(hV ω).trans hk;have ht2:aX (λb=>b=w.heap.size\/b=w.heap.size+1\/O_q b) W (W.putObj (w.heap.size+1) (.loop (rec .busy bs))):=(aX.refl _ W).putObj (.inr (.inl rfl)) _;have kF:=ht2.size;have hi2:=hI _ _ (λb=>(b=w.heap.size\/b=w.heap.size+1\/O_q b)\/p6.heap.size<=b) _ _ lX ((htb.mono λ_ h=>h.elim).then ht2) (λb hb=>hb);have k6:∀b,O_q b->(W.putObj (w.heap.size+1) (.loop (rec .busy bs))).heap[b]? =W.heap[b]? :=λb hb=>hV λe=>hne b (.inr e) hb
    have hr2:∀b,R b->(W.putObj (w.heap.size+1) (.loop (rec .busy bs))).heap[b]? =W.heap[b]? :=λb hb=>hV (by have:=hR b hb;omega)
    have xN:nH K w.heap.size (λb=>b=w.heap.size\/b=w.heap.size+1\/O_q b) G x (W.putObj (w.heap.size+1) (.loop (rec .busy bs))):=by
     refine⟨vN (Df cA.own λb hb=>hV λe=>?_) ω,λb hb=>.inr (.inr (cA.Ej b hb)),cA.good⟩;have:=(cA.own.lt b hb.symm).1;omega
    have rM:∀b,O b=(eJ x).ownBlock->w.heap.size+2<=b:=λb hb=>by have:=(cA.own.lt b hb.symm).1;omega
    have hD:eA (λb=>b=w.heap.size\/b=w.heap.size+1\/O_q b) x w.heap.size:=⟨.inl rfl,λe=>by have:=rM _ e;omega⟩;have hL:eA (λb=>b=w.heap.size\/b=w.heap.size+1\/O_q b) x (w.heap.size+1):=⟨.inr (.inl rfl),λe=>by have:=rM _ e;omega⟩;have zf:∀b,eA O_q x b->eA (λb=>b=w.heap.size\/b=w.heap.size+1\/O_q b) x b:=λb hb=>⟨.inr (.inr hb.1),hb.2⟩
    have htl:aX (λb=>b=w.heap.size+1) (box x p6) (W.putObj (w.heap.size+1) (.loop (rec .busy bs))):=by rw[BQ];exact(aX.refl (λb=>b=w.heap.size+1) W).putObj rfl _
    refine zS (hbody _ pre x _ p6 _ htl H8 ⟨_,iD⟩ hL hi2 (λb hb=>?lo2) (λb hb=>?up2) xN) ?after
    case lo2=>
     rcases hb with rfl |rfl |hb
     .right;omega
     .right;omega
     .rcases hlo b hb with h|h
      .exact .inl h
      .right;omega
    case up2=>
     rcases hb with rfl |rfl |hb
     .omega
     .omega
     .have:=TM b hb;omega
    generalize W.putObj (w.heap.size+1) (.loop (rec .busy bs))=dr at*;rintro e a3 kj hp;cases e with
    |normal=>
     obtain⟨Ek,jr⟩:=hp;have tL:kj.heap[w.heap.size+1]? =O (.loop (rec .busy bs)):=(jr.block _ (cy.1 iD).1 (λh=>h (.inl hL))).trans iD;have zg:kj.heap[w.heap.size]? =O (.deferred (O [])):=(jr.block _ (cy.1 hk2).1 (λh=>h (.inl hD))).trans hk2;have hr:=run_endRound (P:=P) bs tL;rw[dh]at hr;have fY:aX (λb=>b=w.heap.size+1) kj (kj.putObj (w.heap.size+1) (.loop (rec .ready bs))):=(aX.refl (λb=>b=w.heap.size+1) kj).putObj (l:=w.heap.size+1) rfl _;refine⟨_,_,hr,rfl,⟨λb hb=>hlo b hb.1,hI _ _ _ _ _ Ek (by rw[dh]at fY;exact fY.mono λb hb=>hb ▸ hL) (λb hb=>.inl (by rcases hb with rfl |rfl |hb;exact hD;exact hL;exact zf b hb)),by rw[dh];exact yP (cy.1 tL).1,(hV ω).trans zg⟩,?_⟩;rw[dh]at fY;refine aX.then (htb.mono λ_ h=>h.elim) ?_;refine⟨fY.os.trans (jr.os.trans ht2.os),fY.tape.trans (jr.tape.trans ht2.tape),fY.output.trans (jr.output.trans ht2.output),cD ht2.size (cD jr.size fY.size),λb hb dI=>?_⟩;have hO:eA O_q x b\/R b:=G4 dI;rcases hO with hO|hO
     .exact(hV λe=>hne b (.inr e) hO.1).trans ((jr.block b ω λh=>h (.inl (zf b hO))).trans (k6 b hO.1))
     .exact(hV (by have:=hR b hO;omega)).trans ((jr.block b ω λh=>h (.inr hO)).trans (hr2 b hO))
    |ret=>exact hp.elim
    |exit id=>exact hp.elim
    |goto t=>exact hp.elim
    |panic ch=>exact hp.elim
    |outgrown=>exact hp.elim
   case behind=>
    rintro e dr ⟨⟨v,rfl⟩,xs,O_q,hS,hlo,hi,hl,hk⟩;have fY:aX (λb=>b=w.heap.size\/b=w.heap.size+1\/O_q b) dr (dr.putObj (w.heap.size+1) (.loop (rec .exhausted bs))):=(aX.refl _ dr).putObj (.inr (.inl rfl)) _;exact⟨bs,_,by have:=run_endLoop (P:=P) hl (by rw[dh];simp);rw[dh]at this ⊢;exact this,hdone _ xs _ _ ω (.inl rfl) hS (hI _ _ _ _ _ hi fY (λb hb=>.inl hb)) ((hV ω).trans hk)⟩
end
section
variable{α:Type}(K:HT α)
def aBz{n l₀:E}{r₀:Loop}{P:fd}{g:gn}{ps:fh Tmp}{assign body:mN}{Q:sC->Zq->du->Prop}{a:Zq}{w:du}{gf:E}{lb:fh Value}{R iU:E->Prop}{G:I α->Prop}{S:I (I α)->Prop}{w0:du}
  (hg:a.eval g=.func (.func gf) #[] lb) (eg:∀args w,(Ki gf args).run P w=.ok (.enter gf args) w) (hseq:zc K P gf lb R iU G S w0) (hb0:Below w0.heap.size w0 w) (hps:ps.size=1) (ze:∀b,iU b->b<w.heap.size) (hR:∀b,R b->b<w.heap.size)
  (I_q:I (b7 α)->(E->Prop)->du->Prop) (hI:tK I_q) (h0:I_q [] iU w) (a₁:b7 α->du->Zq) (box:b7 α->du->du) (BP:∀x W,aX (λ_=>lm) W (box x W))
  (hassign:∀(l:E)(x:b7 α)(W:du)(K:Zq->du->Prop),K (a₁ x W) (box x W)->assign.wpIn (wI.wide.inRound l) 0 P (sC.then K (λ_ _ _=>lm)) {tmps:=(ps.zip #[eJ x]).foldl (λt (p,v)=>t.setIfInBounds p v) a.tmps,defers:=[]} W)
  (hbody:∀(l:E)(pre:I (b7 α))(x:b7 α)(O_q:E->Prop)(gP W:du),aX (λb=>b=l) (box x gP) W->l<gP.heap.size->(∃r:Loop,W.heap[l]? =O (.loop r))->eA O_q x l->I_q pre O_q W->(∀b,O_q b->iU b\/w.heap.size<=b)->(∀b,O_q b->b<gP.heap.size)->nH K w.heap.size O_q G x W->body.wpIn (wI.wide.inRound l) 0 P (HU I_q R (eA O_q x) (pre++[x]) W) (a₁ x gP) W)
  (aBA:w.heap[l₀]? =O (.loop r₀))
  (hdone:∀(xs:I (b7 α))(O_q:E->Prop)(W:du),S (xs.map λx=>x.2.2)->I_q xs O_q W->Q .normal a W):
  (Oz g ps assign body).wpIn (wI.wide.inRound l₀) n P Q a w:=by
 refine wpIn_rangeFunc ?_;intro fn hfn;obtain⟨rec,dh⟩:∃rec:LoopState->da mN->Loop,rec=λst pe=>{state:=st,pending:=pe,fn,tmps:=a.tmps,params:=ps,assign,body,defers:=r₀.defers}:=⟨_,rfl⟩
 obtain⟨bS,jU⟩:∃bS,w.alloc (.loop (rec .ready bs))=bS:=⟨_,rfl⟩;have hs1:bS.heap.size=w.heap.size+1:=by rw[<-jU];simp
 have A9:bS.heap[w.heap.size]? =O (.loop (rec .ready bs)):=by rw[<-jU];exact JC w _
 have ht1:aX iU w bS:=by rw[<-jU];exact(aX.refl _ w).alloc _
 have c9:Below w0.heap.size w0 bS:=by rw[<-jU];exact hb0.trans (((qg _ w).alloc (aC _) _).mono hb0.size)
 have hrun:=run_enterLoop_inner (P:=P) aBA fn a.tmps ps assign body;refine⟨w.heap.size,[],bS,{target:= .fn (.func gf) lb,args:= #[.func (.yield w.heap.size) #[] #[]]},bS,gf,
  #[.func (.yield w.heap.size) #[] #[]]++lb,bS,?_,?_,?_,?_,λh=>by simp[pI,wI.inRound]at h,?_⟩
 .rw[<-jU,dh];exact hrun
 .simp only[WK,hg];simp[go_sem]
 .intro f' hf';trivial
 .simp[invoke,go_sem,eg]
 . -- the iterator's contract, where what the caller knows has the loop's own two blocks among those that turn
   refine GC.mono (show GC (wI.wide.inRound l₀) _ _ _ _ _ _ from Dg (hseq w.heap.size
    (λpre O_q W=>(∀b,O_q b->iU b\/w.heap.size+1<=b)/\I_q pre (λb=>b=w.heap.size\/O_q b) W/\W.heap[w.heap.size]? =O (.loop (rec .ready bs)))
    bS c9 ?abides ?round ⟨λb hb=>.inl hb,hI _ _ _ _ _ h0 ht1 (λb hb=>by rcases hb with rfl |hb<;>first |(right;omega)|exact .inl hb),A9⟩)) ?behind
   case abides=>
    rintro pre O_q O' A B ⟨hlo,hi,hl⟩ ht dI;have hne:∀b,b=w.heap.size->¬O_q b:=λb hb e=>by rcases hlo b e with h|h<;>first |omega |(have:=ze b h;omega)
    have hlt:w.heap.size<A.heap.size:=(cy.1 hl).1;refine⟨λb hb=>?_,hI _ _ _ _ _ hi (ht.mono λb hb=>.inr hb) (λb hb=>?_),(ht.block _ hlt (hne _ rfl)).trans hl⟩
    .rcases dI b hb with h|h
     .exact hlo b h
     .right;omega
    .rcases hb with rfl |hb
     .exact .inl (.inl rfl)
     .rcases dI b hb with h|h
      .exact .inl (.inr h)
      .exact .inr h
   case round=>
    rintro pre x O_q p6 ⟨hlo,hi,hl0⟩ hlo2 ki cA;have hne:∀b,b=w.heap.size->¬O_q b:=λb hb e=>by rcases hlo b e with h|h<;>first |omega |(have:=ze b h;omega)
    have H8:w.heap.size<p6.heap.size:=(cy.1 hl0).1;have hy:=run_yield (P:=P) (args:= #[eJ x]) hl0 (by rw[dh];exact hps.symm);rw[dh]at hy;have htb:=BP x p6;have TM:=ki;obtain⟨W,BQ⟩:∃W,box x p6=W:=⟨_,rfl⟩;rw[BQ]at htb;have hl:W.heap[w.heap.size]? =O (.loop (rec .ready bs)):=(htb.block _ H8 λh=>h).trans hl0
    replace hi:=hI _ _ (λb=>b=w.heap.size\/O_q b) _ W hi (htb.mono λ_ h=>h.elim) (λb hb=>.inl hb)
    replace ki:∀b,O_q b->b<W.heap.size:=λb hb=>iy (ki b hb) htb.size
    replace cA:=(⟨htb.own cA.own λ_ _ h=>h,cA.Ej,cA.good⟩:nH K bS.heap.size O_q G x W)
    have hlt:w.heap.size<W.heap.size:=(cy.1 hl).1;have AL:(ċ w.heap.size).run P W=.ok () (W.putObj w.heap.size (.loop (rec .busy bs))):=by
     have:=run_beginRound (P:=P) hl (by rw[dh]);rw[dh]at this ⊢;exact this
    refine⟨fn,_,assign,body,hy,roundIn_of_wpIn hfn (hassign _ x p6 _ ?_)⟩;rw[BQ];refine⟨_,AL,?_⟩;have iD:(W.putObj w.heap.size (.loop (rec .busy bs))).heap[w.heap.size]? =O (.loop (rec .busy bs)):=yP hlt;have ht2:aX (λb=>b=w.heap.size\/O_q b) W (W.putObj w.heap.size (.loop (rec .busy bs))):=(aX.refl _ W).putObj (.inl rfl) _;have kF:=ht2.size;have hi2:=hI _ _ _ _ _ hi ht2 (λb hb=>.inl hb);have k6:∀b,O_q b->(W.putObj w.heap.size (.loop (rec .busy bs))).heap[b]? =W.heap[b]? :=λb hb=>hV λe=>hne b e hb
    have hr2:∀b,R b->(W.putObj w.heap.size (.loop (rec .busy bs))).heap[b]? =W.heap[b]? :=λb hb=>hV (by have:=hR b hb;omega)
    have xN:nH K w.heap.size (λb=>b=w.heap.size\/O_q b) G x (W.putObj w.heap.size (.loop (rec .busy bs))):=by
     refine⟨vN (Df cA.own λb hb=>hV λe=>?_) ω,λb hb=>.inr (cA.Ej b hb),cA.good⟩;have:=(cA.own.lt b hb.symm).1;omega
    have rM:∀b,O b=(eJ x).ownBlock->w.heap.size+1<=b:=λb hb=>by have:=(cA.own.lt b hb.symm).1;omega
    have hL:eA (λb=>b=w.heap.size\/O_q b) x w.heap.size:=⟨.inl rfl,λe=>by have:=rM _ e;omega⟩;have zf:∀b,eA O_q x b->eA (λb=>b=w.heap.size\/O_q b) x b:=λb hb=>⟨.inr hb.1,hb.2⟩
    have htl:aX (λb=>b=w.heap.size) (box x p6) (W.putObj w.heap.size (.loop (rec .busy bs))):=by rw[BQ];exact(aX.refl (λb=>b=w.heap.size) W).putObj rfl _
    refine zS (hbody _ pre x _ p6 _ htl H8 ⟨_,iD⟩ hL hi2 (λb hb=>?lo2) (λb hb=>?up2) xN) ?after
    case lo2=>
     rcases hb with rfl |hb
     .right;omega
     .rcases hlo b hb with h|h
      .exact .inl h
      .right;omega
    case up2=>
     rcases hb with rfl |hb
     .omega
     .have:=TM b hb;omega
    generalize W.putObj w.heap.size (.loop (rec .busy bs))=dr at*;rintro e a3 kj hp;cases e with
    |normal=>
     obtain⟨Ek,jr⟩:=hp;have tL:kj.heap[w.heap.size]? =O (.loop (rec .busy bs)):=(jr.block _ (cy.1 iD).1 (λh=>h (.inl hL))).trans iD;have hr:=run_endRound (P:=P) bs tL;rw[dh]at hr;have fY:aX (λb=>b=w.heap.size) kj (kj.putObj w.heap.size (.loop (rec .ready bs))):=(aX.refl (λb=>b=w.heap.size) kj).putObj (l:=w.heap.size) rfl _;refine⟨_,_,hr,rfl,⟨λb hb=>hlo b hb.1,hI _ _ _ _ _ Ek (by rw[dh]at fY;exact fY.mono λb hb=>hb ▸ hL) (λb hb=>.inl (by rcases hb with rfl |hb;exact hL;exact zf b hb)),by rw[dh];exact yP (cy.1 tL).1⟩,?_⟩;rw[dh]at fY;refine aX.then (htb.mono λ_ h=>h.elim) ?_;refine⟨fY.os.trans (jr.os.trans ht2.os),fY.tape.trans (jr.tape.trans ht2.tape),fY.output.trans (jr.output.trans ht2.output),cD ht2.size (cD jr.size fY.size),λb hb dI=>?_⟩;have hO:eA O_q x b\/R b:=G4 dI;rcases hO with hO|hO
     .exact(hV λe=>hne b e hO.1).trans ((jr.block b ω λh=>h (.inl (zf b hO))).trans (k6 b hO.1))
     .exact(hV (by have:=hR b hO;omega)).trans ((jr.block b ω λh=>h (.inr hO)).trans (hr2 b hO))
    |ret=>exact hp.elim
    |exit id=>exact hp.elim
    |goto t=>exact hp.elim
    |panic ch=>exact hp.elim
    |outgrown=>exact hp.elim
   case behind=>
    rintro e dr ⟨⟨v,rfl⟩,xs,O_q,hS,hlo,hi,hl⟩;have fY:aX (λb=>b=w.heap.size\/O_q b) dr (dr.putObj w.heap.size (.loop (rec .exhausted bs))):=(aX.refl _ dr).putObj (.inl rfl) _;exact⟨bs,_,by have:=run_endLoop (P:=P) hl (by rw[dh];simp);rw[dh]at this ⊢;exact this,hdone _ _ _ hS (hI _ _ _ _ _ hi fY (λb hb=>.inl hb))⟩
end
end Go.Proofs.YtdajfemhnlpegaaGreatDoor
namespace Go.Proofs.YtdajfemhnlpegaaGreatDoor
open Go.RowKit Go.Shelf Sv
section
attribute [local go_sem] Oper.semAt_some
set_option maxHeartbeats 4000000
structure r4(J:I (b7 (N×N))->(E->Prop)->du->Prop)(R:E->Prop)(B:E)(M:E->Prop)(ws:du)(ps:I (I (N×N)))(O_q:E->Prop)(W:du):Prop where
 t:aX (λb=>¬(M b\/R b)) ws W
 lo:∀b,O_q b->ws.heap.size<=b
 j:∃O' xs,J xs O' W/\xs.map (λx:b7 (N×N)=>x.2.2)=ps/\(∀b,O_q b\/M b->O' b)/\∀b,O' b->B<=b
def r4.go{J:I (b7 (N×N))->(E->Prop)->du->Prop}{R M:E->Prop}{B:E}{c:du}{ps:I (I (N×N))}(n:tK J)(q:∀b,M b->b<c.heap.size)(o:∀b,R b->b<B)(u:B<=c.heap.size){d f:E->Prop}{a dr:du}(h:r4 J R B M c ps d a)(t:aX d a dr)(i:∀b,f b->d b\/a.heap.size<=b):r4 J R B M c ps f dr:=by
 obtain⟨j,r,k,l,e,m⟩:=h.j;have y:=h.t.size;refine⟨h.t.then (t.mono λb hb p=>?_),λb hb=>?_,λb=>j b\/a.heap.size<=b,r,n _ _ _ _ _ k (t.mono λb hb=>e b (.inl hb)) (λb hb=>hb),l,?_,?_⟩
 .have:=h.lo b hb;rcases p with g|g
  .have:=q b g;omega
  .have:=o b g;omega
 .rcases i b hb with g|g
  .exact h.lo b g
  .omega
 .rintro b (hb|hb)
  .rcases i b hb with g|g
   .exact .inl (e b (.inl g))
   .exact .inr g
  .exact .inl (e b (.inr hb))
 .rintro b (hb|hb)
  .exact m b hb
  .omega
def EN(R:E->Prop)(G:I (N×N)->Prop)(B cP:E)(J:I (b7 (N×N))->(E->Prop)->du->Prop):Prop:=
 ∀pre x a c,J pre a c->(∀b,a b->B<=b)->(∀b,a b->b<c.heap.size)->nH vR B a G x c->
   YieldAt pI 0 Tryz.prog cP #[eJ x] c λe d=>e=.returned (.bool D)/\J (pre++[x]) (eA a x) d/\aX (λb=>¬(eA a x b\/R b)) c d
def aBB{R M:E->Prop}{G:I (N×N)->Prop}{H9:I N->Prop}{B cP:E}{J:I (b7 (N×N))->(E->Prop)->du->Prop}(Q:EN R G B cP J)(P:tK J){m:du}(X:∀b,M b->b<m.heap.size)(c:∀b,R b->b<B)(a:B<=m.heap.size)
  (done:I (I (N×N))) (a:I N) (x:b7 N) (pre:I (b7 N)) (f:E->Prop) (W:du) (c:a.length=x.2.2.length) (F:G (bQ a x.2.2))
  (k:r4 J R B M m (done++pre.map λv=>bQ a v.2.2) f W) (o:∀b,f b->b<W.heap.size) (e:da wu) (c:E) (d:du) (u:d.ownsRow W.heap.size 67 2 (.slice e a.length c) a.length (jD (bQ a x.2.2))) (n:aX (λ_=>lm) W d):
  YieldAt pI 0 Tryz.prog cP #[.slice e a.length c] d λi j=>i=.returned (.bool D)/\r4 J R B M m (done++(pre++[x]).map λv=>bQ a v.2.2) (eA f x) j/\aX (λb=>¬(eA f x b\/(M b\/R b))) W j:=by
 obtain⟨q,C,U,V,m,r⟩:=k.j;have l:=k.t.size;have l:=n.size;have z:(bQ a x.2.2).length=a.length:=Pn ω;have t:=λb hb=>Mc (b:=b) u hb
 have l:eJ (e,c,bQ a x.2.2)=.slice e a.length c:=by unfold eJ;rw[z]
 have A:=Q C (e,c,bQ a x.2.2) (λb=>(q b/\b<W.heap.size)\/(W.heap.size<=b/\b<d.heap.size)) d
  (P _ _ _ _ _ U (n.mono λ_ h=>h.elim) λb hb=>by rcases hb with hb|hb;exact .inl hb.1;exact .inr hb.1)
  (λb hb=>by rcases hb with hb|hb;exact r b hb.1;omega)
  (λb hb=>by rcases hb with hb|hb<;>omega)
  ⟨by rw[l];show d.ownsRow B _ _ _ (bQ a x.2.2).length _;rw[z];exact vN u ω,λb hb=>.inr (t b (by rw[l]at hb;exact hb)),F⟩
 rw[l]at A;refine A.mono λi j ⟨S,H,L⟩=>⟨S,?_⟩
 have p:∀b,eA f x b\/M b->eA (λb=>(q b/\b<W.heap.size)\/(W.heap.size<=b/\b<d.heap.size)) (e,c,bQ a x.2.2) b:=by
  intro b hb;have T:b<W.heap.size:=by
   rcases hb with hb|hb
   .exact o b hb.1
   .have:=X b hb;omega
  refine⟨.inl ⟨m b (hb.imp (λh=>h.1) id),T⟩,λi=>?_⟩;rw[l]at i;have:=(t b i).1;omega
 have y:aX (λb=>¬(eA f x b\/(M b\/R b))) W j:=(n.mono λ_ h=>h.elim).then (L.mono λb hb o=>hb (by
  rcases o with g|g|g
  .exact .inl (p b (.inl g))
  .exact .inl (p b (.inr g))
  .exact .inr g))
 refine⟨⟨k.t.then (y.mono λb hb o=>hb (.inr o)),λb hb=>k.lo b hb.1,_,C++[(e,c,bQ a x.2.2)],H,?_,λb hb=>p b hb,λb hb=>?_⟩,y⟩
 .rw[B',V,B',<-ot];rfl
 .rcases hb.1 with g|g
  .exact r b g.1
  .omega
def aBC{l n:E}{P:fd}{l2:E}{f:ya}{c:fh Value}{a b:mN}{w:du}{R:Ending->du->Prop}(h:RoundIn pI n P l2 f c a b w R):RoundIn (wI.wide.inRound l) n P l2 f c a b w R:=h
def aBD{R M:E->Prop}{G:I (N×N)->Prop}{H9:I N->Prop}{B cP bd l:E}{J:I (b7 (N×N))->(E->Prop)->du->Prop}(hY:EN R G B cP J)(hJ:tK J){ws:du}(kf:∀b,M b->b<ws.heap.size)(hR:∀b,R b->b<B)(hB:B<=ws.heap.size)
  (done:I (I (N×N))) (A Ax:da wu) (c jc:E) (ds ys:I N) (pre:I (b7 N)) (O_q:E->Prop) (W:du) (hl:ds.length=ys.length) (iD:ds.length<=1000) (bR:G (bQ ds ys))
  (hI:r4 J R B M ws (done++pre.map λv=>bQ ds v.2.2) O_q W) (ki:∀b,O_q b->b<W.heap.size) (cA:nH El ws.heap.size O_q H9 (Ax,jc,ys) W)
  (hy:bH W B 103 #[.func (.yield cP) #[] #[]]) (hd:bH W bd 98 #[.slice A ds.length c]) (hr:Row W W.heap.size A (b9 ds)) (a:Zq) (hsz:a.tmps.size=48) (t3:a.tmps.getD 3 lk=.pointer (O ⟨B,0,bs⟩)) (t7:a.tmps.getD 7 lk=.pointer (O ⟨bd,0,bs⟩)) (t9:a.tmps.getD 9 lk=.slice Ax ys.length jc) (hdf:a.defers=[]):
  (cat yx [1,1,1,1,1,0,0,1,1,0,0,1,1,0,1,0,1,1,0,1]).wpIn (wI.wide.inRound l) 0 Tryz.prog (HU (λpre O_q W=>r4 J R B M ws (done++pre.map λv=>bQ ds v.2.2) O_q W) (λb=>M b\/R b) (eA O_q (Ax,jc,ys)) (pre++[(Ax,jc,ys)]) W) a W:=by
 have adI:Tryz.prog.follows .mixedOrders=D:=by kernel_rfl
 have aBE:=Lib.hid (aBB (H9:=H9) hY hJ kf hR hB done ds (Ax,jc,ys) pre O_q W hl bR hI ki);obtain⟨_,_,hv,_,hrow⟩:=zi cA.own;have hv:Value.slice Ax ys.length jc=_:=hv;cases hv;have hrow:Row W W.heap.size Ax (b9 ys):=hrow;have aBF:=Lib.hid (λw' (hb:Below W.heap.size W w')=>aAX A Ax c jc ds ys w' ((hr.below hb (aC _)).more hb.size) ((hrow.below hb (aC _)).more hb.size) ω iD ω);have aBG:=Lib.hid hy;have hdr:Below W.heap.size W W.drew:=(qg _ W).drew;have x0:=hy.cell 0;have x1:=hd.cell 0;clear hY hJ hI cA hy hd hr hrow bR kf ki;obtain⟨tm,df⟩:=a;dsimp only at hsz t3 t7 t9 hdf;subst hdf;obtain⟨g0,g1,g2,g3,g4,g5,g6,g7,g8,g9,g10,g11,g12,g13,g14,g15,g16,g17,g18,g19,g20,g21,g22,g23,g24,Eo,Ep,Er,Es,Et,Eu,Ev,Ew,Ex,Ey,Ez,EA,EB,EC,ED,EE,EF,EG,EH,EI,EJ,EK,EL,rfl⟩:=H6 hsz;have u3:g3=_:=t3;have TN:g7=_:=t7;have aBH:g9=_:=t9;clear hsz t3 t7 t9;subst u3;subst TN;subst aBH;clear hl;change Lz _ _ _ (QM 7 (LC (yO 15 _ _) (mN.cond _ _ _))) _ _ _
 gi_wp2
 gi_region_with_o (first
  |((first |refine⟨trivial,rfl,?_⟩|refine⟨trivial,?_⟩|skip);gi_at_call 80;refine(D' l (wQ.2 (aBF.out _ (by with_reducible assumption)))).mono ?_;rintro e dS ⟨v5,rfl,pM,kz⟩;obtain⟨jy,c5,rfl⟩:=mf pM;have hT:aX (λ_=>lm) W dS:=((aX.refl _ W).drew).after kz;have y0:=(hT.blk aBG.out λh=>h).cell 0;obtain⟨aGk,aGl,aGm,aGn,aGo,aBI⟩:=aBE.out jy c5 dS pM hT)
  |((first |refine⟨rfl,?_⟩|skip);refine(aBC (adE aBI)).mono ?_;rintro e kj ⟨rfl,BM,zg⟩))
 all_goals gi_wp2
 all_goals exact⟨BM,zg⟩
end
section
attribute [local go_sem] Oper.semAt_some
set_option maxHeartbeats 4000000
def tO(left:N->N)(K:I N)(n:E)(d:I N):I (I (N×N)):=(dQ left n (dY d K) []).map λu=>bQ d u
def ad3{left:N->N}{n:E}{s d:I N}(b:s.Pairwise (· < ·))(h:d∈dQ left n s []):d.length=n:=by
 obtain⟨y,rfl,a,_⟩:=(i5 n s [] d b).1 h;exact a
def aBJ{K:I N}(a:K.Pairwise (· < ·))(d:I N):(dY d K).Pairwise (· < ·):=a.sublist I.filter_sublist
structure tP(M R:E->Prop)(B cP cc cO mn kc:E)(ek:da wu)(K:I N)(left:N->N)(W:du):Prop where
 y:bH W B 103 #[.func (.yield cP) #[] #[]]
 k:bH W (B+1) 98 #[.slice ek K.length kc]
 r:W.ownsRow B 3 1 (.slice ek K.length kc) K.length (b9 K)
 l:bH W cc 86 #[.map (O cO)]
 m:jO W cO mn left
 my:M B
 AH:M (B+1)
 mr:∀b,O b=(Value.slice ek K.length kc).ownBlock->M b
 rl:R cc
 rm:R cO
def tP.turns{M R T:E->Prop}{B cP e d i g:E}{f:da wu}{K:I N}{left:N->N}{W c:du}(h:tP M R B cP e d i g f K left W)(t:aX T W c)(a:∀b,M b\/R b->¬T b):tP M R B cP e d i g f K left c:=
 ⟨t.blk h.y (a _ (.inl h.my)),t.blk h.k (a _ (.inl h.AH)),t.own h.r λb j=>a _ (.inl (h.mr b j)),t.blk h.l (a _ (.inr h.rl)),h.m.turns t (a _ (.inr h.rm)),h.my,h.AH,h.mr,h.rl,h.rm⟩
def aBK{R M:E->Prop}{G:I (N×N)->Prop}{B cP cc cO mn ei n l kc:E}{ek:da wu}{K:I N}{left:N->N}{J:I (b7 (N×N))->(E->Prop)->du->Prop}(hY:EN R G B cP J)(hJ:tK J){ws:du}(kf:∀b,M b->b<ws.heap.size)(hR:∀b,R b->b<B)(hB:B<=ws.heap.size)
  (hK:K.Pairwise (· < ·)) (jG:K.length<=1000) (p5:∀x∈K,lf x) (hn:n<=1000) (bR:∀d∈dQ left n K [],∀u∈dQ left n (dY d K) [],G (bQ d u)) (done:I (I (N×N))) (hS:tP M R B cP cc cO mn kc ek K left ws) (u7:bH ws ei 3 #[.int .i64 (n:N)]) (Mp:M ei)
  (A:da wu) (c:E) (ds:I N) (pre:I (b7 N)) (O_q:E->Prop) (gP W:du) (BP:aX (λb=>b=l) (gP.alloc (.cells #[.slice A ds.length c] 98)) W) (hl0:l<gP.heap.size) (dh:∃r:Loop,W.heap[l]? =O (.loop r))
  (hI:r4 J R B M ws (done++pre.flatMap λv=>tO left K n v.2.2) (λb=>O_q b\/gP.heap.size<=b) W) (ki:∀b,O_q b->b<gP.heap.size) (cA:nH El ws.heap.size O_q (λp=>p∈dQ left n K []) (A,c,ds) W)
  (a:Zq) (hsz:a.tmps.size=48) (t1:a.tmps.getD 1 lk=.pointer (O ⟨cc,0,bs⟩)) (t3:a.tmps.getD 3 lk=.pointer (O ⟨B,0,bs⟩)) (t4:a.tmps.getD 4 lk=.pointer (O ⟨B+1,0,bs⟩)) (t6:a.tmps.getD 6 lk=.pointer (O ⟨ei,0,bs⟩)) (t7:a.tmps.getD 7 lk=.pointer (O ⟨gP.heap.size,0,bs⟩)) (hdf:a.defers=[]):
  (cat yx [1,1,1,1,1,0,0,1,1,0,0,1,1,0,1]).wpIn (wI.wide.inRound l) 0 Tryz.prog (HU (λpre O_q W=>r4 J R B M ws (done++pre.flatMap λv=>tO left K n v.2.2) O_q W) (λb=>M b\/R b) (eA O_q (A,c,ds)) (pre++[(A,c,ds)]) W) a W:=by
 have lG:=BP.size;simp only[du.size_alloc]at lG;have aGp:=hI.t.size;have tN:=hS.turns hI.t λb hb h=>h hb
 have Mq:=hI.t.blk u7 λh=>h (.inl Mp)
 have TP:bH W gP.heap.size 98 #[.slice A ds.length c]:=BP.blk (bH.new _ _ _) ω;have A8:ws.heap.size<=gP.heap.size:=by
  rcases E.lt_or_ge gP.heap.size ws.heap.size with h|h
  .exact absurd (hI.lo gP.heap.size (.inr (aC _))) ω
  .exact h
 have hdl:ds.length=n:=ad3 hK cA.good;obtain⟨_,_,hv,_,ad4⟩:=zi tN.r;cases hv;obtain⟨EM,xs,j1,j2,qj,Ia⟩:=hI.j
 -- behind the clone, the choice of the others and the call of selections
 have aBL:=Lib.hid (aA4 ek kc W.heap.size K W ad4 ω);have aBM:=Lib.hid (fun(v:Value) (w1:du) (h1:w1.ownsRow W.heap.size 3 1 v K.length (b9 K)) (hb:Below W.heap.size W w1)=>aBx gP.heap.size c W.heap.size A ds K v w1 h1 (λe7 ht=>by
   have hne:∀b,b<W.heap.size->¬O b=v.ownBlock:=λb hb e=>by have:=(h1.lt b e.symm).1;omega
   have ad5:∀b,b<W.heap.size->e7.heap[b]? =W.heap[b]? :=λb hlt=>(ht.block b (by have:=hb.size;omega) (hne b hlt)).trans (hb.block b hlt)
   have aBN:bH e7 gP.heap.size 98 #[.slice A ds.length c]:=(ad5 _ ω).trans TP;refine⟨aBN.cell 0,?_⟩;obtain⟨_,_,fE,_,hrow⟩:=zi (Df cA.own λb gz=>ad5 b (by have:=(cA.own.lt b gz.symm).2;omega));have fE:Value.slice A ds.length c=_:=fE;cases fE;exact hrow) ω ω)
 have ad6:∀(gv:da wu)(c2:E)(w2 w3:du)(a:Zq),a.tmps.size=48->a.tmps.getD 3 lk=.pointer (O ⟨B,0,bs⟩)->a.tmps.getD 7 lk=.pointer (O ⟨gP.heap.size,0,bs⟩)->a.defers=[]->
   a.eval (.tmp 39)=.func (.func 153) #[] #[.pointer (O ⟨w2.heap.size+2,0,bs⟩),.pointer (O ⟨w2.heap.size,0,bs⟩),.pointer (O ⟨w2.heap.size+1,0,bs⟩)]->
   Below W.heap.size W w2->w2.ownsRow W.heap.size 3 1 (.slice gv (dY ds K).length c2) (dY ds K).length (b9 (dY ds K))->Below w2.heap.size w2 w3->w3.heap.size=w2.heap.size+3->
   bH w3 (w2.heap.size+2) 3 #[.int .i64 (n:N)]->bH w3 w2.heap.size 98 #[.slice gv (dY ds K).length c2]->bH w3 (w2.heap.size+1) 86 #[.map (O cO)]->
   (cat yx [1,1,1,1,1,0,0,1,1,0,0,1,1,0,1,0,1,1,0]).wpIn (wI.wide.inRound l) 0 Tryz.prog (λe _ kj=>e=.normal/\r4 J R B M ws (done++(pre++[(A,c,ds)]).flatMap λv=>tO left K n v.2.2) (eA O_q (A,c,ds)) kj/\aX (λb=>¬(eA O_q (A,c,ds) b\/(M b\/R b))) W kj) a w3:=by
  intro gv c2 w2 w3 a hsz t3 t7 hdf t39 gz AQ o9 hs3 q1 aO bU;have kF:=gz.size;have tQ:aX (λ_=>lm) W w3:=(aX.after (aX.refl (λ_=>lm) W) gz).trans (aX.after (aX.refl (λ_=>lm) w2) o9) λ_ _ h=>h
  obtain⟨M',EO⟩:∃M':E->Prop,M'=λb=>(EM b/\b<W.heap.size)\/(W.heap.size<=b/\b<w3.heap.size):=⟨_,rfl⟩
  have Ib:∀b,M' b->b<w3.heap.size:=λb hb=>by rw[EO]at hb;rcases hb with hb|hb<;>omega
  have Mr:∀b,W.heap.size<=b->b<w3.heap.size->M' b:=λb h1 h2=>by rw[EO];exact .inr ⟨h1,h2⟩
  have Ic:∀b,O_q b\/M b->M' b:=λb hb=>by
   rw[EO];refine .inl ⟨qj b (hb.imp .inl id),?_⟩;rcases hb with hb|hb
   .have:=ki b hb;omega
   .have:=kf b hb;omega
  have zl:∀b,M' b->B<=b:=λb hb=>by
   rw[EO]at hb;rcases hb with hb|hb
   .exact Ia b hb.1
   .omega
  have aBO:M' gP.heap.size:=by rw[EO];exact .inl ⟨qj _ (.inl (.inr (aC _))),by omega⟩
  have BM:J xs M' w3:=hJ _ _ _ _ _ j1 (tQ.mono λ_ h=>h.elim) λb hb=>by rw[EO]at hb;rcases hb with hb|hb;exact .inl hb.1;exact .inr hb.1
  have ad7:=(aX.after (aX.refl (λ_=>lm) w2) o9).own AQ λ_ _ h=>h
  obtain⟨_,_,aBP,_,aBQ⟩:=zi ad7;cases aBP;have EP:tM (λb=>M' b\/R b) (w2.heap.size+2) w2.heap.size (w2.heap.size+1) n cO mn c2 gv (dY ds K) left w3:=by
   refine⟨q1,aO,bU,tN.m.turns tQ λh=>h,λj hj=>?_,.inl (Mr _ ω ω),.inl (Mr _ ω ω),.inl (Mr _ ω ω),.inr hS.rm⟩;obtain⟨b,off,p,hA,gK,hp,hc⟩:=aBQ.int j hj;have fV:=Mc (b:=b) ad7 (by rw[hA];rfl);refine⟨b,off,hA,.inl (Mr b fV.1 fV.2),fV.2,?_⟩;rw[hc];rw[iw hj]at hp;injection hp with hp
   rw[hp]
  have Ie:∀b,M' b\/R b->b<w3.heap.size:=λb hb=>hb.elim (Ib b) λh=>by have:=hR b h;omega
  obtain⟨iA,rA⟩:=dh;have tL:w3.heap[l]? =O (.loop iA):=(tQ.block l (cy.1 rA).1 λh=>h).trans rA;have hfl:∀mM:I (b7 N),mM.map (λx:b7 N=>x.2.2)=dQ left n (dY ds K) []->mM.map (λv:b7 N=>bQ ds v.2.2)=tO left K n ds:=λmM h=>by
   unfold tO;rw[<-h,I.map_map];rfl
  change Lz _ _ _ (Oz (.tmp 39) #[40] _ _) _ _ _;refine aBz El (gf:=153) (lb:= #[.pointer (O ⟨w2.heap.size+2,0,bs⟩),.pointer (O ⟨w2.heap.size,0,bs⟩),.pointer (O ⟨w2.heap.size+1,0,bs⟩)]) (R:=λb=>M' b\/R b) (iU:=λ_=>lm) (w0:=w3) t39 (û Tryz.func153 (by kernel_rfl) rfl)
   (adO (R:=λb=>M' b\/R b) hn (cD (adV ds K) jG) (λx hx=>p5 x (xF.1 hx).1) w3 EP Ie) (qg _ _) rfl (λ_ h=>h.elim) Ie
   (λMs O_q W=>r4 J R B M' w3 ((done++pre.flatMap λv=>tO left K n v.2.2)++Ms.map λv=>bQ ds v.2.2) O_q W) (λMs O_q O' bS dr h1 h2 h3=>h1.go hJ Ib hR ω h2 h3)
   ⟨aX.refl _ _,λ_ h=>h.elim,M',xs,BM,by rw[j2];simp,λb hb=>hb.elim (λh=>h.elim) id,zl⟩
   (λx _=>{tmps:=(a.tmps.setIfInBounds 40 (eJ x)).setIfInBounds 9 (eJ x),defers:=[]}) (λ_ W=>W) (λ_ W=>aX.refl _ W) ?assign ?body tL ?done
  case assign=>
   intro l2 x W K hK;have hlt:40<a.tmps.size:=by rw[hsz];decide
   change Lz _ _ _ (yO 14 _ _) _ _ _
   gi_wp2
   exact hK
  case body=>
   rintro l2 Ms ⟨Ax,jc,ys⟩ aBR aGq W' ht' hl' hr' aGr ad8 hlo2 aBS xN;have lY:ys.length=n:=ad3 (aBJ hK ds) xN.good;have tt:=ad8.t;have hdd:bH W' gP.heap.size 98 #[.slice A ds.length c]:=tt.blk (tQ.blk TP λh=>h) λh=>h (.inl aBO)
   have aBT:bH W' B 103 #[.func (.yield cP) #[] #[]]:=tt.blk (tQ.blk tN.y λh=>h) λh=>h (.inl (Ic _ (.inr hS.my)))
   obtain⟨_,_,TQ,_,aBU⟩:=zi (tt.own (tQ.own cA.own λ_ _ h=>h) λb hb h=>h (.inl (Ic b (.inl (cA.Ej b hb)))));have TQ:Value.slice A ds.length c=_:=TQ;cases TQ;exact aBD (H9:=λp=>p∈dQ left n (dY ds K) []) (bd:=gP.heap.size) hY hJ Ib hR ω (done++pre.flatMap λv=>tO left K n v.2.2) A Ax c jc ds ys Ms aBR W' ω ω (bR ds cA.good ys xN.good) ad8 (λb hb=>iy (aBS b hb) ht'.size) xN aBT hdd aBU
    _ (by simp[hsz]) (by show((a.tmps.setIfInBounds 40 _).setIfInBounds 9 _).getD 3 lk=_;rw[<-t3];simp[pp]) (by show((a.tmps.setIfInBounds 40 _).setIfInBounds 9 _).getD 7 lk=_;rw[<-t7];simp[pp]) (by show((a.tmps.setIfInBounds 40 _).setIfInBounds 9 _).getD 9 lk=_;simp[pp,hsz,eJ]) rfl
  case done=>
   intro mM aBV iV TR ER;have hT:aX (λb=>¬(eA O_q (A,c,ds) b\/(M b\/R b))) W iV:=(tQ.mono λ_ h=>h.elim).then (ER.t.mono λb hb hn=>hb (by
    rcases hn with g|g|g
    .exact .inl (Ic b (.inl g.1))
    .exact .inl (Ic b (.inr g))
    .exact .inr g))
   obtain⟨TS,TT,k1,k2,c7,gJ⟩:=ER.j;refine⟨rfl,⟨hI.t.then (hT.mono λb hb hn=>hb (.inr hn)),λb hb=>hI.lo b (.inl hb.1),TS,TT,k1,?_,λb hb=>c7 b (.inr (Ic b (hb.imp (λh=>h.1) id))),gJ⟩,hT⟩;rw[k2,hfl mM TR,Lt];simp
 have aBW:=Lib.hid ad6;obtain⟨tm,df⟩:=a;dsimp only at hsz t1 t3 t4 t6 t7 hdf;subst hdf;have y1:=tN.l.cell 0;have ID:=tN.k.cell 0;have aGs:=Mq.cell 0;have ad9:=Lib.hid (⟨tN,Mq,lG⟩:tP M R B cP cc cO mn kc ek K left W/\bH W ei 3 #[.int .i64 (n:N)]/\gP.heap.size+1<=W.heap.size);have aBX:cc<W.heap.size:=tN.l.lt;have aBY:ei<W.heap.size:=Mq.lt;obtain⟨g0,g1,g2,g3,g4,g5,g6,g7,g8,g9,g10,g11,g12,g13,g14,g15,g16,g17,g18,g19,g20,g21,g22,g23,g24,Eo,Ep,Er,Es,Et,Eu,Ev,Ew,Ex,Ey,Ez,EA,EB,EC,ED,EE,EF,EG,EH,EI,EJ,EK,EL,rfl⟩:=H6 hsz;have u1:g1=_:=t1;have u3:g3=_:=t3;have u4:g4=_:=t4;have aBZ:g6=_:=t6;have TN:g7=_:=t7;clear hsz t1 t3 t4 t6 t7;subst u1;subst u3;subst u4;subst aBZ;subst TN;clear hdl ad6 hY hJ hI cA j1 j2 qj Ia hS tN Mq TP ad4 bR kf hR BP u7 Mp dh ki;change Lz _ _ _ (QM 5 (LC (yO 12 _ _) (LC (yO 13 _ _) (QM 6 _)))) _ _ _
 gi_wp2_with (first
  |((first |refine⟨trivial,rfl,?_⟩|refine⟨trivial,?_⟩|skip);gi_at_call 101;refine(D' l (wQ.2 aBL.out)).mono ?_;rintro e w1 ⟨v1,rfl,TU,c9⟩;have aB0:=Lib.hid (aBM.out v1 w1 TU c9);have BR:=Lib.hid (⟨TU,c9⟩:w1.ownsRow W.heap.size 3 1 v1 K.length (b9 K)/\Below W.heap.size W w1);clear TU c9)
  |((first |refine⟨trivial,rfl,?_⟩|refine⟨trivial,?_⟩|skip);gi_at_call 100;refine(D' l (wQ.2 aB0.out)).mono ?_;rintro e w2 ⟨v2,rfl,AQ,_,ht2⟩;obtain⟨gv,c2,rfl⟩:=mf AQ;have zm:=Lib.hid (⟨BR.out.2.trans (ht2.below (λb hb=>(BR.out.1.lt b hb.symm).1) BR.out.2.size),AQ⟩:Below W.heap.size W w2/\w2.ownsRow W.heap.size 3 1 (.slice gv (dY ds K).length c2) (dY ds K).length (b9 (dY ds K)));clear AQ ht2;have dJ:=(ad9.out.1.l.below zm.out.1 aBX).cell 0;have Fm:=(ad9.out.2.1.below zm.out.1 aBY).cell 0)
  |((first |refine⟨trivial,rfl,?_⟩|refine⟨trivial,?_⟩|skip);gi_at_call 99;refine(D' l (wQ.2 (ad0 gv (dY ds K).length c2 cO n w2))).mono ?_;rintro e w3 ⟨rfl,q1,aO,bU,eO,oI⟩))
 refine zS (aBW.out gv c2 w2 w3 _ rfl rfl rfl rfl rfl zm.out.1 zm.out.2 oI eO q1 aO bU) ?_;rintro e a3 kj ⟨rfl,h1,h2⟩;exact⟨h1,h2⟩
end
section
attribute [local go_sem] Oper.semAt_some
set_option maxHeartbeats 4000000
def BS(left:N->N)(K:I N)(i:E):I (I (N×N)):=(I.range i).flatMap λn=>(dQ left n K []).flatMap (tO left K n)
def aB1(left:N->N)(K:I N)(i:E):BS left K (i+1)=BS left K i++(dQ left i K []).flatMap (tO left K i):=by
 unfold BS;rw[I.range_succ,Lt];simp
structure aB2(J:I (b7 (N×N))->(E->Prop)->du->Prop)(R M:E->Prop)(B:E)(w3:du)(ps:I (I (N×N)))(D_q:E)(iV:du):Prop where
 d0:w3.heap.size<=D_q
 d1:iV.heap[D_q]? =O (.deferred (O []))
 t:aX (λb=>¬(M b\/R b)) w3 iV
 j:∃oZ xs,oZ D_q/\J xs oZ iV/\xs.map (λx:b7 (N×N)=>x.2.2)=ps/\(∀b,M b->oZ b)/\(∀b,oZ b->B<=b)/\∀b,oZ b->b<iV.heap.size
def aB3{R M:E->Prop}{G:I (N×N)->Prop}{B cP cc cO mn ei dB n kc:E}{ek:da wu}{K:I N}{left:N->N}{J:I (b7 (N×N))->(E->Prop)->du->Prop}(hY:EN R G B cP J)(hJ:tK J){w3:du}(kf:∀b,M b->b<w3.heap.size)(hR:∀b,R b->b<B)(hB:B<=w3.heap.size)(zl:∀b,M b->B<=b)
  (hK:K.Pairwise (· < ·)) (jG:K.length<=1000) (p5:∀x∈K,lf x) (hn:n<=1000) (bR:∀d∈dQ left n K [],∀u∈dQ left n (dY d K) [],G (bQ d u)) (xs:I (b7 (N×N))) (BM:J xs M w3) (hS:tP M R B cP cc cO mn kc ek K left w3) (u7:bH w3 ei 3 #[.int .i64 (n:N)]) (Mp:M ei)
  (q1:bH w3 (dB+2) 3 #[.int .i64 (n:N)]) (aO:bH w3 dB 98 #[.slice ek K.length kc]) (bU:bH w3 (dB+1) 86 #[.map (O cO)]) (m1:M (dB+2)) (m2:M dB) (m3:M (dB+1))
  (a:Zq) (hsz:a.tmps.size=48) (t1:a.tmps.getD 1 lk=.pointer (O ⟨cc,0,bs⟩)) (t3:a.tmps.getD 3 lk=.pointer (O ⟨B,0,bs⟩)) (t4:a.tmps.getD 4 lk=.pointer (O ⟨B+1,0,bs⟩)) (t6:a.tmps.getD 6 lk=.pointer (O ⟨ei,0,bs⟩)) (t30:a.eval (.tmp 30)=.func (.func 153) #[] #[.pointer (O ⟨dB+2,0,bs⟩),.pointer (O ⟨dB,0,bs⟩),.pointer (O ⟨dB+1,0,bs⟩)]):
  (cat yx [1,1,1,1,1,0,0,1,1,0,0,1,1,0]).wpIn pI 0 Tryz.prog (λe a' iV=>e=.normal/\∃D_q,a'={tmps:=a.tmps,defers:=mark D_q::a.defers}/\aB2 J R M B w3 (xs.map (λx:b7 (N×N)=>x.2.2)++(dQ left n K []).flatMap (tO left K n)) D_q iV) a w3:=by
 obtain⟨_,_,hv,_,hrow⟩:=zi hS.r;cases hv;have EP:tM (λb=>M b\/R b) (dB+2) dB (dB+1) n cO mn kc ek K left w3:=by
  refine⟨q1,aO,bU,hS.m,λj hj=>?_,.inl m1,.inl m2,.inl m3,.inr hS.rm⟩;obtain⟨b,off,p,hA,gK,hp,hc⟩:=hrow.int j hj;refine⟨b,off,hA,.inl (hS.mr b (by rw[hA];rfl)),gK,?_⟩;rw[hc];rw[iw hj]at hp;injection hp with hp
  rw[hp]
 have Ie:∀b,M b\/R b->b<w3.heap.size:=λb hb=>hb.elim (kf b) λh=>by have:=hR b h;omega
 change Lz _ _ _ (Oz (.tmp 30) #[31] _ _) _ _ _;refine aBy El (gf:=153) (lb:= #[.pointer (O ⟨dB+2,0,bs⟩),.pointer (O ⟨dB,0,bs⟩),.pointer (O ⟨dB+1,0,bs⟩)]) (R:=λb=>M b\/R b) (iU:=λ_=>lm) (w0:=w3) t30 (û Tryz.func153 (by kernel_rfl) rfl)
  (adO (R:=λb=>M b\/R b) hn jG p5 w3 EP Ie) (qg _ _) rfl (λ_ h=>h.elim) Ie
  (λpre O_q W=>r4 J R B M w3 (xs.map (λx:b7 (N×N)=>x.2.2)++pre.flatMap λv=>tO left K n v.2.2) O_q W) (λpre O_q O' bS dr h1 h2 h3=>h1.go hJ kf hR hB h2 h3)
  ⟨aX.refl _ _,λ_ h=>h.elim,M,xs,BM,by simp,λb hb=>hb.elim (λh=>h.elim) id,zl⟩
  (λx W=>{tmps:=(a.tmps.setIfInBounds 31 (eJ x)).setIfInBounds 7 (.pointer (O ⟨W.heap.size,0,bs⟩)),defers:=[]}) (λx W=>W.alloc (.cells #[eJ x] 98)) (λx W=>(aX.refl _ W).alloc _) ?assign ?body ?done
 case assign=>
  rintro l2 ⟨Ax,jc,ys⟩ W K hK;have hlt:31<a.tmps.size:=by rw[hsz];decide
  change Lz _ _ _ (yO 11 _ _) _ _ _;dsimp only[eJ]at hK ⊢
  gi_wp2
  exact hK
 case body=>
  rintro l2 pre ⟨Ax,jc,ys⟩ O_q gP W ht hl0 dh hl hI hlo ki cA;exact aBK (ei:=ei) hY hJ kf hR hB hK jG p5 hn bR (xs.map λx=>x.2.2) hS u7 Mp Ax jc ys pre O_q gP W ht hl0 dh hI ki cA {tmps:=(a.tmps.setIfInBounds 31 (eJ (Ax,jc,ys))).setIfInBounds 7 (.pointer (O ⟨gP.heap.size,0,bs⟩)),defers:=[]} (by simp[hsz])
   (by show((a.tmps.setIfInBounds 31 _).setIfInBounds 7 _).getD 1 lk=_;rw[<-t1];simp[pp]) (by show((a.tmps.setIfInBounds 31 _).setIfInBounds 7 _).getD 3 lk=_;rw[<-t3];simp[pp]) (by show((a.tmps.setIfInBounds 31 _).setIfInBounds 7 _).getD 4 lk=_;rw[<-t4];simp[pp])
   (by show((a.tmps.setIfInBounds 31 _).setIfInBounds 7 _).getD 6 lk=_;rw[<-t6];simp[pp]) (by show((a.tmps.setIfInBounds 31 _).setIfInBounds 7 _).getD 7 lk=_;simp[pp,hsz]) rfl
 case done=>
  intro D_q mM aBV iV hD Ig TR ER Ih;obtain⟨TS,TT,k1,k2,c7,gJ⟩:=ER.j;refine⟨rfl,D_q,rfl,hD,Ih,ER.t,λb=>TS b/\b<iV.heap.size,TT,⟨c7 D_q (.inl Ig),(cy.1 Ih).1⟩,hJ _ _ _ _ _ k1 (aX.refl _ _) (λb hb=>.inl hb.1),?_,λb hb=>⟨c7 b (.inr hb),?_⟩,λb hb=>gJ b hb.1,λb hb=>hb.2⟩
  .rw[k2,<-TR,I.flatMap_map]
  .have h1:=kf b hb;have h2:=ER.t.size;omega
structure Mt(J:I (b7 (N×N))->(E->Prop)->du->Prop)(R:E->Prop)(B cP cc cO mn kc pairs:E)(ek:da wu)(K:I N)(left:N->N)(i:E)(a:Zq)(W:du):Prop where
 hi:i<=pairs+1
 sz:a.tmps.size=48
 t1:a.tmps.getD 1 lk=.pointer (O ⟨cc,0,bs⟩)
 t3:a.tmps.getD 3 lk=.pointer (O ⟨B,0,bs⟩)
 t4:a.tmps.getD 4 lk=.pointer (O ⟨B+1,0,bs⟩)
 t23:a.tmps.getD 23 lk=.int .i64 ((pairs:N)+1)
 t24:a.tmps.getD 24 lk=.int .i64 (i:N)
 ds:∃(jt:I E)(M:E->Prop)(xs:I (b7 (N×N))),a.defers=jt.map mark/\jt.Nodup/\(∀D_q∈jt,M D_q/\W.heap[D_q]? =O (.deferred (O [])))/\tP M R B cP cc cO mn kc ek K left W/\J xs M W/\xs.map (λx:b7 (N×N)=>x.2.2)=BS left K i/\(∀b,M b->B<=b)/\∀b,M b->b<W.heap.size
def aB4{R:E->Prop}{G:I (N×N)->Prop}{B cP cc cO mn kc pairs i:E}{ek:da wu}{K:I N}{left:N->N}{J:I (b7 (N×N))->(E->Prop)->du->Prop}(hY:EN R G B cP J)(hJ:tK J)(hR:∀b,R b->b<B)(hp:pairs<=900)
  (hK:K.Pairwise (· < ·)) (jG:K.length<=1000) (p5:∀x∈K,lf x) (bR:∀n,n<=pairs->∀d∈dQ left n K [],∀u∈dQ left n (dY d K) [],G (bQ d u)) {a:Zq} {W:du} (hL:Mt J R B cP cc cO mn kc pairs ek K left i a W) (hi:i<pairs+1):
  (cat yx [1,1,1,1,1,0,0]).wpIn pI 0 Tryz.prog (λe a' W'=>e=.normal/\Mt J R B cP cc cO mn kc pairs ek K left (i+1) a' W') a W:=by
 obtain⟨_,hsz,t1,t3,t4,t23,t24,jt,M,xs,hdf,hnd,hD,hS,Ii,hxs,zl,Ij⟩:=hL;have x1:=hS.l.cell 0;have qz:=hS.k.cell 0;have c9:bP ((i:N)<(pairs:N)+1)=D:=ay ω;have aGt:B<W.heap.size:=hS.y.lt;have TV:∀D_q∈jt,D_q<W.heap.size:=λD_q h=>Ij D_q (hD D_q h).1
 have Gd:∀(a:Zq)(w1 w3:du),Below W.heap.size W w1->W.heap.size<w1.heap.size->bH w1 W.heap.size 3 #[.int .i64 (i:N)]->Below w1.heap.size w1 w3->w3.heap.size=w1.heap.size+3->bH w3 (w1.heap.size+2) 3 #[.int .i64 (i:N)]->bH w3 w1.heap.size 98 #[.slice ek K.length kc]->bH w3 (w1.heap.size+1) 86 #[.map (O cO)]->
   a.tmps.size=48->a.tmps.getD 1 lk=.pointer (O ⟨cc,0,bs⟩)->a.tmps.getD 3 lk=.pointer (O ⟨B,0,bs⟩)->a.tmps.getD 4 lk=.pointer (O ⟨B+1,0,bs⟩)->a.tmps.getD 6 lk=.pointer (O ⟨W.heap.size,0,bs⟩)->a.eval (.tmp 30)=.func (.func 153) #[] #[.pointer (O ⟨w1.heap.size+2,0,bs⟩),.pointer (O ⟨w1.heap.size,0,bs⟩),.pointer (O ⟨w1.heap.size+1,0,bs⟩)]->a.defers=jt.map mark->
   (cat yx [1,1,1,1,1,0,0,1,1,0,0,1,1,0]).wpIn pI 0 Tryz.prog (λe a' iV=>e=.normal/\∃D_q,a'={tmps:=a.tmps,defers:=mark D_q::a.defers}/\(D_q::jt).Nodup/\∃oZ ES,(∀E_q∈D_q::jt,oZ E_q/\iV.heap[E_q]? =O (.deferred (O [])))/\tP oZ R B cP cc cO mn kc ek K left iV/\J ES oZ iV/\ES.map (λx:b7 (N×N)=>x.2.2)=BS left K (i+1)/\(∀b,oZ b->B<=b)/\∀b,oZ b->b<iV.heap.size) a w3:=by
  intro a w1 w3 c9 aGu oO o9 aGv q1 aO bU hsz t1 t3 t4 t6 t30 hdf;have tQ:aX (λ_=>lm) W w3:=(aX.after (aX.refl (λ_=>lm) W) c9).trans (aX.after (aX.refl (λ_=>lm) w1) o9) λ_ _ h=>h
  have Ib:∀b,(M b\/(W.heap.size<=b/\b<w3.heap.size))->b<w3.heap.size:=λb hb=>by
   rcases hb with hb|hb
   .have:=Ij b hb;omega
   .exact hb.2
  have EP:tP (λb=>M b\/(W.heap.size<=b/\b<w3.heap.size)) R B cP cc cO mn kc ek K left w3:=by
   have h:=hS.turns tQ λ_ _ h=>h
   exact⟨h.y,h.k,h.r,h.l,h.m,.inl h.my,.inl h.AH,λb hb=>.inl (h.mr b hb),h.rl,h.rm⟩
  refine zS (aB3 (M:=λb=>M b\/(W.heap.size<=b/\b<w3.heap.size)) (ei:=W.heap.size) (dB:=w1.heap.size) hY hJ Ib hR ω (λb hb=>hb.elim (zl b) λh=>by omega) hK jG p5 ω (bR i ω) xs
   (hJ _ _ _ _ _ Ii (tQ.mono λ_ h=>h.elim) λb hb=>hb.imp id λh=>h.1) EP (oO.below o9 ω) (.inr ⟨aC _,by omega⟩) q1 aO bU (.inr ⟨by omega,by omega⟩) (.inr ⟨by omega,by omega⟩) (.inr ⟨by omega,by omega⟩) a hsz t1 t3 t4 t6 t30) ?_
  rintro e a' iV ⟨rfl,D_q,rfl,hr⟩;obtain⟨oZ,ES,k1,k2,c7,gJ,pg,wo⟩:=hr.j;refine⟨rfl,D_q,rfl,I.nodup_cons.2 ⟨λh=>?_,hnd⟩,oZ,ES,λE_q hE=>?_,?_,k2,?_,pg,wo⟩
  .have:=TV D_q h;have:=hr.d0;omega
  .rcases cQ.1 hE with rfl |hE
   .exact⟨k1,hr.d1⟩
   .refine⟨gJ E_q (.inl (hD E_q hE).1),?_⟩;have h1:=TV E_q hE;exact(hr.t.block E_q ω λh=>h (.inl (.inl (hD E_q hE).1))).trans ((tQ.block E_q h1 λh=>h).trans (hD E_q hE).2)
  .have h:=EP.turns hr.t λb hb h=>h hb
   exact⟨h.y,h.k,h.r,h.l,h.m,gJ _ h.my,gJ _ h.AH,λb hb=>gJ _ (h.mr b hb),h.rl,h.rm⟩
  .rw[c7,hxs,aB1]
 have aB5:=Lib.hid Gd;have fF:=Lib.hid (⟨hS.l,hS.k,hS.l.lt,hS.k.lt⟩:bH W cc 86 #[.map (O cO)]/\bH W (B+1) 98 #[.slice ek K.length kc]/\cc<W.heap.size/\B+1<W.heap.size);obtain⟨tm,df⟩:=a;dsimp only at hsz t1 t3 t4 t23 t24 hdf;subst hdf;obtain⟨g0,g1,g2,g3,g4,g5,g6,g7,g8,g9,g10,g11,g12,g13,g14,g15,g16,g17,g18,g19,g20,g21,g22,g23,g24,Eo,Ep,Er,Es,Et,Eu,Ev,Ew,Ex,Ey,Ez,EA,EB,EC,ED,EE,EF,EG,EH,EI,EJ,EK,EL,rfl⟩:=H6 hsz;have u1:g1=_:=t1;have u3:g3=_:=t3;have u4:g4=_:=t4;have TW:g23=_:=t23;have TX:g24=_:=t24;clear hsz t1 t3 t4 t23 t24;subst u1;subst u3;subst u4;subst TW;subst TX;obtain⟨w1,hw1⟩:∃w1,W.alloc (.cells #[.int .i64 (i:N)] 3)=w1:=⟨_,rfl⟩;have hb0:Below W.heap.size W w1:=by rw[<-hw1];exact(qg _ W).alloc (aC _) _
 have oO:bH w1 W.heap.size 3 #[.int .i64 (i:N)]:=by rw[<-hw1];exact bH.new _ _ _
 have aB6:=Lib.hid (show W.heap.size<w1.heap.size by rw[<-hw1];simp);have dJ:=(hS.l.below hb0 hS.l.lt).cell 0;have z4:=(hS.k.below hb0 hS.k.lt).cell 0;have Fm:=oO.cell 0;have aB7:=Lib.hid (ad0 ek K.length kc cO i w1);have hwi:be.i64.wrap ((i:N)+1)=(i:N)+1:=Y' _ ω;clear Gd hY hJ bR hS hD Ii hxs zl Ij TV hR hK p5;change Lz _ _ _ (LC (yO 8 _ _) (LC (mN.cond _ _ _) (LC (QM 3 (LC (yO 9 _ _) (LC (yO 10 _ _) (QM 4 _)))) (yO 16 _ _)))) _ _ _
 gi_wp2_with (first
  |((first |refine⟨trivial,rfl,?_⟩|refine⟨trivial,?_⟩|skip);gi_at_call 99;refine(wQ.2 aB7.out).mono ?_;rintro e w3 ⟨rfl,q1,aO,bU,eO,oI⟩))
 refine zS (aB5.out _ w1 w3 hb0 aB6.out oO oI eO q1 aO bU rfl rfl rfl rfl rfl rfl rfl) ?_;rintro e a' iV ⟨rfl,D_q,rfl,aB8,oZ,ES,p1,p2,p3,fL,l5,pE⟩
 gi_wp2
 exact⟨by omega,rfl,rfl,rfl,rfl,rfl,by go_num,D_q::jt,oZ,ES,rfl,aB8,p1,p2,p3,fL,l5,pE⟩
end
section
attribute [local go_sem] Oper.semAt_some
set_option maxHeartbeats 4000000
def Mu{W:du}{b:E}{t:ed}{cs:fh Value}(h:W.heap[b]? =O (.cells cs t (0,0))):bH W b t cs:=h
def aB9{R:E->Prop}{cc s4 cO mn pairs:E}{left:N->N}{K:I N}(hp:pairs<=900)(hK:K.Pairwise (· < ·))(aea:∀x,x∈K↔left x≠0)(hmn:mn<=1000)(w0:du)
  (hl:bH w0 cc 86 #[.map (O cO)]) (hpb:bH w0 s4 3 #[.int .i64 (pairs:N)]) (hm:jO w0 cO mn left) (rl:R cc) (rp:R s4) (rm:R cO) (hR:∀b,R b->b<w0.heap.size):
  zc vR Tryz.prog 98 #[.pointer (O ⟨cc,0,bs⟩),.pointer (O ⟨s4,0,bs⟩)] R (λ_=>lm) (λT=>T∈mV left K pairs) (λps=>ps=mV left K pairs) w0:=by
 intro cP J W hb hJ hY HW;have vu:aX (λb=>¬b<w0.heap.size) w0 W:=⟨hb.os,hb.tape,hb.output,hb.size,λk h1 h2=>hb.block k h1⟩;have TY:=vu.blk hl λh=>h (hR _ rl)
 have aeb:=vu.blk hpb λh=>h (hR _ rp)
 have TZ:=hm.turns vu λh=>h (hR _ rm)
 obtain⟨es,clock,ks,e1,e2,e3,bX,qG,GB,T3,aec⟩:=aA7 TZ;have T4:(ks.mergeSort λx y=>decide (x<=y))=K:=aA9 (aA8 GB) hK λx=>by rw[I.mem_mergeSort,T3,aea]
 have jG:K.length<=1000:=by rw[<-T4,I.length_mergeSort];omega
 have p5:∀x∈K,lf x:=λx hx=>aec x ((T3 x).2 ((aea x).1 hx))
 refine XV 0 cP cc s4 cO es clock ks W _ (TY.cell 0) e1 e2 e3 bX ω λa' bS hT=>?_
 have Mn:∀b,R b->b<W.heap.size:=λb h=>iy (hR b h) hb.size
 have hg:aX (λ_=>lm) W bS:=(aX.refl _ W).grown hT.gr λr h=>by cases h
 obtain⟨v,tr,fE⟩:=hT.b4;rw[T4]at fE;have hkn:ks.length=K.length:=by rw[<-T4,I.length_mergeSort]
 rw[hkn]at fE;obtain⟨ek,kc,rfl⟩:=mf fE;have fV:=λb h=>Mc (b:=b) fE h
 have hM1:∀b,W.heap.size<=b/\b<bS.heap.size->b<bS.heap.size:=λb h=>h.2
 have mU:W.heap.size<bS.heap.size:=(Mu hT.b3).lt;have Sm:W.heap.size+1<bS.heap.size:=(Mu tr).lt;have hst:tP (λb=>W.heap.size<=b/\b<bS.heap.size) R W.heap.size cP cc cO mn kc ek K left bS:=
  ⟨Mu hT.b3,Mu tr,vN fE ω,hg.blk TY λh=>h,TZ.turns hg λh=>h,⟨aC _,mU⟩,⟨by omega,Sm⟩,λb hb=>by have:=fV b hb;exact⟨by omega,this.2⟩,rl,rm⟩
 have aed:J [] (λb=>W.heap.size<=b/\b<bS.heap.size) bS:=hJ _ _ _ _ _ HW hg λb hb=>.inr hb.1
 have hds:∃(jt:I E)(M:E->Prop)(xs:I (b7 (N×N))),([]:I ö)=jt.map mark/\jt.Nodup/\(∀D_q∈jt,M D_q/\bS.heap[D_q]? =O (.deferred (O [])))/\tP M R W.heap.size cP cc cO mn kc ek K left bS/\J xs M bS/\xs.map (λx:b7 (N×N)=>x.2.2)=BS left K 0/\(∀b,M b->W.heap.size<=b)/\∀b,M b->b<bS.heap.size:=
  ⟨[],_,[],rfl,I.nodup_nil,λD_q h=>(iL h).elim,hst,aed,rfl,λb h=>h.1,λb h=>h.2⟩
 have aee:EN R (λT=>T∈mV left K pairs) W.heap.size cP J:=λpre x O_q dr h1 h2 h3 h4=>hY pre x O_q dr h1 (λb h=>.inr (h2 b h)) h3 h4
 have bR:∀n,n<=pairs->∀d∈dQ left n K [],∀u∈dQ left n (dY d K) [],bQ d u∈mV left K pairs:=λn hn d hd u hu=>by
  unfold mV;exact sp.2 ⟨n,DJ.2 ω,sp.2 ⟨d,hd,rK.2 ⟨u,hu,rfl⟩⟩⟩
 have aef:=Lib.hid (fun(a:Zq) (ET:du) (i:E) (hL:Mt J R W.heap.size cP cc cO mn kc pairs ek K left i a ET) (hi:i<pairs+1)=>aB4 aee hJ Mn hp hK jG p5 bR hL hi);have Me:=Lib.hid hJ;obtain⟨tm,df⟩:=a';obtain⟨hsz,t0,t1,t2,t3,t4,_,hdf,_,_,_⟩:=hT;dsimp only at hsz t0 t1 t2 t3 t4 hdf;subst hdf;have x2:=(hg.blk aeb λh=>h).cell 0;have hwp:be.i64.wrap ((pairs:N)+1)=(pairs:N)+1:=Y' _ ω;have aeg:=Lib.hid hds;obtain⟨g0,g1,g2,g3,g4,g5,g6,g7,g8,g9,g10,g11,g12,g13,g14,g15,g16,g17,g18,g19,g20,g21,g22,g23,g24,Eo,Ep,Er,Es,Et,Eu,Ev,Ew,Ex,Ey,Ez,EA,EB,EC,ED,EE,EF,EG,EH,EI,EJ,EK,EL,rfl⟩:=H6 hsz;have aG:g0=_:=t0;have u1:g1=_:=t1;have u2:g2=_:=t2;have u3:g3=_:=t3;have u4:g4=_:=t4;clear hsz t0 t1 t2 t3 t4;subst aG;subst u1;subst u2;subst u3;subst u4;clear hY hJ aee bR hds hst aed HW e1 e2 e3 bX T3 aec tr fE fV TY aeb TZ hl hpb hm;change Lz _ _ _ (LC (yO 7 _ _) (QM 2 (mN.loop _))) _ _ _
 gi_wp2
 refine wpIn_loop (λa w=>∃i,Mt J R W.heap.size cP cc cO mn kc pairs ek K left i a w) (λa _=>pairs+1-(intOf (a.tmps.getD 24 lk)).toNat) ⟨0,by omega,by simp,rfl,rfl,rfl,rfl,rfl,aeg.out⟩ ?_;rintro a ET ⟨i,hL⟩;by_cases hi:i<pairs+1
 .refine zS (aef.out a ET i hL hi) ?_;rintro e a2 dr ⟨rfl,h⟩;refine⟨⟨i+1,h⟩,?_⟩;show pairs+1-(intOf (a2.tmps.getD 24 lk)).toNat<pairs+1-(intOf (a.tmps.getD 24 lk)).toNat;rw[h.t24,hL.t24];simp[intOf];omega
 .obtain⟨hi2,hsz,t1,t3,t4,t23,t24,jt,M,xs,hdf,hnd,hD,hS,Ii,hxs,zl,Ij⟩:=hL;obtain rfl:i=pairs+1:=by omega
  have oc:=Lib.hid (⟨hnd,hD,Ii,hxs⟩:jt.Nodup/\(∀D_q∈jt,M D_q/\ET.heap[D_q]? =O (.deferred (O [])))/\J xs M ET/\xs.map (λx:b7 (N×N)=>x.2.2)=BS left K (pairs+1));have aCa:(((pairs+1:E):E):N)=(pairs:N)+1:=by omega
  rw[aCa]at t24;have c9:bP ((pairs:N)+1<(pairs:N)+1)=ao:=ab ω;obtain⟨tm,df⟩:=a;dsimp only at hsz t1 t3 t4 t23 t24 hdf;subst hdf;obtain⟨g0,g1,g2,g3,g4,g5,g6,g7,g8,g9,g10,g11,g12,g13,g14,g15,g16,g17,g18,g19,g20,g21,g22,g23,g24,Eo,Ep,Er,Es,Et,Eu,Ev,Ew,Ex,Ey,Ez,EA,EB,EC,ED,EE,EF,EG,EH,EI,EJ,EK,EL,rfl⟩:=H6 hsz;have u1:g1=_:=t1;have u3:g3=_:=t3;have u4:g4=_:=t4;have TW:g23=_:=t23;have TX:g24=_:=t24;clear hsz t1 t3 t4 t23 t24;subst u1;subst u3;subst u4;subst TW;subst TX;clear hnd hD hS Ii hxs zl Ij aeg aef
  gi_wp2
  refine ad2 jt ET oc.out.1 (λD_q h=>(oc.out.2.1 D_q h).2) λw' ht=>?_
  exact⟨_,results_none rfl _ _ _,⟨_,rfl⟩,xs,oc.out.2.2.2,M,Me.out _ _ _ _ _ oc.out.2.2.1 (ht.mono λb hb=>(oc.out.2.1 b hb).1) λb hb=>.inl hb⟩
end
section
attribute [local go_sem] Oper.semAt_some
set_option maxHeartbeats 4000000
abbrev e8:=I (N×N)
def EU(lt:e8->e8->dF)(G:e8->Prop)(B:E)(a:E->Prop)(W:du):I e8->Value->dF->Prop
 |[],v,b=>v=.slice bs 0 0/\b=ao
 |p::r,v,b=>b=D/\∃x:b7 (N×N),v=eJ x/\x.2.2=eC lt p r/\W.ownsRow B 67 2 v x.2.2.length (jD x.2.2)/\(∀k,O k=v.ownBlock->¬a k)/\G x.2.2
def Mv{α:Type}(lt:α->α->dF):∀(r:I α)(p x:α),eC lt p (r++[x])=if lt x (eC lt p r)then x else eC lt p r
 |[],p,x=>rfl
 |y::r,p,x=>Mv lt r (if lt y p then y else p) x
def EU.turns{lt:e8->e8->dF}{G:e8->Prop}{B:E}{c d T:E->Prop}{W e:du}{l:I e8}{v:Value}{b:dF}(h:EU lt G B c W l v b)(t:aX T W e)(q:∀k,T k->c k)(j:∀k,d k->c k\/W.heap.size<=k):EU lt G B d e l v b:=by
 cases l with
 |nil=>exact h
 |cons r u=>
  obtain⟨m,x,n,o,f,i,p⟩:=h;exact⟨m,x,n,o,t.own f λk a g=>i k a (q k g),λk a g=>by
   rcases j k g with g|g
   .exact i k a g
   .have:=(f.lt k a.symm).2;omega,p⟩
structure vS(lt:e8->e8->dF)(G:e8->Prop)(w w1:du)(fv:Value)(pre:I (b7 (N×N)))(O_q:E->Prop)(W:du):Prop where
 b:Below w.heap.size w W
 z:w1.heap.size<=W.heap.size
 r:bH W w.heap.size 90 #[fv]
 lo:∀k,O_q k->w1.heap.size<=k
 s:∃v bb,bH W (w.heap.size+1) 26 #[v]/\bH W (w.heap.size+2) 4 #[.bool bb]/\EU lt G w1.heap.size O_q W (pre.map λx:b7 (N×N)=>x.2.2) v bb
def vS.go{lt:e8->e8->dF}{G:e8->Prop}{w c:du}{fv:Value}{pre:I (b7 (N×N))}{a f:E->Prop}{d dr:du}(m:c.heap.size=w.heap.size+3)(h:vS lt G w c fv pre a d)(t:aX a d dr)(i:∀k,f k->a k\/d.heap.size<=k):vS lt G w c fv pre f dr:=by
 have n:=h.z;have e:∀k,k<c.heap.size->¬a k:=λk b g=>by have:=h.lo k g;omega
 obtain⟨v,j,l,s2,s3⟩:=h.s;refine⟨h.b.trans (t.below (λk b=>by have:=h.lo k b;omega) h.b.size),cD h.z t.size,t.blk h.r (e _ ω),λk b=>?_,v,j,t.blk l (e _ ω),t.blk s2 (e _ ω),s3.turns t (λ_ h=>h) i⟩;rcases i k b with g|g
 .exact h.lo k g
 .omega
def T5(lt:e8->e8->dF)(B:E)(W:du):I e8->Value->dF->Prop
 |[],v,b=>v=.slice bs 0 0/\b=ao
 |p::r,v,b=>b=D/\∃A c,v=.slice A (eC lt p r).length c/\W.ownsRow B 67 2 v (eC lt p r).length (jD (eC lt p r))
section
variable{lt:e8->e8->dF}{G:e8->Prop}{R:E->Prop}{w Z:du}{fv:Value}{pre:I (b7 (N×N))}{x:b7 (N×N)}{Y:E->Prop}{W dr:du}
def aeh(j:Z.heap.size=w.heap.size+3)(e:∀b,R b->b<w.heap.size)(a:vS lt G w Z fv pre Y W)(i:nH vR Z.heap.size Y G x W)(t:aX (λk=>k=w.heap.size+1\/k=w.heap.size+2) W dr)
  (f:∃v d,bH dr (w.heap.size+1) 26 #[v]/\bH dr (w.heap.size+2) 4 #[.bool d]/\EU lt G Z.heap.size (eA Y x) dr ((pre.map λx:b7 (N×N)=>x.2.2)++[x.2.2]) v d):
  vS lt G w Z fv (pre++[x]) (eA Y x) dr/\aX (λb=>¬(eA Y x b\/R b)) W dr:=by
 refine⟨⟨a.b.trans (t.below (λk c=>by omega) a.b.size),cD a.z t.size,t.blk a.r ω,λk c=>a.lo k c.1,by rw[B'];exact f⟩,t.mono λk c g=>?_⟩;rcases g with g|g
 .have:=a.lo k g.1;omega
 .have:=e k g;omega
def GT(l:Z.heap.size=w.heap.size+3)(m:∀b,R b->b<w.heap.size)(e:vS lt G w Z fv pre Y W)(a:nH vR Z.heap.size Y G x W)(d:Below W.heap.size W dr)(n:∀p r,(pre.map λx:b7 (N×N)=>x.2.2)=p::r->lt x.2.2 (eC lt p r)=D):
  vS lt G w Z fv (pre++[x]) (eA Y x) ((dr.setCell ⟨w.heap.size+1,0,bs⟩ (eJ x)).setCell ⟨w.heap.size+2,0,bs⟩ (.bool D))/\aX (λb=>¬(eA Y x b\/R b)) W ((dr.setCell ⟨w.heap.size+1,0,bs⟩ (eJ x)).setCell ⟨w.heap.size+2,0,bs⟩ (.bool D)):=by
 obtain⟨v,q,j,s2,s3⟩:=e.s;have f:aX (λk=>k=w.heap.size+1\/k=w.heap.size+2) W ((dr.setCell ⟨w.heap.size+1,0,bs⟩ (eJ x)).setCell ⟨w.heap.size+2,0,bs⟩ (.bool D)):=
  (((aX.refl _ W).after d).setCell (p:=⟨w.heap.size+1,0,bs⟩) (.inl rfl) _).setCell (p:=⟨w.heap.size+2,0,bs⟩) (.inr rfl) _
 refine aeh l m e a f ⟨eJ x,D,?_,?_,?_⟩
 .exact((j.below d j.lt).set 0 (eJ x)).hU (by show w.heap.size+1≠w.heap.size+2;omega) _
 .exact((s2.below d s2.lt).hU (by show w.heap.size+2≠w.heap.size+1;omega) _).set 0 (.bool D)
 .have i:((dr.setCell ⟨w.heap.size+1,0,bs⟩ (eJ x)).setCell ⟨w.heap.size+2,0,bs⟩ (.bool D)).ownsRow Z.heap.size 67 2 (eJ x) x.2.2.length (jD x.2.2):=f.own a.own λk c g=>by
   have:=(a.own.lt k c.symm).1;omega
  cases o:(pre.map λx:b7 (N×N)=>x.2.2)with
  |nil=>exact⟨rfl,x,rfl,rfl,i,λk c g=>g.2 c,a.good⟩
  |cons p r=>exact⟨rfl,x,rfl,by show x.2.2=eC lt p (r++[x.2.2]);rw[Mv,dA (n p r o)],i,λk c g=>g.2 c,a.good⟩
def aCb(n:Z.heap.size=w.heap.size+3)(o:∀b,R b->b<w.heap.size)(c:vS lt G w Z fv pre Y W)(e:nH vR Z.heap.size Y G x W)(q:Below W.heap.size W dr){p:e8}{r:I e8}(z:(pre.map λx:b7 (N×N)=>x.2.2)=p::r)(u:lt x.2.2 (eC lt p r)=ao):
  vS lt G w Z fv (pre++[x]) (eA Y x) dr/\aX (λb=>¬(eA Y x b\/R b)) W dr:=by
 obtain⟨v,d,B,s2,s3⟩:=c.s;have a:aX (λ_=>lm) W dr:=(aX.refl _ W).after q;refine aeh n o c e (a.mono λ_ h=>h.elim) ⟨v,d,a.blk B λh=>h,a.blk s2 λh=>h,?_⟩;rw[z]at s3 ⊢;obtain⟨f,y,i,j,k,l,m⟩:=s3;exact⟨f,y,i,by show y.2.2=eC lt p (r++[x.2.2]);rw[Mv,db (by rw[u];decide)];exact j,a.own k λ_ _ h=>h,λA t g=>l A t g.1,m⟩
end
def aCc{gf of:ya}{lb ob:fh Value}{R:E->Prop}{G:e8->Prop}{S:I e8->Prop}{r5:e8->e8->N}(w:du)(hseq:zc vR Tryz.prog gf lb R (λ_=>lm) G S w)(eg:∀args w,(Ki gf args).run Tryz.prog w=.ok (.enter gf args) w)(T6:∀args w,(Ki of args).run Tryz.prog w=.ok (.enter of args) w)(hR:∀b,R b->b<w.heap.size)
  (aei:∀(W:du)(x y:e8)(A gv:da wu)(c c2:E),Below w.heap.size w W->W.ownsRow w.heap.size 67 2 (.slice A x.length c) x.length (jD x)->W.ownsRow w.heap.size 67 2 (.slice gv y.length c2) y.length (jD y)->G x->G y->
    DG Tryz.prog of (#[.slice A x.length c,.slice gv y.length c2]++ob) W λe w'=>e=.returned (.int .i64 (r5 x y))/\Below W.heap.size W w'):
  DG Tryz.prog 46 #[.func (.func gf) #[] lb,.agg #[.func (.func of) #[] ob]] w λe w'=>∃v b ps,e=.returned (.tuple #[v,.bool b])/\S ps/\T5 (λx y=>decide (r5 x y<0)) w.heap.size w' ps v b/\Below w.heap.size w w':=by
 have adI:Tryz.prog.follows .mixedOrders=D:=by kernel_rfl
 obtain⟨w1,hw1⟩:∃w1,((w.alloc (.cells #[.func (.func of) #[] ob] 90)).alloc (.cells #[.slice bs 0 0] 26)).alloc (.cells #[.bool ao] 4)=w1:=⟨_,rfl⟩;have hs1:w1.heap.size=w.heap.size+3:=by rw[<-hw1];simp
 have c9:Below w.heap.size w w1:=by rw[<-hw1];exact(((qg _ w).alloc (aC _) _).alloc τ _).alloc (by simp;omega) _
 have i0:bH w1 w.heap.size 90 #[.func (.func of) #[] ob]:=by rw[<-hw1];exact((bH.new _ _ _).alloc _).alloc _
 have i1:bH w1 (w.heap.size+1) 26 #[.slice bs 0 0]:=by rw[<-hw1];exact(bH.new' _ _ _ _ τ).alloc _
 have i2:bH w1 (w.heap.size+2) 4 #[.bool ao]:=by rw[<-hw1];exact bH.new' _ _ _ _ τ
 have aej:zc vR Tryz.prog gf lb R (λ_=>lm) G S w1:=λl J W hb=>hseq l J W (c9.trans (hb.mono c9.size))
 have aek:=Lib.hid (⟨aej,eg⟩:zc vR Tryz.prog gf lb R (λ_=>lm) G S w1/\∀args w,(Ki gf args).run Tryz.prog w=.ok (.enter gf args) w);have ael:=Lib.hid (⟨aei,T6⟩:(∀(W:du)(x y:e8)(A gv:da wu)(c c2:E),Below w.heap.size w W->W.ownsRow w.heap.size 67 2 (.slice A x.length c) x.length (jD x)->W.ownsRow w.heap.size 67 2 (.slice gv y.length c2) y.length (jD y)->G x->G y->
   DG Tryz.prog of (#[.slice A x.length c,.slice gv y.length c2]++ob) W λe w'=>e=.returned (.int .i64 (r5 x y))/\Below W.heap.size W w')/\∀args w,(Ki of args).run Tryz.prog w=.ok (.enter of args) w)
 have Mw:=Lib.hid hw1;clear aei T6 hseq aej hw1;refine(wQ (n:=0)).1 ?_;refine Ã Tryz.func46 rfl trivial ?_ rfl;simp only[Tryz.ntmps46,I.size_toArray,la,IJ,E.reduceAdd,E.reduceSub,UU,U0,I.push_toArray,I.append_toArray,ts,Aj]
 gi_wp2
 rw[Mw.out];refine aAx vR (gf:=gf) (lb:=lb) (R:=R) (iU:=λ_=>lm) (G:=G) (S:=S) (w0:=w1) rfl aek.out.2 aek.out.1 (qg _ _) rfl (λ_ h=>h.elim) (λb h=>by have:=hR b h;omega)
  (vS (λx y=>decide (r5 x y<0)) G w w1 (.func (.func of) #[] ob)) (λpre O_q O' bS dr h1 h2 h3=>h1.go hs1 h2 h3) ⟨c9,aC _,i0,λ_ h=>h.elim,_,_,i1,i2,rfl,rfl⟩
  (λx=>{tmps:= #[.func (.func gf) #[] lb,.agg #[.func (.func of) #[] ob],lk,.pointer (O ⟨w.heap.size,0,bs⟩),.slice bs 0 0,.bool ao,.pointer (O ⟨w.heap.size+1,0,bs⟩),.pointer (O ⟨w.heap.size+1+1,0,bs⟩),eJ x,.func (.func gf) #[] lb,eJ x,lk,lk,lk,lk,lk,lk,lk,lk,lk,lk,lk,lk,lk],defers:=[]}) ?assign ?body ?done
 case assign=>
  intro l x W K hK
  gi_wp2
  exact hK
 case body=>
  rintro l pre ⟨A,c,xs⟩ O_q W hI hlo ki cA;obtain⟨v,bb,s1,s2,s3⟩:=hI.s;have yy:=Lib.hid (fun(dr:du) (hb:Below W.heap.size W dr) (p:e8) (r:I e8) (hp:(pre.map λx:b7 (N×N)=>x.2.2)=p::r) (hlt:bP (r5 xs (eC (λx y=>decide (r5 x y<0)) p r)<0)=ao)=>aCb hs1 hR hI cA hb hp hlt);have Ik:=Lib.hid (fun(dr:du) (hb:Below W.heap.size W dr) (hlt:∀p r,(pre.map λx:b7 (N×N)=>x.2.2)=p::r->bP (r5 xs (eC (λx y=>decide (r5 x y<0)) p r)<0)=D)=>GT hs1 hR hI cA hb hlt);have y0:=hI.r.cell 0;have y1:=s1.cell 0;have y2:=s2.cell 0;have dJ:=s1.frozen 0;have z2:=s2.frozen 0;have fF:=Lib.hid (⟨s1,s2,hI.b,cA,hI.r,hI.z⟩:bH W (w.heap.size+1) 26 #[v]/\bH W (w.heap.size+2) 4 #[.bool bb]/\Below w.heap.size w W/\nH vR w1.heap.size O_q G (A,c,xs) W/\bH W w.heap.size 90 #[.func (.func of) #[] ob]/\w1.heap.size<=W.heap.size);dsimp only[eJ];cases hp:(pre.map λx:b7 (N×N)=>x.2.2)with
  |nil=>
   rw[hp]at s3;obtain⟨rfl,rfl⟩:=s3;have Il:=Lib.hid (Ik.out W (qg _ _) (λp r h=>by rw[hp]at h;cases h));clear hI cA s1 s2 yy Ik hlo ki hp hs1 c9 i0 i1 i2 Mw
   gi_wp2
   refine⟨λf h=>(nomatch h),?_⟩
   go_at_K
   gi_wp2
   exact Il.out
  |cons p r=>
   rw[hp]at s3;obtain⟨rfl,⟨T7,cb,Im⟩,rfl,g3,g4,g5,g6⟩:=s3;have JN:Im=eC (λx y=>decide (r5 x y<0)) p r:=g3;have hc:=ael.out.1 W xs Im A T7 c cb fF.out.2.2.1 (vN fF.out.2.2.2.1.own ω) (vN g4 ω) cA.good g6;have rZ:=Lib.hid hc;have BN:=Lib.hid hp;have T6:=ael.out.2;have JZ:=Lib.hid JN;have T8:=Lib.hid (show w.heap.size+3<=W.heap.size by have:=hI.z;omega);dsimp only[eJ]at y1 fF;clear hI cA s1 s2 hlo ki hp hs1 c9 i0 i1 i2 Mw hc g3 g4 g5 g6 JN eg;cases hb:bP (r5 xs Im<0)with
   |true=>
    have gz:=hb;have Il:=Lib.hid (λdr gK=>Ik.out dr gK (λp' r' h=>by rw[BN.out]at h;injection h with h1 h2;subst h1;subst h2;rw[<-JZ.out];exact hb));clear yy Ik
    gi_wp2_with ((first |refine⟨trivial,rfl,?_⟩|refine⟨trivial,?_⟩|skip);refine(D' l (wQ.2 rZ.out)).mono ?_;rintro e dS ⟨rfl,kz⟩;have c1:=(fF.out.1.below kz fF.out.1.lt).cell 0;have c2:=(fF.out.2.1.below kz fF.out.2.1.lt).cell 0;have f1:=(fF.out.1.below kz fF.out.1.lt).frozen 0;have f2:=(fF.out.2.1.below kz fF.out.2.1.lt).frozen 0)
    exact Il.out _ kz
   |false=>
    have Il:=Lib.hid (λdr gK=>yy.out dr gK p r BN.out (by rw[<-JZ.out];exact hb));clear yy Ik
    gi_wp2_with ((first |refine⟨trivial,rfl,?_⟩|refine⟨trivial,?_⟩|skip);refine(D' l (wQ.2 rZ.out)).mono ?_;rintro e dS ⟨rfl,kz⟩)
    exact Il.out _ kz
 case done=>
  intro D_q xs O_q W hD Ig hS hI Ih;obtain⟨v,bb,s1,s2,s3⟩:=hI.s;have y1:=s1.cell 0;have y2:=s2.cell 0;have oc:=Lib.hid (⟨hI.b,hI.z,s3,hI.lo D_q Ig⟩:Below w.heap.size w W/\w1.heap.size<=W.heap.size/\EU (λx y=>decide (r5 x y<0)) G w1.heap.size O_q W (xs.map λx:b7 (N×N)=>x.2.2) v bb/\w1.heap.size<=D_q);have RS:=Lib.hid hS;have HY:=Lib.hid (⟨Ih,Ig⟩:W.heap[D_q]? =O (.deferred (O []))/\O_q D_q);have T8:=Lib.hid hs1;clear hI s1 s2 s3 hS Ih hs1 c9 i0 i1 i2 Mw hD Ig eg
  gi_wp2
  gi_region
  all_goals gi_wp2
  all_goals refine⟨by simp,.inl ⟨D_q,_,rfl,run_takeDeferred (by exact HY.out.1),?_⟩⟩
  all_goals
   refine⟨_,results_tmp2 rfl _ _ _,v,bb,_,rfl,RS.out,?_,?_⟩
   .have hT:aX (λk=>k=D_q) W (W.drew.putObj D_q (.deferred bs)):=((aX.refl (λk=>k=D_q) W).drew).putObj (l:=D_q) rfl _;have h3:=oc.out.2.2.1;cases hp:(xs.map λx:b7 (N×N)=>x.2.2)with
    |nil=>rw[hp]at h3;exact h3
    |cons p r=>
     rw[hp]at h3;obtain⟨g1,⟨T7,cb,Im⟩,g2,g3,g4,g5,g6⟩:=h3;have g3:Im=_:=g3;refine⟨g1,T7,cb,by rw[g2];unfold eJ;rw[g3],?_⟩;rw[<-g3];exact vN (hT.own g4 λk hk e=>g5 k hk (e ▸ HY.out.2)) (by have:=T8.out;omega)
   .exact oc.out.1.trans ((((aX.refl (λk=>k=D_q) W).drew).putObj (l:=D_q) rfl _).below (λk hk=>by have:=oc.out.2.2.2;have:=T8.out;omega) oc.out.1.size)
end
end Go.Proofs.YtdajfemhnlpegaaGreatDoor
namespace Go.Proofs.YtdajfemhnlpegaaGreatDoor
open Go.RowKit Sv Go.Proofs.Tryz
noncomputable section
def zn:=NO f42
def r6(l:I N)(k:E):bD:={n:=15,sl:=[(5,lv l),(6,iv l.length),(7,iv k)],bF:=[],next:=64}
def aem:=IN 42 [.list ao (.int .i64)] [.int .i64] D (λd=>decide (jC (α:=N) d.1<=1000)) λd=>(dL d.1,())
def aen(l:I N)(h:l.length<=1000):Holds em D 42 [lv l] (iv (dL l)):=by
 have b:=ba;refine bK zn func42 λw F=>?_
 refine cE b 2 (wy [] 0:cL (aA []) (fl zn []) 2 15 [lv l] 1 .normal [] (r6 l 0)) ?_;refine c_q {k:E//k<=l.length/\dL l=dL (l.drop k)} 0 (cat zn [1,0,1,0,0]) ((fl zn []).drop 3) (λk=>r6 l k.1) (λk=>l.length-k.1) ⟨0,gt _,rfl⟩ ?_;rintro⟨k,f,a⟩;have f:k<=l.length:=f;have a:dL l=dL (l.drop k):=a;by_cases c:k<l.length
 .rw[kl c,dL,<-getD_lt c]at a;by_cases e:l.getD k 0=0
  .refine aT (s:=r6 l k) b (wy [ag (ω:(k:N)<(l.length:N)),ag c,aa (cS.mpr e),yi (ω:i6 ((k:N)+1))] 67903489:aR (aA []) (fl zn [1,0,1,0,0]) (r6 l k) 5 .normal [] (r6 l (k+1))) ?_;rw[db ω]at a;exact⟨⟨k+1,c,a⟩,by show l.length-(k+1)<l.length-k;omega,rfl,rfl⟩
  .rw[dA e]at a;have d:bw (aA []) (fl zn [1,0,1,0,0]) (r6 l k) 7 f42 D (iv (l.getD k 0)):=wy [ag (ω:(k:N)<(l.length:N)),ag c,aa (eX.mpr e)] 794625;rw[<-a]at d;exact bM (s:=r6 l k) b d
 .refine aT (s:=r6 l k) b (wy [az (ω:¬(k:N)<(l.length:N))] 1:aR (aA []) (fl zn [1,0,1,0,0]) (r6 l k) 2 (.exit 0) [] (r6 l k)) ?_;refine bY (cg ?_);rw[pB ω]at a;have d:bw (aA []) ((fl zn []).drop 3) (r6 l k) 1 f42 D (iv 0):=wy [] 0;rw[show(0:N)=dL l from a.symm]at d;exact bM (s:=r6 l k) b d
def aCi:aem.Ok em:=λ⟨l,_⟩ h=>aen l (cC h)
end
end Go.Proofs.YtdajfemhnlpegaaGreatDoor
namespace Go.Proofs.YtdajfemhnlpegaaGreatDoor
open Go.RowKit Go.Shelf Sv
attribute [local go_sem] Oper.semAt_some run_store_func
set_option maxHeartbeats 4000000
def aeo{w w':du}{F:Env}(i:nT w F)(c:Sv.sN F)(j:Below w.heap.size w w'):Sv.sN (l9 w'):=λb p k=>by
 obtain⟨A,f,g⟩:=c b p k;obtain⟨e,d,a⟩:=i.fz b A f;exact⟨A,wK (bm.2 ⟨e,d,(j.block b (cy.1 a).1).trans a⟩),g⟩
def aep(F:Env):∀l:I (N×N),aE F (cY.flat l) (jD l)
 |[]=>.nil
 |p::l=>by
  show aE F (.raw (.int .i64 p.1):: .raw (.int .i64 p.2)::cY.flat l) (.int .i64 p.1:: .int .i64 p.2::jD l);exact .cons (.raw _) (.cons (.raw _) (aep F l))
def T9{w:du}{F:Env}{a:E}{v:Value}{l:I (N×N)}(h:w.ownsRow a 67 2 v l.length (jD l))(i:∀b A,a<=b->jx w b=O A->F.fz b=O A):Den F (pl l) v:=by
 rcases h.2 with⟨rfl,f⟩|⟨g,o,c,rfl,n,j,k,p,q,m⟩
 .rw[ix f];exact .ff λe=>by cases e
 .have d:(cY.flat l).length=2*l.length:=wa l;refine .bh (A:=c) (b:=g) (off:=0) (i g c n (bm.2 ⟨_,_,j⟩)) (by rw[d];omega) rfl ?_ k λe=>by cases e
  rw[iW,d,E.mul_comm,m];exact aep F l
def aeq{w:du}{a:E}:∀b A,a<=b->jx w b=O A->(l9 w).fz b=O A:=λb A _ h=>wK h
def zo(W:du)(b:E)(q:cl):Prop:=∃ys:fh Value,bH W b 96 ys/\aE (l9 W) (e6.flat [q]) ys.toList
def zo.below{W a:du}{b:E}{q:cl}(h:zo W b q)(e:Below W.heap.size W a):zo a b q:=by
 obtain⟨ys,c,j⟩:=h;refine⟨ys,c.below e c.lt,pz (λf ys=>oH (λk A l=>?_) _ f ys) _ _ j⟩;obtain⟨g,i,d⟩:=(JA W).fz k A l;exact wK (bm.2 ⟨g,i,(e.block k (cy.1 d).1).trans d⟩)
def zo.den{W:du}{b:E}{q:cl}(h:zo W b q):Den (l9 W) (.e9 e6 [q] 0 0) (.pointer (O ⟨b,0,bs⟩)):=by
 obtain⟨ys,d,a⟩:=h;have c:ys.toList.length=(e6.flat [q]).length:=a.length;have e:Den (l9 W) (.e9 e6 [q] 0 0) (.pointer (O ⟨b,0+(0*e6.size+0),bs⟩)):=by
  refine .e9 (A:=ys) (o:=0) (wK (bm.2 ⟨_,_,d⟩)) (by rw[<-c,KQ];omega) rfl ?_ τ;rw[iW,<-c,dx];exact a
 simpa using e
def Io{f:ya}{args:I af}{r:Value}{w:du}{F:Env}(h:Holds Tryz.prog D f args (.raw r))(i:nT w F)(c:Sv.sN F){vs:I Value}(j:aE F args vs):DG Tryz.prog f vs.toArray w λe b=>e=.returned r/\Below w.heap.size w b:=
 (h w F vs i c j).mono λe b ⟨x,k,a,d,_,_,g⟩=>by
   rw[d.cu]at a;exact⟨a,g⟩
def aCj{W:du}{b:E}{t:ed}{x y z:N}(h:bH W b t #[.int .i64 x,.int .i64 y,.int .i64 z]):Den (l9 W) (lv [x,y,z]) (.slice (O ⟨b,0,bs⟩) 3 3):=
 .bh (A:= #[.int .i64 x,.int .i64 y,.int .i64 z]) (b:=b) (off:=0) (wK (bm.2 ⟨_,_,h⟩)) (aC 3) rfl (.cons (.raw _) (.cons (.raw _) (.cons (.raw _) .nil))) (aC 3) λe=>by cases e
def aCk{W:du}{a:E}{q:cl}{x y:I (N×N)}{A d:da wu}{c b e:E}(f:Sv.sN (l9 W))(l:vG 5 q=D)(k:zo W a q)(i:W.ownsRow e 67 2 (.slice A x.length c) x.length (jD x))(j:W.ownsRow e 67 2 (.slice d y.length b) y.length (jD y))(m:ij x=0)(n:ij y=0):
  DG Tryz.prog 104 (#[.slice A x.length c,.slice d y.length b]++ #[.pointer (O ⟨a,0,bs⟩)]) W λg o=>g=.returned (.int .i64 (vM q x y))/\Below W.heap.size W o:=
 Io (vs:=[.slice A x.length c,.slice d y.length b,.pointer (O ⟨a,0,bs⟩)]) (aAu m n l) (JA W) f (.cons (T9 i aeq) (.cons (T9 j aeq) (.cons k.den .nil)))
def aCl(cO n:E)(w:du):
  DG Tryz.prog 47 #[.map (O cO),.int .i64 (n:N)] w λe w'=>e=.returned (.func (.func 98) #[] #[.pointer (O ⟨w.heap.size,0,bs⟩),.pointer (O ⟨w.heap.size+1,0,bs⟩)])/\
   bH w' w.heap.size 86 #[.map (O cO)]/\bH w' (w.heap.size+1) 3 #[.int .i64 (n:N)]/\Below w.heap.size w w':=by
 go_enter Tryz.func47,Tryz.ntmps47
 go_wp2_with fail
 go_ret
 refine⟨rfl,?_,bH.new' _ _ _ _ τ,?_⟩
 .exact(bH.new _ _ _).alloc _
 .exact((qg _ w).alloc (aC _) _).alloc τ _
def aCm(ys:fh Value)(w:du):
  DG Tryz.prog 49 #[.agg ys] w λe w'=>e=.returned (.agg #[.func (.func 104) #[] #[.pointer (O ⟨w.heap.size,0,bs⟩)]])/\bH w' w.heap.size 96 ys/\Below w.heap.size w w':=by
 go_enter Tryz.func49,Tryz.ntmps49
 go_wp2_with fail
 refine bodyPost_ret (v:= .agg #[.func (.func 104) #[] #[.pointer (O ⟨w.heap.size,0,bs⟩)]]) (by simp[results,Tryz.results49,go_sem]) rfl ?_;refine⟨rfl,?_,?_⟩
 .exact(bH.new _ _ _).alloc _
 .exact((qg _ w).alloc (aC _) _).alloc τ _
end Go.Proofs.YtdajfemhnlpegaaGreatDoor
namespace Go.Proofs.YtdajfemhnlpegaaGreatDoor
--PLAIN
def aer{α:Type}(lt:α->α->dF):I α->da α
 |[]=>bs
 |p::r=>O (eC lt p r)
--END
section
open Go.RowKit Go.Shelf Sv
attribute [local go_sem] Oper.semAt_some
set_option maxHeartbeats 4000000
--PLAIN
def nI(s:I (N×N)):N->N:=lT s s.length
def o4(s:I (N×N)):I N:=s.map ql
section
variable{s:I (N×N)}(h:cJ s=0)
def T':(o4 s).Pairwise (· < ·):=by
 have f:=xq h;have step:∀(j i:E),i<j->j<s.length->(g0 s i).1<(g0 s j).1:=by
  intro j;induction j with
  |zero=>intro i b;omega
  |succ j g=>
   intro i b a;have c:=(f.2.2 (j+1) a).2.2 ω;rw[E.add_sub_cancel]at c;by_cases e:i=j
   .rw[e];exact c
   .have:=g i ω ω;omega
 refine I.pairwise_iff_getElem.2 λi j b a d=>?_
 unfold o4 at b a ⊢;rw[mG]at b a;rw[I.getElem_map,I.getElem_map];have:=step j i d a;rwa[j3 b,j3 a]at this
def UV(x:N):x∈o4 s↔nI s x≠0:=by
 have b:=xq h;unfold nI o4;rw[adZ s.length (aC _) (λk a=>by have:=(b.2.2 k a).2.1;omega),dx]
def aCn:∀x∈o4 s,6<=x/\x<=400:=λx c=>by
 obtain⟨p,b,rfl⟩:=rK.1 c;obtain⟨k,a,rfl⟩:=I.mem_iff_getElem.1 b;have:=((xq h).2.2 k a).1;rwa[j3 a]at this
def Ua{n:E}(i:n<=4){T:I (N×N)}(d:T∈mV (nI s) (o4 s) n):ij T=0:=by
 obtain⟨f,v,rfl,g,a⟩:=(Xk (T' h)).1 d;have b:=aCn h;have e:=congrArg jC (zip_fst a.len);rw[mG]at e;refine TA ω λp c=>?_
 have j:=b p.1 (a.md _ (by rw[<-zip_fst a.len];exact sL c));have k:=b p.2 (a.mv _ (by rw[<-AF a.len];exact sL c));omega
end
def aCo(left:N->N)(K:I N)(n:E):∃r,mV left K n=[]::r:=by
 refine⟨((I.range n).map nX).flatMap λn=>(dQ left n K []).flatMap λd=>(dQ left n (K.filter λt=> !decide (t∈d)) []).map λv=>bQ d v,?_⟩;unfold mV;rw[I.range_succ_eq_map,I.flatMap_cons];rfl
def Ub{α:Type}{lt c:α->α->dF}:∀(l:I α)(b:α),(∀x∈b::l,∀y∈b::l,lt x y=c x y)->eC lt b l=eC c b l
 |[],_,_=>rfl
 |x::r,b,h=>by
  unfold eC;rw[h x τ b τ];refine Ub r _ λy e z f=>?_
  have d:∀u,u∈(if c x b=D then x else b)::r->u∈b::x::r:=λu a=>by
   rcases cQ.1 a with rfl |a
   .split<;>simp
   .simp[a]
  exact h y (d y e) z (d z f)
--END
noncomputable def BU(s:I (N×N))(q:cl)(n:E):I (N×N):=(aer (i7 (nG q)) (mV (nI s) (o4 s) n)).getD []
noncomputable def nF(s:I (N×N))(a:AT)(n:N):N:=dL [cJ s,eT a,oX (jC (α:=N×N) s) n]
def aCp{f a:du}{d:Env}{q:cl}{ys:I Value}{b:E}(n:aE d [iv q.1.1,.bh D aF q.1.2,iv q.2.1,.bh D aF q.2.2] ys)(l:nT f d)(m:Below f.heap.size f a)(e:bH a b 96 ys.toArray):zo a b q:=by
 refine⟨ys.toArray,e,?_⟩;have j:aE d (e6.cells q) ys:=n;have c:aE (l9 a) (e6.cells q) ys:=oH (λk A e=>by
  obtain⟨g,i,c⟩:=l.fz k A e;exact wK (bm.2 ⟨g,i,(m.block k (cy.1 c).1).trans c⟩)) _ _ _ j
 show aE (l9 a) (e6.cells q++[]) ys;rw[mS];exact c
def aCq{L n:N}(h:oX L n=0):0<=n/\n<=4:=by
 unfold oX at h;by_cases c:n<0\/n>4
 .rw[dA c]at h;cases h
 .omega
def aCr{a:AT}(h:eT a=0):ckR a=0:=by
 unfold eT at h;by_cases c:ckR a=0
 .exact c
 .rw[db c]at h;exact h
def aCs{s:I (N×N)}{a:AT}{n:N}(h0:cJ s=0)(h1:eT a=0)(h2:oX (jC (α:=N×N) s) n=0)(hz:a.size<=24):Holds Tryz.prog D 9 [pl s,sv a,iv n] (.tuple [pl (BU s (cW a) n.toNat),iv 0]):=by
 intro w F xs hF bR hd;obtain⟨x1,x2,x3,rfl,d1,d2,d3⟩:∃x1 x2 x3,xs=[x1,x2,x3]/\Den F (pl s) x1/\Den F (sv a) x2/\Den F (iv n) x3:=by
  cases hd with |cons d1 d2=>cases d2 with |cons d2 d3=>cases d3 with |cons d3 d4=>cases d4;exact⟨_,_,_,rfl,d1,d2,d3⟩
 obtain rfl:=d2.cu;obtain rfl:=d3.cu;obtain⟨A,c,rfl,hr⟩:=ar5 hF d1;have hs:=xq h0;have aCt:s.length<=40:=by omega
 obtain⟨hn0,aGw⟩:=aCq h2;obtain⟨m,rfl⟩:∃m:E,n=(m:N):=⟨n.toNat,by omega⟩;have fa:=IO9 hz (aCr h1);have hq:vG 5 (cW a)=D:=fa.qr.rd δ;have aes:=Lib.hid (fun(w1:du) (hb:Below w.heap.size w w1)=>Io (vs:=[.slice A s.length c]) (CM s) (nm hF hb) bR (.cons d1 .nil));have aet:=Lib.hid (fun(w1:du) (hb:Below w.heap.size w w1)=>Io (vs:=[.string a]) (show Holds Tryz.prog D 44 [sv a] (iv (eT a))from adg (a,()) (ay hz)) (nm hF hb) bR (.cons (.raw _) .nil));have Mm:=Lib.hid (fun(w1:du) (hb:Below w.heap.size w w1)=>Io (vs:=[.slice A s.length c,.int .i64 (m:N)]) (adi s m aCt) (nm hF hb) bR (.cons d1 (.cons (.raw _) .nil)));have aCu:=Lib.hid (fun(w1:du) (b:E) (t:ed) (hb:Below w.heap.size w w1) (hk:bH w1 b t #[.int .i64 0,.int .i64 0,.int .i64 0])=>Io (vs:=[.slice (O ⟨b,0,bs⟩) 3 3]) (aen [0,0,0] δ) (JA w1) (aeo hF bR hb) (.cons (aCj hk) .nil));have aCv:=Lib.hid (fun(w1:du) (hb:Below w.heap.size w w1)=>ar7 A c s w1 (hr.below hb (aC _)) hs.2.1 (λk hk=>by have:=hs.2.2 k hk;unfold lf;omega));have aCw:=Lib.hid (fun(w1:du) (hb:Below w.heap.size w w1)=>(show Holds Tryz.prog ao 50 [sv a] (ct (cW a))from RA (a,()) fa.fr) w1 F [.string a] (nm hF hb) bR (.cons (.raw _) .nil));have HZ:∀(w3 r7 dS zq w7 jV:du)(ys:fh Value)(aCx:Env)(v:Value)(b:dF)(ps:I e8),ps=mV (nI s) (o4 s) m->T5 (λx y=>decide (vM (cW a) x y<0)) w7.heap.size jV ps v b->w.heap.size<=w7.heap.size->Below w.heap.size w jV->
   ∃x F',Fy (.tuple #[v,.int .i64 0])=.returned x/\Den F' (.tuple [pl (BU s (cW a) m),iv 0]) x/\nT jV F'/\(∀b A,F'.fz b=O A->(D=ao/\F.fz b=O A)\/w.heap.size<=b)/\Below w.heap.size w jV:=by
  intro w3 r7 dS zq w7 jV ys aCx v b ps hps hres aCy Em;obtain⟨r,hr⟩:=aCo (nI s) (o4 s) m;rw[hr]at hps;subst hps;obtain⟨_,aGx,aGy,rfl,hown⟩:=hres;have hgd:∀x∈([]:e8)::r,ij x=0:=λx hx=>Ua h0 (n:=m) ω (by rw[hr];exact hx)
  have e:eC (λx y=>decide (vM (cW a) x y<0)) [] r=BU s (cW a) m:=by
   unfold BU;rw[hr];exact Ub r [] λx hx y hy=>aAv (hgd x hx) (hgd y hy) hq
  rw[e]at hown ⊢;refine⟨_,⟨λi=>if i<64 then O (i,0)else bs,λb=>if w.heap.size<=b then jx jV b else bs⟩,rfl,.tuple (.cons (T9 (vN hown aCy) λb A hb hA=>?_) (.cons (.raw _) .nil)),⟨λi x h=>?_,λg hg=>⟨0,dA hg⟩,λb A h=>?_⟩,λb A h=>.inr ?_,Em⟩
  .show(if w.heap.size<=b then jx jV b else bs)=O A;rw[dA hb];exact hA
  .have h:(if i<64 then O (i,0)else bs)=O x:=h;split at h
   .assumption
   .cases h
  .have h:(if w.heap.size<=b then jx jV b else bs)=O A:=h;split at h
   .exact bm.1 h
   .cases h
  .have h:(if w.heap.size<=b then jx jV b else bs)=O A:=h;split at h
   .assumption
   .cases h
 have aCz:=Lib.hid (fun(r7 w7:du) (cc cO EV:E) (hb4:Below w.heap.size w w7) (q1:bH w7 cc 86 #[.map (O cO)]) (aO:bH w7 (cc+1) 3 #[.int .i64 (m:N)]) (bU:jO w7 cO s.length (lT s s.length)) (eO:zo w7 EV (cW a))=>
  aCc (of:=104) (ob:= #[.pointer (O ⟨EV,0,bs⟩)]) (r5:=vM (cW a)) w7 (aB9 (R:=λb=>b=cc\/b=cc+1\/b=cO) (pairs:=m) ω (T' h0) (UV h0) ω w7 q1 aO bU (.inl rfl) (.inr (.inl rfl)) (.inr (.inr rfl)) (λb hb=>by rcases hb with rfl |rfl |rfl;exact q1.lt;exact aO.lt;exact bU.lt))
   (û Tryz.func98 (by kernel_rfl) rfl) (û Tryz.func104 (by kernel_rfl) rfl) (λb hb=>by rcases hb with rfl |rfl |rfl;exact q1.lt;exact aO.lt;exact bU.lt)
   (λW x y A gv c c2 hb h1 h2 aCA aCB=>aCk (aeo hF bR (hb4.trans (hb.mono hb4.size))) hq (eO.below hb) h1 h2 (Ua h0 (n:=m) ω aCA) (Ua h0 (n:=m) ω aCB)))
 have oc:=Lib.hid HZ;rw[h0]at aes;rw[h1]at aet;rw[h2]at Mm;clear hd d1 d2 d3 hr hs fa hq HZ h0 h1 h2 hF bR
 go_enter Tryz.func9,Tryz.ntmps9
 go_wp2_with (first
  |(go_at_call 43;refine(aes.out _ (qg _ _)).mono ?_;rintro e w1 ⟨rfl,c9⟩;have BR:=Lib.hid c9;clear c9)
  |(go_at_call 44;refine(aet.out _ BR.out).mono ?_;rintro e w2 ⟨rfl,gz⟩;have zm:=Lib.hid (BR.out.trans (gz.mono BR.out.size));clear gz)
  |(go_at_call 45;refine(Mm.out _ zm.out).mono ?_;rintro e w3 ⟨rfl,o9⟩;have EW:=Lib.hid (zm.out.trans (o9.mono zm.out.size));clear o9)
  |(go_at_call 42;refine(aCu.out _ _ _ (EW.out.alloc EW.out.size _) (bH.new _ _ _)).mono ?_;rintro e r7 ⟨rfl,hb4⟩;have Uc:=Lib.hid ((EW.out.alloc EW.out.size (.cells #[.int .i64 0,.int .i64 0,.int .i64 0] 27)).trans (hb4.mono (EW.out.alloc EW.out.size _).size));clear hb4)
  |(go_at_call 48;refine(aCv.out _ Uc.out).mono ?_;rintro e dS ⟨rfl,him,kz⟩;have Di:=Lib.hid (⟨Uc.out.trans (kz.mono Uc.out.size),him⟩:Below w.heap.size w dS/\jO dS r7.heap.size s.length (lT s s.length));clear kz him)
  |(go_at_call 47;refine(aCl r7.heap.size m dS).mono ?_;rintro e zq ⟨rfl,q1,aO,aeu⟩;have tR:=Lib.hid (⟨q1,aO,aeu⟩:bH zq dS.heap.size 86 #[.map (O r7.heap.size)]/\bH zq (dS.heap.size+1) 3 #[.int .i64 (m:N)]/\Below dS.heap.size dS zq);clear q1 aO aeu)
  |(go_at_call 50;refine(aCw.out zq (Di.out.1.trans (tR.out.2.2.mono Di.out.1.size))).mono ?_;rintro e w7 ⟨Pb,Ip,rfl,aev,aew,_,aex⟩;obtain⟨aCC,aey,rfl⟩:=aev.uf;have zu:=Lib.hid (⟨aey,aew,aex⟩:_/\nT w7 Ip/\Below zq.heap.size zq w7);clear aev aey aew aex)
  |(go_at_call 49;refine(aCm _ w7).mono ?_;rintro e jV ⟨rfl,bU,Em⟩;have EX:=Lib.hid (⟨bU,Em⟩:bH jV w7.heap.size 96 aCC.toArray/\Below w7.heap.size w7 jV);clear bU Em)
  |(go_at_call 46;have gA:=Di.out.1;have yz:=gA.trans (tR.out.2.2.mono gA.size);have s5:=yz.trans (zu.out.2.2.mono yz.size);have AW:=s5.trans (EX.out.2.mono s5.size);have t58:=((((aX.refl (λ_=>lm) dS).after tR.out.2.2).after zu.out.2.2).after EX.out.2);refine(aCz.out r7 jV dS.heap.size r7.heap.size w7.heap.size AW ((tR.out.1.below zu.out.2.2 tR.out.1.lt).below EX.out.2 (tR.out.1.below zu.out.2.2 tR.out.1.lt).lt) ((tR.out.2.1.below zu.out.2.2 tR.out.2.1.lt).below EX.out.2 (tR.out.2.1.below zu.out.2.2 tR.out.2.1.lt).lt) (Di.out.2.turns t58 λh=>h) (aCp zu.out.1 zu.out.2.1 EX.out.2 EX.out.1)).mono ?_;rintro e Ud ⟨v9,J2,Ue,rfl,aez,aeA,aeB⟩;have Mx:=Lib.hid (⟨aez,aeA,AW.size,AW.trans (aeB.mono AW.size)⟩:Ue=mV (nI s) (o4 s) m/\T5 (λx y=>decide (vM (cW a) x y<0)) jV.heap.size Ud Ue v9 J2/\w.heap.size<=jV.heap.size/\Below w.heap.size w Ud);clear aez aeA aeB gA yz s5 AW t58))
 go_ret2
 exact oc.out r7 r7 r7 r7 jV Ud #[] F v9 J2 Ue Mx.out.1 Mx.out.2.1 Mx.out.2.2.1 Mx.out.2.2.2
end
section
open Go.RowKit Sv Go.Proofs.Tryz
noncomputable section
def aeC:=NO f9
def aeD:=aA [WU,adf,adh,aem]
def aeE:I (N×N):=[]
noncomputable def nJ(s:I (N×N))(a:AT)(n:N):I (N×N):=if nF s a n=0 then BU s (cW a) n.toNat else []
def aeF:=IN 9 [.list ao cY,.str,.int .i64] [.list ao cY,.int .i64] D (λd=>decide (d.2.1.size<=24)&&bP (jC (α:=N×N) d.1<=40)) λd=>(nJ d.1 d.2.1 d.2.2.1,(nF d.1 d.2.1 d.2.2.1,()))
def aCE:bI em (bJ aeD):=dw (aV ajU (aV adg (aV azK (aV aCi eH))))
def aCF{x y z:N}:dL [x,y,z]=0↔x=0/\y=0/\z=0:=by
 have e:dL [x,y,z]=if x≠0 then x else if y≠0 then y else if z≠0 then z else 0:=rfl
 rw[e]
 (repeat' split)<;>omega
def LO(s:I (N×N))(a:AT)(n:N)(b:a.size<=24)(f:s.length<=40):Holds em D 9 [pl s,sv a,iv n] (.tuple [pl (nJ s a n),iv (nF s a n)]):=by
 by_cases h:nF s a n=0
 .obtain⟨c,d,e⟩:=aCF.1 h;have:=aCs c d e b;unfold nJ;rw[dA h,h];exact this
 .unfold nJ;rw[db h];refine bK aeC func9 λw F=>?_
  exact bt aCE 9 (wy [ag b,ag f,ag (show jC [cJ s,eT a,oX (s.length:N) n]<=1000 from by show 3<=1000;decide),aa (eX.mpr h),av (rfl:(aeE)=(JF)),av (rfl:(dL [cJ s,eT a,oX (s.length:N) n])=(nF s a n))] 417753473088:bk aeD (fl aeC []) 9 35 [pl s,sv a,iv n] 3 f9 D (.tuple [pl aeE,iv (nF s a n)]))
def aCG:aeF.Ok em:=λ⟨s,a,n,_⟩ h=>by
 have h:(bP (a.size<=24)&&bP (s.length<=40))=D:=h;rw[ae,aN,aN]at h;exact LO s a n h.1 h.2
end
set_option maxHeartbeats 4000000
noncomputable section
def aeG{r:qA}(h:yT r):pY 2 r:=⟨by have:=h.1;show(r.num.natAbs:N)<1000000000000000000;omega,by have:=h.2;show(r.den:N)<1000000000000000000;omega⟩
def aeH{t:I (N×N)}(h:ij t=0):yT (fX t):=by
 obtain⟨_,b,a⟩:=ub h;exact av1 b a
def My{t:I (N×N)}(h:ij t=0):dz (jq t)=D/\toQ (jq t)=fX t:=
 ⟨Ec (k:=2) δ (aeG (aeH h)),ab7 (aeH h)⟩
def aCH:bI em (bJ HQ):=dw (aV avo (aV abB eH))
def aCI:aW 1=eQ #[49]:=by
 refine kE ?_;show ak (aW 1)=_;rw[HP δ];show Lib.decDigits 1++oq 1=[49];rw[vq δ];unfold oq;rw[dA δ];rfl
def aCJ{t:I (N×N)}(l:ij t=0):Holds em D 72 [pl t] (sv (jq t)):=by
 have b:=aCH;obtain⟨_,f,o⟩:=ub l;have i:∀k,ij (t.take k)=0:=λk=>TA (by rw[er];omega) λp d=>f p (wT d)
 refine bK BL func72 λw F=>?_
 refine cE b 3 (wy [] 0:cL HQ (fl BL []) 3 25 [pl t] 1 .normal [] (vJ t (eQ #[49]) 0)) ?_;have j:eQ #[49]=jq (t.take 0):=by rw[GD];exact aCI.symm
 rw[j];refine c_q {k:E//k<=t.length} 0 (cat BL [1,1,0,1,0,0]) ((fl BL []).drop 4) (λk=>vJ t (jq (t.take k.1)) k.1) (λk=>t.length-k.1) ⟨0,gt _⟩ ?_;rintro⟨k,q⟩;by_cases c:k<t.length
 .obtain⟨m,n⟩:=My (i k);have d:=RV.1 f k c;have g:yT (gp (g0 t k).1 (g0 t k).2):=aav d.2.1 ω ω;have e:L8 t (jq (t.take k)) k=jq (t.take (k+1)):=by
   unfold L8;rw[n,ab7 g];unfold jq;have e:t.take (k+1)=t.take k++[g0 t k]:=by rw[sF ω,j3 ω]
   rw[e,RU];show _=aW (fX (t.take k)*(gp _ _*1));rw[qA.mul_one]
  have a:aR HQ (fl BL [1,1,0,1,0,0]) (vJ t (jq (t.take k)) k) 3 .normal [] (vJ t (L8 t (jq (t.take k)) k) (k+1)):=wy [ag (ω:(k:N)<(t.length:N)),ag c,aa (aI (v:=iv ((t.getD k ((0:N),(0:N))).1))),aa (aI (v:=iv ((t.getD k ((0:N),(0:N))).2))),aa (dN (dN (ay (show(-4000000000000000000:N)<=(g0 t k).1 by omega)) (ay (show(g0 t k).1<=4000000000000000000 by omega))) (dN (ay (show(0:N)<(g0 t k).2 by omega)) (ay (show(g0 t k).2<=4000000000000000000 by omega))):(bP ((-4000000000000000000:aq.den (.int .i64))<=(t.getD k (0,0)).1)&&bP ((t.getD k (0,0)).1<=(4000000000000000000:aq.den (.int .i64)))&&(bP ((0:aq.den (.int .i64))<(t.getD k (0,0)).2)&&bP ((t.getD k (0,0)).2<=(4000000000000000000:aq.den (.int .i64)))))=D),aa (dN m (Ec (k:=2) δ (aeG g)):(dz (jq (t.take k))&&dz (aW (gp (t.getD k (0,0)).1 (t.getD k (0,0)).2)))=D),yi (ω:i6 ((k:N)+1)),av (rfl:(aW (gp (ptN (jq (t.take k))) (ptD (jq (t.take k)))*gp (ptN (aW (gp (t.getD k (0,0)).1 (t.getD k (0,0)).2))) (ptD (aW (gp (t.getD k (0,0)).1 (t.getD k (0,0)).2)))))=(L8 t (jq (t.take k)) k))] 590423622265391030273;rw[e]at a;refine aT (s:=vJ t (jq (t.take k)) k) b a ?_;exact⟨⟨k+1,c⟩,by show t.length-(k+1)<t.length-k;omega,rfl,rfl⟩
 .refine aT (s:=vJ t (jq (t.take k)) k) b (wy [az (ω:¬(k:N)<(t.length:N))] 1:aR HQ (fl BL [1,1,0,1,0,0]) (vJ t (jq (t.take k)) k) 2 (.exit 0) [] (vJ t (jq (t.take k)) k)) ?_;refine bY (cg ?_);have a:bw HQ ((fl BL []).drop 4) (vJ t (jq (t.take k)) k) 1 Tryz.f72 D (sv (jq (t.take k))):=wy [] 0;have e:t.take k=t:=eG ω;rw[e]at a ⊢;exact bM (s:=vJ t (jq t) k) b a
def aCL:ads.Ok em:=λ⟨t,_⟩ h=>aCJ (cC h)
def aCM:bI em (bJ adu):=dw (aV aCL (aV ado (aV aw3 eH)))
def Rd:adv.Ok em:=λ⟨t,a,_⟩ h=>by
 have h:(nx t&&(dz (jq t)&&dz a))=D:=h;rw[ae]at h;show Holds em D 53 [pl t,sv a] (sv (kp t a));refine bK adt func53 λw F=>?_
 exact bt aCM 9 (wy [aa (h.1:(nx t)=D),aa (h.2:(dz (jq t)&&dz a)=D),av (rfl:(BE (BK (jq t) a))=(kp t a))] 786561:bk adu (fl adt []) 9 10 [pl t,sv a] 1 Tryz.f53 D (sv (kp t a)))
def aCN{n k:E}{q:cl}{r:qA}(h:QR n q r)(d:1<=n)(c:(18446744073709551616:N)^n<=1000000000^k):pY k r:=by
 have a:=mj h.o1 d;have b:=mj h.o2 d;rw[h.num]at a;rw[h.den]at b;exact⟨N.lt_of_lt_of_le a c,N.lt_of_lt_of_le (by rw[show(r.den:N)=((r.den:N).natAbs:N) by omega];exact b) c⟩
def aCO(r:qA):BE (aW r)=aW (Mb r):=by
 unfold BE Mb;rw[L7];by_cases h:r<0
 .rw[dA h,dA h,dA δ,adm (Bj.2 h)]
 .rw[db h,db h,db (by split<;>decide)]
structure Iq(a:AT):Prop where
 z:a.size<=24
 c:ckR a=0
def Mz{t:I (N×N)}{a:AT}(b:ij t=0)(h:Iq a):kp t a=aW (nG (cW a) t)/\pY 24 (nG (cW a) t)/\dz a=D:=by
 have f:=IO9 h.z h.c;have e:wv (cW a)=toQ a:=f.qr.val;have c:nG (cW a) t=Mb (fX t-toQ a):=by unfold nG;rw[e]
 rw[c];refine⟨?_,aCN (sa b (f.qr.mono δ)).1 δ δ,by rw[f.tx];exact Ec (k:=3) δ f.i⟩;unfold kp BK;rw[(My b).2,aCO]
def vT(a:AT)(x y:I (N×N)):dF:=bP (vI (kp x a) (kp y a)<0)
def aCP{x y:I (N×N)}{a:AT}(e:ij x=0)(f:ij y=0)(h:Iq a):vT a x y=bP (nG (cW a) x<nG (cW a) y):=by
 obtain⟨b,g,_⟩:=Mz e h;obtain⟨d,i,_⟩:=Mz f h;unfold vT;rw[b,d,azX δ δ g i];by_cases c:nG (cW a) x<nG (cW a) y
 .rw[dA (by grind),ay c];rfl
 .rw[db (by grind),ab c];split<;>rfl
section
variable{s:I (N×N)}
def aCQ{p n:E}(f:cJ s=0)(g:p<=4)(j:s.length^p<=100)(r:n<=p+1):∀y∈jB s n,ij y=0:=λy a=>by
 obtain⟨m,c,a⟩:=sp.1 a;obtain⟨d,i,a⟩:=sp.1 a;obtain⟨v,k,rfl⟩:=rK.1 a;have c:=DJ.1 c;have b:=(L2 f g j (show m<=p by omega)).2.2;obtain⟨d1,d2⟩:=b d (wT i);obtain⟨z,o⟩:=b v (wT (xF.1 k).1);have l:=congrArg jC (zip_fst (show d.length=v.length by omega));rw[mG]at l;refine TA ω λq e=>?_
 have t:=d2 q.1 (by rw[<-zip_fst (show d.length=v.length by omega)];exact sL e);have u:=o q.2 (by rw[<-AF (show d.length=v.length by omega)];exact sL e);omega
def Uf{n:N}(h:tz s n=D):∀y∈oo s n,ij y=0:=λy c=>by
 obtain⟨a,d,e,b⟩:=HL.1 h;exact aCQ (p:=n.toNat) a ω b (aC _) y (IS c)
def Ug{n:N}:oo s n≠[]:=λh=>by
 have a:=HM (jB s (n.toNat+1));have e:ez (jB s (n.toNat+1))=oo s n:=rfl;rw[e,h]at a;have b:[]∈jB s (n.toNat+1):=by
  refine sp.2 ⟨0,DJ.2 ω,?_⟩;refine sp.2 ⟨[],kD.2 rfl,?_⟩;refine rK.2 ⟨[],xF.2 ⟨kD.2 rfl,rfl⟩,rfl⟩
 rw[ix a.symm]at b;cases b
end
def vU(s:I (N×N))(a:AT)(n:N):I (N×N):=(aer (vT a) (oo s n)).getD []
def aCR:bI em (bJ Ei):=dw (aV azF (aV Rd (aV azW eH)))
def aCS{s:I (N×N)}{a:AT}{n:N}(h:tz s n=D)(u:Iq a):Holds em ao 15 [pl s,sv a,iv n] (pl (vU s a n)):=by
 have d:=aCR;refine bK xL func15 λw L=>?_
 refine cE d 4 (az3 s a n h) ?_;unfold vU;have V:=Uf h;have b:=Ug (s:=s) (n:=n);have z:(oo s n).length<=100000:=by
  obtain⟨T,c,e,U⟩:=HL.1 h;have P:oo s n=ez (jB s (n.toNat+1)):=rfl;rw[P,HM];have:=Tu (p:=n.toNat) T ω U (n.toNat+1) (aC _);omega
 generalize oo s n=M at*;cases M with
 |nil=>exact absurd rfl b
 |cons p r=>
  show bp em w L 38 ((fl xL []).drop 4) (oY s a n (p::r) 0 1).T (oY s a n (p::r) 0 1).H (ew em ao f15 (pl (eC (vT a) p r)));refine c_q {q:E×E//q.2<=r.length/\q.1<(p::r).length/\(p::r).getD q.1 []=eC (vT a) p (r.take q.2)} 0 (cat xL [1,1,1,0,1,0,0]) ((fl xL []).drop 5) (λq=>oY s a n (p::r) q.1.1 (q.1.2+1)) (λq=>r.length-q.1.2) ⟨(0,0),gt _,by simp,by simp[eC]⟩ ?_;rintro⟨⟨b,i⟩,y,c,e⟩;have y:i<=r.length:=y;have c:b<(p::r).length:=c;have e:(p::r).getD b []=eC (vT a) p (r.take i):=e;by_cases j:i<r.length
  .have g:i+1<(p::r).length:=by simp;omega
   have A:∀t,t<(p::r).length->ij ((p::r).getD t [])=0:=λt X=>V _ (by rw[ap,iw X];exact ra _)
   have m:=A (i+1) g;have o:=A b c;obtain⟨Q,f,J⟩:=Mz m u;obtain⟨S,l,_⟩:=Mz o u;have C:(nx ((p::r).getD (i+1) [])&&(dz (jq ((p::r).getD (i+1) []))&&dz a))=D:=dN (ay m) (dN (My m).1 J);have F:(nx ((p::r).getD b [])&&(dz (jq ((p::r).getD b []))&&dz a))=D:=dN (ay o) (dN (My o).1 J);have H:(dz (kp ((p::r).getD (i+1) []) a)&&dz (kp ((p::r).getD b []) a))=D:=by rw[Q,S];exact dN (Ec (k:=24) δ f) (Ec (k:=24) δ l)
   have f:(p::r).getD (i+1) []=r[i]:=by simp[ap,j]
   have l:eC (vT a) p (r.take (i+1))=if vT a ((p::r).getD (i+1) []) ((p::r).getD b [])then(p::r).getD (i+1) []else(p::r).getD b []:=by
    rw[sF j,Mv,e,f]
   by_cases f:vI (kp ((p::r).getD (i+1) []) a) (kp ((p::r).getD b []) a)<0
   .rw[show vT a ((p::r).getD (i+1) []) ((p::r).getD b [])=D from ay f,dA rfl]at l;refine aT (s:=oY s a n (p::r) b (i+1)) d (az4 s a n (p::r) b (i+1) ω g C c F H f (by simp at z;omega)) ?_;exact⟨⟨(i+1,i+1),j,g,l.symm⟩,by show r.length-(i+1)<r.length-i;omega,rfl,rfl⟩
   .rw[show vT a ((p::r).getD (i+1) []) ((p::r).getD b [])=ao from ab f,db δ]at l;refine aT (s:=oY s a n (p::r) b (i+1)) d (UP s a n (p::r) b (i+1) ω g C c F H f (by simp at z;omega)) ?_;exact⟨⟨(b,i+1),j,c,l.symm⟩,by show r.length-(i+1)<r.length-i;omega,rfl,rfl⟩
  .refine aT (s:=oY s a n (p::r) b (i+1)) d (az5 s a n (p::r) b (i+1) (by simp;omega)) ?_;refine bY (cg ?_);have B:=az6 s a n (p::r) b (i+1) c;rw[eG ω]at e;rw[e]at B;exact bM (s:=oY s a n (p::r) b (i+1)) d B
def aeI:=IN 15 [.list ao cY,.str,.int .i64] [.list ao cY] ao (λd=>tz d.1 d.2.2.1&&(bP (d.2.1.size<=24)&&bP (ckR d.2.1=0))) λd=>(vU d.1 d.2.1 d.2.2.1,())
def aCT:aeI.Ok em:=λ⟨s,a,n,_⟩ h=>by
 have h:(tz s n&&(bP (a.size<=24)&&bP (ckR a=0)))=D:=h;simp only[ae,aN]at h;exact aCS h.1 ⟨h.2.1,h.2.2⟩
def aCU(L n:N)(e:0<=L/\L<=40)(q:0<=n/\n<=4):Holds em D 51 [iv L,iv n] (iv (xM L n)):=by
 have b:=ba;obtain⟨m,rfl⟩:∃m:E,n=(m:N):=⟨n.toNat,by omega⟩;refine bK zb func51 λw F=>?_
 refine cE b 3 (wy [] 0:cL (aA []) (fl zb []) 3 23 [iv L,iv m] 1 .normal [] (rW L m 1 1)) ?_;have k:xM L m=sb L m 0:=by unfold xM;rw[kh]
 rw[k];refine c_q {i:E//i<=m/\sb L (m-i) i=sb L m 0} 0 (cat zb [1,1,0,1,0,0]) ((fl zb []).drop 4) (λi=>rW L m (c8 L i.1) ((i.1:N)+1)) (λi=>m-i.1) ⟨0,gt _,rfl⟩ ?_;rintro⟨i,j,a⟩;have j:i<=m:=j;have a:sb L (m-i) i=sb L m 0:=a;have g:=L3 e.1 e.2 (show i<=4 by omega);by_cases o:i<m
 .have l:=L3 e.1 e.2 (show i+1<=4 by omega);have c:(c8 L i*(L+((i:N)+1)-1)).tdiv ((i:N)+1)=c8 L (i+1):=by
   show _=(c8 L i*(L+(i:N))).tdiv ((i:N)+1);rw[show L+((i:N)+1)-1=L+i by omega]
  have r:0<=c8 L i*(L+((i:N)+1)-1):=kv g.1 ω;have p:c8 L i*(L+((i:N)+1)-1)<=6250000*50:=tj g.2 ω ω δ;rw[show m-i=(m-(i+1))+1 by omega,sb]at a;by_cases f:c8 L (i+1)>1000
  .rw[dA f]at a;have d:=(az9 L m (c8 L i) ((i:N)+1) ω ω ω ω ω (by rw[c];omega) (by rw[c];exact f));rw[show(1001:N)=sb L m 0 from a]at d;exact bM (s:=rW L m (c8 L i) ((i:N)+1)) b d
  .rw[db f]at a;refine aT (s:=rW L m (c8 L i) ((i:N)+1)) b (az8 L m (c8 L i) ((i:N)+1) (c8 L (i+1)) ω ω ω ω ω (by rw[c];omega) (by rw[c];exact f) ω c) ?_;exact⟨⟨i+1,by omega,a⟩,by show m-(i+1)<m-i;omega,rfl,rfl⟩
 .refine aT (s:=rW L m (c8 L i) ((i:N)+1)) b (wy [az (ω:¬((i:N)+1)<=m)] 1:aR (aA []) (fl zb [1,1,0,1,0,0]) (rW L m (c8 L i) ((i:N)+1)) 2 (.exit 0) [] (rW L m (c8 L i) ((i:N)+1))) ?_;refine bY (cg ?_);obtain rfl:i=m:=by omega
  rw[Ru]at a;have d:bw (aA []) ((fl zb []).drop 4) (rW L i (c8 L i) ((i:N)+1)) 1 Tryz.f51 D (iv (c8 L i)):=wy [] 0;rw[show c8 L i=sb L i 0 from a]at d;rw[show c8 L i=sb L i 0 from a];exact bM (s:=rW L i (sb L i 0) ((i:N)+1)) b d
def aCV:adw.Ok em:=λ⟨L,n,_⟩ h=>by
 have h:((bP (0<=L)&&bP (L<=40))&&(bP (0<=n)&&bP (n<=4)))=D:=h;simp only[ae,aN]at h;exact aCU L n h.1 h.2
def LT(s:I (N×N))(n:N)(f:s.length<=40):Holds em D 13 [pl s,iv n] (iv (kS s.length n)):=by
 have d:bI em (bJ HS):=uA aCV;refine bK HR func13 λw F=>?_
 unfold kS;by_cases a:n<0
 .rw[dA (.inl a)];exact bt d 9 (wy [aa (aL (ay a)),ag a] 8257:bk HS (fl HR []) 9 16 [pl s,iv n] 28 Tryz.f13 D (iv 3))
 .by_cases b:n>4
  .rw[dA (.inr b)];exact bt d 9 (wy [aa (aL (ab a)),az a,ag b] 794689:bk HS (fl HR []) 9 16 [pl s,iv n] 27 Tryz.f13 D (iv 3))
  .rw[db ω];have e:((bP (0<=(s.length:N))&&bP ((s.length:N)<=40))&&(bP (0<=n)&&bP (n<=4)))=D:=by
    simp only[ae,aN];omega
   by_cases c:xM s.length n>1000
   .rw[dA c];exact bt d 9 (wy [aa (aL (ab a)),az a,az b,aa e,ag c] 5436612673:bk HS (fl HR []) 9 16 [pl s,iv n] 51 Tryz.f13 D (iv 21))
   .rw[db c];exact bt d 9 (wy [aa (aL (ab a)),az a,az b,aa e,az c] 5436612673:bk HS (fl HR []) 9 16 [pl s,iv n] 35 Tryz.f13 D (iv 0))
def aeJ:Tz.Ok em:=λ⟨s,n,_⟩ h=>LT s n (cC h)
def aCW:((I.range 32).all λL=>(I.range 5).all λn=>decide (sb ((L:N)+1) n 0>1000)==bP (c8 ((L:N)+1) n>1000))=D:=by kernel_rfl
def aCX{L:E}{n:N}(c:1<=L)(d:L<=32):kS L n=oX L n:=by
 unfold kS oX;by_cases b:n<0\/n>4
 .rw[dA b,dA b]
 .rw[db b,db b];have:=ky.1 (ky.1 aCW (L-1) (DJ.2 ω)) n.toNat (DJ.2 ω);rw[gw,show((L-1:E):N)+1=(L:N) by omega]at this;have:=decide_eq_decide.1 this;unfold xM;by_cases a:c8 L n.toNat>1000
  .rw[dA a,dA (this.2 a)]
  .rw[db a,db λh=>a (this.1 h)]
def aCY:bI em (bJ Ma):=dw (aV TO (aV LJ (aV Xb eH)))
def aCZ(a:AT)(k:a.size<=24):Holds em D 12 [sv a] (iv (eT a)):=by
 have e:=aCY;refine bK L9 func12 λw F=>?_
 have f2:∀x y:N,dL [x,y]=if x≠0 then x else if y≠0 then y else 0:=λ_ _=>rfl
 by_cases b:ckR a=0
 .have j:=IO9 k b;have g:=L7 (toQ a);rw[<-j.tx]at g;by_cases d:jT a<=0
  .have f:toQ a<=0:=by
    by_cases c:toQ a<0
    .grind
    .by_cases i:toQ a=0
     .grind
     .rw[g,db c,db i]at d;omega
   exact bt e 9 (wy [ag (ω:a.size<=1000000000),aa (aK (gw.mpr b)),cT b,ag d,ag (show jC [ckR a,3]<=1000000 from by show 2<=1000000;decide),av (show(dL [ckR a,3])=(eT a) from by rw[f2,b];unfold eT;rw[dA b,dA f];rfl)] 1711118225514625:bk Ma (fl L9 []) 9 17 [sv a] 63 Tryz.f12 D (iv (eT a)))
  .have f:¬toQ a<=0:=λl=>d (by
    rw[g];by_cases c:toQ a<0
    .rw[dA c];decide
    .rw[db c,dA (by grind)];decide)
   exact bt e 9 (wy [ag (ω:a.size<=1000000000),aa (aK (gw.mpr b)),cT b,az d,ag (show jC [ckR a,0]<=1000000 from by show 2<=1000000;decide),av (show(dL [ckR a,0])=(eT a) from by rw[f2,b];unfold eT;rw[dA b,db f];rfl)] 1711118225514625:bk Ma (fl L9 []) 9 17 [sv a] 47 Tryz.f12 D (iv (eT a)))
 .exact bt e 9 (wy [ag (ω:a.size<=1000000000),aa (aK (fB.mpr b)),yn b,ag (show jC [ckR a,0]<=1000000 from by show 2<=1000000;decide),av (show(dL [ckR a,0])=(eT a) from by rw[f2,dA b];unfold eT;rw[db b])] 22265161326721:bk Ma (fl L9 []) 9 17 [sv a] 32 Tryz.f12 D (iv (eT a)))
def aC0:adx.Ok em:=λ⟨a,_⟩ h=>aCZ a (cC h)
def aC1:bI em (bJ vL):=dw (aV WT (aV aeJ eH))
def aC2(s:I (N×N))(n:N):Holds em D 8 [pl s,iv n] (bv (nE s n)):=by
 have d:=aC1;refine bK vK func8 λw F=>?_
 by_cases a:s.length<=40
 .by_cases b:cJ s=0
  .by_cases c:kS s.length n=0
   .by_cases e:n<2
    .exact bt d 9 (aAm s n (nE s n) ω b a c e (by simp[nE,a,b,c,e]))
    .have k:nE s n=((bP (s.length<=5)&&bP (n=2))||((bP (s.length<=3)&&bP (n=3))||decide (s.length<=2))):=by simp[nE,a,b,c,e]
     rw[k];by_cases i:s.length<=5
     .by_cases f:n=2
      .exact bt d 9 (aAn s n ((bP (s.length<=5)&&bP (n=2))||((bP (s.length<=3)&&bP (n=3))||decide (s.length<=2))) ω b a c e ω f (by simp[i,f]))
      .by_cases j:s.length<=3
       .by_cases g:n=3
        .exact bt d 9 (aAo s n ((bP (s.length<=5)&&bP (n=2))||((bP (s.length<=3)&&bP (n=3))||decide (s.length<=2))) ω b a c e ω f ω g (by simp[j,g]))
        .exact bt d 9 (aAp s n ((bP (s.length<=5)&&bP (n=2))||((bP (s.length<=3)&&bP (n=3))||decide (s.length<=2))) ω b a c e ω f ω g (by simp[f,g];omega))
       .exact bt d 9 (aAq s n ((bP (s.length<=5)&&bP (n=2))||((bP (s.length<=3)&&bP (n=3))||decide (s.length<=2))) ω b a c e ω f ω (by simp[f,j];omega))
     .exact bt d 9 (aAr s n ((bP (s.length<=5)&&bP (n=2))||((bP (s.length<=3)&&bP (n=3))||decide (s.length<=2))) ω b a c e ω ω (by rw[ab (show¬(s.length:N)<=2 by omega),ab i,ab (show¬s.length<=3 by omega),ab (show¬s.length<=2 by omega)];rfl))
   .exact bt d 9 (aAl s n (nE s n) ω b a c (by simp[nE,a,b,c]))
  .exact bt d 9 (aAk s n (nE s n) ω b (by simp[nE,a,b]))
 .exact bt d 9 (aAj s n (nE s n) ω (by simp[nE,a]))
def aC3:ady.Ok em:=λ⟨s,n,_⟩ _=>aC2 s n
end
def sc:I (N×N)->N->N
 |[],_=>0
 |p::r,x=>te p x+sc r x
def aeK:∀(a b:I (N×N))(x:N),sc (a++b) x=sc a x+sc b x
 |[],b,x=>by simp[sc]
 |p::r,b,x=>by rw[Aj,sc,sc,aeK r b x];omega
def aeL(t:I (N×N))(x:N):∀k,k<=t.length->dC t x k=sc (t.take k) x
 |0,_=>by simp[dC,sc]
 |k+1,h=>by
  have e:t.take (k+1)=t.take k++[g0 t k]:=by
   rw[j3 ω];simp
  rw[e,aeK,<-aeL t x k ω,dC];simp[sc]
def aeM(t:I (N×N))(x:N):li t x=sc t x:=by
 unfold li;rw[aeL t x _ (aC _),dx]
def aeN(s t:I (N×N)):∀n,uG s t n=D↔ ∀k,k<n->wO s t k=D
 |0=>by simp[uG]
 |n+1=>by
  unfold uG;rw[ae,aeN s t n];refine⟨λh k a=>?_,λh=>⟨λk a=>h k ω,h n ω⟩⟩;by_cases e:k=n
  .subst e;exact h.2
  .exact h.1 k ω
def aeO{s:I (N×N)}(h:∀k,k<s.length->0<k->(g0 s (k-1)).1<(g0 s k).1):∀d i,i+d+1<s.length->(g0 s i).1<(g0 s (i+d+1)).1
 |0,i,a=>h (i+1) a ω
 |d+1,i,a=>by
  have c:=aeO h d i ω;have b:=h (i+(d+1)+1) a ω;rw[show i+(d+1)+1-1=i+d+1 by omega]at b;omega
def aeP{s:I (N×N)}{x:N}:∀{n j:E},j<n->(g0 s j).1=x->(∀i,j<i->i<n->(g0 s i).1≠x)->lT s n x=(g0 s j).2
 |0,j,h,_,_=>absurd h ω
 |n+1,j,h,a,b=>by
  show nj (lT s n) (g0 s n).1 (g0 s n).2 x=_;unfold nj;by_cases e:j=n
  .subst e;rw[dA a.symm]
  .rw[db (λd=>b n ω ω d.symm)];exact aeP ω a λi c f=>b i c ω
def aeQ{s:I (N×N)}{x:N}:∀{n:E},(∀i,i<n->(g0 s i).1≠x)->lT s n x=0
 |0,_=>rfl
 |n+1,h=>by
  show nj (lT s n) (g0 s n).1 (g0 s n).2 x=_;unfold nj;rw[db (λa=>h n ω a.symm)];exact aeQ λi b=>h i ω
def aeR{s:I (N×N)}{x:N}:∀{d i j:E},j=i+d->j<s.length->(g0 s j).1=x->(∀k,i<=k->k<j->(g0 s k).1≠x)->gC (s.drop i) x=(g0 s j).2
 |0,i,j,h,a,b,_=>by
  obtain rfl:j=i:=h;rw[kl a,gC,<-j3 a,dA b]
 |d+1,i,j,h,a,b,c=>by
  rw[kl ω,gC,<-j3 ω,db (c i ω ω)];exact aeR (d:=d) ω a b λk f e=>c k ω e
def aeS{x:N}:∀{s:I (N×N)},(∀p∈s,p.1≠x)->gC s x=0
 |[],_=>rfl
 |p::r,h=>by
  rw[gC,db (h p τ)];exact aeS λq a=>h q (by simp[a])
def aC4{s:I (N×N)}(h:∀k,k<s.length->0<k->(g0 s (k-1)).1<(g0 s k).1)(x:N):lT s s.length x=gC s x:=by
 by_cases e:∃j,j<s.length/\(g0 s j).1=x
 .obtain⟨j,c,f⟩:=e;have l:∀i k,i<k->k<s.length->(g0 s i).1<(g0 s k).1:=λi k o p=>by
   have:=aeO h (k-i-1) i ω;rwa[show i+(k-i-1)+1=k by omega]at this
  rw[aeP c f λi m b=>by have:=l j i m b;omega];have:=aeR (s:=s) (x:=x) (d:=j) (i:=0) (j:=j) ω c f λk _ b=>by have:=l k j b c;omega
  rw[iW]at this;exact this.symm
 .rw[aeQ λi a g=>e ⟨i,a,g⟩,aeS];intro q n g;obtain⟨i,a,rfl⟩:=I.getElem_of_mem n;exact e ⟨i,a,by rw[j3 a];exact g⟩
noncomputable section
def pb:∀(t:I (N×N))(x:N),sc t x=(yq t x:N)
 |[],x=>rfl
 |p::r,x=>by
  have c:=pb r x;unfold yq at c ⊢;rw[sc,c,Li,Li,tY,tY];unfold te;by_cases b:p.1=x
  .by_cases a:p.2=x
   .rw[dA b,dA a,dA (by rw[b];exact Kr x),dA (by rw[a];exact Kr x)];omega
   .rw[dA b,db a,dA (by rw[b];exact Kr x),db (by simpa using a)];omega
  .by_cases a:p.2=x
   .rw[db b,dA a,db (by simpa using b),dA (by rw[a];exact Kr x)];omega
   .rw[db b,db a,db (by simpa using b),db (by simpa using a)];omega
def aC5{s:I (N×N)}(h:cJ s=0)(t:I (N×N)):qC s t=vi (nI s) t:=by
 have i:=(xq h).2.2;have c:=aC4 λk a e=>(i k a).2.2 e
 rw[tC];unfold qC vi;rw[aeN,ky];have d:∀p:N×N,(bP (li t p.1<=gC s p.1)&&bP (li t p.2<=gC s p.2))=(bP ((yq t p.1:N)<=nI s p.1)&&bP ((yq t p.2:N)<=nI s p.2)):=λp=>by
  unfold nI;rw[c,c,aeM,aeM,pb,pb]
 refine⟨λg p f=>?_,λg k a=>?_⟩
 .obtain⟨j,b,rfl⟩:=I.getElem_of_mem f;have:=g j b;unfold wO at this;rw[<-j3 b,<-d];exact this
 .unfold wO;rw[d,j3 a];exact g _ (ra _)
def aC6{s:I (N×N)}(h:cJ s=0)(n:E):jB s (n+1)=AG (nI s) (o4 s) n:=by
 unfold jB AG;congr 1;funext m;unfold mF;rw[dx];show _=A' _ (kg s (m:N));congr 1;funext d;unfold iT;rw[dx];show _=I.map _ (I.filter _ (kg s (m:N)));congr 1;congr 1;funext v;unfold BJ ip;rw[aC5 h,tC,ae,ae,aN,aN];exact⟨λg=>⟨g.1.symm,g.2⟩,λg=>⟨g.1.symm,g.2⟩⟩
def aC7(left:N->N)(K:I N)(n:E):mV left K n≠[]:=λh=>by
 have a:[]∈mV left K n:=sp.2 ⟨0,DJ.2 ω,kD.2 rfl⟩;rw[h]at a;cases a
def aC8{s:I (N×N)}{a:AT}{n:N}(h:tz s n=D)(m:Iq a):BU s (cW a) n.toNat=vU s a n:=by
 obtain⟨e,t,u,z⟩:=HL.1 h;have k:oo s n=(rG (AG (nI s) (o4 s) n.toNat)).reverse:=by
  unfold oo;rw[aC6 e]
 have b:=Uf h;have g:=Ug (s:=s) (n:=n);have l:=aC7 (nI s) (o4 s) n.toNat;have j:=ak3 (left:=nI s) (pairs:=n.toNat) (T' e);unfold BU vU;rw[k]at b g ⊢;cases c:(rG (AG (nI s) (o4 s) n.toNat)).reverse with
 |nil=>exact absurd c g
 |cons q d=>
  cases f:mV (nI s) (o4 s) n.toNat with
  |nil=>exact absurd f l
  |cons r i=>
   show eC _ r i=eC _ q d;rw[ak6 (nG (cW a)) j f c];refine(Ub d q λx o y p=>?_).symm;rw[c]at b;exact aCP (b x o) (b y p) m
def aC9{s:I (N×N)}{n:N}(h:nE s n=D)(b:cJ s=0)(a:kS s.length n=0):tz s n=D:=by
 have p:=xq b;unfold nE at h;simp only[ae,qh,aN,b,a,ne_eq,Gy,false_or]at h;obtain⟨m,h⟩:=h;have o:¬(n<0\/n>4):=λg=>by unfold kS at a;rw[dA g]at a;exact absurd a δ
 refine HL.2 ⟨b,by omega,by omega,?_⟩;have f:∀L k:E,L<=5->k<=2->L^k<=100:=λL k j l=>by
  have c:L^k<=5^k:=V' j k;have d:5^k<=5^2:=Q3 δ l;omega
 rcases h with h|⟨h,i⟩|⟨h,i⟩|h
 .have:n.toNat=0\/n.toNat=1:=by omega
  rcases this with e|e
  .rw[e,E.pow_zero];decide
  .rw[e,E.pow_one];omega
 .exact f _ _ h ω
 .have c:s.length^n.toNat<=3^n.toNat:=V' h _;have d:3^n.toNat<=3^3:=Q3 δ ω;omega
 .have c:s.length^n.toNat<=2^n.toNat:=V' h _;have d:2^n.toNat<=2^4:=Q3 δ ω;omega
end
set_option maxHeartbeats 1000000
noncomputable section
def EY:=NO f3
def EZ:=aA [axu,ady,aeF,Pe,adx,Pq,Tz,acr,aeI]
def aDg:bI em (bJ EZ):=dw (aV (λ_ _=>axi) (aV aC3 (aV aCG (aV WT (aV aC0 (aV Xb (aV aeJ (aV axx (aV aCT eH)))))))))
def aDh(s:I (N×N))(a:AT)(n:N):Holds em D 3 [pl s,sv a,iv n] (bv D):=by
 have j:=aDg;refine bK EY func3 λw P=>?_
 by_cases b:nE s n=D
 .by_cases Q:a.size<=20
  .have o:s.length<=40:=by
    unfold nE at b;rw[ae]at b;exact cC b.1
   have t:(bP (a.size<=24)&&bP (s.length<=40))=D:=dN (ay ω) (ay o);have q:nF s a n≠0->nJ s a n=[]:=λh=>by unfold nJ;rw[db h]
   have p:nF s a n=if cJ s≠0 then cJ s else if eT a≠0 then eT a else if oX s.length n≠0 then oX s.length n else 0:=rfl
   have k:dL [cJ s,eT a]=if cJ s≠0 then cJ s else if eT a≠0 then eT a else 0:=rfl
   have u:∀e:N,e≠0->nF s a n=e->vD (nJ s a n) (nF s a n) e JF=D:=λe A h=>by
    unfold vD;rw[db A,q (by rw[h];exact A),h,Kr,dF.and_true];exact ay rfl
   by_cases d:dL [cJ s,eT a]=0
   .have m:cJ s=0:=by
     by_cases c:cJ s=0
     .exact c
     .rw[k,dA c]at d;exact d
    have l:eT a=0:=by
     rw[k,db (by rw[m];decide)]at d;by_cases c:eT a=0
     .exact c
     .rw[dA c]at d;exact d
    have B:=xq m;have i:nF s a n=kS s.length n:=by
     rw[p,db (by rw[m];decide),db (by rw[l];decide),aCX B.1 B.2.1];by_cases c:oX s.length n=0
     .rw[db (by rw[c];decide),c]
     .rw[dA c]
    by_cases g:kS s.length n=0
    .have r:=aC9 b m g;have C:ckR a=0:=by
      unfold eT at l;by_cases c:ckR a=0
      .exact c
      .rw[db c]at l;exact absurd l c
     have H:Iq a:=⟨by omega,C⟩;have e:nJ s a n=vU s a n:=by
      unfold nJ;rw[i,dA g,aC8 r H]
     have L:(nJ s a n).length<=1000000:=by
      rw[e];have:ij (vU s a n)=0:=by
       unfold vU;have J:=Uf r;have M:=Ug (s:=s) (n:=n);cases z:oo s n with
       |nil=>exact absurd z M
       |cons S T=>exact J _ (by rw[z];exact m9 _ _ _)
      have:=(K3 this).1;omega
     have f:bk EZ (fl EY []) 20 55 [pl s,sv a,iv n] 5359 f3 D (bv (vD (nJ s a n) (nF s a n) 0 (vU s a n))):=wy [aa (aL (b8 (b))),aa (b8 (b)),az (ω:¬(a.size:N)>20),aa t,ag (ω:a.size<=24),ag (show jC [cJ s,eT a]<=1000000 from by show 2<=1000000;decide),cT d,ag o,aa (cS.mpr g),aa (dN r (dN (ay ω) (ay C)):(tz s n&&(bP (a.size<=24)&&bP (ckR a=0)))=D),ag L] 14832161621899111865247812596961116160;have F:vD (nJ s a n) (nF s a n) 0 (vU s a n)=D:=by
      unfold vD ip;rw[dA rfl,i,g,e,ay rfl];rfl
     rw[F]at f;exact bt j 20 f
    .have e:=u _ g i;have f:bk EZ (fl EY []) 20 55 [pl s,sv a,iv n] 7407 f3 D (bv (vD (nJ s a n) (nF s a n) (kS s.length n) JF)):=wy [aa (aL (b8 (b))),aa (b8 (b)),az (ω:¬(a.size:N)>20),aa t,ag (ω:a.size<=24),ag (show jC [cJ s,eT a]<=1000000 from by show 2<=1000000;decide),cT d,ag o,aa (eX.mpr g),ag (show(nJ s a n).length<=1000000 from by rw[q (by rw[i];exact g)];exact gt _)] 210653668265037263305934933877325824;rw[e]at f;exact bt j 20 f
   .have i:nF s a n=dL [cJ s,eT a]:=by
     by_cases c:cJ s=0
     .by_cases y:eT a=0
      .rw[k,db (by rw[c];decide),db (by rw[y];decide)]at d;exact absurd rfl d
      .rw[p,k];simp[c,y]
     .rw[p,k,dA c,dA c]
    have e:=u _ d i;have f:bk EZ (fl EY []) 20 55 [pl s,sv a,iv n] 6383 f3 D (bv (vD (nJ s a n) (nF s a n) (dL [cJ s,eT a]) JF)):=wy [aa (aL (b8 (b))),aa (b8 (b)),az (ω:¬(a.size:N)>20),aa t,ag (ω:a.size<=24),ag (show jC [cJ s,eT a]<=1000000 from by show 2<=1000000;decide),yn d,aa (eX.mpr d),ag (show(nJ s a n).length<=1000000 from by rw[q (by rw[i];exact d)];exact gt _)] 2961793923644158164715080708521984;rw[e]at f;exact bt j 20 f
  .exact bt j 20 (wy [aa (aL (b8 (b))),aa (b8 (b)),ag (ω:(a.size:N)>20)] 223685072165261017088:bk EZ (fl EY []) 20 55 [pl s,sv a,iv n] 1775 f3 D (bv D))
 .exact bt j 20 (wy [aa (aL (b8 ((show(nE s n)=ao from by simpa using b)))),aa (b8 ((show(nE s n)=ao from by simpa using b)))] 2324143280746397696:bk EZ (fl EY []) 20 55 [pl s,sv a,iv n] 1807 f3 D (bv D))
