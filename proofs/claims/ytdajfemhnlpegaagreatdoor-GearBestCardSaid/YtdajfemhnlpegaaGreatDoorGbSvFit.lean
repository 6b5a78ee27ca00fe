import Derived.Test.YtdajfemhnlpegaaGreatDoorGbSvCode4
open Array renaming toList_append->KI,getD_eq_getD_getElem?->mL,getElem?_setIfInBounds->pp,getElem?_eq_getElem->E',getElem?_toList->IF,getElem?_eq_none->QN
open Bool renaming true->D,false->ao,rec->jh,eq_iff_iff->tC,or_eq_true->qh,true_and->py
open Classical renaming byContradiction->G4
open Go renaming Program->fd,TypeId->ed,Oper->ls,undef->lk,World->du,execOp->gy,Operand->gn,IntKind->be,Act->Zq,Exit->sC,BinOp->I1,asIntOf->õ,underlying->Zi,program->Ā,Sem->PL,eqGuard->Q1,binOp->Gx,FuncId->ya,Code->mN
open Go.Call renaming operands->uX
open Go.Instr renaming sliceAt->Fz,slice->NI,sliceBounds->G3,sliceBound->Zm
open Go.IntKind renaming wrap->ca
open Go.Op renaming operands->gs,slice->ø,stringOp->ù
open Go.Region renaming ready->Ø
open Go.Sem renaming bind->P0
open List renaming all_eq_true->ky,mem_map_of_mem->sL,mem_append_right->UR,replicate->ie,length_cons->la,length->jC,mem_map->rK,mem_filter->xF,mem_of_find?_eq_some->Ï
open Nat renaming beq->dd,ble->dK,succ->nX,zero_le->gt,beq_refl->zX,le_of_lt->kt,le_of_eq->uV,le_succ->QZ,le_of_succ_le->AN,lt_of_lt_of_le->iy,sub->Hq
open Option renaming some->O,none->bs,bind_some->kV,map_some->ta,rec->oN,getD_some->N',map_none->Ef
open Prod renaming fst->ql
open _root_ renaming Bool->dF,Option->da,cond->oi,List->I,Nat->E,decide->bP,Array->fh,False->lm,cond_true->ka,Prod->BC,cond_false->sd,if_neg->db,if_pos->dA,if_false->á,Int->N,min->XR,decide_eq_true_iff->vk
set_option linter.defProp false
set_option linter.unusedSectionVars false
set_option linter.unusedSimpArgs false
namespace Go.Proofs.YtdajfemhnlpegaaGreatDoor.Sv
noncomputable section
inductive Kd where
 |p|r|a|e|b
def Kd.al:Kd->dF
 |.a|.b=>D
 |_=>ao
def uh(P:fd)(t:da ed):dF:=match t.bind P.underlying with
 |some (.map _ _)=>D
 |_=>ao
def ahl(P:fd)(c:Call):Kd:=match c.callee with
 |.builtin .len=>oi (uh P c.argTypes[0]?) .e .p
 |.builtin .append=>.e
 |.builtin .copy=>.e
 |.builtin .unsafeString=>.e
 |.builtin .clear=>.e
 |.builtin _=>.p
 |_=>.e
def zZ(P:fd)(s d:ed):Kd:=match P.underlying s,P.underlying d with
 |some (.int _),O (.int _)=>.p
 |_,_=>.e
def oC(P:fd):Op->Kd:=
 @Op.rec (λ_=>Kd) (λ_=>.p) (λ_=>.p) (λ_ _ _=>.p) (λ_=>.a) (λ_ _=>.b) (λ_ _=>.p) (λ_ _ _=>.b) (λ_ _ _ _=>.e) (λ_ _=>.r) (λ_ _ _=>.e) (λ_=>.e) (λ_=>.e) (λ_=>.p) (λ_ _ _ _ _=>.p) (λ_ _ _=>.p)
   (λs d _=>zZ P s d) (λ_ _=>.e) (λ_ _=>.p) (λ_ _ _=>.p) (λ_ _=>.b) (λ_ _=>.e) (λ_ _ _=>.b) (λ_ _ _ _ _=>.p) (λ_ _ _=>.p) (λ_ _ _=>.p) (λ_ _ _=>.p) (λ_ _ _=>.p) (λ_ _ _ _=>.r) (λ_ _ _ _=>.e)
   (λ_ _ _=>.e) (λ_ _ _ _=>.e) (λ_ _=>.e) (λ_ _=>.e) (λ_=>.e) (λ_ _ _ _=>.p) (λ_ _=>.p) (ahl P) (λ_=>.e) (λ_=>.e) (λ_=>.e) (λ_ _=>.e) (λ_ _ _=>.e) (λ_ _=>.e)
def bi(o:ls):I E:=(o.after.toList.filter (Region.binds .any)).map Edge.on
def mO(i:E)(l:I E):dF:= @I.rec E (λ_=>dF) ao (λa _ c=>@jh (λ_=>dF) c D (dd a i)) l
def ahm(o:ls):I Tmp:=o.op.operands.toList.filterMap λx=>match x with |.tmp t=>O t|_=>bs
def z1(t:Tmp)(o:ls):dF:=match o.dst with |some d=>dd d t|none=>ao
def sH(t:Tmp):I ls->E->da (E×ls)
 |[],_=>bs
 |o::l,i=>oi (z1 t o) (O (i,o)) (sH t l (i+1))
def z6(ops:I ls)(i:E)(o:ls):dF:=
 (bi o).all (λd=>dK (d+1) i)&&
 (ahm o).all (λt=>match sH t ops 0 with |none=>D|some q=>mO q.1 (bi o)||mO i (bi q.2))&&
 (match o.dst with |none=>D|some d=>match sH d ops 0 with |some q=>dd q.1 i|none=>ao)&&
 (match o.guard with |none=>D|some g=>mO g.1 (bi o))
def uj(ops:I ls):I ls->E->dF
 |[],_=>D
 |o::l,i=>oi (z6 ops i o) (uj ops l (i+1)) ao
def Fp:Value->Value->dF
 |.int k a,.int j b=>decide (k=j)&&bP (a=b)
 |.bool a,.bool b=>a==b
 |.string a,.string b=>decide (a=b)
 |.pointer bs,.pointer bs=>D
 |.slice bs l c,.slice bs m f=>dd l m&&dd c f
 |.map bs,.map bs=>D
 |.nilFunc,.nilFunc=>D
 |.nilIface,.nilIface=>D
 |.func h ⟨[]⟩ ⟨[]⟩,.func g ⟨[]⟩ ⟨[]⟩=>decide (h=g)
 |_,_=>ao
def Cx(f:Value->Value->dF):I Value->I Value->dF
 |[],[]=>D
 |a::l,b::m=>oi (f a b) (Cx f l m) ao
 |_,_=>ao
def z7:E->Value->Value->dF
 |0,a,b=>Fp a b
 |n+1,a,b=>match a,b with
  |.agg ⟨l⟩,.agg ⟨m⟩=>Cx (z7 n) l m
  |.tuple ⟨l⟩,.tuple ⟨m⟩=>Cx (z7 n) l m
  |a,b=>Fp a b
def aY.same:aY->aY->dF
 |.known a,.known b=>dd a b
 |.full,.full=>D
 |.any,.any=>D
 |_,_=>ao
def aq.beq:(t:aq)->t.den->t.den->dF
 |.int _,a,b=>decide (a=b)
 |.bool,a,b=>a==b
 |.str,a,b=>decide (a=b)
 |.list _ t,a,b=>dd a.length b.length&&(a.zip b).all λp=>t.beq p.1 p.2
 |.pair s t,a,b=>s.beq a.1 b.1&&t.beq a.2 b.2
 |.ptr t,a,b=>t.beq a b
 |.unit,_,_=>D
def Cy(t u:aq)(xs:I t.den)(ys:I u.den):dF:=if h:u=t then aq.beq (.list ao t) xs (h ▸ ys)else ao
def x9:af->af->dF
 |.bh G t xs,.bh J u ys=>G==J&&Cy t u xs ys
 |.e9 t xs k m,.e9 u ys c p=>Cy t u xs ys&&(dd k c&&dd m p)
 |.bZ e t i k n f,.bZ h u l c F r=>dd e h&&(bP (t=u)&&(dd i l&&(dd k c&&(dd n F&&f.same r))))
 |.en e t i k m,.en h u l c p=>dd e h&&(bP (t=u)&&(dd i l&&(dd k c&&dd m p)))
 |.raw a,.raw b=>z7 3 a b
 |.ptr i o,.ptr j q=>dd i j&&dd o q
 |.slice i o A f,.slice j q C d=>dd i j&&dd o q&&dd A C&&f.same d
 |.map i,.map j=>dd i j
 |.func z [] [],.func g [] []=>decide (z=g)
 |.yield i,.yield j=>dd i j
 |_,_=>ao
def lP:I af->I af->dF
 |[],[]=>D
 |a::l,b::m=>x9 a b&&lP l m
 |_,_=>ao
def af.same:af->af->dF
 |.agg l,.agg m=>lP l m
 |.tuple l,.tuple m=>lP l m
 |.func f (x::a) b,.func g c d=>decide (f=g)&&(lP (x::a) c&&lP b d)
 |.func f [] (x::b),.func g c d=>decide (f=g)&&(lP [] c&&lP (x::b) d)
 |a,b=>x9 a b
def lh(P:fd)(o:ls)(ev:eB)(v:af)(H:ai):dF:=match fR o.op P o ev H with |.ok c _=>af.same c v|_=>ao
def xc(P:fd)(o:ls)(ev:eB)(v:af):I ai->dF
 |[]=>D
 |H::l=>oi (lh P o ev v H) (xc P o ev v l) ao
structure rj where
 i:E
 o:ls
 T:au af
 v:af
def kX(c:I E):I rj->I rj
 |[]=>[]
 |q::l=>oi (mO q.i c) (kX c l) (q::kX c l)
def sI(P:fd)(H:ai):I rj->dF
 |[]=>D
 |q::l=>oi (lh P q.o (cF q.T) q.v H) (sI P H l) ao
def level(c:au E):I E->E
 |[]=>0
 |d::l=>E.max ((c.get d).getD 0) (level c l)
def wA(l c:I E):dF:=l.all λi=>mO i c
structure ia where
 i:E
 k:E
 T:au af
 cur:ai
 hs:I ai
 bT:au E
 eo:I rj
 dU:I E
def oD(n:E)(o:ls)(s:ia)(v:af)(f:au af->ia):da ia:=(jY s.T n o.dst v).map f
def pv(P:fd)(call:fe)(round:lz)(ops:fh ls)(n:E)(o:ls)(s:ia):da ia:=
 let c:=bi o
 let lv:=level s.bT c
 match iY s.T ops o with
 |none=>bs
 |some ao=>oD n o s (.raw lk) λT=>{s with i:=s.i+1,T:=T,bT:=s.bT.set s.i (O lv)}
 |some D=>match oC P o.op with
  |.p=>match fR o.op P o (cF s.T) s.cur with
    |.ok v _=>oD n o s v λT=>{s with i:=s.i+1,T:=T,bT:=s.bT.set s.i (O lv)}
    |_=>bs
  |.r=>match s.hs with
    |H::_=>match fR o.op P o (cF s.T) H with
     |.ok v _=>oi (xc P o (cF s.T) v (s.hs.take (s.k+1-lv)))
       (oD n o s v λT=>{s with i:=s.i+1,T:=T,bT:=s.bT.set s.i (O lv),eo:=⟨s.i,o,s.T,v⟩::s.eo}) bs
     |_=>bs
    |[]=>bs
  |.a=>match fR o.op P o (cF s.T) s.cur with
    |.ok v H=>oD n o s v λT=>{s with i:=s.i+1,T:=T,cur:=H,bT:=s.bT.set s.i (O lv),dU:=s.i::s.dU}
    |_=>bs
  |.e=>oi (dd lv s.k&&wA s.dU c)
    (match ko P call round o (cF s.T) s.cur with
      |.ok v H=>oi (sI P H (kX c s.eo))
        (oD n o s v λT=>{i:=s.i+1,k:=s.k+1,T:=T,cur:=H,hs:=H::s.hs,bT:=s.bT.set s.i (O (s.k+1)),eo:=kX c s.eo,dU:=[]}) bs
      |_=>bs) bs
  |.b=>oi (dd lv s.k&&wA s.dU c)
    (match ko P call round o (cF s.T) s.cur with
      |.ok v H=>oi (sI P H (kX c s.eo))
        (oD n o s v λT=>{i:=s.i+1,k:=s.k+1,T:=T,cur:=H,hs:=H::s.hs,bT:=s.bT.set s.i (O (s.k+1)),eo:=kX c s.eo,dU:=[]}) bs
      |_=>bs)
    (match fR o.op P o (cF s.T) s.cur with
      |.ok v H=>oD n o s v λT=>{s with i:=s.i+1,T:=T,cur:=H,bT:=s.bT.set s.i (O lv),dU:=s.i::s.dU}
      |_=>bs)
def z8(P:fd)(call:fe)(round:lz)(ops:fh ls)(n:E):I ls->ia->fH
 |[],s=>.mk s.T s.cur
 |o::l,s=>match pv P call round ops n o s with
  |some s=>z8 P call round ops n l s
  |none=>.no
def Cz(P:fd):MW:=λcall round ops n T H=>
 oi (uj ops.toList ops.toList 0) (z8 P call round ops n ops.toList {i:=0,k:=0,T:=T,cur:=H,hs:=[H],bT:= .nil,eo:=[],dU:=[]}) .no
def qq(P:fd)(S:fe):sw:=λd call round ops n T H=>@jh (λ_=>fH) (zG P (xV S call) round ops n ops.toList T H) (Cz P (xV S call) round ops n T H) d
end
section
open Go.RowKit
section
variable{P:fd}{B:E}{ρ:Env}{H:ai}{w:du}{o:ls}{ev ev':eB}
def dT(l:sB o.op=D)(h:∀x∈o.op.operands.toList,ev x=ev' x):gen P o ev=gen P o ev':=by
 unfold gen;have j:(o.op.operands.toList.all λx=>(ev x).gh.isSome)=o.op.operands.toList.all λx=>(ev' x).gh.isSome:=by
  rw[tC,ky,ky];exact⟨λf x c=>by rw[<-h x c];exact f x c,λf x c=>by rw[h x c];exact f x c⟩
 have k:gy (tV ev) o=gy (tV ev') o:=execOp_congr l λx c=>by simp only[tV,h x c]
 rw[j,k]
def NK{l:I gn}(h:∀x∈l,ev x=ev' x):l.map ev=l.map ev':=I.map_congr_left h
def Vq{ps:fh (E×gn)}(h:∀p∈ps.toList,ev p.2=ev' p.2):ua ev ps=ua ev' ps:=I.map_congr_left λp c=>by rw[h p c]
def Vr(h:∀x∈o.op.operands.toList,ev x=ev' x):fR o.op P o ev H=fR o.op P o ev' H:=by
 cases f:o.op with
 |move x=>
  have c:=h x (by simp[f,gs]);show tZ x P o ev H=tZ x P o ev' H;simp only[tZ,c]
 |assign x=>
  have c:=h x (by simp[f,gs]);show tZ x P o ev H=tZ x P o ev' H;simp only[tZ,c]
 |pick p a b=>
  have c:=h p (by simp[f,gs]);have j:=h a (by simp[f,gs]);have u:=h b (by simp[f,gs]);show qa p a b P o ev H=qa p a b P o ev' H;simp only[qa,c,j,u]
 |box t x=>
  have c:=h x (by simp[f,gs]);show q3 t x P o ev H=q3 t x P o ev' H;simp only[q3,c]
 |build t ps=>
  have c:=Vq (ev:=ev) (ev':=ev') (ps:=ps) λJ G=>h J.2 (by simp only[f,gs];exact sL G)
  show ui t ps P o ev H=ui t ps P o ev' H;simp only[ui,MI,c]
 |buildSlice t l ps=>
  have c:=Vq (ev:=ev) (ev':=ev') (ps:=ps) λJ G=>h J.2 (by simp only[f,gs];exact sL G)
  show B9 t l ps P o ev H=B9 t l ps P o ev' H;simp only[B9,q4,c]
 |insert t m r v=>
  have c:=h m (by simp[f,gs]);have j:=h r (by simp[f,gs]);have u:=h v (by simp[f,gs]);show q5 t m r v P o ev H=q5 t m r v P o ev' H;simp only[q5,c,j,u]
 |mapUpdate t m r v=>
  have c:=h m (by simp[f,gs]);have j:=h r (by simp[f,gs]);have u:=h v (by simp[f,gs]);show q5 t m r v P o ev H=q5 t m r v P o ev' H;simp only[q5,c,j,u]
 |load t x=>
  have c:=h x (by simp[f,gs]);show qb t x P o ev H=qb t x P o ev' H;simp only[qb,c]
 |store t x y=>
  have c:=h x (by simp[f,gs]);have j:=h y (by simp[f,gs]);show sr t x y P o ev H=sr t x y P o ev' H;simp only[sr,c,j]
 |nilCheck x=>
  have c:=h x (by simp[f,gs]);have k:=dT (P:=P) (by rw[f];rfl) h;show r8 x P o ev H=r8 x P o ev' H;simp only[r8,MJ,c,k]
 |binOp op t x y ag=>
  have c:=h x (by simp[f,gs]);have j:=h y (by simp[f,gs]);have k:=dT (P:=P) (by rw[f];rfl) h;show kn op t x y ag P o ev H=kn op t x y ag P o ev' H;simp only[kn,zD,qZ,E5,c,j,k]
 |unOp op t x=>
  have k:=dT (P:=P) (by rw[f];rfl) h;show xT P o ev H=xT P o ev' H;simp only[xT,k]
 |typeAssert a b p d=>
  have k:=dT (P:=P) (by rw[f];rfl) h;show xT P o ev H=xT P o ev' H;simp only[xT,k]
 |convert s d x=>
  have c:=h x (by simp[f,gs]);have k:=dT (P:=P) (by rw[f];rfl) h;show B8 s d x P o ev H=B8 s d x P o ev' H;simp only[B8,si,c,k]
 |makeInterface t x=>
  have c:=h x (by simp[f,gs]);show ul t x P o ev H=ul t x P o ev' H;simp only[ul,c]
 |makeFunc K q p=>
  have c:=NK (ev:=ev) (ev':=ev') (l:=q.toList) λx A=>h x (by simp only[f,gs,KI];exact I.mem_append_left _ A)
  have j:=NK (ev:=ev) (ev':=ev') (l:=p.toList) λx A=>h x (by simp only[f,gs,KI];exact UR _ A)
  show E7 K q p P o ev H=E7 K q p P o ev' H;simp only[E7,c,j]
 |makeMap t C=>
  show Ca t C P o ev H=Ca t C P o ev' H;cases C with
  |none=>rfl
  |some x=>
   have c:=h x (by simp[f,gs]);simp only[Ca,ud,c]
 |makeSlice t l p=>
  have c:=h l (by simp[f,gs]);have j:=h p (by simp[f,gs]);show d8 t l p P o ev H=d8 t l p P o ev' H;simp only[d8,c,j]
 |slice t x l z m=>
  have c:=h x (by simp[f,gs]);have j:l.map ev=l.map ev':=by
   cases l with
   |none=>rfl
   |some y=>simp[h y (by simp[f,gs])]
  have u:z.map ev=z.map ev':=by
   cases z with
   |none=>rfl
   |some y=>simp[h y (by simp[f,gs])]
  have Q:m.map ev=m.map ev':=by
   cases m with
   |none=>rfl
   |some y=>simp[h y (by simp[f,gs])]
  have k:=dT (P:=P) (by rw[f];rfl) h;show q2 t x l z m P o ev H=q2 t x l z m P o ev' H;simp only[q2,E8,c,j,u,Q,k]
 |fieldAddr s x q=>
  have c:=h x (by simp[f,gs]);show dk s x q P o ev H=dk s x q P o ev' H;simp only[dk,c]
 |field t x q=>
  have c:=h x (by simp[f,gs]);have k:=dT (P:=P) (by rw[f];rfl) h;show r9 t x q P o ev H=r9 t x q P o ev' H;simp only[r9,c,k]
 |indexAddr t x i=>
  have c:=h x (by simp[f,gs]);have j:=h i (by simp[f,gs]);show o7 t x i P o ev H=o7 t x i P o ev' H;simp only[o7,c,j]
 |index t x i=>
  have c:=h x (by simp[f,gs]);have j:=h i (by simp[f,gs]);have k:=dT (P:=P) (by rw[f];rfl) h;show oz t x i P o ev H=oz t x i P o ev' H;simp only[oz,c,j,k]
 |lookup t m r M=>
  have c:=h m (by simp[f,gs]);have j:=h r (by simp[f,gs]);have k:=dT (P:=P) (by rw[f];rfl) h;show pd t m r M P o ev H=pd t m r M P o ev' H;simp only[pd,MP,c,j,k]
 |extract x i=>
  have c:=h x (by simp[f,gs]);have k:=dT (P:=P) (by rw[f];rfl) h;show sg x i P o ev H=sg x i P o ev' H;simp only[sg,c,k]
 |call p=>
  obtain⟨F,args,argTypes⟩:=p;have c:=NK (ev:=ev) (ev':=ev') (l:=args.toList) λx A=>h x (by simp only[f,gs,uX,KI];exact UR _ A)
  have k:=dT (P:=P) (by rw[f];rfl) h;show fx ⟨F,args,argTypes⟩ P o ev H=fx ⟨F,args,argTypes⟩ P o ev' H;cases F with
  |value q=>
   have j:=h q (by simp[f,gs,uX]);simp only[fx,c,j]
  |builtin b=>simp only[fx,qc,c,k]
  |invoke C m=>rfl
 |range t x=>
  have c:=h x (by simp[f,gs]);show Cb t x P o ev H=Cb t x P o ev' H;simp only[Cb,c]
 |next x b=>
  have c:=h x (by simp[f,gs]);show Cc x b P o ev H=Cc x b P o ev' H;simp only[Cc,c]
 |entry x=>
  have c:=h x (by simp[f,gs]);show Fb x P o ev H=Fb x P o ev' H;simp only[Fb,c]
 |_=>rfl
def ahn{t:da ed}{v:af}(h:uh P t=ao)(H:ai):Fc P t v H=bs:=by
 unfold uh at h;unfold Fc;cases t with
 |none=>rfl
 |some t=>
  simp only[kV]at h ⊢;split
  .rename_i c;rw[c]at h;cases h
  .rfl
section
variable{args:fh gn}{argTypes:fh ed}
def aho(c:oC P (.call {callee:= .builtin .len,args,argTypes})=.p):uh P argTypes[0]? =ao:=by
 have c:oi (uh P argTypes[0]?) Kd.e Kd.p=.p:=c;cases h:uh P argTypes[0]? with
 |true=>rw[h]at c;cases c
 |false=>rfl
def ahp(c:oC P (.call {callee:= .builtin .len,args,argTypes})=.r):lm:=by
 have c:oi (uh P argTypes[0]?) Kd.e Kd.p=.r:=c;cases h:uh P argTypes[0]? <;>rw[h]at c<;>cases c
def ahq(c:(oC P (.call {callee:= .builtin .len,args,argTypes})).al=D):lm:=by
 have c:(oi (uh P argTypes[0]?) Kd.e Kd.p).al=D:=c;cases h:uh P argTypes[0]? <;>rw[h]at c<;>cases c
end
def Fq{x:da af}{v:af}{c:ai}(h:ah H x=.ok v c):x=O v/\c=H:=by
 cases x with
 |none=>cases h
 |some y=>cases h;exact⟨rfl,rfl⟩
def lZ{x:da af}{v:af}{f:ai}(h:ah H x=.ok v f)(c:ai):ah c x=.ok v c:=by
 obtain⟨rfl,_⟩:=Fq h;rfl
def ahr{j n:E}{x v:af}{k:ai}(h:lw j n x H=.ok v k)(f:ai):lw j n x f=.ok v f:=by
 unfold lw at h ⊢;split at h
 .cases c:dK 1 n<;>rw[c]at h<;>cases h;rfl
 .cases c:dK 1 n<;>rw[c]at h<;>cases h;rfl
 .cases h
def ahs{k n s:E}{x v:af}{j:ai}(h:xQ k n s x H=.ok v j)(f:ai):xQ k n s x f=.ok v f:=by
 unfold xQ at h ⊢;split at h
 .cases c:dK (k+1) n<;>rw[c]at h<;>cases h;rfl
 .cases c:dK (k+1) n<;>rw[c]at h<;>cases h;rfl
 .cases h
def aht{k s:E}{x v:af}{j:ai}(h:tS k s x H=.ok v j)(f:ai):tS k s x f=.ok v f:=by
 unfold tS at h ⊢;split at h
 .rename_i z t xs;cases c:(dd t.size s&&dK (k+1) xs.length)<;>rw[c]at h<;>cases h;rfl
 .rename_i e t i p l m;cases c:(dd t.size s&&dK (k+1) l)<;>rw[c]at h<;>cases h;rfl
 .cases h
section
variable{s d:ed}
def ahu(h:zZ P s d=.p):∃k,P.underlying s=O (.int k):=by
 unfold zZ at h;split at h
 .exact⟨_,by assumption⟩
 .cases h
def ahv(h:zZ P s d=.r):lm:=by
 unfold zZ at h;split at h<;>cases h
def ahw(h:(zZ P s d).al=D):lm:=by
 unfold zZ at h;split at h<;>cases h
def ahx{k:be}(c:P.underlying s=O (.int k))(x:af):∃y:da af,∀H,si P o ev s d x H=y.map λv=>(v,H):=by
 cases x with
 |slice i f j h=>exact⟨bs,λH=>by simp only[si,c];rfl⟩
 |ptr i f=>exact⟨bs,λH=>by simp only[si,c];rfl⟩
 |raw v=>
  cases v with
  |string b=>exact⟨gen P o ev,λH=>by simp only[si,c]⟩
  |_=>exact⟨gen P o ev,λH=>rfl⟩
 |_=>exact⟨gen P o ev,λH=>rfl⟩
end
def ahy(m:oC P o.op=.p){v:af}{l:ai}(h:fR o.op P o ev H=.ok v l)(c:ai):fR o.op P o ev c=.ok v c:=by
 cases j:o.op with
 |move x=>rw[j]at h;cases h;rfl
 |assign x=>rw[j]at h;cases h;rfl
 |pick z a b=>
  rw[j]at h;have h:qa z a b P o ev H=.ok v l:=h;show qa z a b P o ev c=.ok v c;unfold qa at h ⊢;cases f:iX (ev z)with
  |no=>rw[f]at h;cases h
  |mk Q=>rw[f]at h;cases Q<;>(cases h;rfl)
 |build t ps=>rw[j]at h;exact lZ h c
 |nilCheck x=>
  rw[j]at h;have h:r8 x P o ev H=.ok v l:=h;show r8 x P o ev c=.ok v c;unfold r8 at h ⊢;cases f:jX (ev x)with
  |no=>rw[f]at h;exact lZ h c
  |mk i A=>rw[f]at h;cases h;rfl
 |binOp op t x y ag=>
  rw[j]at h;have h:kn op t x y ag P o ev H=.ok v l:=h;show kn op t x y ag P o ev c=.ok v c;unfold kn at h ⊢;cases f:jW (ev x)with
  |no=>rw[f]at h;exact lZ h c
  |int u a=>
   rw[f]at h;simp only at h ⊢;cases K:jW (ev y)with
   |no=>rw[K]at h;exact lZ h c
   |int k b=>
    rw[K]at h;simp only at h ⊢;cases r:kU op u k a b with
    |none=>rw[r]at h;exact lZ h c
    |some Q=>rw[r]at h;cases h;rfl
 |convert s d x=>
  rw[j]at m h;obtain⟨u,Y⟩:=ahu m;obtain⟨y,k⟩:=ahx (o:=o) (ev:=ev) (d:=d) Y (ev x);have h:fc (si P o ev s d (ev x) H)=.ok v l:=h;show fc (si P o ev s d (ev x) c)=.ok v c;rw[k]at h ⊢;cases y with
  |none=>cases h
  |some k=>cases h;rfl
 |unOp op t x=>rw[j]at h;exact lZ h c
 |typeAssert a b z d=>rw[j]at h;exact lZ h c
 |makeInterface t x=>rw[j]at h;exact lZ h c
 |makeFunc k p z=>rw[j]at h;cases h;rfl
 |slice t x q k J=>rw[j]at h;exact lZ h c
 |fieldAddr s x p=>
  rw[j]at h;have h:dk s x p P o ev H=.ok v l:=h;show dk s x p P o ev c=.ok v c;unfold dk at h ⊢;cases r:fv P s p with
  |no=>rw[r]at h;cases h
  |mk a n t=>
   rw[r]at h;simp only at h ⊢;cases f:jX (ev x)with
   |no=>rw[f]at h;exact ahr h c
   |mk i A=>
    rw[f]at h;simp only at h ⊢;cases k:dK 1 n with
    |false=>rw[k]at h;cases h
    |true=>rw[k]at h;cases h;rfl
 |field t x p=>
  rw[j]at h;have h:r9 t x p P o ev H=.ok v l:=h;show r9 t x p P o ev c=.ok v c;unfold r9 at h ⊢;cases f:tT (ev x)with
  |none=>rw[f]at h;exact lZ h c
  |some G=>
   rw[f]at h;simp only at h ⊢;cases r:fv P t p with
   |no=>rw[r]at h;cases h
   |mk a n t=>rw[r]at h;exact lZ h c
 |indexAddr t x i=>
  rw[j]at h;have h:o7 t x i P o ev H=.ok v l:=h;show o7 t x i P o ev c=.ok v c;unfold o7 at h ⊢;cases M:p9 (ev i)with
  |no=>rw[M]at h;cases h
  |mk u=>
   rw[M]at h;simp only at h ⊢;cases C:p8 P t with
   |no=>rw[C]at h;cases h
   |arr n s=>
    rw[C]at h;simp only at h ⊢;cases f:jX (ev x)with
    |no=>rw[f]at h;exact ahs h c
    |mk i A=>
     rw[f]at h;simp only at h ⊢;cases k:dK (nX u) n with
     |false=>rw[k]at h;cases h
     |true=>rw[k]at h;cases h;rfl
   |sl s=>
    rw[C]at h;simp only at h ⊢;cases f:zz (ev x)with
    |no=>rw[f]at h;exact aht h c
    |mk i A q F=>
     rw[f]at h;simp only at h ⊢;cases k:dK (nX u) q with
     |false=>rw[k]at h;cases h
     |true=>rw[k]at h;cases h;rfl
 |index t x i=>
  rw[j]at h;have h:oz t x i P o ev H=.ok v l:=h;show oz t x i P o ev c=.ok v c;unfold oz at h ⊢;cases f:tT (ev x)with
  |none=>rw[f]at h;exact lZ h c
  |some G=>rw[f]at h;exact lZ h c
 |extract x i=>
  rw[j]at h;have h:sg x i P o ev H=.ok v l:=h;show sg x i P o ev c=.ok v c;unfold sg at h ⊢;cases f:BV (ev x)with
  |none=>rw[f]at h;exact lZ h c
  |some G=>rw[f]at h;exact lZ h c
 |call z=>
  obtain⟨W,args,argTypes⟩:=z;rw[j]at h m;cases W with
  |value p=>cases m
  |invoke r J=>cases m
  |builtin b=>
   have h:qc P o ev b argTypes (args.toList.map ev) H=.ok v l:=h;show qc P o ev b argTypes (args.toList.map ev) c=.ok v c;unfold qc at h ⊢;split at h
   .rw[ahn (aho m)]at h ⊢;simp only at h ⊢;split at h
    .cases h;rfl
    .exact lZ h c
   .split at h
    .cases h;rfl
    .exact lZ h c
   .cases m
   .cases m
   .cases m
   .cases m
   .cases m
   .rename_i i A q F _ _;have h: @jh (λ_=>aM) .no (.ok (.ptr i A) H) (dK 1 q)=.ok v l:=h;show @jh (λ_=>aM) .no (.ok (.ptr i A) c) (dK 1 q)=.ok v c
    cases k:dK 1 q with
    |false=>rw[k]at h;cases h
    |true=>rw[k]at h;cases h;rfl
   .rename_i J U i u q F _ _;have h: @jh (λ_=>aM) .no (.ok (.en J U i u 0) H) (dK 1 q)=.ok v l:=h;show @jh (λ_=>aM) .no (.ok (.en J U i u 0) c) (dK 1 q)=.ok v c
    cases k:dK 1 q with
    |false=>rw[k]at h;cases h
    |true=>rw[k]at h;cases h;rfl
   .exact lZ h c
 |_=>rw[j]at m;cases m
def ahz(c:oC P o.op=.r){v:af}{k:ai}(h:fR o.op P o ev H=.ok v k):k=H:=by
 cases j:o.op with
 |load t x=>
  rw[j]at h;have h:qb t x P o ev H=.ok v k:=h;unfold qb at h;cases m:jX (ev x)with
  |no=>
   rw[m]at h;have h:pc P t (ev x) H=.ok v k:=h;unfold pc at h;split at h
   .exact(Fq h).2
   .rename_i r A i p z _;cases f:bx r A (H.get i) p with
    |false=>rw[f]at h;cases h
    |true=>rw[f]at h;exact(Fq h).2
   .cases h
  |mk i z=>
   rw[m]at h;simp only at h;cases f:zp (H.get i)with
   |no=>rw[f]at h;cases h
   |mk a b l d e=>rw[f]at h;exact(Fq h).2
 |lookup t u p F=>rw[j]at h;exact(Fq h).2
 |call l=>
  obtain⟨q,args,argTypes⟩:=l;rw[j]at c;cases q with
  |value C=>cases c
  |invoke G u=>cases c
  |builtin b=>cases b<;>first |cases c|exact(ahp c).elim
 |convert s d x=>rw[j]at c;exact(ahv c).elim
 |_=>rw[j]at c;cases c
def Fs(l:(oC P o.op).al=D){v:af}{q:ai}(h:fR o.op P o ev H=.ok v q):True/\∃a4,q=H.new a4/\∀c:ai,c.next=H.next->fR o.op P o ev c=.ok v (c.new a4):=by
 cases p:o.op with
 |alloc t=>
  rw[p]at h;have h:v8 t P o ev H=.ok v q:=h;unfold v8 at h;cases a1:ou P t with
  |none=>rw[a1]at h;cases h
  |some z=>
   rw[a1]at h;cases h;refine⟨trivial,_,rfl,λc j=>?_⟩;show v8 t P o ev c=_;unfold v8;rw[a1];simp only[j]
 |box t x=>
  rw[p]at h;have h:q3 t x P o ev H=.ok v q:=h;unfold q3 at h;cases u:(ev x).xP with
  |true=>rw[u]at h;cases h
  |false=>
   rw[u]at h;cases h;refine⟨trivial,_,rfl,λc j=>?_⟩;show q3 t x P o ev c=_;unfold q3;rw[u];simp only[j]
 |buildSlice t f parts=>
  rw[p]at h;have h:fc (q4 P ev t f parts H)=.ok v q:=h;have F:∀c:ai,q4 P ev t f parts c=(q4 P ev t f parts {m:= .nil,next:=0}).bind λ_=>(nK P t).bind λe=>(eY P e).bind λs=>(ou P e).bind λz=>
    ((tU (λi=>O (i*s,s)) (ie f (jE z.cells)).flatten (ua ev parts)).map λY=>(.slice c.next 0 f (.known f),c.new (.cells e Y D ao ao))):=by
   intro c;unfold q4;cases J:nK P t with
   |none=>rfl
   |some e=>
    simp only[kV];cases j:eY P e with
    |none=>rfl
    |some s=>
     simp only[kV];cases K:ou P e with
     |none=>rfl
     |some z=>
      simp only[kV];cases M:(dK 1 s&&dK (f*s) 16777216&&dd z.cells.size s)with
      |false=>rfl
      |true=>
       simp only[ka];cases Q:tU (λi=>O (i*s,s)) (ie f (jE z.cells)).flatten (ua ev parts)with
       |none=>rfl
       |some Y=>rfl
  obtain⟨r,a5⟩:∃r,q4 P ev t f parts H=O r:=by
   cases k:q4 P ev t f parts H with
   |none=>rw[k]at h;cases h
   |some r=>exact⟨r,rfl⟩
  rw[a5]at h;have C:=F H;rw[a5]at C;have C:=C.symm;simp only[ep,am]at C;obtain⟨b',h0,e,J,s,j,z,K,Y,M,Q⟩:=C;subst Q;cases h;refine⟨trivial,_,rfl,λc a'=>?_⟩;show fc (q4 P ev t f parts c)=_;rw[F c,h0];simp only[kV,J,j,K,M,ta,a',fc]
 |call A=>
  obtain⟨a6,args,argTypes⟩:=A;rw[p]at l;cases a6 with
  |value a9=>cases l
  |invoke r m=>cases l
  |builtin b=>cases b<;>first |cases l|exact(ahq l).elim
 |makeMap t r=>
  rw[p]at h;have h:fc (ud P ev t r H)=.ok v q:=h;have F:∀c:ai,ud P ev t r c=(ud P ev t r {m:= .nil,next:=0}).map λ_=>(.map c.next,c.new (.map #[] 0)):=by
   intro c;unfold ud;cases r with
   |none=>rfl
   |some x=>
    simp only;split<;>rfl
  rw[F H]at h;cases k:ud P ev t r {m:= .nil,next:=0}with
  |none=>rw[k]at h;cases h
  |some G=>
   rw[k]at h;cases h;refine⟨trivial,_,rfl,λc j=>?_⟩;show fc (ud P ev t r c)=_;rw[F c,k];simp only[ta,fc,j]
 |makeSlice t W A=>
  rw[p]at h;have h:fc (sj P t (ev W) (ev A) H)=.ok v q:=h;obtain⟨G,k⟩:∃G,sj P t (ev W) (ev A) H=O G:=by
   cases k:sj P t (ev W) (ev A) H with
   |none=>rw[k]at h;cases h
   |some G=>exact⟨G,rfl⟩
  rw[k]at h;have a3:=k;unfold sj at a3;simp only[ep]at a3;obtain⟨e,J,a2,j,z,K,n,M,m,Q,U⟩:=a3;cases u:(dK n m&&dK 1 a2.size&&bounded m a2.bytes&&dd z.cells.size a2.size)with
  |false=>rw[u]at U;cases U
  |true=>
   rw[u]at U;cases U;cases h;refine⟨trivial,_,rfl,λc a'=>?_⟩;show fc (sj P t (ev W) (ev A) c)=_;unfold sj;simp only[J,j,K,M,Q,kV,u,ka,fc,a']
 |convert s d x=>rw[p]at l;exact(ahw l).elim
 |_=>rw[p]at l;cases l
end
end
section
open Go.RowKit
def Vs{a b:Value}(h:Fp a b=D):a=b:=by
 unfold Fp at h;split at h
 .simp only[ae,aN]at h;rw[h.1,h.2]
 .simp only[gw]at h;rw[h]
 .simp only[aN]at h;rw[h]
 .rfl
 .simp only[ae]at h;rw[ac h.1,ac h.2]
 .rfl
 .rfl
 .rfl
 .simp only[aN]at h;rw[h]
 .cases h
def NL{f:Value->Value->dF}(j:∀a b,f a b=D->a=b):∀{l m:I Value},Cx f l m=D->l=m
 |[],[],_=>rfl
 |[],_::_,h=>by cases h
 |_::_,[],h=>by cases h
 |a::l,b::m,h=>by
  have e:Cx f (a::l) (b::m)=oi (f a b) (Cx f l m) ao:=rfl;rw[e]at h;cases c:f a b with
  |false=>rw[c]at h;cases h
  |true=>rw[c]at h;rw[j a b c,NL j h]
def rc:∀(n:E){a b:Value},z7 n a b=D->a=b
 |0,_,_,h=>Vs h
 |n+1,a,b,h=>by
  unfold z7 at h;split at h
  .rw[NL (λ_ _ h=>rc n h) h]
  .rw[NL (λ_ _ h=>rc n h) h]
  .exact Vs h
def Vt{a b:aY}(h:aY.same a b=D):a=b:=by
 unfold aY.same at h;split at h
 .rw[ac h]
 .rfl
 .rfl
 .cases h
def Vu{α:Type}{f:α->α->dF}(c:∀a b,f a b=D->a=b):∀{l m:I α},l.length=m.length->(l.zip m).all (λp=>f p.1 p.2)=D->l=m
 |[],[],_,_=>rfl
 |[],_::_,h,_=>by simp at h
 |_::_,[],h,_=>by simp at h
 |a::l,b::m,h,k=>by
  simp only[I.zip_cons_cons,I.all_cons,ae]at k;rw[c a b k.1,Vu c (by simpa using h) k.2]
def aq.CA:∀(t:aq){a b:t.den},t.beq a b=D->a=b
 |.int _,a,b,h=>cC h
 |.bool,a,b,h=>eq_of_beq h
 |.str,a,b,h=>cC h
 |.list _ t,a,b,h=>by
   have h:(dd a.length b.length&&(a.zip b).all λp=>t.beq p.1 p.2)=D:=h;rw[ae]at h;exact Vu (λa b h=>t.CA h) (ac h.1) h.2
 |.pair s t,a,b,h=>by
   have h:(s.beq a.1 b.1&&t.beq a.2 b.2)=D:=h;rw[ae]at h;exact BC.ext (s.CA h.1) (t.CA h.2)
 |.ptr t,_,_,h=>t.CA h
 |.unit,_,_,_=>rfl
def Vv{t u:aq}{xs:I t.den}{ys:I u.den}(h:Cy t u xs ys=D):∃e:u=t,xs=e ▸ ys:=by
 unfold Cy at h;split at h
 .rename_i e;exact⟨e,(aq.CA (.list ao t) h:(xs:I t.den)=_)⟩
 .cases h
def Vw{a b:af}(h:x9 a b=D):a=b:=by
 unfold x9 at h;split at h
 .simp only[ae]at h;obtain⟨e,c⟩:=Vv h.2;subst e;subst c;rw[eq_of_beq h.1]
 .simp only[ae]at h;obtain⟨e,c⟩:=Vv h.1;subst e;subst c;rw[ac h.2.1,ac h.2.2]
 .simp only[ae,aN]at h;obtain⟨f,c,j,k,l,m⟩:=h;subst c;rw[ac f,ac j,ac k,ac l,Vt m]
 .simp only[ae,aN]at h;obtain⟨f,c,j,k,l⟩:=h;subst c;rw[ac f,ac j,ac k,ac l]
 .rw[rc 3 h]
 .simp only[ae]at h;rw[ac h.1,ac h.2]
 .simp only[ae]at h;rw[ac h.1.1.1,ac h.1.1.2,ac h.1.2,Vt h.2]
 .rw[ac h]
 .simp only[aN]at h;rw[h]
 .rw[ac h]
 .cases h
def Aa:∀{l m:I af},lP l m=D->l=m
 |[],[],_=>rfl
 |[],_::_,h=>by cases h
 |_::_,[],h=>by cases h
 |a::l,b::m,h=>by
  simp only[lP,ae]at h;rw[Vw h.1,Aa h.2]
def ahA{a b:af}(h:af.same a b=D):a=b:=by
 unfold af.same at h;split at h
 .rw[Aa h]
 .rw[Aa h]
 .simp only[ae,aN]at h;rw[h.1,Aa h.2.1,Aa h.2.2]
 .simp only[ae,aN]at h;rw[h.1,Aa h.2.1,Aa h.2.2]
 .exact Vw h
def Ft{i:E}:∀{l:I E},mO i l=D↔i∈l
 |[]=>by simp[mO]
 |a::l=>by
  have e:mO i (a::l)=@jh (λ_=>dF) (mO i l) D (dd a i):=rfl;rw[e];cases c:dd a i with
  |false=>have:=E.ne_of_beq_eq_false c;simp only[Ft,cQ];exact⟨.inr,λh=>h.resolve_left λe=>this e.symm⟩
  |true=>simp[ac c]
def Vx{l c:I E}(h:wA l c=D):∀i∈l,i∈c:=λi f=>Ft.1 (ky.1 h i f)
def Vy{c:au E}{e:E}:∀{f:I E},(∀d∈f,(c.get d).getD 0<=e)->level c f<=e
 |[],_=>gt _
 |a::l,h=>by
  have e:level c (a::l)=E.max ((c.get a).getD 0) (level c l):=rfl;rw[e];exact E.max_le.2 ⟨h a gb,Vy λd j=>h d (gQ _ j)⟩
def Vz{t k:E}{o:ls}:∀{l:I ls}{i:E},sH t l i=O (k,o)->i<=k/\l[k-i]? =O o/\o.dst=O t
 |[],_,h=>by cases h
 |a::l,i,h=>by
  have e:sH t (a::l) i=oi (z1 t a) (O (i,a)) (sH t l (i+1)):=rfl;rw[e]at h;cases c:z1 t a with
  |true=>
   rw[c]at h;cases h;refine⟨aC _,by simp,?_⟩;unfold z1 at c;split at c
   .rename_i d m;rw[m,ac c]
   .cases c
  |false=>
   rw[c]at h;obtain⟨p,f,j⟩:=Vz (l:=l) h;refine⟨by omega,?_,j⟩;have:k-i=(k-(i+1))+1:=by omega
   rw[this];simpa using f
def VA{t:E}:∀{l:I ls}{i:E},sH t l i=bs->∀o∈l,o.dst≠O t
 |[],_,_,o,f=>by simp at f
 |a::l,i,h,o,f=>by
  have e:sH t (a::l) i=oi (z1 t a) (O (i,a)) (sH t l (i+1)):=rfl;rw[e]at h;cases c:z1 t a with
  |true=>rw[c]at h;cases h
  |false=>
   rw[c]at h;rcases cQ.1 f with rfl |f
   .intro j;unfold z1 at c;rw[j]at c;have:dd t t=D:=zX t;simp only at c;rw[this]at c;cases c
   .exact VA (l:=l) h o f
def VB{ops:I ls}:∀{l:I ls}{i:E},uj ops l i=D->∀j o,l[j]? =O o->z6 ops (i+j) o=D
 |[],i,h,j,o,c=>by simp at c
 |a::l,i,h,j,o,c=>by
  have e:uj ops (a::l) i=oi (z6 ops i a) (uj ops l (i+1)) ao:=rfl;rw[e]at h;cases f:z6 ops i a with
  |false=>rw[f]at h;cases h
  |true=>
   rw[f]at h;cases j with
   |zero=>simp at c;subst c;exact f
   |succ j=>
    have:=VB (l:=l) h j o (by simpa using c);have e:i+1+j=i+(j+1):=by omega
    rwa[e]at this
structure ahB(ops:fh ls)(i:E)(o:ls):Prop where
 lt:∀d∈bi o,d<i
 slot:∀t,gn.tmp t∈o.op.operands.toList->(∀(j:E)(p:ls),ops[j]? =O p->p.dst≠O t)\/∃(k:E)(p:ls),ops[k]? =O p/\p.dst=O t/\(k∈bi o\/i∈bi p)
 dst:∀t,o.dst=O t->∀(j:E)(p:ls),ops[j]? =O p->p.dst=O t->j=i
 guard:∀g,o.guard=O g->g.1∈bi o
def wB{ops:fh ls}(h:uj ops.toList ops.toList 0=D){i:E}{o:ls}(hi:ops[i]? =O o):ahB ops i o:=by
 have A:∀{j:E}{p:ls},ops[j]? =O p->z6 ops.toList j p=D:=λ{j p} c=>by
  have:=VB h j p (by simpa using c);simpa using this
 have F:∀{j:E}{p:ls}{t:Tmp},ops[j]? =O p->p.dst=O t->∃q,sH t ops.toList 0=O (j,q):=λ{j p t} c k=>by
  have f:=A c;simp only[z6,ae,k]at f;have l:=f.1.2;split at l
  .rename_i q r;have:=ac l;exact⟨q.2,by rw[r];simp[<-this]⟩
  .cases l
 have f:=A hi;simp only[z6,ae,ky]at f;obtain⟨⟨⟨K,M⟩,l⟩,C⟩:=f;refine⟨λd Q=>b5 (K d Q),λt k=>?_,λt k j p c W=>?_,λg U=>?_⟩
 .have m:=M t (I.mem_filterMap.2 ⟨_,k,rfl⟩);cases u:sH t ops.toList 0 with
  |none=>exact .inl λj p c=>VA u p (I.mem_of_getElem? (by simpa using c))
  |some q=>
   obtain⟨Y,p⟩:=q;rw[u]at m;obtain⟨_,G,J⟩:=Vz u;simp only[qh,Ft]at m;exact .inr ⟨Y,p,by simpa using G,J,m⟩
 .obtain⟨q,r⟩:=F hi k;obtain⟨f,z⟩:=F c W;rw[r]at z;cases z;rfl
 .rw[U]at C;exact Ft.1 C
section
variable{T Z:au af}{n:E}{dst:da Tmp}{v:af}
def Fw(h:jY T n dst v=O Z)(t:E):Z.get t=if dst=O t then O v else T.get t:=by
 cases dst with
 |none=>cases h;simp
 |some d=>
  have e:jY T n (O d) v=@jh (λ_=>da (au af)) bs (O (T.set d (O v))) (dK (nX d) n):=rfl;rw[e]at h;cases c:dK (nX d) n with
  |false=>rw[c]at h;cases h
  |true=>
   rw[c]at h;cases h;rw[au.gS];by_cases f:d=t<;>simp[f]
def ahC(h:jY T n dst v=O Z)(c:au af):∃f,jY c n dst v=O f:=by
 cases dst with
 |none=>exact⟨_,rfl⟩
 |some d=>
  have e:∀T,jY T n (O d) v=@jh (λ_=>da (au af)) bs (O (T.set d (O v))) (dK (nX d) n):=λ_=>rfl
  rw[e]at h ⊢;cases j:dK (nX d) n with
  |false=>rw[j]at h;cases h
  |true=>exact⟨_,rfl⟩
end
inductive NM(P:fd)(call:fe)(round:lz)(ops:fh ls)(o:ls)(s:ia)(v:af)(s':ia):Prop
 |skip (h:iY s.T ops o=O ao) (hv:v=.raw lk) (hk:s'.k=s.k) (hc:s'.cur=s.cur) (hh:s'.hs=s.hs) (hl:s'.bT=s.bT.set s.i (O (level s.bT (bi o)))) (hp:s'.eo=s.eo) (ha:s'.dU=s.dU)
 |p (h:iY s.T ops o=O D) (iB:oC P o.op=.p) (hop:∃H,fR o.op P o (cF s.T) s.cur=.ok v H) (hk:s'.k=s.k) (hc:s'.cur=s.cur) (hh:s'.hs=s.hs) (hl:s'.bT=s.bT.set s.i (O (level s.bT (bi o)))) (hp:s'.eo=s.eo) (ha:s'.dU=s.dU)
 |r (h:iY s.T ops o=O D) (iB:oC P o.op=.r) (hr:xc P o (cF s.T) v (s.hs.take (s.k+1-level s.bT (bi o)))=D) (hk:s'.k=s.k) (hc:s'.cur=s.cur) (hh:s'.hs=s.hs) (hl:s'.bT=s.bT.set s.i (O (level s.bT (bi o)))) (hp:s'.eo=⟨s.i,o,s.T,v⟩::s.eo) (ha:s'.dU=s.dU)
 |a (h:iY s.T ops o=O D) (iB:(oC P o.op).al=D) (hop:fR o.op P o (cF s.T) s.cur=.ok v s'.cur) (hk:s'.k=s.k) (hh:s'.hs=s.hs) (hl:s'.bT=s.bT.set s.i (O (level s.bT (bi o)))) (hp:s'.eo=s.eo) (ha:s'.dU=s.i::s.dU)
 |e (h:iY s.T ops o=O D) (hlv:level s.bT (bi o)=s.k) (hs:∀j∈s.dU,j∈bi o) (hop:ko P call round o (cF s.T) s.cur=.ok v s'.cur) (ja:sI P s'.cur (kX (bi o) s.eo)=D)
    (hk:s'.k=s.k+1) (hh:s'.hs=s'.cur::s.hs) (hl:s'.bT=s.bT.set s.i (O (s.k+1))) (hp:s'.eo=kX (bi o) s.eo) (ha:s'.dU=[])
def rf{P:fd}{call:fe}{round:lz}{ops:fh ls}{n:E}{o:ls}{s s':ia}(h:pv P call round ops n o s=O s'):∃v,jY s.T n o.dst v=O s'.T/\s'.i=s.i+1/\NM P call round ops o s v s':=by
 unfold pv at h;simp only[oD]at h;split at h
 .cases h
 .rename_i k;simp only[am]at h;obtain⟨T,c,rfl⟩:=h;exact⟨_,c,rfl,.skip k rfl rfl rfl rfl rfl rfl rfl⟩
 .rename_i k;split at h
  .rename_i l;split at h
   .rename_i v H j;simp only[am]at h;obtain⟨T,c,rfl⟩:=h;exact⟨v,c,rfl,.p k l ⟨H,j⟩ rfl rfl rfl rfl rfl rfl⟩
   .cases h
  .rename_i l;split at h
   .split at h
    .rename_i H u r v q j;cases p:xc P o (cF s.T) v (s.hs.take (s.k+1-level s.bT (bi o)))with
     |false=>rw[p]at h;cases h
     |true=>
      rw[p]at h;simp only[ka,am]at h;obtain⟨T,c,rfl⟩:=h;exact⟨v,c,rfl,.r k l p rfl rfl rfl rfl rfl rfl⟩
    .cases h
   .cases h
  .rename_i l;split at h
   .rename_i v H j;simp only[am]at h;obtain⟨T,c,rfl⟩:=h;exact⟨v,c,rfl,.a k (by rw[l];rfl) j rfl rfl rfl rfl rfl⟩
   .cases h
  .rename_i l;cases f:(dd (level s.bT (bi o)) s.k&&wA s.dU (bi o))with
   |false=>rw[f]at h;cases h
   |true=>
    rw[f]at h;simp only[ae]at f;simp only[ka]at h;split at h
    .rename_i v H j;cases m:sI P H (kX (bi o) s.eo)with
     |false=>rw[m]at h;cases h
     |true=>
      rw[m]at h;simp only[ka,am]at h;obtain⟨T,c,rfl⟩:=h;exact⟨v,c,rfl,.e k (ac f.1) (Vx f.2) j m rfl rfl rfl rfl rfl⟩
    .cases h
  .rename_i l;cases f:(dd (level s.bT (bi o)) s.k&&wA s.dU (bi o))with
   |false=>
    rw[f]at h;simp only[sd]at h;split at h
    .rename_i v H j;simp only[am]at h;obtain⟨T,c,rfl⟩:=h;exact⟨v,c,rfl,.a k (by rw[l];rfl) j rfl rfl rfl rfl rfl⟩
    .cases h
   |true=>
    rw[f]at h;simp only[ae]at f;simp only[ka]at h;split at h
    .rename_i v H j;cases m:sI P H (kX (bi o) s.eo)with
     |false=>rw[m]at h;cases h
     |true=>
      rw[m]at h;simp only[ka,am]at h;obtain⟨T,c,rfl⟩:=h;exact⟨v,c,rfl,.e k (ac f.1) (Vx f.2) j m rfl rfl rfl rfl rfl⟩
    .cases h
def VC{P:fd}{call:fe}{round:lz}{ops:fh ls}{n:E}{j:au af}{H':ai}:∀{l:I ls}{s:ia},z8 P call round ops n l s=.mk j H'->
  ∃S:E->ia,S 0=s/\(∀i o,l[i]? =O o->pv P call round ops n o (S i)=O (S (i+1)))/\(S l.length).T=j/\(S l.length).cur=H'
 |[],s,h=>by cases h;exact⟨λ_=>s,rfl,λi o h=>by simp at h,rfl,rfl⟩
 |o::l,s,h=>by
  have e:z8 P call round ops n (o::l) s=match pv P call round ops n o s with
   |some s=>z8 P call round ops n l s
   |none=>.no:=rfl
  rw[e]at h;cases f:pv P call round ops n o s with
  |none=>rw[f]at h;cases h
  |some u=>
   rw[f]at h;obtain⟨S,k,m,p,q⟩:=VC (l:=l) h;refine⟨λi=>match i with |0=>s|i+1=>S i,rfl,λi r c=>?_,p,q⟩;cases i with
   |zero=>simp at c;subst c;simp only[k];exact f
   |succ i=>exact m i r (by simpa using c)
structure dP(P:fd)(call:fe)(round:lz)(ops:fh ls)(n:E)(S:E->ia)(V:E->af):Prop where
 ok:uj ops.toList ops.toList 0=D
 Fx:∃T H,S 0={i:=0,k:=0,T:=T,cur:=H,hs:=[H],bT:= .nil,eo:=[],dU:=[]}
 put:∀i o,ops[i]? =O o->jY (S i).T n o.dst (V i)=O (S (i+1)).T
 kind:∀i o,ops[i]? =O o->NM P call round ops o (S i) (V i) (S (i+1))
 i:∀i,i<=ops.size->(S i).i=i
def VD{P:fd}{call:fe}{round:lz}{ops:fh ls}{n:E}{T aZ:au af}{H H':ai}(h:Cz P call round ops n T H=.mk aZ H'):
  ∃S V,dP P call round ops n S V/\(S 0).T=T/\(S 0).cur=H/\(S ops.size).T=aZ/\(S ops.size).cur=H':=by
 unfold Cz at h;cases hk:uj ops.toList ops.toList 0 with
 |false=>rw[hk]at h;cases h
 |true=>
  rw[hk]at h;obtain⟨S,h0,h1,h2,h3⟩:=VC (l:=ops.toList) h;have step:∀i o,ops[i]? =O o->pv P call round ops n o (S i)=O (S (i+1)):=λi o hi=>h1 i o (by simpa using hi)
  classical
  refine⟨S,λi=>match ops[i]? with |some o=>if h:∃v,jY (S i).T n o.dst v=O (S (i+1)).T/\(S (i+1)).i=(S i).i+1/\NM P call round ops o (S i) v (S (i+1))then h.choose else .raw lk|none=>.raw lk,⟨hk,⟨T,H,h0⟩,λi o hi=>?_,λi o hi=>?_,λi=>?_⟩,by rw[h0],by rw[h0],by simpa using h2,by simpa using h3⟩
  .have hx:=rf (step i o hi);simp only[hi,dif_pos hx];exact hx.choose_spec.1
  .have hx:=rf (step i o hi);simp only[hi,dif_pos hx];exact hx.choose_spec.2.2
  .induction i with
   |zero=>intro _;rw[h0]
   |succ i ih=>
    intro hi;have hlt:i<ops.size:=hi;obtain⟨v,_,e,_⟩:=rf (step i ops[i] τ);rw[e,ih (kt hlt)]
variable[Ground]
def VE{f c:au E}:∀{h:I E},(∀d∈h,f.get d=c.get d)->level f h=level c h
 |[],_=>rfl
 |a::l,j=>by
  show E.max ((f.get a).getD 0) (level f l)=E.max ((c.get a).getD 0) (level c l);rw[j a gb,VE λd k=>j d (gQ _ k)]
def I2{c:I E}{q:rj}(f:¬q.i∈c):∀{l:I rj},q∈l->q∈kX c l
 |[],h=>by cases h
 |a::l,h=>by
  show q∈oi (mO a.i c) (kX c l) (a::kX c l);cases j:mO a.i c with
  |true=>
   rcases cQ.1 h with rfl |h
   .exact absurd (Ft.1 j) f
   .exact I2 f h
  |false=>
   rcases cQ.1 h with rfl |h
   .exact gb
   .exact gQ _ (I2 f h)
def VF{P:fd}{H:ai}{q:rj}:∀{l:I rj},sI P H l=D->q∈l->lh P q.o (cF q.T) q.v H=D
 |[],_,h=>by cases h
 |a::l,c,h=>by
  have e:sI P H (a::l)=oi (lh P a.o (cF a.T) a.v H) (sI P H l) ao:=rfl;rw[e]at c;cases f:lh P a.o (cF a.T) a.v H with
  |false=>rw[f]at c;cases c
  |true=>
   rw[f]at c;rcases cQ.1 h with rfl |h
   .exact f
   .exact VF c h
def VG{P:fd}{o:ls}{ev:eB}{v:af}{H:ai}:∀{l:I ai},xc P o ev v l=D->H∈l->lh P o ev v H=D
 |[],_,h=>by cases h
 |a::l,c,h=>by
  have e:xc P o ev v (a::l)=oi (lh P o ev v a) (xc P o ev v l) ao:=rfl;rw[e]at c;cases f:lh P o ev v a with
  |false=>rw[f]at c;cases c
  |true=>
   rw[f]at c;rcases cQ.1 h with rfl |h
   .exact f
   .exact VG c h
def ahE{P:fd}{o:ls}{ev:eB}{v:af}{H:ai}(f:oC P o.op=.r)(h:lh P o ev v H=D):fR o.op P o ev H=.ok v H:=by
 unfold lh at h;split at h
 .rename_i k j c;rw[c,ahA h,ahz f c]
 .cases h
section
variable{P:fd}{call:fe}{round:lz}{ops:fh ls}{n:E}{S:E->ia}{V:E->af}
def nR{i:E}(h:i<ops.size):∃o,ops[i]? =O o:=⟨ops[i],by simp⟩
abbrev fK(S:E->ia)(m:E):Prop:=(S (m+1)).k=(S m).k+1
abbrev lH(S:E->ia)(j:E):Prop:=(S (j+1)).dU=j::(S j).dU
noncomputable abbrev lvl(S:E->ia)(c j:E):E:=((S c).bT.get j).getD 0
noncomputable abbrev hpf(S:E->ia)(c e:E):ai:=((S c).hs.reverse[e]?).getD {m:= .nil,next:=0}
variable(R:dP P call round ops n S V)
include R
def dP.VI{i:E}(hi:i<ops.size):(S (i+1)).k=(S i).k\/(S (i+1)).k=(S i).k+1:=by
 obtain⟨o,f⟩:=nR hi;cases R.kind i o f with
 |skip _ _ c=>exact .inl c
 |p _ _ _ c=>exact .inl c
 |r _ _ _ c=>exact .inl c
 |a _ _ _ c=>exact .inl c
 |e _ _ _ _ _ c=>exact .inr c
def dP.uk{i:E}:∀{j:E},i<=j->j<=ops.size->(S i).k<=(S j).k
 |0,h,_=>by have:i=0:=by omega
            subst this;exact aC _
 |j+1,h,l=>by
  by_cases c:i=j+1
  .subst c;exact aC _
  .have f:=dP.uk (i:=i) (j:=j) ω ω;have k:=R.VI (i:=j) ω;omega
def dP.I3{i e:E}:∀{j:E},i<=j->j<=ops.size->(S i).k<e->e<=(S j).k->∃m,i<=m/\m<j/\(S m).k+1=e/\fK S m
 |0,h,_,h1,h2=>by have:i=0:=by omega
                  subst this;omega
 |j+1,h,hj,h1,h2=>by
  by_cases hi:i=j+1
  .subst hi;omega
  .by_cases he:e<=(S j).k
   .obtain⟨m,a,b,c,d⟩:=dP.I3 (j:=j) ω ω h1 he;exact⟨m,a,by omega,c,d⟩
   .have h3:=R.VI (i:=j) ω;exact⟨j,by omega,by omega,by omega,by unfold fK;omega⟩
def dP.k0:(S 0).k=0:=by obtain⟨T,H,h⟩:=R.Fx;rw[h]
def dP.VJ(h:bI P call)(j:nQ P round){i:E}(hi:i<ops.size):(S i).cur.next<=(S (i+1)).cur.next:=by
 obtain⟨o,k⟩:=nR hi;cases R.kind i o k with
 |skip _ _ _ c=>exact uV (by rw[c])
 |p _ _ _ _ c=>exact uV (by rw[c])
 |r _ _ _ _ c=>exact uV (by rw[c])
 |a _ l f=>
  obtain⟨_,m,e,_⟩:=Fs l f;rw[e];exact QZ _
 |e _ _ _ f=>exact Vf h j f
def dP.rq(c:bI P call)(f:nQ P round){i:E}:∀{j:E},i<=j->j<=ops.size->(S i).cur.next<=(S j).cur.next
 |0,h,_=>by have:i=0:=by omega
            subst this;exact aC _
 |j+1,h,l=>by
  by_cases k:i=j+1
  .subst k;exact aC _
  .exact cD (dP.rq c f (i:=i) (j:=j) ω ω) (R.VJ c f ω)
def dP.ahF{i x:E}(hi:i<ops.size)(k:x≠i):(S (i+1)).bT.get x=(S i).bT.get x:=by
 obtain⟨o,j⟩:=nR hi;have e:=R.i i (kt hi);have f:∀y,((S i).bT.set (S i).i (O y)).get x=(S i).bT.get x:=λy=>by rw[au.gS,e,db λh=>k h.symm]
 cases R.kind i o j with
 |skip _ _ _ _ _ c=>rw[c,f]
 |p _ _ _ _ _ _ c=>rw[c,f]
 |r _ _ _ _ _ _ c=>rw[c,f]
 |a _ _ _ _ _ c=>rw[c,f]
 |e _ _ _ _ _ _ _ c=>rw[c,f]
def dP.NN{i x:E}(f:x<i):∀{j:E},i<=j->j<=ops.size->(S j).bT.get x=(S i).bT.get x
 |0,h,_=>by omega
 |j+1,h,k=>by
  by_cases c:i=j+1
  .subst c;rfl
  .rw[R.ahF ω ω,dP.NN f (j:=j) ω ω]
def dP.level{i:E}{o:ls}(c:ops[i]? =O o):level (S i).bT (bi o)=level (S ops.size).bT (bi o):=by
 have h:i<ops.size:=(cy.1 c).1;exact VE λd f=>(R.NN ((wB R.ok c).lt d f) (kt h) (aC _)).symm
def dP.NP{i:E}{o:ls}(k:ops[i]? =O o):(fK S i/\lvl S ops.size i=(S i).k+1)\/(¬fK S i/\lvl S ops.size i=Sv.level (S ops.size).bT (bi o)):=by
 have l:i<ops.size:=(cy.1 k).1;have e:=R.i i (kt l);have q:lvl S ops.size i=((S (i+1)).bT.get i).getD 0:=by unfold lvl;rw[R.NN (gR i) l (aC _)]
 have h:∀y,(S (i+1)).bT=(S i).bT.set (S i).i (O y)->lvl S ops.size i=y:=λy m=>by rw[q,m,au.gS,e,dA rfl];rfl
 have j:=R.level k;cases R.kind i o k with
 |skip _ _ f _ _ c=>exact .inr ⟨by unfold fK;omega,by rw[h _ c,j]⟩
 |p _ _ _ f _ _ c=>exact .inr ⟨by unfold fK;omega,by rw[h _ c,j]⟩
 |r _ _ _ f _ _ c=>exact .inr ⟨by unfold fK;omega,by rw[h _ c,j]⟩
 |a _ _ _ f _ c=>exact .inr ⟨by unfold fK;omega,by rw[h _ c,j]⟩
 |e _ _ _ _ _ f _ c=>exact .inl ⟨f,by rw[h _ c]⟩
def dP.I4{i:E}(hi:i<ops.size):((S (i+1)).hs=(S i).hs/\(S (i+1)).k=(S i).k)\/((S (i+1)).hs=(S (i+1)).cur::(S i).hs/\(S (i+1)).k=(S i).k+1):=by
 obtain⟨o,h⟩:=nR hi;cases R.kind i o h with
 |skip _ _ f _ c=>exact .inl ⟨c,f⟩
 |p _ _ _ f _ c=>exact .inl ⟨c,f⟩
 |r _ _ _ f _ c=>exact .inl ⟨c,f⟩
 |a _ _ _ f c=>exact .inl ⟨c,f⟩
 |e _ _ _ _ _ f c=>exact .inr ⟨c,f⟩
def dP.I5{i:E}(hi:i<=ops.size):(S i).hs.length=(S i).k+1:=by
 induction i with
 |zero=>obtain⟨T,H,h⟩:=R.Fx;rw[h];rfl
 |succ i c=>
  have c:=c (AN hi);rcases R.I4 (i:=i) hi with⟨a,b⟩|⟨a,b⟩
  .rw[a,b,c]
  .rw[a,b,la,c]
def dP.VK{i e:E}(he:e<=(S i).k):∀{j:E},i<=j->j<=ops.size->(S j).hs.reverse[e]? =(S i).hs.reverse[e]?
 |0,h,_=>by have:i=0:=by omega
            subst this;rfl
 |j+1,h,k=>by
  by_cases f:i=j+1
  .subst f;rfl
  .have c:=dP.VK he (j:=j) ω ω;rcases R.I4 (i:=j) k with⟨a,b⟩|⟨a,b⟩
   .rw[a,c]
   .have l:=R.I5 (i:=j) ω;have m:=R.uk (i:=i) (j:=j) ω ω;rw[a,I.reverse_cons,I.getElem?_append_left (by simp;omega),c]
def dP.NQ{i e:E}(hi:i<=ops.size)(he:e<=(S i).k):(S i).hs.reverse[e]? =O (hpf S ops.size e):=by
 have c:=R.VK he hi (aC _);have j:=R.I5 hi;have f:∃x,(S i).hs.reverse[e]? =O x:=⟨_,iw (by simp;omega)⟩;obtain⟨x,h⟩:=f;unfold hpf;rw[c,h];rfl
def dP.I6{i:E}(hi:i<ops.size)(he:fK S i):hpf S ops.size ((S i).k+1)=(S (i+1)).cur:=by
 have c:=R.NQ (i:=i+1) (e:=(S i).k+1) hi (by unfold fK at he;omega);have f:=R.I5 (i:=i) ω;unfold fK at he;rcases R.I4 (i:=i) hi with⟨a,b⟩|⟨a,b⟩
 .omega
 .rw[a,I.reverse_cons,I.getElem?_append_right (by simp;omega)]at c;simp[f]at c;exact c.symm
def dP.NR:hpf S ops.size 0=(S 0).cur:=by
 have c:=R.NQ (i:=0) (e:=0) (gt _) (gt _);obtain⟨T,H,h⟩:=R.Fx;rw[h]at c ⊢;simp at c;exact c.symm
def dP.ahG{i e l:E}(hi:i<=ops.size)(he:e<=(S i).k)(f:l<=e):hpf S ops.size e∈(S i).hs.take ((S i).k+1-l):=by
 have c:=R.NQ hi he;have h:=R.I5 hi;rw[I.getElem?_reverse ω]at c;refine I.mem_of_getElem? (i:=(S i).hs.length-1-e) ?_;rw[I.getElem?_take_of_lt ω];exact c
def dP.NS{i:E}(hi:i<=ops.size):∀j,j∈(S i).dU↔(j<i/\lH S j/\(S j).k=(S i).k):=by
 induction i with
 |zero=>intro j;obtain⟨T,H,l⟩:=R.Fx;rw[l];simp
 |succ i k=>
  have k:=k (AN hi);obtain⟨o,u⟩:=nR (ops:=ops) (i:=i) hi;have e:=R.i i (kt hi);have q:(S (i+1)).dU=(S i).dU->(S (i+1)).k=(S i).k->∀j,j∈(S (i+1)).dU↔(j<i+1/\lH S j/\(S j).k=(S (i+1)).k):=λc f j=>by
   rw[c,f,k];constructor
   .rintro⟨a,b,h⟩;exact⟨by omega,b,h⟩
   .rintro⟨a,b,h⟩;refine⟨?_,b,h⟩;by_cases m:j=i
    .subst m;unfold lH at b;rw[c]at b;have:=congrArg jC b;simp at this
    .omega
  cases R.kind i o u with
  |skip _ _ f _ _ _ _ c=>exact q c f
  |p _ _ _ f _ _ _ _ c=>exact q c f
  |r _ _ _ f _ _ _ _ c=>exact q c f
  |a _ _ _ f _ _ _ c=>
   intro j;rw[c,f,e,cQ,k];constructor
   .rintro(rfl |⟨a,b,h⟩)
    .exact⟨gR _,by unfold lH;rw[c,e],rfl⟩
    .exact⟨by omega,b,h⟩
   .rintro⟨a,b,h⟩;by_cases m:j=i
    .exact .inl m
    .exact .inr ⟨by omega,b,h⟩
  |e _ _ _ _ _ f _ _ _ c=>
   intro j;rw[c,f];constructor
   .intro l;cases l
   .rintro⟨a,b,h⟩;have:=R.uk (i:=j) (j:=i) ω ω;omega
noncomputable abbrev sE(S:E->ia)(j:E):da bn:=(S (j+1)).cur.get (S j).cur.next
def dP.VL{i:E}{o:ls}(j:ops[i]? =O o)(c:lH S i):iY (S i).T ops o=O D/\(oC P o.op).al=D/\fR o.op P o (cF (S i).T) (S i).cur=.ok (V i) (S (i+1)).cur/\(S (i+1)).k=(S i).k:=by
 have u:i<ops.size:=(cy.1 j).1;have f:(S (i+1)).dU=(S i).dU->lm:=λh=>by
  unfold lH at c;rw[h]at c;have:=congrArg jC c;simp at this
 cases R.kind i o j with
 |skip _ _ _ _ _ _ _ h=>exact(f h).elim
 |p _ _ _ _ _ _ _ _ h=>exact(f h).elim
 |r _ _ _ _ _ _ _ _ h=>exact(f h).elim
 |a k l m q=>exact⟨k,l,m,q⟩
 |e _ _ _ _ _ _ _ _ _ h=>unfold lH at c;rw[h]at c;cases c
def dP.VM{i:E}(hi:i<=ops.size):(∀x b,(S i).cur.get x=O b->(hpf S ops.size (S i).k).get x=O b\/∃j∈(S i).dU,x=(S j).cur.next/\sE S j=O b)/\
  (∀x,(hpf S ops.size (S i).k).get x≠bs->(S i).cur.get x≠bs)/\(∀j∈(S i).dU,(S i).cur.get (S j).cur.next≠bs):=by
 induction i with
 |zero=>
  rw[R.k0,R.NR];refine⟨λx b h=>.inl h,λx h=>h,λj k=>?_⟩;obtain⟨T,H,h⟩:=R.Fx;rw[h]at k;cases k
 |succ i l=>
  have l:=l (AN hi);obtain⟨o,C⟩:=nR (ops:=ops) (i:=i) hi;have e:=R.i i (kt hi);cases R.kind i o C with
  |skip _ _ c m _ _ _ f=>rw[c,m,f];exact l
  |p _ _ _ c m _ _ _ f=>rw[c,m,f];exact l
  |r _ _ _ c m _ _ _ f=>rw[c,m,f];exact l
  |a _ J F c _ _ _ f=>
   obtain⟨_,K,q,_⟩:=Fs J F;rw[c,f,e];refine⟨λx b h=>?_,λx h=>?_,λj k=>?_⟩
   .rw[q,ai.iM]at h;split at h
    .rename_i G;refine .inr ⟨i,gb,G.symm,?_⟩;unfold sE;rw[q,ai.iM,dA rfl,h]
    .rcases l.1 x b h with h|⟨j,u,z⟩
     .exact .inl h
     .exact .inr ⟨j,gQ _ u,z⟩
   .rw[q,ai.iM];split
    .simp
    .exact l.2.1 x h
   .rw[q,ai.iM];split
    .simp
    .rename_i A;rcases cQ.1 k with rfl |k
     .exact absurd rfl A
     .exact l.2.2 j k
  |e _ _ _ _ _ c _ _ _ f=>
   rw[c,R.I6 hi c,f];exact⟨λx b h=>.inl h,λx h=>h,λj k=>by cases k⟩
def dP.VN{i:E}{o:ls}(J:ops[i]? =O o)(q:(S (i+1)).eo=⟨(S i).i,o,(S i).T,V i⟩::(S i).eo):∀{j:E},i<j->j<=ops.size->
  (∀m h,i<m->m<j->fK S m->ops[m]? =O h->¬i∈bi h)->(⟨(S i).i,o,(S i).T,V i⟩:rj)∈(S j).eo
 |0,z,_,_=>by omega
 |j+1,z,F,l=>by
  by_cases C:i=j
  .subst C;rw[q];exact gb
  .have f:=dP.VN J q (j:=j) ω ω λm h A M=>l m h A ω
   obtain⟨u,k⟩:=nR (ops:=ops) (i:=j) F;have K:=R.i i ω;cases R.kind j u k with
   |skip _ _ _ _ _ _ c=>rw[c];exact f
   |p _ _ _ _ _ _ _ c=>rw[c];exact f
   |r _ _ _ _ _ _ _ c=>rw[c];exact gQ _ f
   |a _ _ _ _ _ _ c=>rw[c];exact f
   |e _ _ _ _ _ G _ _ c=>rw[c];exact I2 (by rw[K];exact l j u ω (gR _) G k) f
def dP.read{i e:E}{o:ls}(ho:ops[i]? =O o)(iB:oC P o.op=.r)(hr:xc P o (cF (S i).T) (V i) ((S i).hs.take ((S i).k+1-Sv.level (S i).bT (bi o)))=D)
  (hp:(S (i+1)).eo=⟨(S i).i,o,(S i).T,V i⟩::(S i).eo) (hl:Sv.level (S ops.size).bT (bi o)<=e) (he:e<=(S ops.size).k) (hm:∀m oE,m<ops.size->fK S m->(S m).k<e->ops[m]? =O oE->¬i∈bi oE):
  fR o.op P o (cF (S i).T) (hpf S ops.size e)=.ok (V i) (hpf S ops.size e):=by
 have hi:i<ops.size:=(cy.1 ho).1;refine ahE iB ?_;by_cases hk:e<=(S i).k
 .exact VG hr (R.ahG (kt hi) hk (by rw[R.level ho];exact hl))
 .obtain⟨m,h1,h2,h3,h4⟩:=R.I3 (i:=i) (j:=ops.size) (kt hi) (aC _) ω he;obtain⟨oE,wC⟩:=nR h2;have him:i≠m:=λhh=>by
   subst hh;rw[ho]at wC;cases wC;have hc:=R.kind i o ho;have:=R.I4 h2;cases hc with
   |skip _ _ hk=>unfold fK at h4;omega
   |p _ _ _ hk=>unfold fK at h4;omega
   |r _ _ _ hk=>unfold fK at h4;omega
   |a _ _ _ hk=>unfold fK at h4;omega
   |e _ _ _ _ _ _ _ _ hq=>
    have h1:=congrArg jC (hp.symm.trans hq);have h2:∀(ds:I E)(l:I rj),(kX ds l).length<=l.length:=λds l=>by
     induction l with
     |nil=>exact aC _
     |cons a l ih=>
      show(oi (mO a.i ds) (kX ds l) (a::kX ds l)).length<=_;cases mO a.i ds<;>simp<;>omega
    have:=h2 (bi o) (S i).eo;simp at h1;omega
  have hq:=R.VN ho hp (j:=m) ω (kt h2) λm' ahH a b c d=>hm m' ahH ω c (by
   have:=R.uk (i:=m') (j:=m) ω ω;omega) d
  have mP:=R.i i (kt hi);cases R.kind m oE wC with
  |skip _ _ hk=>unfold fK at h4;omega
  |p _ _ _ hk=>unfold fK at h4;omega
  |r _ _ _ hk=>unfold fK at h4;omega
  |a _ _ _ hk=>unfold fK at h4;omega
  |e _ _ _ _ ja=>
   have:=VF ja (I2 (by rw[mP];exact hm m oE h2 h4 ω wC) hq);rw[<-R.I6 h2 h4,h3]at this;exact this
def dP.VO{t:E}(h:∀(j:E)(p:ls),ops[j]? =O p->p.dst≠O t){i:E}(hi:i<=ops.size):(S i).T.get t=(S 0).T.get t:=by
 induction i with
 |zero=>rfl
 |succ i f=>
  obtain⟨o,c⟩:=nR (ops:=ops) (i:=i) hi;rw[Fw (R.put i o c),db (h i o c),f (AN hi)]
def dP.ahI{t k:E}{p:ls}(c:ops[k]? =O p)(j:p.dst=O t){i:E}(hi:i<=k):(S i).T.get t=(S 0).T.get t:=by
 have m:k<ops.size:=(cy.1 c).1;induction i with
 |zero=>rfl
 |succ i l=>
  obtain⟨o,f⟩:=nR (ops:=ops) (i:=i) ω;rw[Fw (R.put i o f),db (λh=>by
   have:=(wB R.ok c).dst t j i o f h;omega),l (AN hi)]
def dP.I7{t k:E}{p:ls}(f:ops[k]? =O p)(h:p.dst=O t):∀{i:E},k<i->i<=ops.size->(S i).T.get t=O (V k)
 |0,l,_=>by omega
 |i+1,l,q=>by
  obtain⟨o,c⟩:=nR (ops:=ops) (i:=i) ω;rw[Fw (R.put i o c)];by_cases j:i=k
  .subst j;rw[f]at c;cases c;rw[dA h]
  .rw[db (λm=>j ((wB R.ok f).dst t h i o c m)),dP.I7 f h (i:=i) ω ω]
end
end
section
open Go.RowKit
variable[Ground]
structure um(P:fd)(B:E)(fD:Env)(H0:ai)(w0:du)(top:E)(ρ:Env)(g:E->da bn)(w:du):Prop where
 blk:∀i k,g i=O k->∃b c o,ρ i=O (b,c)/\w.heap[b]? =O o/\iZ P ρ i k o/\(k.fq=ao->B<=b)
 inj:∀i j fu fI b ci cz,g i=O fu->g j=O fI->ρ i=O (b,ci)->ρ j=O (b,cz)->i=j
 base:B<=w.heap.size
 le:cR fD ρ
 ext:∀i,i<H0.next\/top<=i->ρ i=fD i
 size:w0.heap.size<=w.heap.size
 os:w.os=w0.os
 tape:w.tape=w0.tape
 output:w.output=w0.output
 frame:∀b,b<w0.heap.size->¬Own fD H0 b->w.heap[b]? =w0.heap[b]?
 own:∀b,b<w0.heap.size->∀i k c,g i=O k->k.fq=ao->ρ i=O (b,c)->Own fD H0 b
 oA:∀b,b<w0.heap.size->∀i k c,g i=O k->ρ i=O (b,c)->q8 fD H0 b
 fz:∀b A,ρ.fz b=O A->(∃e fr,w.heap[b]? =O (.cells A e fr))/\∀i k c,g i=O k->ρ i=O (b,c)->k.fq=D
 o8:∀b A,ρ.fz b=O A->fD.fz b=O A\/w0.heap.size<=b\/Own fD H0 b
noncomputable def oF(g:E->da bn)(X X':ai):E->da bn:=λx=>match X'.get x with
 |some k=>O k
 |none=>match X.get x with
  |some _=>bs
  |none=>g x
section
variable{g:E->da bn}{X X':ai}{x:E}
def I8{k:bn}(h:X'.get x=O k):oF g X X' x=O k:=by unfold oF;rw[h]
def NT(h:X'.get x=bs)(c:X.get x=bs):oF g X X' x=g x:=by unfold oF;rw[h,c]
def yb{k:bn}(h:oF g X X' x=O k):X'.get x=O k\/(X'.get x=bs/\X.get x=bs/\g x=O k):=by
 unfold oF at h;split at h
 .rename_i c;cases h;exact .inl c
 .rename_i c;split at h
  .cases h
  .rename_i f;exact .inr ⟨c,f,h⟩
end
def ahJ{g:E->da bn}{X:ai}(h:∀x k,X.get x=O k->g x=O k):oF g X X=g:=by
 funext x;cases c:X.get x with
 |none=>exact NT c c
 |some k=>rw[I8 c,h x k c]
section
variable{P:fd}{B:E}{fD:Env}{H0:ai}{w0:du}{top:E}{ρ:Env}{g:E->da bn}{w:du}
def um.at(h:um P B fD H0 w0 top ρ g w){i b c:E}{k:bn}(hi:g i=O k)(p:ρ i=O (b,c)):∃o,w.heap[b]? =O o/\iZ P ρ i k o/\(k.fq=ao->B<=b):=by
 obtain⟨q,r,o,f,l,m,j⟩:=h.blk i k hi;rw[p]at f;cases f;exact⟨o,l,m,j⟩
def um.nN(h:um P B fD H0 w0 top ρ g w){X:ai}(f:∀x k,X.get x=O k->g x=O k)(C:∀x k,X.get x=O k->x<X.next):bl P B ρ X w:=
 ⟨λi k c=>h.blk i k (f i k c),λi p l j b r u c z=>h.inj i p l j b r u (f i l c) (f p j z),C,h.base,λb A m=>⟨(h.fz b A m).1,λi k q c F=>(h.fz b A m).2 i k q (f i k c) F⟩⟩
def um.step(h:um P B fD H0 w0 top ρ g w){X X':ai}{ρ':Env}{w':du}(a':∀x k,X.get x=O k->g x=O k)(a1:bl P B ρ' X' w')(m:bV ρ X w ρ' X' w')
  (u:∀x,x<H0.next\/top<=x->ρ' x=ρ x):um P B fD H0 w0 top ρ' (oF g X X') w':=by
 have G:∀x k,g x=O k->X.get x=bs->∃b l o,ρ x=O (b,l)/\ρ' x=O (b,l)/\w.heap[b]? =O o/\w'.heap[b]? =O o/\iZ P ρ x k o/\(k.fq=ao->B<=b)/\b<w.heap.size:=λx k f z=>by
  obtain⟨b,l,o,q,M,r,p⟩:=h.blk x k f;have j:b<w.heap.size:=(cy.1 M).1;refine⟨b,l,o,q,m.le _ _ q,M,?_,r,p,j⟩;rw[m.frame b j λ⟨i,k',c',Y,_,c⟩=>?_,M];have:=h.inj i x k' k b c' l (a' i k' Y) f c q;subst this;rw[z]at Y;cases Y
 have C:∀x k b l,g x=O k->ρ' x=O (b,l)->ρ x=O (b,l):=λx k b l f z=>by
  obtain⟨W,c',o,q,_⟩:=h.blk x k f;rw[m.le _ _ q]at z;cases z;exact q
 refine⟨λi k f=>?_,λi A Q F b J K f a3 a4 a2=>?_,a1.base,h.le.trans m.le,λi f=>by rw[u i f,h.ext i f],cD h.size m.size,m.os.trans h.os,m.tape.trans h.tape,m.output.trans h.output,λb j a6=>?_,λb j i k l f a5 z=>?_,λb j i k l f z=>?_,λb U j=>⟨(a1.fz b U j).1,λi k l f z=>?_⟩,λb U j=>?_⟩
 .rcases yb f with f|⟨_,u,c⟩
  .exact a1.blk i k f
  .obtain⟨b,l,o,_,q,_,M,r,p,_⟩:=G i k c u;exact⟨b,l,o,q,M,r.mono m.le,p⟩
 .have mixed:∀i A Q F J K,X'.get i=O Q->X.get A=bs->g A=O F->ρ' i=O (b,J)->ρ' A=O (b,K)->lm:=λi A Q F J K Y u c r1 r2=>by
   obtain⟨W,c',o,e0,q,M,_,_,_,j⟩:=G A F c u;rw[q]at r2;cases r2;obtain⟨x,p,G,r,W⟩:=m.oA b j ⟨i,Q,J,Y,r1⟩;have:=h.inj x A p F b G K (a' x p r) c W e0;subst this;rw[u]at r;cases r
  rcases yb f with f|⟨_,u,c⟩<;>rcases yb a3 with a3|⟨_,k2,c7⟩
  .exact a1.inj i A Q F b J K f a3 a4 a2
  .exact(mixed i A Q F J K f k2 c7 a4 a2).elim
  .exact(mixed A i F Q K J a3 u c a2 a4).elim
  .exact h.inj i A Q F b J K c c7 (C _ _ _ _ c a4) (C _ _ _ _ c7 a2)
 .rw[m.frame b (iy j h.size) λ⟨i,k',c',Y,u,c⟩=>a6 (h.own b j i k' c' (a' i k' Y) u c),h.frame b j a6]
 .rcases yb f with f|⟨_,u,c⟩
  .obtain⟨x,p,G,r,W,A⟩:=m.own b (iy j h.size) ⟨i,k,l,f,a5,z⟩;exact h.own b j x p G (a' x p r) W A
  .exact h.own b j i k l c a5 (C _ _ _ _ c z)
 .rcases yb f with f|⟨_,u,c⟩
  .obtain⟨x,p,G,r,W⟩:=m.oA b (iy j h.size) ⟨i,k,l,f,z⟩;exact h.oA b j x p G (a' x p r) W
  .exact h.oA b j i k l c (C _ _ _ _ c z)
 .rcases yb f with f|⟨_,u,c⟩
  .exact(a1.fz b U j).2 i k l f z
  .have f:=C _ _ _ _ c z;rcases m.o8 b U j with C|C
   .exact(h.fz b U C).2 i k l c f
   .rcases C with C|⟨x,p,G,r,_,A⟩
    .obtain⟨z,F,o,q,M,_⟩:=h.blk i k c;rw[f]at q;cases q;have:=(cy.1 M).1;omega
    .have:=h.inj x i p k b G l (a' x p r) c A f;subst this;rw[u]at r;cases r
 .rcases m.o8 b U j with C|C
  .exact h.o8 b U C
  .rcases C with C|⟨x,p,G,r,W,A⟩
   .exact .inr (.inl (cD h.size C))
   .by_cases c:b<w0.heap.size
    .exact .inr (.inr (h.own b c x p G (a' x p r) W A))
    .exact .inr (.inl ω)
def um.final(h:um P B fD H0 w0 top ρ g w){X:ai}(m:∀x k,X.get x=O k->g x=O k)(q:X.next=top)(u:H0.next<=top):bV fD H0 w0 ρ X w:=
 ⟨h.le,λi p=>h.ext i (by rw[q]at p;exact p),by rw[q];exact u,h.size,h.os,h.tape,h.output,h.frame,λb l ⟨i,k,c,f,r,j⟩=>h.own b l i k c (m i k f) r j,λb l ⟨i,k,c,f,j⟩=>h.oA b l i k c (m i k f) j,h.o8⟩
end
section
variable{P:fd}{call:fe}{round:lz}{ops:fh ls}{n:E}{S:E->ia}{V:E->af}
def dP.VP(R:dP P call round ops n S V){i:E}(hi:i<=ops.size):(hpf S ops.size (S i).k).next<=(S i).cur.next:=by
 induction i with
 |zero=>rw[R.k0,R.NR];exact aC _
 |succ i f=>
  have f:=f (AN hi);obtain⟨o,j⟩:=nR (ops:=ops) (i:=i) hi;cases R.kind i o j with
  |skip _ _ c h=>rw[c,h];exact f
  |p _ _ _ c h=>rw[c,h];exact f
  |r _ _ _ c h=>rw[c,h];exact f
  |a _ l k c=>
   obtain⟨_,q,m,_⟩:=Fs l k;rw[c,m];exact E.le_succ_of_le f
  |e _ _ _ _ _ c=>rw[c,R.I6 hi c];exact aC _
def dP.I9(R:dP P call round ops n S V){i:E}(hi:i<ops.size)(h:lH S i):(S (i+1)).cur.next=(S i).cur.next+1/\∃b,sE S i=O b:=by
 obtain⟨o,j⟩:=nR hi;obtain⟨_,l,k,_⟩:=R.VL j h;obtain⟨_,f,c,_⟩:=Fs l k;refine⟨by rw[c];rfl,f,?_⟩;unfold sE;rw[c,ai.iM,dA rfl]
structure kZ(P:fd)(B:E)(fD:Env)(w0:du)(a0:Zq)(ops:fh ls)(n:E)(S:E->ia)(V:E->af)(L:E->Prop)(e:E)(ρ:Env)(g:E->da bn)(T:au af)(a:Zq)(w:du):Prop where
 closed:∀(j:E)(o:ls),L j->ops[j]? =O o->∀d∈bi o,L d
 uo:∀m,m<ops.size->fK S m->(L m↔(S m).k<e)
 bT:∀j,j<ops.size->L j->lvl S ops.size j<=e
 le:e<=(S ops.size).k
 CC:lC ρ T n a.tmps
 CD:∀(j:E)(p:ls)(t:Tmp),ops[j]? =O p->p.dst=O t->(L j->T.get t=O (V j))/\(¬L j->T.get t=(S 0).T.get t)
 NU:∀t:Tmp,(∀(j:E)(p:ls),ops[j]? =O p->p.dst≠O t)->T.get t=(S 0).T.get t
 G:qp ρ
 Ab:um P B fD (S 0).cur w0 (S ops.size).cur.next ρ g w
 hp:∀x k,(hpf S ops.size e).get x=O k->g x=O k
 lt:∀x k,(hpf S ops.size e).get x=O k->x<(hpf S ops.size e).next
 eo:∀j,j<ops.size->L j->lH S j->e<=(S j).k->g (S j).cur.next=sE S j
 conv:∀x k,g x=O k->(hpf S ops.size e).get x=O k\/∃j,j<ops.size/\L j/\lH S j/\e<=(S j).k/\x=(S j).cur.next
 fresh:∀j,j<ops.size->¬L j->Fr ρ (S j).cur.next (S (j+1)).cur.next
 VQ:a.defers=a0.defers
variable{B:E}{fD:Env}{w0:du}{a0:Zq}{L:E->Prop}{e:E}{ρ:Env}{g:E->da bn}{T:au af}{a:Zq}{w:du}{i:E}{o:ls}
def kZ.slots(R:dP P call round ops n S V)(h:kZ P B fD w0 a0 ops n S V L e ρ g T a w)(r:ops[i]? =O o)(u:¬L i)(z:∀d∈bi o,L d){t:Tmp}(A:gn.tmp t∈o.op.operands.toList):T.get t=(S i).T.get t:=by
 have q:i<ops.size:=(cy.1 r).1;have F:=wB R.ok r;rcases F.slot t A with m|⟨k,p,c,j,f|f⟩
 .rw[h.NU t m,R.VO m (kt q)]
 .rw[(h.CD k p t c j).1 (z k f),R.I7 c j (F.lt k f) (kt q)]
 .have l:¬L k:=λl=>u (h.closed k p l c i f)
  rw[(h.CD k p t c j).2 l,R.ahI c j (kt ((wB R.ok c).lt i f))]
def kZ.ev(R:dP P call round ops n S V)(c:kZ P B fD w0 a0 ops n S V L e ρ g T a w)(j:ops[i]? =O o)(f:¬L i)(h:∀d∈bi o,L d):∀x∈o.op.operands.toList,cF T x=cF (S i).T x:=λx k=>by
 cases x with
 |tmp t=>
  show @oN af (λ_=>af) (.raw lk) (λv=>v) (T.get t)=@oN af (λ_=>af) (.raw lk) (λv=>v) ((S i).T.get t)
  rw[c.slots R j f h k]
 |_=>rfl
def kZ.wants(R:dP P call round ops n S V)(l:kZ P B fD w0 a0 ops n S V L e ρ g T a w)(h:ops[i]? =O o)(m:∀d∈bi o,L d):iY T ops o=iY (S i).T ops o:=by
 have r:i<ops.size:=(cy.1 h).1;have F:=wB R.ok h;cases f:o.guard with
 |none=>unfold iY;rw[f]
 |some q=>
  have e:∀T,iY T ops o=iS T ops q:=λT=>by unfold iY;rw[f]
  rw[e,e];unfold iS;cases j:ops[q.1]? with
  |none=>rfl
  |some p=>
   cases c:p.dst with
   |none=>simp[c]
   |some d=>
    simp only[kV,c];have k:=F.guard q f;rw[(l.CD q.1 p d j c).1 (m _ k),R.I7 j c (F.lt _ k) (kt r)]
def kZ.level(R:dP P call round ops n S V)(h:kZ P B fD w0 a0 ops n S V L e ρ g T a w)(f:ops[i]? =O o)(j:∀d∈bi o,L d):Sv.level (S ops.size).bT (bi o)<=e:=
 Vy λd c=>h.bT d (E.lt_trans ((wB R.ok f).lt d c) (cy.1 f).1) (j d c)
def kZ.after(R:dP P call round ops n S V)(u:bI P call)(z:nQ P round)(f:kZ P B fD w0 a0 ops n S V L e ρ g T a w)(p:ops[i]? =O o)(c':¬L i)(b2:∀d∈bi o,L d)
  {X X':ai} {ρ':Env} {w':du} {x:Value} {M:au af} {e':E} (A:jY T n o.dst (V i)=O M) (m:Den ρ' (V i) x) (b1:∀x k,X.get x=O k->g x=O k) (b':bl P B ρ' X' w') (K:bV ρ X w ρ' X' w')
  (a2:∀x,x<(S i).cur.next\/(S (i+1)).cur.next<=x->ρ' x=ρ x)
  (he:e<=e') (a3:∀q,q<ops.size->fK S q->((q=i\/L q)↔(S q).k<e')) (a4:lvl S ops.size i<=e') (b3:e'<=(S ops.size).k)
  (a5:∀x k,(hpf S ops.size e').get x=O k->oF g X X' x=O k) (b4:∀x k,(hpf S ops.size e').get x=O k->x<(hpf S ops.size e').next)
  (a6:∀j,j<ops.size->(j=i\/L j)->lH S j->e'<=(S j).k->oF g X X' (S j).cur.next=sE S j)
  (a9:∀x k,oF g X X' x=O k->(hpf S ops.size e').get x=O k\/∃j,j<ops.size/\(j=i\/L j)/\lH S j/\e'<=(S j).k/\x=(S j).cur.next):
  kZ P B fD w0 a0 ops n S V (λj=>j=i\/L j) e' ρ' (oF g X X') M (a.put o.dst x) w':=by
 have F:i<ops.size:=(cy.1 p).1;refine⟨λj r c l d W=>?_,a3,λj c h=>?_,b3,ND (f.CC.mono K.le) A m,λj r t c l=>?_,λt a1=>?_,f.G.mono K.le,f.Ab.step b1 b' K λx m=>a2 x ?_,a5,b4,a6,a9,λj c a' x Q U=>?_,by rw[put_defers,f.VQ]⟩
 .rcases c with rfl |c
  .rw[p]at l;cases l;exact .inr (b2 d W)
  .exact .inr (f.closed j r c l d W)
 .rcases h with rfl |h
  .exact a4
  .exact cD (f.bT j c h) he
 .rw[Fw A];by_cases G:j=i
  .subst G;rw[p]at c;cases c;rw[dA l];exact⟨λ_=>rfl,λh=>(h (.inl rfl)).elim⟩
  .rw[db λC=>G ((wB R.ok p).dst t C j r c l)];exact⟨λh=>(f.CD j r t c l).1 (h.resolve_left G),λh=>(f.CD j r t c l).2 λC=>h (.inr C)⟩
 .rw[Fw A,db (a1 i o p),f.NU t a1]
 .rcases m with m|m
  .exact .inl (iy m (R.rq u z (gt _) (kt F)))
  .exact .inr (cD (R.rq u z F (aC _)) m)
 .have Y:¬j=i/\¬L j:=⟨λh=>a' (.inl h),λh=>a' (.inr h)⟩;rw[a2 x ?_]
  .exact f.fresh j c Y.2 x Q U
  .rcases E.lt_or_gt_of_ne Y.1 with J|J
   .exact .inl (iy U (R.rq u z J (kt F)))
   .exact .inr (cD (R.rq u z J (kt c)) Q)
end
end
section
open Go.RowKit
variable[Ground]
section
variable{P:fd}{call:fe}{round:lz}{ops:fh ls}{n:E}{S:E->ia}{V:E->af}
variable{B:E}{fD:Env}{w0:du}{a0:Zq}{L:E->Prop}{e:E}{ρ:Env}{g:E->da bn}{T:au af}{a:Zq}{w:du}{i:E}{o:ls}
def VR(h:fK S i)(R:dP P call round ops n S V)(hi:i<ops.size):¬lH S i:=λc=>by
 obtain⟨o,f⟩:=nR hi;obtain⟨_,_,_,j⟩:=R.VL f c;unfold fK at h;omega
def kZ.quiet(R:dP P call round ops n S V)(U:bI P call)(l:nQ P round)(c:kZ P B fD w0 a0 ops n S V L e ρ g T a w)(p:ops[i]? =O o)(Y:¬L i)(A:∀d∈bi o,L d)
  (r:¬fK S i) (Q:¬lH S i) {X:ai} {ρ':Env} {w':du} {x:Value} {q:au af} (m:jY T n o.dst (V i)=O q) (z:Den ρ' (V i) x) (u:∀x k,X.get x=O k->g x=O k) (W:bl P B ρ' X w') (F:bV ρ X w ρ' X w'):
  kZ P B fD w0 a0 ops n S V (λj=>j=i\/L j) e ρ' g q (a.put o.dst x) w':=by
 have q:lvl S ops.size i<=e:=by
  rcases R.NP p with⟨h,_⟩|⟨_,h⟩
  .exact absurd h r
  .rw[h];exact c.level R p A
 have f:=ahJ u;have:=c.after R U l p Y A (X:=X) (X':=X) (e':=e) m z u W F (λx _=>F.ext x ω) (aC _)
  (λG C l=>⟨λh=>(c.uo G C l).1 (h.resolve_left λm=>r (m ▸ l)),λh=>.inr ((c.uo G C l).2 h)⟩) q c.le (by rw[f];exact c.hp) c.lt
  (by rw[f];exact λj h l z=>c.eo j h (l.resolve_left λm=>Q (m ▸ z)) z)
  (by rw[f];exact λx k h=>(c.conv x k h).imp id λ⟨j,J,K,M⟩=>⟨j,J,.inr K,M⟩)
 rwa[f]at this
def kZ.step(hK:gi P)(R:dP P call round ops n S V)(hC:bI P call)(hR:nQ P round)(I_q:kZ P B fD w0 a0 ops n S V L e ρ g T a w)(ho:ops[i]? =O o)(hL:¬L i)(hd:∀d∈bi o,L d)(rd:da E)(m:E){K:Zq->du->Prop}{Q:sC->Zq->du->Prop}
  (hK':∀e' ρ' g' aZ a' w',kZ P B fD w0 a0 ops n S V (λj=>j=i\/L j) e' ρ' g' aZ a' w'->K a' w'):wpOpIn (eZ rd) m P ops Q i K a w:=by
 have hi:i<ops.size:=(cy.1 ho).1;have mP:=R.i i (kt hi);have VS:=I_q.ev R ho hL hd;have NV:=I_q.wants R ho hd;obtain⟨T1,hT⟩:=ahC (R.put i o ho) T;have NW:(S (i+1)).dU=(S i).dU->¬lH S i:=λh ha=>by
  unfold lH at ha;rw[h]at ha;have:=congrArg jC ha;simp at this
 have FA:(S (i+1)).k=(S i).k->¬fK S i:=λh he=>by unfold fK at he;omega
 let Z:ai:={m:= .nil,next:=(S i).cur.next}
 have hZ:∀x,Z.get x=bs:=λx=>au.get_nil x
 have Ja:∀x k,Z.get x=O k->g x=O k:=λx k h=>by rw[hZ]at h;cases h
 have NX:bl P B ρ Z w:=I_q.Ab.nN Ja λx k h=>by rw[hZ]at h;cases h
 have run:∀(X X':ai),iY (S i).T ops o=O D->bl P B ρ X w->ko P call round o (cF T) X=.ok (V i) X'->Fr ρ X.next X'.next->
   (∀x ρ' w',Den ρ' (V i) x->bl P B ρ' X' w'->bV ρ X w ρ' X' w'->K (a.put o.dst x) w')->wpOpIn (eZ rd) m P ops Q i K a w:=λX X' hw hX hop hf hn=>by
  unfold wpOpIn;rw[ho];simp only;rw[ol I_q.CC (NV.trans hw),dA rfl];exact Vg hK hC hR ⟨I_q.CC,hX,I_q.G⟩ hop hf rd m hn
 have NY:∀{X:ai}{v:af}{X':ai},fR o.op P o (cF (S i).T) X=.ok v X'->ko P call round o (cF T) X=.ok v X':=λ{X v X'} h=>by
  unfold ko;rw[Vr VS,h]
 cases R.kind i o ho with
 |skip hw hv hk hc hh hl hp ha=>
  unfold wpOpIn;rw[ho];simp only;rw[ol I_q.CC (NV.trans hw)];simp only[dF.false_eq_true,á];refine⟨λ_ _=>trivial,hK' e ρ g T1 _ w ?_⟩;exact I_q.quiet R hC hR ho hL hd (FA hk) (NW ha) hT (by rw[hv];exact .raw _) Ja NX (bV.refl _ _ _)
 |p hw iB hop hk hc hh hl hp ha=>
  obtain⟨H1,hop⟩:=hop;refine run Z Z hw NX (NY (ahy iB hop Z)) (λx h1 h2=>absurd h2 ω) λx ρ' w' h1 h2 h3=>hK' e ρ' g T1 _ w' ?_
  exact I_q.quiet R hC hR ho hL hd (FA hk) (NW ha) hT h1 Ja h2 h3
 |r hw iB hr hk hc hh hl hp ha=>
  have hop:=R.read ho iB hr hp (I_q.level R ho hd) I_q.le λm oE hm hem hkm wC hmem=>hL (I_q.closed m oE ((I_q.uo m hm hem).2 hkm) wC i hmem)
  refine run _ _ hw (I_q.Ab.nN I_q.hp I_q.lt) (NY hop) (λx h1 h2=>absurd h2 ω) λx ρ' w' h1 h2 h3=>hK' e ρ' g T1 _ w' ?_
  exact I_q.quiet R hC hR ho hL hd (FA hk) (NW ha) hT h1 I_q.hp h2 h3
 |a hw iB hop hk hh hl hp ha=>
  have hA:lH S i:=by unfold lH;rw[ha,mP]
  obtain⟨_,blk,kY,ahP⟩:=Fs iB hop;obtain⟨hnx,b0,hb0⟩:=R.I9 hi hA;have hblk:sE S i=O blk:=by unfold sE;rw[kY,ai.iM,dA rfl]
  have hfr:=I_q.fresh i hi hL;have hnone:ρ (S i).cur.next=bs:=hfr _ (aC _) ω;have ahQ:g (S i).cur.next=bs:=by
   cases hg:g (S i).cur.next with
   |none=>rfl
   |some k=>
    obtain⟨b,c,o',e1,_⟩:=I_q.Ab.blk _ _ hg;rw[hnone]at e1;cases e1
  have NZ:fR o.op P o (cF (S i).T) Z=.ok (V i) (Z.new blk):=ahP Z rfl;have N0:∀x,(Z.new blk).get x=if(S i).cur.next=x then O blk else bs:=λx=>by rw[ai.iM,hZ]
  have Ac:e<=(S i).k:=by
   refine E.le_of_not_lt λhlt=>?_
   obtain⟨m,h1,h2,h3,h4⟩:=R.I3 (i:=i) (j:=ops.size) (e:=(S i).k+1) (kt hi) (aC _) (gR _) (cD hlt I_q.le);obtain⟨oE,wC⟩:=nR h2;have hne:i≠m:=λhh=>VR h4 R h2 (hh ▸ hA)
   have hmem:i∈(S m).dU:=(R.NS (kt h2) i).2 ⟨by omega,hA,by omega⟩;have ahR:L m:=(I_q.uo m h2 h4).2 ω;cases R.kind m oE wC with
   |skip _ _ hk=>unfold fK at h4;omega
   |p _ _ _ hk=>unfold fK at h4;omega
   |r _ _ _ hk=>unfold fK at h4;omega
   |a _ _ _ hk=>unfold fK at h4;omega
   |e _ _ hsub=>exact hL (I_q.closed m oE ahR wC i (hsub i hmem))
  have hlv:lvl S ops.size i<=e:=by
   rcases R.NP ho with⟨h,_⟩|⟨_,h⟩
   .exact absurd h (FA hk)
   .rw[h];exact I_q.level R ho hd
  have old:∀x k,g x=O k->oF g Z (Z.new blk) x=O k:=λx k hg=>by
   have hne:¬(S i).cur.next=x:=λhh=>by rw[<-hh,ahQ]at hg;cases hg
   rw[NT (by rw[N0,db hne]) (hZ x),hg]
  refine run Z (Z.new blk) hw NX (NY NZ) (λx h1 h2=>hfr x h1 (by rw[hnx];exact h2)) λx ρ' w' h1 h2 h3=>hK' e ρ' (oF g Z (Z.new blk)) T1 _ w' ?_
  refine I_q.after R hC hR ho hL hd hT h1 Ja h2 h3 (λx hx=>h3.ext x (by rw[hnx]at hx;exact hx)) (aC _)
   (λm hm hem=>⟨λh=>(I_q.uo m hm hem).1 (h.resolve_left λhh=>FA hk (hh ▸ hem)),λh=>.inr ((I_q.uo m hm hem).2 h)⟩) hlv I_q.le (λx k h=>old x k (I_q.hp x k h)) I_q.lt (λj hj hjl haj N1=>?_) (λx k h=>?_)
  .by_cases hji:j=i
   .subst hji;rw[hblk];exact I8 (by rw[N0,dA rfl])
   .have h4:=I_q.eo j hj (hjl.resolve_left hji) haj N1;obtain⟨_,b,hb⟩:=R.I9 hj haj;rw[hb]at h4 ⊢;exact old _ _ h4
  .rcases yb h with h|⟨_,_,h⟩
   .rw[N0]at h;split at h
    .rename_i hx;exact .inr ⟨i,hi,.inl rfl,hA,Ac,hx.symm⟩
    .cases h
   .exact(I_q.conv x k h).imp id λ⟨j,h1,h2,h3⟩=>⟨j,h1,.inr h2,h3⟩
 |e hw hlv hsub hop ja hk hh hl hp ha=>
  have hE:fK S i:=hk;have Ac:e=(S i).k:=by
   have h1:=I_q.level R ho hd;rw[<-R.level ho,hlv]at h1;have h2:¬(S i).k<e:=λh=>hL ((I_q.uo i hi hE).2 h)
   omega
  obtain⟨c1,c2,c3⟩:=R.VM (kt hi);have CE:=R.NS (kt hi);have hX:∀x k,(S i).cur.get x=O k->g x=O k:=λx k h=>by
   rcases c1 x k h with h|⟨j,hj,rfl,hb⟩
   .rw[<-Ac]at h;exact I_q.hp x k h
   .obtain⟨q1,aO,bU⟩:=(CE j).1 hj;rw[I_q.eo j ω (hd j (hsub j hj)) aO ω,hb]
  have hlt:∀x k,(S i).cur.get x=O k->x<(S i).cur.next:=λx k h=>by
   rcases c1 x k h with h|⟨j,hj,rfl,hb⟩
   .have:=R.VP (kt hi);rw[<-Ac]at h this;exact iy (I_q.lt x k h) this
   .obtain⟨q1,aO,bU⟩:=(CE j).1 hj;have h5:=(R.I9 (i:=j) ω aO).1;have h6:=R.rq hC hR (i:=j+1) (j:=i) q1 (kt hi);omega
  have NZ:ko P call round o (cF T) (S i).cur=.ok (V i) (S (i+1)).cur:=by
   unfold ko at hop ⊢;rw[Vr VS];exact hop
  have ahS:lvl S ops.size i=e+1:=by
   rcases R.NP ho with⟨_,h⟩|⟨h,_⟩
   .rw[h,Ac]
   .exact absurd hE h
  have hle:e+1<=(S ops.size).k:=by
   have:=R.uk (i:=i+1) (j:=ops.size) hi (aC _);omega
  have N2:hpf S ops.size (e+1)=(S (i+1)).cur:=by rw[Ac];exact R.I6 hi hE
  -- what is laid behind this effect lies beyond
  have later:∀j,j<ops.size->L j->lH S j->e<=(S j).k->(S i).cur.get (S j).cur.next=bs->i<j:=λj hj hjl haj N1 hnone=>by
   refine E.lt_of_not_le λhji=>?_
   have hne:j≠i:=λhh=>hL (hh ▸ hjl)
   have hm:=R.uk (i:=j) (j:=i) hji (kt hi);exact c3 j ((CE j).2 ⟨by omega,haj,by omega⟩) hnone
  refine run _ _ hw (I_q.Ab.nN hX hlt) NZ (I_q.fresh i hi hL) λx ρ' w' h1 h2 h3=>hK' (e+1) ρ' (oF g (S i).cur (S (i+1)).cur) T1 _ w' ?_
  have beyond:∀j,j<ops.size->i<j->(S i).cur.get (S j).cur.next=bs/\(S (i+1)).cur.get (S j).cur.next=bs:=λj hj hij=>by
   have h6:=R.rq hC hR (i:=i+1) (j:=j) hij (kt hj);have h7:=R.VJ hC hR hi;constructor
   .cases hg:(S i).cur.get (S j).cur.next with
    |none=>rfl
    |some k=>have:=hlt _ _ hg;omega
   .cases hg:(S (i+1)).cur.get (S j).cur.next with
    |none=>rfl
    |some k=>have:=h2.lt _ _ hg;omega
  refine I_q.after R hC hR ho hL hd hT h1 hX h2 h3 (λx hx=>h3.ext x hx) (QZ _) (λm hm hem=>?_) (uV ahS) hle (λx k h=>by rw[N2]at h;exact I8 h) (λx k h=>by rw[N2]at h ⊢;exact h2.lt x k h) (λj hj hjl haj N1=>?_) (λx k h=>?_)
  .constructor
   .rintro(rfl |h)
    .omega
    .have:=(I_q.uo m hm hem).1 h;omega
   .intro h;by_cases hlt2:(S m).k<e
    .exact .inr ((I_q.uo m hm hem).2 hlt2)
    .left;have hme:(S m).k=(S i).k:=by omega
     rcases E.lt_trichotomy m i with hl|hl|hl
     .have:=R.uk (i:=m+1) (j:=i) hl (kt hi);unfold fK at hem;omega
     .exact hl
     .have:=R.uk (i:=i+1) (j:=m) hl (kt hm);omega
  .have hne:j≠i:=λhh=>VR hE R hi (hh ▸ haj)
   have hij:i<j:=by
    refine E.lt_of_not_le λhji=>?_
    have:=R.uk (i:=j) (j:=i) hji (kt hi);omega
   obtain⟨q1,aO⟩:=beyond j hj hij;rw[NT aO q1];exact I_q.eo j hj (hjl.resolve_left hne) haj ω
  .rcases yb h with h|⟨_,hn,h⟩
   .left;rw[N2];exact h
   .rcases I_q.conv x k h with h|⟨j,q1,aO,bU,eO,rfl⟩
    .rw[Ac]at h;exact absurd hn (c2 x (by rw[h];simp))
    .have hij:=later j q1 aO bU eO hn;have:=R.uk (i:=i+1) (j:=j) hij (kt q1);exact .inr ⟨j,q1,.inr aO,bU,by omega,rfl⟩
def ahT{l:fh dF}{i j:E}(hi:i<l.size):(l.setIfInBounds i D).getD j ao=D↔(j=i\/l.getD j ao=D):=by
 simp only[mL,pp];by_cases h:i=j
 .subst h;simp[hi]
 .rw[db h];exact⟨.inr,λc=>c.resolve_left λf=>h f.symm⟩
def VT:∀{l:I dF}{i:E},l[i]? =O ao->(l.set i D).countP (! ·)+1=l.countP (! ·)
 |[],i,h=>by simp at h
 |a::l,0,h=>by
  simp at h;subst h;simp
 |a::l,i+1,h=>by
  have:=VT (l:=l) (i:=i) (by simpa using h);simp only[I.set_cons_succ,I.countP_cons];omega
def ahU(Y:gi P)(R:dP P call round ops n S V)(W:bI P call)(a1:nQ P round)(rd:da E)(m:E){Q:sC->Zq->du->Prop}
  (f:∀L e ρ g T a w,(∀j,j<ops.size->L j)->kZ P B fD w0 a0 ops n S V L e ρ g T a w->Q .normal a w):∀(fuel:E)(c:fh dF){e:E}{ρ:Env}{g:E->da bn}{T:au af}{a:Zq}{w:du},
  c.size=ops.size->c.toList.countP (! ·)<=fuel->kZ P B fD w0 a0 ops n S V (λj=>c.getD j ao=D) e ρ g T a w->wpAnyIn (eZ rd) m P .any ops Q fuel c a w:=by
 have U:∀(c:fh dF){e:E}{ρ:Env}{g:E->da bn}{T:au af}{a:Zq}{w:du},c.size=ops.size->kZ P B fD w0 a0 ops n S V (λj=>c.getD j ao=D) e ρ g T a w->Ø .any ops c=[]->Q .normal a w:=λc e ρ g T a w k p u=>by
  refine f _ e ρ g T a w (λj=>?_) p;induction j using Nat.strongRecOn with
  |ind j C=>
   intro A;refine G4 λM=>?_
   obtain⟨o,h⟩:=nR A;have K:j∈Ø .any ops c:=by
    refine mem_ready.2 ⟨?_,o,h,λq z r=>?_⟩
    .have f:j<c.size:=by omega
     simp only[mL,E' f,N']at M ⊢;simpa using M
    .have F:q.on∈bi o:=rK.2 ⟨q,xF.2 ⟨by simpa using z,r⟩,rfl⟩;have:=(wB R.ok h).lt _ F;exact C _ this ω
   rw[u]at K;cases K
 intro fuel;induction fuel with
 |zero=>
  intro c e ρ g T a w k G p;have u:Ø .any ops c=[]:=by
   refine I.eq_nil_iff_forall_not_mem.2 λj A=>?_
   obtain⟨r,o,h,_⟩:=mem_ready.1 A;have f:j<c.size:=by rw[k];exact(cy.1 h).1
   have F:=I.countP_eq_zero.1 (E.le_zero.1 G) c[j] τ;simp only[mL,E' f,N']at r;rw[r]at F;simp at F
  exact⟨u,U c k p u⟩
 |succ fuel C=>
  intro c e ρ g T a w k G p;refine⟨U c k p,λi A=>?_⟩;obtain⟨r,o,h,u⟩:=mem_ready.1 A;have f:i<c.size:=by rw[k];exact(cy.1 h).1
  have J:c[i]=ao:=by simpa[mL,f]using r
  refine p.step Y R W a1 h (by simp[mL,f,J]) (λd r=>?_) rd m λq F h Y p A W=>?_
  .obtain⟨x,p,rfl⟩:=rK.1 r;obtain⟨r,A⟩:=xF.1 p;exact u x (by simpa using r) A
  .refine C _ (e:=q) (ρ:=F) (g:=h) (T:=Y) (by simpa using k) ?_ ?_
   .have:=VT (l:=c.toList) (i:=i) (by simp[f,J]);simp only[fh.toList_setIfInBounds];omega
   .have z:(λj=>(c.setIfInBounds i D).getD j ao=D)=λj=>j=i\/c.getD j ao=D:=by
     funext j;exact propext (ahT f)
    rw[z];exact W
def VU(hK:gi P)(hm:P.follows .mixedOrders=D):zY P D (Cz P) where
 mono call round hC hR ops n T H aZ H' h:=by
  obtain⟨S,V,R,e1,e2,e3,bX⟩:=VD h;rw[<-e2,<-bX];exact R.rq hC hR (gt _) (aC _)
 dc call round hC hR id ops n T H aZ H' h B ρ a w rd k Q aQ hf hQ:=by
  obtain⟨S,V,R,e1,e2,e3,bX⟩:=VD h;have hle:=R.rq hC hR (gt _) (aC _);refine wpIn_region_any hm ?_;refine ahU (B:=B) (fD:=ρ) (w0:=w) (a0:=a) (e:=0) (ρ:=ρ) (g:=H.get) (T:=T) hK R hC hR rd k (λL e ρ' g T2 a' w' hL I_q=>?_) ops.size _ τ ?_ ?_
  .have kY:=R.VM (aC _);have CE:=R.NS (aC _);have he:e=(S ops.size).k:=by
    refine E.le_antisymm I_q.le (E.le_of_not_lt λhlt=>?_);by_cases h0:(S ops.size).k=0
    .omega
    .obtain⟨m,h1,h2,h3,h4⟩:=R.I3 (i:=0) (j:=ops.size) (e:=(S ops.size).k) (gt _) (aC _) (by rw[R.k0];omega) (aC _);have:=(I_q.uo m h2 h4).1 (hL m h2);omega
   have hX:∀x b,(S ops.size).cur.get x=O b->g x=O b:=λx b hx=>by
    rcases kY.1 x b hx with hx|⟨j,hj,rfl,hb⟩
    .rw[<-he]at hx;exact I_q.hp x b hx
    .obtain⟨q1,aO,bU⟩:=(CE j).1 hj;rw[I_q.eo j q1 (hL j q1) aO ω,hb]
   have hlt:∀x b,(S ops.size).cur.get x=O b->x<(S ops.size).cur.next:=λx b hx=>by
    rcases kY.1 x b hx with hx|⟨j,hj,rfl,hb⟩
    .have:=R.VP (aC _);rw[<-he]at hx this;exact iy (I_q.lt x b hx) this
    .obtain⟨q1,aO,bU⟩:=(CE j).1 hj;have h5:=(R.I9 (i:=j) q1 aO).1;have h6:=R.rq hC hR (i:=j+1) (j:=ops.size) q1 (aC _);omega
   refine hQ ρ' a' w' ⟨⟨I_q.CC.size,λt=>?_⟩,?_,I_q.G⟩ ?_ I_q.VQ
   .have ht:aZ.get t=T2.get t:=by
     rw[<-e3];by_cases hw:∃(j:E)(p:ls),ops[j]? =O p/\p.dst=O t
     .obtain⟨j,p,hj,hp⟩:=hw;have hjl:j<ops.size:=(cy.1 hj).1;rw[R.I7 hj hp hjl (aC _),(I_q.CD j p t hj hp).1 (hL j hjl)]
     .have hw':∀(j:E)(p:ls),ops[j]? =O p->p.dst≠O t:=λj p hj hp=>hw ⟨j,p,hj,hp⟩
      rw[R.VO hw' (aC _),I_q.NU t hw']
    rw[ht];exact I_q.CC.get t
   .rw[<-bX];exact I_q.Ab.nN hX hlt
   .rw[<-e2,<-bX];exact I_q.Ab.final hX rfl hle
  .have:∀n:E,(ie n ao).countP (! ·)<=n:=λn=>by
    have:=I.countP_le_length (p:=(! ·)) (l:=ie n ao);simpa using this
   simpa using this ops.size
  .have hno:∀j,¬(fh.replicate ops.size ao).getD j ao=D:=λj=>by
    simp[mL,fh.getElem?_replicate];split<;>simp
   have hH:=aQ.H.drew;have h0:hpf S ops.size 0=H:=by rw[R.NR,e2]
   refine⟨λj o hj=>(hno j hj).elim,λm hm hem=>⟨λh=>(hno m h).elim,λh=>absurd h (E.not_lt_zero _)⟩,λj _ h=>(hno j h).elim,gt _,aQ.T,λj p t _ _=>⟨λh=>(hno j h).elim,λ_=>by rw[e1]⟩,λt _=>by rw[e1],aQ.G,?_,by rw[h0];exact λx k h=>h,by rw[h0];exact hH.lt,λj _ h=>(hno j h).elim,by rw[h0];exact λx k h=>.inl h,λj hj _ x h1 h2=>hf x ?_ ?_,rfl⟩
   .rw[e2];exact⟨hH.blk,hH.inj,hH.base,cR.refl _,λ_ _=>rfl,aC _,rfl,rfl,rfl,λ_ _ _=>rfl,λb _ i k c h1 h2 h3=>⟨i,k,c,h1,h2,h3⟩,λb _ i k c h1 h3=>⟨i,k,c,h1,h3⟩,hH.fz,λ_ _ h=>.inl h⟩
   .have:=R.rq hC hR (gt j) (kt hj);rw[e2]at this;exact cD this h1
   .have:=R.rq hC hR hj (aC _);rw[bX]at this;exact iy h2 this
def Jb{S call:fe}(k:bI P S)(j:bI P call):bI P (xV S call) where
 mono f args H v l h:=by
  unfold xV at h;cases c:S f args H with
  |no=>rw[c]at h;exact j.mono _ _ _ _ _ h
  |ok p m=>rw[c]at h;cases h;exact k.mono _ _ _ _ _ c
  |enter _ _ _=>rw[c]at h;cases h
  |round _ _ _=>rw[c]at h;cases h
 dc f args H v l h:=by
  unfold xV at h;cases c:S f args H with
  |no=>rw[c]at h;exact j.dc _ _ _ _ _ h
  |ok p m=>rw[c]at h;cases h;exact k.dc _ _ _ _ _ c
  |enter _ _ _=>rw[c]at h;cases h
  |round _ _ _=>rw[c]at h;cases h
def VV(k:gi P):zY P ao (λcall round ops n T H=>zG P call round ops n ops.toList T H) where
 mono _ _ c f _ _ _ _ _ _ h:=NF c f _ h
 dc _ _ c f _ ops _ _ _ _ _ h _ _ _ _ rd p _ j m l:=wpIn_region (Vi k c f rd p _ _ (ahf ops) j h m l)
def FB(h:gi P)(k:P.follows .mixedOrders=D){S:fe}(j:bI P S):∀d,zY P d (qq P S d)
 |false=>⟨λ_ _ c f=>(VV h).mono _ _ (Jb j c) f,λ_ _ c f=>(VV h).dc _ _ (Jb j c) f⟩
 |true=>⟨λ_ _ c f=>(VU h k).mono _ _ (Jb j c) f,λ_ _ c f=>(VU h k).dc _ _ (Jb j c) f⟩
end
end
end Go.Proofs.YtdajfemhnlpegaaGreatDoor.Sv
namespace Go.Proofs.YtdajfemhnlpegaaGreatDoor.Sv
open Go.RowKit
def aDL(r:aM):dF:=match r with |.ok (.raw (.bool b)) _=>b|_=>ao
end Go.Proofs.YtdajfemhnlpegaaGreatDoor.Sv
namespace Go.Proofs.YtdajfemhnlpegaaGreatDoor.Sv
noncomputable section
inductive aD(α:Type) where
 |ret (a:α)
 |must (b:dF) (k:aD α)
 |ask (b:dF) (k:dF->aD α)
 |opt (b:dF) (k l:aD α)
def aD.gr{α:Type}:aD α->da α
 |.ret a=>O a
 |.must b k=>oi b k.gr bs
 |.ask b k=>(k b).gr
 |.opt b k l=>oi b k.gr l.gr
def aD.bind{α c:Type}(x:aD α)(f:α->aD c):aD c:=match x with
 |.ret a=>f a
 |.must b k=>.must b (k.bind f)
 |.ask b k=>.ask b λh=>(k h).bind f
 |.opt b k l=>.opt b (k.bind f) (l.bind f)
def aD.path{α:Type}:aD α->I dF->(α->Prop)->Prop
 |.ret a,_,Q=>Q a
 |.must b k,c,Q=>b=D/\k.path c Q
 |.ask b k,[],Q=>(k b).path [] Q
 |.ask b k,f::c,Q=>b=f/\(k f).path c Q
 |.opt b k _,c,Q=>b=D/\k.path c Q
def aD.wD{α:Type}:aD α->I dF->(α->Prop)->Prop
 |.ret a,_,Q=>Q a
 |.must b k,c,Q=>b=D/\k.wD c Q
 |.ask b k,[],Q=>(k b).wD [] Q
 |.ask b k,f::c,Q=>b=f/\(k f).wD c Q
 |.opt b _ l,c,Q=>b=ao/\l.wD c Q
def aD.sJ{α c:Type}:∀(x:aD α)(f:α->aD c),(x.bind f).gr=x.gr.bind λa=>(f a).gr
 |.ret a,f=>rfl
 |.must b k,f=>by cases b<;>simp[aD.bind,aD.gr,aD.sJ k f]
 |.ask b k,f=>by simp[aD.bind,aD.gr,aD.sJ (k b) f]
 |.opt b k l,f=>by cases b<;>simp[aD.bind,aD.gr,aD.sJ k f,aD.sJ l f]
def aD.wE{α:Type}{Q:α->Prop}:∀(x:aD α)(D_q:I dF),x.path D_q Q->∃a,x.gr=O a/\Q a
 |.ret a,D_q,h=>⟨a,rfl,h⟩
 |.must b k,D_q,h=>by
   obtain⟨h1,h2⟩:=h;subst h1;exact wE k D_q h2
 |.ask b k,[],h=>wE (k b) [] h
 |.ask b k,c::D_q,h=>by
   obtain⟨h1,h2⟩:=h;subst h1;exact wE (k b) D_q h2
 |.opt b k l,D_q,h=>by
   obtain⟨h1,h2⟩:=h;subst h1;exact wE k D_q h2
def aD.FC{α:Type}{Q:α->Prop}:∀(x:aD α)(D_q:I dF),x.wD D_q Q->∃a,x.gr=O a/\Q a
 |.ret a,D_q,h=>⟨a,rfl,h⟩
 |.must b k,D_q,h=>by
   obtain⟨h1,h2⟩:=h;subst h1;exact FC k D_q h2
 |.ask b k,[],h=>FC (k b) [] h
 |.ask b k,c::D_q,h=>by
   obtain⟨h1,h2⟩:=h;subst h1;exact FC (k b) D_q h2
 |.opt b k l,D_q,h=>by
   obtain⟨h1,h2⟩:=h;subst h1;exact FC l D_q h2
abbrev ry:=fd->ls->eB->ai->aD aM
def fits(k:be)(r:N):dF:=bP (k.min<=r)&&bP (r<=k.max)
def wF(k:be)(r:N)(H:ai):aD aM:=match k.signed with
 |true=>.opt (fits k r) (.ret (.ok (.raw (.int k r)) H)) (.ret (.ok (.raw (.int k (k.wrap r))) H))
 |false=>.ret (.ok (.raw (.int k (k.wrap r))) H)
def VW(op:I1)(k:be)(a b:N)(H:ai):da (aD aM):=match op with
 |.add=>O (wF k (a+b) H)
 |.sub=>O (wF k (a-b) H)
 |.mul=>O (wF k (a*b) H)
 |.quo=>O (.must (bP (b≠0)) (wF k (a.tdiv b) H))
 |.rem=>O (.must (bP (b≠0)) (.ret (.ok (.raw (.int k (a.tmod b))) H)))
 |.eql=>O (.ret (.ok (.raw (.bool (a==b))) H))
 |.neq=>O (.ret (.ok (.raw (.bool (a != b))) H))
 |.lss=>O (.ret (.ok (.raw (.bool (bP (a<b)))) H))
 |.leq=>O (.ret (.ok (.raw (.bool (bP (a<=b)))) H))
 |.gtr=>O (.ret (.ok (.raw (.bool (bP (a>b)))) H))
 |.geq=>O (.ret (.ok (.raw (.bool (bP (a>=b)))) H))
 |_=>bs
def N3(op:I1)(t:ed)(x y:gn)(ag:ed):ry:=λP o ev H=>match jW (ev x),jW (ev y)with
 |.int k a,.int c b=>(match k==c with
   |true=>(match VW op k a b H with |some r=>r|none=>.ret (ah H (qZ P o ev op k c a b)))
   |false=>.ret .no)
 |_,_=>.ret (kn op t x y ag P o ev H)
def N4(c a b:gn):ry:=λ_ _ ev H=>match iX (ev c)with
 |.mk q=>.ask q λr=>match r with |true=>.ret (.ok (ev a) H)|false=>.ret (.ok (ev b) H)
 |.no=>.ret .no
def Ad(v:af)(f:E->aD aM):aD aM:=match jW v with
 |.int _ z=>.must (bP (0<=z)) (f z.toNat)
 |.no=>.ret .no
def N5(k s:E)(x:af)(H:ai):aD aM:=match x with
 |.bh _ t xs=>(match dd t.size s with
   |true=>.must (bP (k<xs.length)) (.ret (.ok (.e9 t xs k 0) H))
   |false=>.ret .no)
 |.bZ e t i c f _=>(match dd t.size s with
   |true=>.must (bP (k<f)) (.ret (.ok (.en e t i (c+k) 0) H))
   |false=>.ret .no)
 |_=>.ret .no
def N6:af->dF
 |.bh _ _ _=>D
 |.bZ _ _ _ _ _ _=>D
 |_=>ao
def N7(t:ed)(x c:gn):ry:=λP o ev H=>match N6 (ev x),p8 P t with
 |true,.sl s=>Ad (ev c) λk=>N5 k s (ev x) H
 |_,_=>.ret (o7 t x c P o ev H)
def VX(P:fd)(t:ed)(x:af)(H:ai)(d:aM):aD aM:=match x with
 |.en e u i k c=>.must (bx e u (H.get i) k) (.ret (ah H (lc P t (elemAt u (bu u (H.get i)) k) c)))
 |_=>.ret d
def N8(t:ed)(x:gn):ry:=λP o ev H=>VX P t (ev x) H (qb t x P o ev H)
def VY(P:fd)(t:ed)(x y:af)(H:ai)(d:aM):aD aM:=match x with
 |.en e u i k c=>.must (bx e u (H.get i) k) (match co y.cells&&we P t y.cells.length with
   |true=>(match(mJ (elemAt u (bu u (H.get i)) k) c y.cells).bind u.read with
    |some d=>.ret (.ok (.raw lk) (H.set i (.own e u ((bu u (H.get i)).set k d))))
    |none=>.ret .no)
   |false=>.ret .no)
 |_=>.ret d
def N9(t:ed)(x y:gn):ry:=λP o ev H=>VY P t (ev x) (ev y) H (sr t x y P o ev H)
def CF(v:da af)(d:E)(f:E->aD aM):aD aM:=match v with
 |none=>f d
 |some v=>Ad v f
def Ha(P:fd)(e:ed)(s n:E)(lo hi mx:da af)(_:ai)(k:E->E->aD aM):aD aM:=
 match mx with
 |none=>(match eY P e with
  |some c=>(match dd s c with
   |true=>CF hi n λh=>CF lo 0 λl=>.must (bP (l<=h)) (.must (bP (h<=n)) (k l h))
   |false=>.ret .no)
  |none=>.ret .no)
 |_=>.ret .no
def VZ(P:fd)(t:ed)(x:af)(lo hi mx:da af)(H:ai)(d:aM):aD aM:=match P.underlying t,x with
 |some (.slice e),.bh _ u xs=>Ha P e u.size xs.length lo hi mx H λl h=>.ret (.ok (.bh ao u ((xs.take h).drop l)) H)
 |some (.slice e),.bZ f u i k m j=>Ha P e u.size m lo hi mx H λl h=>.ask (dd l 0) λc=>match c with
  |true=>.ret (.ok (.bZ f u i k h j) H)
  |false=>.ask (bP (l<h)) λc=>match c with
   |true=>.ret (.ok (.bZ f u i (k+l) (h-l) .any) H)
   |false=>.ret (.ok (.bh ao u []) H)
 |_,_=>.ret d
def Fd(t:ed)(x:gn)(lo hi mx:da gn):ry:=λP o ev H=>match N6 (ev x)with
 |true=>VZ P t (ev x) (lo.map ev) (hi.map ev) (mx.map ev) H .no
 |false=>.ret (q2 t x lo hi mx P o ev H)
def Oa(H:ai)(ty:aq)(s:E)(x:af)(f:I ty.den->E->aD aM):aD aM:=match x with
 |.bZ e u j k c _=>(match bP (u=ty)with
   |true=>.must (dd c 0||bx e ty (H.get j) (k+c-1)) (f (((bu ty (H.get j)).drop k).take c) c)
   |false=>.ret .no)
 |x=>match B3 H ty s x with |some (h,n)=>f h n|none=>.ret .no
def FD(P:fd)(t:ed)(e:ed)(ty:aq)(i k len:E)(cap:aY)(j:dF)(x:af)(H:ai):aD aM:=
 match nK P t with
 |some el=>(match P.info? el with
  |some c=>(match c.zero with
   |some z=>(match dd z.cells.size c.size&&dK 1 c.size&&dd el e&&dd ty.size c.size with
    |true=>.must (dd k 0) (Oa H ty c.size x λh n=>.ask (dd n 0) λf=>match f with
     |true=>.ret (.ok (.bZ e ty i k len cap) (oi j H.skip H))
     |false=>.must (mI e ty (H.get i) len cap) (.must (bounded (len+n) c.bytes)
       (.ret (.ok (.bZ e ty H.next 0 (len+n) .full) ((H.drop i).new (.own e ty (bu ty (H.get i)++h)))))))
    |false=>.ret .no)
   |none=>.ret .no)
  |none=>.ret .no)
 |none=>.ret .no
def ahV:af->dF
 |.bZ _ _ _ _ _ _=>D
 |_=>ao
def Jc(P:fd)(t:ed)(s x:af)(H:ai)(d:aM):aD aM:=match s with
 |.bZ e c i k h f=>(match zB c x H with
   |some (b,j)=>.must b (FD P t e c i k h f ao x j)
   |none=>FD P t e c i k h f ao x H)
 |s=>match x with
  |.bh z c ys=>(match Ir s with
    |true=>(match nK P t with
     |some e=>FD P t e c H.next 0 0 (.known 0) D (.bh z c ys) H
     |none=>.ret .no)
    |false=>.ret .no)
  |_=>.ret d
def V0(P:fd)(f:ed)(x n:af)(H:ai)(d:aM):aD aM:=match x with
 |.en c u i 0 0=>(match IA P f c u with
   |true=>(match n with
    |.raw (.int .i64 (.ofNat n))=>.must (dK 1 n) (.must (dK n 140737488355328) (.must (bx c (.int .u8) (H.get i) (n-1)) (.must (Up ((bu (.int .u8) (H.get i)).take n))
      (.ret (.ok (.raw (.string (wg ((bu (.int .u8) (H.get i)).take n)))) (H.drop i))))))
    |_=>.ret .no)
   |false=>.ret .no)
 |_=>.ret d
def Ob(c:Call):ry:=λP o ev H=>match c.callee,c.args.toList.map ev,c.argTypes.toList with
 |.builtin .append,[s,x],[t,j]=>(match P.underlying j with
   |some (.slice _)=>Jc P t s x H (fx c P o ev H)
   |some .string=>(match ahV s with
    |true=>Jc P t s x H (fx c P o ev H)
    |false=>.ret (fx c P o ev H))
   |_=>.ret (fx c P o ev H))
 |.builtin .unsafeString,[x,n],[h,_]=>V0 P h x n H (fx c P o ev H)
 |.builtin .unsafeSliceData,[.bZ e u i k f _],_=>.must (dK 1 f) (.ret (.ok (.en e u i k 0) H))
 |_,_,_=>.ret (fx c P o ev H)
def Oc(t:ed)(l c:gn):ry:=λP _ ev H=>match nK P t with
 |some e=>(match P.info? e with
  |some f=>(match f.zero with
   |some z=>Ad (ev l) λn=>Ad (ev c) λm=>(match dK 1 f.size&&dd z.cells.size f.size with
    |true=>.must (bP (n<=m)) (.must (bounded m f.bytes) (.ret (.ok (.slice H.next 0 n (.known m)) (H.new (.cells e (ie m (jE z.cells)).flatten D ao ao)))))
    |false=>.ret .no)
   |none=>.ret .no)
  |none=>.ret .no)
 |none=>.ret .no
def Hb(s:AT)(k:E):N:=((s.data.toList.getD k 0).toNat:E)
def CG(a b:AT):dF:=bP (a.data.toList=b.data.toList)
def CI(v:af):da AT:=match v with
 |.raw (.string s)=>O s
 |_=>bs
def Od(t:ed)(x c:gn):ry:=λP o ev H=>match CI (ev x)with
 |some s=>(match P.underlying t with
  |some .string=>Ad (ev c) λk=>.must (bP (k<s.size)) (.ret (.ok (.raw (.int .u8 (Hb s k))) H))
  |_=>.ret .no)
 |none=>.ret (oz t x c P o ev H)
def Hc(P:fd)(t:ed)(s:AT)(lo hi mx:da af)(H:ai):aD aM:=match P.underlying t,mx with
 |some .string,bs=>CF hi s.size λh=>CF lo 0 λl=>.must (bP (l<=h)) (.must (bP (h<=s.size)) (.ret (.ok (.raw (.string (s.extract l h))) H)))
 |_,_=>.ret .no
def Oe(t:ed)(x:gn)(lo hi mx:da gn):ry:=λP o ev H=>match CI (ev x)with
 |some s=>Hc P t s (lo.map ev) (hi.map ev) (mx.map ev) H
 |none=>Fd t x lo hi mx P o ev H
def V1(op:I1)(a b:AT)(H:ai)(d:aM):aD aM:=match op with
 |.add=>.must (bP (a.size+b.size<=9223372036854775807)) (.ret (.ok (.raw (.string (a++b))) H))
 |.eql=>.ret (.ok (.raw (.bool (CG a b))) H)
 |.neq=>.ret (.ok (.raw (.bool (!CG a b))) H)
 |_=>.ret d
def ahW:I1->dF
 |.shl=>D
 |.shr=>D
 |_=>ao
def ahX(op:I1)(k:be)(a b:N)(H:ai):aD aM:= .must (bP (0<=b)) (match op with
 |.shl=>.ret (.ok (.raw (.int k (k.wrap (a*2^(XR b.toNat k.bits))))) H)
 |.shr=>.ret (.ok (.raw (.int k (a.fdiv (2^(XR b.toNat k.bits))))) H)
 |_=>.ret .no)
def Of(op:I1)(t:ed)(x y:gn)(ag:ed):ry:=λP o ev H=>match CI (ev x),CI (ev y)with
 |some a,O b=>V1 op a b H (kn op t x y ag P o ev H)
 |_,_=>(match ahW op,jW (ev x),jW (ev y)with
  |true,.int k a,.int _ b=>ahX op k a b H
  |_,_,_=>N3 op t x y ag P o ev H)
def FE(op:Op):ry:=match op with
 |.binOp op t x y ag=>Of op t x y ag
 |.pick c a b=>N4 c a b
 |.indexAddr t x f=>N7 t x f
 |.load t x=>N8 t x
 |.store t x y=>N9 t x y
 |.slice t x j h k=>Oe t x j h k
 |.index t x f=>Od t x f
 |.call c=>Ob c
 |.makeSlice t l c=>Oc t l c
 |op=>λP o ev H=>.ret (fR op P o ev H)
def Ref(t:aD aM)(r:aM):Prop:=∀a,t.gr=O a->a≠ .no->r=a
def Ref.ret{r:aM}:Ref (.ret r) r:=λa h _=>by cases h;rfl
def Ref.no{r:aM}:Ref (.ret .no) r:=λa h c=>by cases h;exact absurd rfl c
def Ref.must{b:dF}{k:aD aM}{r:aM}(h:b=D->Ref k r):Ref (.must b k) r:=λa c f=>by
 cases b with
 |false=>cases c
 |true=>exact h rfl a c f
def Ref.opt{b:dF}{k l:aD aM}{r:aM}(h:b=D->Ref k r)(g:b=ao->Ref l r):Ref (.opt b k l) r:=λa c f=>by
 cases b with
 |false=>exact g rfl a c f
 |true=>exact h rfl a c f
def Ref.ask{b:dF}{k:dF->aD aM}{r:aM}(h:Ref (k b) r):Ref (.ask b k) r:=h
section
variable{P:fd}{o:ls}{ev:eB}{H:ai}
def V2{k:be}{r:N}(h:fits k r=D):k.wrap r=r:=by
 unfold fits at h;rw[ae]at h;have c:=cC h.1;have f:=cC h.2;cases k<;>simp[ca,be.min,be.max,be.signed,be.bits]at c f ⊢ <;>omega
def ahY{op:I1}{k:be}{a b r:N}(c:op=.add/\r=a+b\/op=.sub/\r=a-b\/op=.mul/\r=a*b):vY P op k a b=O (.int k (k.wrap r)):=by
 rcases c with⟨rfl,rfl⟩|⟨rfl,rfl⟩|⟨rfl,rfl⟩<;>rfl
def V3{k:be}{r:N}{d:aM}(h:d=.ok (.raw (.int k (k.wrap r))) H):Ref (wF k r H) d:=by
 subst h;unfold wF;split
 .exact .opt (λc=>by rw[V2 c];exact .ret) λ_=>.ret
 .exact .ret
def Og{op:I1}{t:ed}{x y:gn}{ag:ed}{k c:be}{a b:N}(f:jW (ev x)=.int k a)(h:jW (ev y)=.int c b):
  kn op t x y ag P o ev H=(match kU op k c a b with |some v=>.ok v H|none=>ah H (qZ P o ev op k c a b)):=by
 unfold kn;rw[f,h];show(@oN af (λ_=>aM) (ah H (qZ P o ev op k c a b)) (λv=>.ok v H) (kU op k c a b))=_
 cases kU op k c a b<;>rfl
def m0{op:I1}{k:be}{a b:N}{v:Value}(h:vY P op k a b=O v):qZ P o ev op k k a b=O (.raw v):=by
 unfold qZ;rw[h];simp
section
variable{op:I1}{t:ed}{x y:gn}{ag:ed}
def ahZ{k:be}{a b:N}{r:aD aM}(K:jW (ev x)=.int k a)(M:jW (ev y)=.int k b)(h:VW op k a b H=O r):Ref r (kn op t x y ag P o ev H):=by
 rw[Og K M];have arith:∀l:N,(op=.add/\l=a+b\/op=.sub/\l=a-b\/op=.mul/\l=a*b)->r=wF k l H->Ref r (match kU op k k a b with |some v=>.ok v H|none=>ah H (qZ P o ev op k k a b)):=by
  intro l C F;subst F;cases f:kU op k k a b with
  |none=>simp only;rw[m0 (ahY C)];exact V3 rfl
  |some v=>
   obtain⟨m,n,rfl,_,rfl,rfl,u⟩:=eh f;simp only;have G:∀{q:E},small q=O v->l=q->Ref (wF .i64 l H) (.ok v H):=λ{q} c j=>by
    obtain⟨Q,J⟩:=Nc c;subst j;subst J;unfold wF;refine .opt (λ_=>.ret) λf=>?_
    have:fits .i64 (q:N)=D:=by
     unfold fits;rw[ae];exact⟨ay (by show(-9223372036854775808:N)<=_;omega),ay (by show(q:N)<=9223372036854775807;omega)⟩
    rw[this]at f;cases f
   rcases C with⟨rfl,rfl⟩|⟨rfl,rfl⟩|⟨rfl,rfl⟩
   .exact G (q:=m+n) u ω
   .have u:(@jh (λ_=>da af) bs (small (Hq m n)) (dK n m))=O v:=u;cases p:dK n m with
    |false=>rw[p]at u;cases u
    |true=>
     rw[p]at u;have p:=b5 p;have e:Hq m n=m-n:=rfl;rw[e]at u;exact G u ω
   .cases u
 have A:∀l:dF,vY P op k a b=O (.bool l)->(∀m n:E,a=m->b=n->B7 op m n=O (.raw (.bool l))\/B7 op m n=bs)->r=.ret (.ok (.raw (.bool l)) H)->Ref r (match kU op k k a b with |some v=>.ok v H|none=>ah H (qZ P o ev op k k a b)):=by
  intro l C u F;subst F;cases f:kU op k k a b with
  |none=>simp only;rw[m0 C];exact .ret
  |some v=>
   obtain⟨m,n,rfl,_,rfl,rfl,z⟩:=eh f;simp only;rcases u m n rfl rfl with c|c<;>rw[c]at z
   .cases z;exact .ret
   .cases z
 cases op with
 |add=>cases h;exact arith _ (.inl ⟨rfl,rfl⟩) rfl
 |sub=>cases h;exact arith _ (.inr (.inl ⟨rfl,rfl⟩)) rfl
 |mul=>cases h;exact arith _ (.inr (.inr ⟨rfl,rfl⟩)) rfl
 |quo=>
  cases h;refine .must λp=>?_
  have p:=cC p;have f:kU .quo k k a b=bs:=by
   cases f:kU .quo k k a b with
   |none=>rfl
   |some v=>obtain⟨m,n,_,_,_,_,z⟩:=eh f;cases z
  rw[f];simp only;rw[m0 (v:= .int k (k.wrap (a.tdiv b))) (by unfold vY Op.intDiv;simp only[db p];rfl)];exact V3 rfl
 |rem=>
  cases h;refine .must λp=>?_
  have p:=cC p;have f:kU .rem k k a b=bs:=by
   cases f:kU .rem k k a b with
   |none=>rfl
   |some v=>obtain⟨m,n,_,_,_,_,z⟩:=eh f;cases z
  rw[f];simp only;rw[m0 (v:= .int k (a.tmod b)) (by unfold vY Op.intDiv;simp only[db p];rfl)];exact .ret
 |and=>cases h
 |or=>cases h
 |xor=>cases h
 |shl=>cases h
 |shr=>cases h
 |andNot=>cases h
 |eql=>
  cases h;refine A _ rfl (λm n c j=>.inl ?_) rfl;subst c;subst j;show O (af.raw (.bool (dd m n)))=_;congr 3;rw[tC];simp;omega
 |neq=>
  cases h;refine A _ rfl (λm n c j=>.inl ?_) rfl;subst c;subst j;show O (af.raw (.bool (!(dd m n))))=_;congr 3;by_cases e:m=n
  .subst e;simp
  .rw[wm e];simp;omega
 |lss=>
  cases h;refine A _ rfl (λm n c j=>.inl ?_) rfl;subst c;subst j;show O (af.raw (.bool (dK (m+1) n)))=_;rw[zO];congr 3;rw[tC,vk,vk];omega
 |leq=>
  cases h;refine A _ rfl (λm n c j=>.inl ?_) rfl;subst c;subst j;show O (af.raw (.bool (dK m n)))=_;rw[zO];congr 3;rw[tC,vk,vk];omega
 |gtr=>
  cases h;refine A _ rfl (λm n c j=>.inl ?_) rfl;subst c;subst j;show O (af.raw (.bool (dK (n+1) m)))=_;rw[zO];congr 3;rw[tC,vk,vk];omega
 |geq=>
  cases h;refine A _ rfl (λm n c j=>.inl ?_) rfl;subst c;subst j;show O (af.raw (.bool (dK n m)))=_;rw[zO];congr 3;rw[tC,vk,vk];omega
def ah0:Ref (N3 op t x y ag P o ev H) (kn op t x y ag P o ev H):=by
 unfold N3;split
 .rename_i k a q b h j;split
  .rename_i c;have c:k=q:=by simpa using c
   subst c;split
   .rename_i u p;exact ahZ h j p
   .rename_i m;rw[Og h j];cases l:kU op k k a b with
    |none=>exact .ret
    |some v=>
     obtain⟨r,n,_,_,_,_,f⟩:=eh l;cases op<;>first |(cases m;done)|(change (bs:da af)=O v at f;cases f)
  .exact .no
 .exact .ret
end
def ah1{c a b:gn}:Ref (N4 c a b P o ev H) (qa c a b P o ev H):=by
 unfold N4 qa;cases iX (ev c)with
 |no=>exact .no
 |mk q=>cases q<;>exact .ret
def FF{v:af}{f:E->aD aM}{r:aM}(h:∀k,p9 v=.mk k->Ref (f k) r):Ref (Ad v f) r:=by
 unfold Ad;split
 .rename_i k z j;refine .must λc=>h _ ?_
  have c:=cC c;unfold p9;rw[j];cases z with
  |ofNat m=>rfl
  |negSucc m=>exact absurd c ω
 .exact .no
def ah2{k s:E}{x:af}:Ref (N5 k s x H) (tS k s x H):=by
 unfold N5 tS;split
 .rename_i z t xs;split
  .rename_i f;refine .must λc=>?_
   have c:=cC c;simp only[f,py];rw[aw (show k+1<=xs.length from c)];exact .ret
  .exact .no
 .rename_i e t i l h j;split
  .rename_i f;refine .must λc=>?_
   have c:=cC c;simp only[f,py];rw[aw (show k+1<=h from c)];exact .ret
  .exact .no
 .exact .no
def ah3{v:af}(h:N6 v=D):jX v=.no/\zz v=.no:=by
 cases v<;>first |exact⟨rfl,rfl⟩|cases h
def ah4{t:ed}{x c:gn}:Ref (N7 t x c P o ev H) (o7 t x c P o ev H):=by
 unfold N7;split
 .rename_i s j h;refine FF λk f=>?_
  unfold o7;simp only[f,h,(ah3 j).2];exact ah2
 .exact .ret
def ah5{t:ed}{x:gn}:Ref (N8 t x P o ev H) (qb t x P o ev H):=by
 unfold N8 VX;split
 .rename_i e u i k h f;refine .must λc=>?_
  unfold qb;rw[f];show Ref _ (pc P t (.en e u i k h) H);unfold pc;simp only[c,ka];exact .ret
 .exact .ret
def ah6{t:ed}{x y:gn}:Ref (N9 t x y P o ev H) (sr t x y P o ev H):=by
 unfold N9 VY;split
 .rename_i e u i k c h;refine .must λf=>?_
  unfold sr;rw[h];show Ref _ (zE P t (.en e u i k c) (ev y) H);unfold zE;simp only[f,ka];cases (co (ev y).cells&&we P t (ev y).cells.length)with
  |false=>exact .no
  |true=>
   simp only[ka];cases (mJ (elemAt u (bu u (H.get i)) k) c (ev y).cells).bind u.read with
   |none=>exact .no
   |some d=>exact .ret
 .exact .ret
def Jd{v:da af}{d:E}{f:E->aD aM}{r:aM}(h:∀k,ox v d=O k->Ref (f k) r):Ref (CF v d f) r:=by
 unfold CF;split
 .exact h _ rfl
 .rename_i v;exact FF λk c=>h k (by show ow v=O k;unfold ow;rw[c])
def V4{e:ed}{s n:E}{lo hi mx:da af}{k:E->E->aD aM}{j:E->E->af}(h:∀l h,l<=h->h<=n->Ref (k l h) (.ok (j l h) H)):Ref (Ha P e s n lo hi mx H k) (ah H (B1 P e s n lo hi mx j)):=by
 unfold Ha;split
 .split
  .rename_i z u;split
   .rename_i m;refine Jd λp q=>Jd λl r=>.must λc=>.must λf=>?_
    have c:=cC c;have f:=cC f;unfold B1;simp only[u,kV,q,r,m,da.isNone_none,py,aw c,aw f,ka];exact h l p c f
   .exact .no
  .exact .no
 .exact .no
def ah8{t:ed}{x:gn}{lo hi mx:da gn}:Ref (Fd t x lo hi mx P o ev H) (q2 t x lo hi mx P o ev H):=by
 unfold Fd;split
 .rename_i m;have z:q2 t x lo hi mx P o ev H=ah H (E3 P t (ev x) (lo.map ev) (hi.map ev) (mx.map ev)):=by
   unfold q2 E8;cases A:ev x<;>first |rfl |(rw[A]at m;cases m)
  rw[z];unfold VZ;split
  .rename_i e M C xs j k;unfold E3;rw[j,k];refine V4 λl h q r=>?_
   cases f:dK (l+1) h with
   |true=>exact .ret
   |false=>
    have:¬l+1<=h:=λu=>by rw[aw u]at f;cases f
    have e:(xs.take h).drop l=[]:=by rw[I.drop_eq_nil_iff];simp;omega
    rw[e];exact .ret
  .rename_i e G C i J K F j k;unfold E3;rw[j,k];refine V4 λl h q r=>.ask ?_
   cases f:dd l 0 with
   |true=>exact .ret
   |false=>
    refine .ask ?_;by_cases c:l<h
    .simp only[c,decide_true,sd,aw (show l+1<=h from c),ka];exact .ret
    .have p:dK (l+1) h=ao:=by rw[zO];exact ab c
     simp only[c,decide_false,sd,p];exact .ret
  .exact .no
 .exact .ret
def ah9{ty:aq}{s:E}{x:af}{f:I ty.den->E->aD aM}{r:aM}(h:∀c n,B3 H ty s x=O (c,n)->Ref (f c n) r):Ref (Oa H ty s x f) r:=by
 unfold Oa;split
 .rename_i e z p q u m;split
  .rename_i l;refine .must λj=>h _ _ ?_
   unfold B3;simp only[l,j,py,ka]
  .exact .no
 .split
  .rename_i c n k;exact h c n k
  .exact .no
def Oh{t e:ed}{ty:aq}{i k len:E}{cap:aY}{c:dF}{x:af}:Ref (FD P t e ty i k len cap c x H) (fc (tX P t e ty i k len cap c x H)):=by
  unfold FD;split
  .rename_i el m;split
   .rename_i z f;split
    .rename_i A r;split
     .rename_i l;refine .must λp=>ah9 λu n q=>.ask ?_
      unfold tX;simp only[m,f,r,kV,l,p,py,ka,q];cases dd n 0 with
      |true=>exact .ret
      |false=>
       refine .must λh=>.must λj=>?_
       simp only[h,j,py,ka,sd];exact .ret
     .exact .no
    .exact .no
   .exact .no
  .exact .no
def V5{t:ed}{s x:af}{d:aM}(C:d=fc (oy P t s x H)):Ref (Jc P t s x H d) (fc (oy P t s x H)):=by
 unfold Jc;split
 .rename_i e c i k h f;have u:oy P t (.bZ e c i k h f) x H=E4 P t e c i k h f x H:=rfl;rw[u];unfold E4;cases zB c x H with
  |none=>exact Oh
  |some K=>
   obtain⟨b,M⟩:=K;refine .must λA=>?_
   subst A;exact Oh
 .rename_i J;split
  .rename_i z c ys;split
   .rename_i F;split
    .rename_i e G;have:oy P t s (.bh z c ys) H=tX P t e c H.next 0 0 (.known 0) D (.bh z c ys) H:=by
      unfold oy;split
      .rename_i j l m p q r;exact absurd rfl (J j l m p q r)
      .simp only[F,ka];unfold Is;rw[G]
     rw[this];exact Oh
    .exact .no
   .exact .no
  .subst C;exact .ret
def aib{c:Call}:Ref (Ob c P o ev H) (fx c P o ev H):=by
 unfold Ob;split
 .rename_i s x t M h f k;split
  .rename_i el j;have e:fx c P o ev H=fc (oy P t s x H):=by
    unfold fx;rw[h];simp only[f];unfold qc;simp only[k,j]
   rw[e];exact V5 rfl
  .rename_i j;split
   .have e:fx c P o ev H=fc (oy P t s x H):=by
     unfold fx;rw[h];simp only[f];unfold qc;simp only[k,j]
    rw[e];exact V5 rfl
   .exact .ret
  .exact .ret
 .rename_i x n m K h f k;have e:fx c P o ev H=fc (xU P m x n H):=by
   unfold fx;rw[h];simp only[f];unfold qc;simp only[k]
  rw[e];unfold V0;split
  .rename_i p u i;split
   .rename_i j;split
    .rename_i q;refine .must λl=>.must λz=>.must λA=>.must λC=>?_
     have r:xU P m (.en p u i 0 0) (.raw (.int .i64 (.ofNat q))) H=O (.raw (.string (wg ((bu (.int .u8) (H.get i)).take q))),H.drop i):=by
      show oi (IA P m p u&&_) _ bs=_;rw[j,l,z,A,C];rfl
     rw[r];exact .ret
    .exact .no
   .exact .no
  .exact .ret
 .rename_i Q el u i F G J h f;have e:fx c P o ev H=@jh (λ_=>aM) .no (.ok (.en el u i F 0) H) (dK 1 G):=by
   unfold fx;rw[h];simp only[f];unfold qc;rfl
  rw[e];refine .must λl=>?_
  rw[l];exact .ret
 .exact .ret
def aic{t:ed}{l c:gn}:Ref (Oc t l c P o ev H) (d8 t l c P o ev H):=by
 unfold Oc;split
 .rename_i e r;split
  .rename_i G u;split
   .rename_i F C;refine FF λn A=>FF λm z=>?_
    split
    .rename_i f;refine .must λp=>.must λq=>?_
     rw[ae]at f;have h:ow (ev l)=O n:=by unfold ow;rw[A]
     have j:ow (ev c)=O m:=by unfold ow;rw[z]
     have k:d8 t l c P o ev H=.ok (.slice H.next 0 n (.known m)) (H.new (.cells e (ie m (jE F.cells)).flatten D ao ao)):=by
      unfold d8 sj;rw[r,kV,u,kV,C,kV,h,kV,j,kV,aw (cC p),f.1,q,f.2];rfl
     rw[k];exact .ret
    .exact .no
   .exact .no
  .exact .no
 .exact .no
def m4{v:af}{s:AT}(h:CI v=O s):v=.raw (.string s):=by
 unfold CI at h;split at h
 .cases h;rfl
 .cases h
def V6{v:af}{k:E}(h:p9 v=.mk k):∃q,v=.raw (.int q k):=by
 unfold p9 at h;cases c:jW v with
 |no=>rw[c]at h;cases h
 |int q z=>
  rw[c]at h;have h:xS z=.mk k:=h;cases z with
  |ofNat m=>cases h;exact⟨q,Cj c⟩
  |negSucc m=>cases h
def pq{x:gn}{v:Value}(h:ev x=.raw v):tV ev x=v:=by unfold tV;rw[h];rfl
def aid{s:AT}{k:E}(h:k<s.size):s[k]? =O (s.data.toList.getD k 0):=by
 have c:k<s.data.size:=h;rw[show s[k]? =O s[k]from getElem?_pos s k h];congr 1;rw[ap,IF,E' c];rfl
def aie{t:ed}{x c:gn}(k:o.op=.index t x c):Ref (Od t x c P o ev H) (oz t x c P o ev H):=by
 unfold Od;split
 .rename_i s z;have h:=m4 z;split
  .rename_i A;refine FF λl u=>.must λf=>?_
   have f:=cC f;obtain⟨C,j⟩:=V6 u;have p:oz t x c P o ev H=ah H (gen P o ev):=by unfold oz;rw[h];rfl
   have q:gen P o ev=O (.raw (.int .u8 (Hb s l))):=by
    unfold gen;rw[k];have r:((Op.index t x c).operands.toList.all λx=>(ev x).gh.isSome)=D:=by simp[gs,h,j,af.gh]
    rw[r];have m:dZ P (gy (tV ev) o)=O (.value (.int .u8 (Hb s l))):=by
     unfold gy;rw[k];simp only[pq h,pq j];simp[Instr.index,õ,Zi,Ā,dZ,A,bind,P0,pure,aid f,Hb]
    rw[m];rfl
   rw[p,q];exact .ret
  .exact .no
 .exact .ret
def jn{α c:Type}(f:α->c):∀{s:PL α}{a:α},dZ P s=O a->dZ P (do let r <-s;pure (f r))=O (f a)
 |.pure a,_,h=>by
   have h:O a=O _:=h;cases h;rfl
 |.program k,_,h=>jn f (s:=k P) h
 |.mark _ k,_,h=>jn f (s:=k) h
 |.load ..,_,h=>by cases h
 |.store ..,_,h=>by cases h
 |.new ..,_,h=>by cases h
 |.shape ..,_,h=>by cases h
 |.freeze ..,_,h=>by cases h
 |.frozen ..,_,h=>by cases h
 |.getObj ..,_,h=>by cases h
 |.setObj ..,_,h=>by cases h
 |.choose ..,_,h=>by cases h
 |.sys ..,_,h=>by cases h
 |.halt ..,_,h=>by cases h
def Oi{v:da gn}{d k:E}(h:ox (v.map ev) d=O k):(v=bs/\k=d)\/∃y q,v=O y/\ev y=.raw (.int q k):=by
 cases v with
 |none=>cases h;exact .inl ⟨rfl,rfl⟩
 |some y=>
  have h:ow (ev y)=O k:=h;unfold ow at h;cases c:p9 (ev y)with
  |no=>rw[c]at h;cases h
  |mk m=>
   rw[c]at h;cases h;obtain⟨q,f⟩:=V6 c;exact .inr ⟨y,q,rfl,f⟩
def aif{t:ed}{x:gn}{lo hi mx:da gn}(h:o.op=.slice t x lo hi mx):Ref (Oe t x lo hi mx P o ev H) (q2 t x lo hi mx P o ev H):=by
 unfold Oe;split
 .rename_i s J;have c:=m4 J;unfold Hc;split
  .rename_i m q;have q:mx=bs:=by cases mx<;>first |rfl |cases q
   subst q;refine Jd λF G=>Jd λK u=>.must λk=>.must λl=>?_
   have k:=cC k;have l:=cC l;have A:q2 t x lo hi bs P o ev H=ah H (gen P o ev):=by unfold q2 E8;rw[c]
   have C:gen P o ev=O (.raw (.string (s.extract K F))):=by
    unfold gen;rw[h];rcases Oi G with⟨rfl,rfl⟩|⟨y,M,rfl,p⟩
    .rcases Oi u with⟨rfl,rfl⟩|⟨r,z,rfl,j⟩
     .have f:((ø t x bs bs bs).operands.toList.all λx=>(ev x).gh.isSome)=D:=by simp[gs,c,af.gh]
      rw[f];unfold gy;rw[h];simp only[pq c,Ef];simp[Fz,NI,G3,Zi,Ā,dZ,m,bind,P0,pure]
     .have f:((ø t x (O r) bs bs).operands.toList.all λx=>(ev x).gh.isSome)=D:=by simp[gs,c,j,af.gh]
      rw[f];unfold gy;rw[h];simp only[pq c,Ef,ta,pq j];simp[Fz,NI,G3,Zm,õ,Zi,Ā,dZ,m,bind,P0,pure,k]
    .rcases Oi u with⟨rfl,rfl⟩|⟨r,z,rfl,j⟩
     .have f:((ø t x bs (O y) bs).operands.toList.all λx=>(ev x).gh.isSome)=D:=by simp[gs,c,p,af.gh]
      rw[f];unfold gy;rw[h];simp only[pq c,Ef,ta,pq p];simp[Fz,NI,G3,Zm,õ,Zi,Ā,dZ,m,bind,P0,pure,l]
     .have f:((ø t x (O r) (O y) bs).operands.toList.all λx=>(ev x).gh.isSome)=D:=by simp[gs,c,p,j,af.gh]
      rw[f];unfold gy;rw[h];simp only[pq c,ta,Ef,pq p,pq j];simp[Fz,NI,G3,Zm,õ,Zi,Ā,dZ,m,bind,P0,pure,k,l]
   rw[A,C];exact .ret
  .exact .no
 .exact ah8
def V7(a b:AT):(a.toList==b.toList)=CG a b:=by
 rw[ByteArray.toList_eq,ByteArray.toList_eq];unfold CG;rw[tC];simp
def aih{op:I1}{t:ed}{x y:gn}{ag:ed}(r:o.op=.binOp op t x y ag):Ref (Of op t x y ag P o ev H) (kn op t x y ag P o ev H):=by
 unfold Of;split
 .rename_i a b p q;have c:=m4 p;have h:=m4 q;have j:kn op t x y ag P o ev H=ah H (zD P o ev op t (ev x) (ev y)):=by unfold kn;rw[c];rfl
  have u:((Op.binOp op t x y ag).operands.toList.all λx=>(ev x).gh.isSome)=D:=by simp[gs,c,h,af.gh]
  have l:∀v,dZ P (do Q1 op t x y (.string a) (.string b);Gx op t (.string a) (.string b))=O v->gen P o ev=O (.raw v):=λv m=>by
   unfold gen;rw[r,u];unfold gy;rw[r];simp only[pq c,pq h];have:dZ P (do let A <-(do Q1 op t x y (.string a) (.string b);Gx op t (.string a) (.string b));pure (Next.value A))=O (.value v):=jn _ m;simp only[ka];rw[this]
  unfold V1;split
  .refine .must λF=>?_
   have F:=cC F;have:zD P o ev .add t (ev x) (ev y)=O (.raw (.string (a++b))):=l _ (by
    have:¬(9223372036854775807:N)<(a.size:N)+(b.size:N):=by omega
    simp[Q1,Gx,ù,dZ,bind,P0,pure,be.max,be.bits,be.signed,this])
   rw[j,this];exact .ret
  .have:zD P o ev .eql t (ev x) (ev y)=O (.raw (.bool (CG a b))):=by
    rw[c,h];exact l _ (by rw[<-V7];simp[Q1,Gx,ù,dZ,bind,P0,pure])
   rw[j,this];exact .ret
  .have:zD P o ev .neq t (ev x) (ev y)=O (.raw (.bool (!CG a b))):=by
    rw[c,h];exact l _ (by rw[<-V7];simp[Q1,Gx,ù,dZ,bind,P0,pure])
   rw[j,this];exact .ret
  .exact .ret
 .split
  .rename_i k a f b J p q;refine .must λC=>?_
   have C:=cC C;have c:=Cj p;have h:=Cj q;have z:kU op k f a b=bs:=by
    cases z:kU op k f a b with
    |none=>rfl
    |some v=>obtain⟨M,n,_,_,_,_,m⟩:=eh z;cases op<;>first |(cases J;done)|(change (bs:da af)=O v at m;cases m)
   have K:qZ P o ev op k f a b=gen P o ev:=by
    unfold qZ;have:vY P op k a b=bs:=by cases op<;>first |rfl |(cases J;done)
    rw[this];cases (k==f)<;>rfl
   have j:kn op t x y ag P o ev H=ah H (gen P o ev):=by rw[Og p q,z,K]
   have u:((Op.binOp op t x y ag).operands.toList.all λx=>(ev x).gh.isSome)=D:=by simp[gs,c,h,af.gh]
   have l:∀v,dZ P (do Q1 op t x y (.int k a) (.int f b);Gx op t (.int k a) (.int f b))=O v->gen P o ev=O (.raw v):=λv m=>by
    unfold gen;rw[r,u];unfold gy;rw[r];simp only[pq c,pq h];have:dZ P (do let A <-(do Q1 op t x y (.int k a) (.int f b);Gx op t (.int k a) (.int f b));pure (Next.value A))=O (.value v):=jn _ m;simp only[ka];rw[this]
   have G:¬b<0:=by omega
   split
   .rw[j,l _ (by simp only[Q1,Gx,Op.shift,G,á];rfl)];exact .ret
   .rw[j,l _ (by simp only[Q1,Gx,Op.shift,G,á];rfl)];exact .ret
   .exact .no
  .exact ah0
def Je:Ref (FE o.op P o ev H) (fR o.op P o ev H):=by
 cases c:o.op with
 |binOp op t x y ag=>exact aih c
 |pick f a b=>exact ah1 (P:=P) (o:=o)
 |indexAddr t x h=>exact ah4
 |load t x=>exact ah5
 |store t x y=>exact ah6
 |slice t x k j m=>exact aif c
 |index t x h=>exact aie c
 |call f=>exact aib
 |makeSlice t l f=>exact aic (o:=o)
 |_=>exact .ret
end
end
noncomputable section
abbrev bL:=ya->I af->ai->aD aM
abbrev Ae:=mN->(n:E)->(c:dF)->au af->ai->I E->aD R
def Hd{c:Type}(T:au af)(ops:fh ls)(o:ls)(no:aD c)(f:dF->aD c):aD c:=match o.guard with
 |none=>f D
 |some g=>match(ops[g.1]?).bind (·.dst)with
  |some d=>(match T.get d with |some (.raw (.bool b))=>.ask (b==g.2) f|some .bot=>no|_=>f ao)
  |none=>no
def Jf(P:fd)(call:bL)(o:ls)(ev:eB)(H:ai):aD aM:=
 (FE o.op P o ev H).bind λr=>match r with
   |.ok v H=>.ret (.ok v H)
   |.enter f args H=>call f args H
   |_=>.ret .no
def Jg(T:au af)(n:E)(dst:da Tmp)(v:af)(k:au af->aD fH):aD fH:=match jY T n dst v with
 |some T=>k T
 |none=>.ret .no
def V8(P:fd)(call:bL)(ops:fh ls)(n:E)(o:ls)(T:au af)(H:ai)(k:au af->ai->aD fH):aD fH:=
 Hd T ops o (.ret .no) λb=>match b with
  |false=>Jg T n o.dst (.raw lk) λT=>k T H
  |true=>(Jf P call o (cF T) H).bind λr=>match r with
   |.ok v H=>Jg T n o.dst v λT=>k T H
   |_=>.ret .no
def Oj(P:fd)(call:bL)(ops:fh ls)(n:E):I ls->au af->ai->aD fH
 |[],T,H=>.ret (.mk T H)
 |o::l,T,H=>V8 P call ops n o T H (Oj P call ops n l)
def Ol{c:Type}(P:fd)(o:ls)(ev:eB)(v:af)(H:ai)(no k:aD c):aD c:=
 (FE o.op P o ev H).bind λr=>match r with
   |.ok f _=>.must (af.same f v) k
   |_=>no
def Om{c:Type}(P:fd)(o:ls)(ev:eB)(v:af)(no k:aD c):I ai->aD c
 |[]=>k
 |H::l=>Ol P o ev v H no (Om P o ev v no k l)
def Jh{c:Type}(P:fd)(H:ai)(no k:aD c):I rj->aD c
 |[]=>k
 |q::l=>Ol P q.o (cF q.T) q.v H no (Jh P H no k l)
def V9(P:fd)(call:bL)(ops:fh ls)(n:E)(o:ls)(s:ia):aD (da ia):=
 Hd s.T ops o (.ret bs) λb=>match b with
  |false=>.ret (oD n o s (.raw lk) λT=>{s with i:=s.i+1,T:=T,bT:=s.bT.set s.i (O (level s.bT (bi o)))})
  |true=>match oC P o.op with
   |.p=>(FE o.op P o (cF s.T) s.cur).bind λr=>match r with
     |.ok v _=>.ret (oD n o s v λT=>{s with i:=s.i+1,T:=T,bT:=s.bT.set s.i (O (level s.bT (bi o)))})
     |_=>.ret bs
   |.r=>match s.hs with
     |H::_=>(FE o.op P o (cF s.T) H).bind λr=>match r with
      |.ok v _=>Om P o (cF s.T) v (.ret bs) (.ret (oD n o s v λT=>{s with i:=s.i+1,T:=T,bT:=s.bT.set s.i (O (level s.bT (bi o))),eo:=⟨s.i,o,s.T,v⟩::s.eo})) (s.hs.take (s.k+1-level s.bT (bi o)))
      |_=>.ret bs
     |[]=>.ret bs
   |.a=>match fR o.op P o (cF s.T) s.cur with
     |.ok v H=>.ret (oD n o s v λT=>{s with i:=s.i+1,T:=T,cur:=H,bT:=s.bT.set s.i (O (level s.bT (bi o))),dU:=s.i::s.dU})
     |_=>.ret bs
   |.e=>match dd (level s.bT (bi o)) s.k&&wA s.dU (bi o)with
     |true=>(Jf P call o (cF s.T) s.cur).bind λr=>match r with
      |.ok v H=>Jh P H (.ret bs) (.ret (oD n o s v λT=>{i:=s.i+1,k:=s.k+1,T:=T,cur:=H,hs:=H::s.hs,bT:=s.bT.set s.i (O (s.k+1)),eo:=kX (bi o) s.eo,dU:=[]})) (kX (bi o) s.eo)
      |_=>.ret bs
     |false=>.ret bs
   |.b=>match dd (level s.bT (bi o)) s.k&&wA s.dU (bi o)with
     |true=>(Jf P call o (cF s.T) s.cur).bind λr=>match r with
      |.ok v H=>Jh P H (.ret bs) (.ret (oD n o s v λT=>{i:=s.i+1,k:=s.k+1,T:=T,cur:=H,hs:=H::s.hs,bT:=s.bT.set s.i (O (s.k+1)),eo:=kX (bi o) s.eo,dU:=[]})) (kX (bi o) s.eo)
      |_=>.ret bs
     |false=>match fR o.op P o (cF s.T) s.cur with
      |.ok v H=>.ret (oD n o s v λT=>{s with i:=s.i+1,T:=T,cur:=H,bT:=s.bT.set s.i (O (level s.bT (bi o))),dU:=s.i::s.dU})
      |_=>.ret bs
def On(P:fd)(call:bL)(ops:fh ls)(n:E):I ls->ia->aD fH
 |[],s=>.ret (.mk s.T s.cur)
 |o::l,s=>(V9 P call ops n o s).bind λr=>match r with
  |some s=>On P call ops n l s
  |none=>.ret .no
def Oo(P:fd)(call:bL)(ops:fh ls)(n:E)(T:au af)(H:ai):aD fH:=
 match uj ops.toList ops.toList 0 with
 |true=>On P call ops n ops.toList {i:=0,k:=0,T:=T,cur:=H,hs:=[H],bT:= .nil,eo:=[],dU:=[]}
 |false=>.ret .no
def CJ(bB:bL)(call:bL):bL:=λf args H=>(bB f args H).bind λr=>match r with
 |.no=>call f args H
 |r=>.ret r
def Af(P:fd)(j:Ae):bL:=λh args H=>match P.funcs[h]? with
 |some c=>(match c.body with
  |some f=>(match dK args.length c.ntmps with
   |true=>(j f c.ntmps ao (gI args .nil 0) H []).bind λr=>match r with
    |.normal T H m=>.ret (lW P c T H m)
    |.ret T H m=>.ret (lW P c T H m)
    |_=>.ret .no
   |false=>.ret .no)
  |none=>.ret .no)
 |none=>.ret .no
def aii(m:I E)(r:fH):aD R:=match r with
 |.mk T H=>.ret (.normal T H m)
 |.no=>.ret .no
def CK(P:fd)(call:bL)(h:Ae)(c:mN):(n:E)->(f:dF)->au af->ai->I E->aD R:=λn f T H m=>match c with
 |.skip=>.ret (.normal T H m)
 |.label _=>.ret (.normal T H m)
 |.region _ ops d=>(match d with |true=>Oo P call ops n T H|false=>Oj P call ops n ops.toList T H).bind λr=>aii m r
 |.seq a b=>(h a n f T H m).bind λr=>match r with
   |.normal T H m=>h b n f T H m
   |r=>.ret r
 |.cond x a b=>match iX (cF T x)with
   |.mk q=>.ask q λr=>match r with |true=>h a n f T H m|false=>h b n f T H m
   |.no=>.ret .no
 |.block id b=>(h b n f T H m).bind λr=>match r with
   |.exit i T H m=>(match dd i id with |true=>.ret (.normal T H m)|false=>.ret (.exit i T H m))
   |r=>.ret r
 |.exit id=>.ret (.exit id T H m)
 |.scope b=>(h b n f T H m).bind λr=>match r with
   |.goto _ _ _ _=>.ret .no
   |r=>.ret r
 |.goto l=>.ret (.goto l T H m)
 |.ret=>.ret (.ret T H m)
 |_=>.ret .no
def sK(P:fd)(bB:bL)(fuel:E):Ae:=
 @E.rec (λ_=>Ae) (λ_ _ _ _ _ _=>.ret .no) (λ_ c f=>CK P (CJ bB (Af P c)) c f) fuel
def bJ(bB:bL):fe:=λf args H=>((bB f args H).gr).getD .no
def Ag(t:aD fH)(r:fH):Prop:=∀a,t.gr=O a->a≠ .no->r=a
def aij(t:aD R)(r:R):Prop:=∀a,t.gr=O a->a≠ .no->r=a
def aik(t:aD (da ia))(r:da ia):Prop:=∀a,t.gr=O (O a)->r=O a
def uq(c:bL)(call:fe):Prop:=∀f args H,Ref (c f args H) (call f args H)
def oG{α j:Type}{x:aD α}{f:α->aD j}{b:j}(h:(x.bind f).gr=O b):∃a,x.gr=O a/\(f a).gr=O b:=by
 rw[aD.sJ]at h;cases c:x.gr with
 |none=>rw[c]at h;cases h
 |some a=>rw[c]at h;exact⟨a,rfl,h⟩
section
variable{P:fd}{call:fe}{Z:bL}{round:lz}
def Wa{k:Type}{T:au af}{ops:fh ls}{o:ls}{no:aD k}{f:dF->aD k}{b:k}(h:(Hd T ops o no f).gr=O b):no.gr=O b\/∃l,iY T ops o=O l/\(f l).gr=O b:=by
 unfold Hd at h;split at h
 .rename_i j;refine .inr ⟨D,?_,h⟩;unfold iY;rw[j]
 .rename_i g j;have e:iY T ops o=iS T ops g:=by unfold iY;rw[j]
  rw[e];unfold iS;split at h
  .rename_i d r;rw[r];simp only;split at h
   .rename_i q c;rw[c];exact .inr ⟨_,rfl,h⟩
   .exact .inl h
   .rename_i m p;refine .inr ⟨ao,?_,h⟩;split
    .rename_i q c;exact absurd c (m q)
    .rename_i c;exact absurd c p
    .rfl
  .exact .inl h
def Oq(p:uq Z call){o:ls}{ev:eB}{H:ai}:Ref (Jf P Z o ev H) (ko P call round o ev H):=by
 intro a m f;obtain⟨r,l,c⟩:=oG m;have j:r≠ .no->fR o.op P o ev H=r:=Je r l;unfold ko;cases r with
 |no=>cases c;exact absurd rfl f
 |ok v h=>rw[j τ];cases c;rfl
 |enter k args h=>rw[j τ];exact p k args h a c f
 |round _ _ _=>cases c;exact absurd rfl f
def Wb{T:au af}{n:E}{dst:da Tmp}{v:af}{k:au af->aD fH}{c:au af->ai->fH}{H:ai}(h:∀T,Ag (k T) (c T H)):Ag (Jg T n dst v k) (su c H (jY T n dst v)):=by
 unfold Jg;cases jY T n dst v with
 |none=>intro a j l;cases j;exact absurd rfl l
 |some f=>exact h f
def ail(A:uq Z call){ops:fh ls}{n:E}{o:ls}{T:au af}{H:ai}{k:au af->ai->aD fH}{m:au af->ai->fH}(h:∀T H,Ag (k T H) (m T H)):
  Ag (V8 P Z ops n o T H k) (zF P call round ops n o T H m):=by
 intro a z c;rcases Wa z with j|⟨q,j,l⟩
 .cases j;exact absurd rfl c
 .unfold zF;rw[j];cases q with
  |false=>exact Wb (λT=>h T H) a l c
  |true=>
   obtain⟨r,u,f⟩:=oG l;have C:r≠ .no->ko P call round o (cF T) H=r:=Oq A r u;cases r with
   |no=>cases f;exact absurd rfl c
   |ok v p=>
    simp only;rw[C τ];exact Wb (λT=>h T p) a f c
   |enter _ _ _=>cases f;exact absurd rfl c
   |round _ _ _=>cases f;exact absurd rfl c
def Wc(c:uq Z call){ops:fh ls}{n:E}:∀(l:I ls)(T:au af)(H:ai),Ag (Oj P Z ops n l T H) (zG P call round ops n l T H)
 |[],T,H=>λa f _=>by cases f;rfl
 |o::l,T,H=>ail c λT H=>Wc c l T H
def Wd{j:Type}{o:ls}{ev:eB}{v:af}{H:ai}{no k:aD j}{b:j}(h:(Ol P o ev v H no k).gr=O b):no.gr=O b\/(lh P o ev v H=D/\k.gr=O b):=by
 obtain⟨r,l,c⟩:=oG h;have m:r≠ .no->fR o.op P o ev H=r:=Je r l;cases r with
 |ok p q=>
  right;simp only[aD.gr]at c;unfold lh;rw[m τ];cases f:af.same p v with
  |false=>rw[f]at c;cases c
  |true=>rw[f]at c;exact⟨f,c⟩
 |no=>exact .inl c
 |enter _ _ _=>exact .inl c
 |round _ _ _=>exact .inl c
def We{c:Type}{o:ls}{ev:eB}{v:af}{no k:aD c}{b:c}:∀{l:I ai},(Om P o ev v no k l).gr=O b->no.gr=O b\/(xc P o ev v l=D/\k.gr=O b)
 |[],h=>.inr ⟨rfl,h⟩
 |H::l,h=>by
  rcases Wd h with h|⟨f,j⟩
  .exact .inl h
  .rcases We j with h|⟨m,p⟩
   .exact .inl h
   .exact .inr ⟨by unfold xc;rw[f];exact m,p⟩
def Ot{c:Type}{H:ai}{no k:aD c}{b:c}:∀{l:I rj},(Jh P H no k l).gr=O b->no.gr=O b\/(sI P H l=D/\k.gr=O b)
 |[],h=>.inr ⟨rfl,h⟩
 |q::l,h=>by
  rcases Wd h with h|⟨f,j⟩
  .exact .inl h
  .rcases Ot j with h|⟨m,p⟩
   .exact .inl h
   .exact .inr ⟨by unfold sI;rw[f];exact m,p⟩
def aim(F:uq Z call){ops:fh ls}{n:E}{o:ls}{s:ia}:aik (V9 P Z ops n o s) (pv P call round ops n o s):=by
 intro a K;rcases Wa K with C|⟨J,C,c⟩
 .cases C
 .unfold pv;simp only[C];cases J with
  |false=>exact kT c
  |true=>
   simp only at c ⊢;cases u:oC P o.op with
   |p=>
    rw[u]at c;obtain⟨r,j,f⟩:=oG c;have k:r≠ .no->_=r:=Je r j;cases r with
    |ok v l=>simp only;rw[k τ];exact kT f
    |no=>cases f
    |enter _ _ _=>cases f
    |round _ _ _=>cases f
   |r=>
    rw[u]at c;simp only at c ⊢;cases G:s.hs with
    |nil=>rw[G]at c;cases c
    |cons H M=>
     rw[G]at c;simp only at c ⊢;obtain⟨r,j,f⟩:=oG c;have k:r≠ .no->_=r:=Je r j;cases r with
     |ok v l=>
      rw[k τ];simp only at f ⊢;rcases We f with z|⟨A,m⟩
      .cases z
      .rw[A];exact kT m
     |no=>cases f
     |enter _ _ _=>cases f
     |round _ _ _=>cases f
   |a=>
    rw[u]at c;simp only at c ⊢;cases h:fR o.op P o (cF s.T) s.cur with
    |ok v l=>rw[h]at c;exact kT c
    |no=>rw[h]at c;cases c
    |enter _ _ _=>rw[h]at c;cases c
    |round _ _ _=>rw[h]at c;cases c
   |e=>
    rw[u]at c;simp only at c ⊢;cases q:(dd (level s.bT (bi o)) s.k&&wA s.dU (bi o))with
    |false=>rw[q]at c;cases c
    |true=>
     rw[q]at c;simp only[ka]at c ⊢;obtain⟨r,j,f⟩:=oG c;have k:r≠ .no->ko P call round o (cF s.T) s.cur=r:=Oq F r j;cases r with
     |ok v l=>
      rw[k τ];simp only at f ⊢;rcases Ot f with z|⟨A,m⟩
      .cases z
      .rw[A];exact kT m
     |no=>cases f
     |enter _ _ _=>cases f
     |round _ _ _=>cases f
   |b=>
    rw[u]at c;simp only at c ⊢;cases q:(dd (level s.bT (bi o)) s.k&&wA s.dU (bi o))with
    |false=>
     rw[q]at c;simp only[sd]at c ⊢;cases h:fR o.op P o (cF s.T) s.cur with
     |ok v l=>rw[h]at c;exact kT c
     |no=>rw[h]at c;cases c
     |enter _ _ _=>rw[h]at c;cases c
     |round _ _ _=>rw[h]at c;cases c
    |true=>
     rw[q]at c;simp only[ka]at c ⊢;obtain⟨r,j,f⟩:=oG c;have k:r≠ .no->ko P call round o (cF s.T) s.cur=r:=Oq F r j;cases r with
     |ok v l=>
      rw[k τ];simp only at f ⊢;rcases Ot f with z|⟨A,m⟩
      .cases z
      .rw[A];exact kT m
     |no=>cases f
     |enter _ _ _=>cases f
     |round _ _ _=>cases f
def Wf(h:uq Z call){ops:fh ls}{n:E}:∀(l:I ls)(s:ia),Ag (On P Z ops n l s) (z8 P call round ops n l s)
 |[],s=>λa c _=>by cases c;rfl
 |o::l,s=>λa c j=>by
  obtain⟨r,m,f⟩:=oG c;cases r with
  |none=>cases f;exact absurd rfl j
  |some k=>
   have:=aim (P:=P) (round:=round) h k m;unfold z8;rw[this];exact Wf h l k a f j
def ain(f:uq Z call){ops:fh ls}{n:E}{T:au af}{H:ai}:Ag (Oo P Z ops n T H) (Cz P call round ops n T H):=by
 unfold Oo Cz;cases uj ops.toList ops.toList 0 with
 |true=>exact Wf f _ _
 |false=>intro a c h;cases c;exact absurd rfl h
def aio{bB:bL}(l:uq Z call):uq (CJ bB Z) (xV (bJ bB) call):=λf args H a k m=>by
 obtain⟨r,h,c⟩:=oG k;have j:bJ bB f args H=r:=by unfold bJ;rw[h];rfl
 unfold xV;rw[j];cases r with
 |no=>exact l f args H a c m
 |ok v p=>cases c;rfl
 |enter _ _ _=>cases c;rfl
 |round _ _ _=>cases c;rfl
def Ji(v:Ae)(h:q6):Prop:=∀f n c T H m,aij (v f n c T H m) (h f n c T H m)
def aip{v:Ae}{q:q6}(hi:Ji v q):uq (Af P v) (q7 P q):=λA args H a c f=>by
 unfold Af at c;unfold q7;cases l:P.funcs[A]? with
 |none=>rw[l]at c;cases c;exact absurd rfl f
 |some j=>
  rw[l]at c;simp only at c ⊢;cases k:j.body with
  |none=>rw[k]at c;cases c;exact absurd rfl f
  |some G=>
   rw[k]at c;simp only at c ⊢;unfold MV;cases m:dK args.length j.ntmps with
   |false=>rw[m]at c;cases c;exact absurd rfl f
   |true=>
    rw[m]at c;simp only at c ⊢;obtain⟨r,C,h⟩:=oG c;have p:r≠ .no->_=r:=hi _ _ _ _ _ _ r C;cases r with
    |no=>cases h;exact absurd rfl f
    |normal z u F=>rw[p τ];cases h;rfl
    |exit _ _ _ _=>cases h;exact absurd rfl f
    |goto _ _ _ _=>cases h;exact absurd rfl f
    |ret z u F=>rw[p τ];cases h;rfl
def aiq{bB:bL}{v:Ae}{j:q6}(hi:Ji v j):Ji (CK P (CJ bB (Af P v)) v) (λu=>IB u P (qq P (bJ bB)) j):=by
 have C:uq (CJ bB (Af P v)) (xV (bJ bB) (q7 P j)):=aio (aip hi);intro u n l T H m a f k;unfold CK at f;cases u with
 |skip=>cases f;rfl
 |label F=>cases f;rfl
 |region id ops d=>
  simp only at f;obtain⟨r,p,c⟩:=oG f;have h:r≠ .no->qq P (bJ bB) d (q7 P j) zJ ops n T H=r:=by
   cases d with
   |true=>exact ain C r p
   |false=>exact Wc C _ _ _ r p
  show Cd m (qq P (bJ bB) d (q7 P j) zJ ops n T H)=a;cases r with
  |no=>cases c;exact absurd rfl k
  |mk A z=>rw[h τ];cases c;rfl
 |seq x y=>
  simp only at f;obtain⟨r,p,c⟩:=oG f;have h:r≠ .no->j x n l T H m=r:=hi _ _ _ _ _ _ r p;show(@R.rec (λ_=>R) .no (λT H m=>j y n l T H m) .exit .goto .ret (j x n l T H m))=a
  cases r with
  |no=>cases c;exact absurd rfl k
  |normal A z G=>rw[h τ];exact hi _ _ _ _ _ _ a c k
  |exit _ _ _ _=>rw[h τ];cases c;rfl
  |goto _ _ _ _=>rw[h τ];cases c;rfl
  |ret _ _ _=>rw[h τ];cases c;rfl
 |cond x y K=>
  simp only at f;show(@o5.rec (λ_=>R) .no (λb=>@jh (λ_=>R) (j K n l T H m) (j y n l T H m) b) (iX (cF T x)))=a
  cases q:iX (cF T x)with
  |no=>rw[q]at f;cases f;exact absurd rfl k
  |mk J=>
   rw[q]at f;cases J with
   |true=>exact hi _ _ _ _ _ _ a f k
   |false=>exact hi _ _ _ _ _ _ a f k
 |block id b=>
  simp only at f;obtain⟨r,p,c⟩:=oG f;have h:r≠ .no->j b n l T H m=r:=hi _ _ _ _ _ _ r p;show(@R.rec (λ_=>R) .no .normal (λi T H m=>@jh (λ_=>R) (.exit i T H m) (.normal T H m) (dd i id)) .goto .ret (j b n l T H m))=a
  cases r with
  |no=>cases c;exact absurd rfl k
  |normal _ _ _=>rw[h τ];cases c;rfl
  |exit i A z G=>
   rw[h τ];simp only at c ⊢;cases q:dd i id with
   |true=>rw[q]at c;cases c;rfl
   |false=>rw[q]at c;cases c;rfl
  |goto _ _ _ _=>rw[h τ];cases c;rfl
  |ret _ _ _=>rw[h τ];cases c;rfl
 |loop b=>cases f;exact absurd rfl k
 |rangeFunc M ps x y=>cases f;exact absurd rfl k
 |exit id=>cases f;rfl
 |scope b=>
  simp only at f;obtain⟨r,p,c⟩:=oG f;have h:r≠ .no->j b n l T H m=r:=hi _ _ _ _ _ _ r p;show(@R.rec (λ_=>R) .no .normal .exit (λ_ _ _ _=>.no) .ret (j b n l T H m))=a
  cases r with
  |no=>cases c;exact absurd rfl k
  |normal _ _ _=>rw[h τ];cases c;rfl
  |exit _ _ _ _=>rw[h τ];cases c;rfl
  |goto _ _ _ _=>cases c;exact absurd rfl k
  |ret _ _ _=>rw[h τ];cases c;rfl
 |goto F=>cases f;rfl
 |ret=>cases f;rfl
 |refuse w=>cases f;exact absurd rfl k
def rh{bB:bL}:∀c,Ji (sK P bB c) (sx P (qq P (bJ bB)) c)
 |0=>λ_ _ _ _ _ _ a h j=>by cases h;exact absurd rfl j
 |f+1=>aiq (rh f)
end
end
section
open Go.RowKit
variable[Ground]
noncomputable section
inductive gB where
 |blk (k:bn)
 |opt (e:ed) (t:aq) (xs:I t.den)
def gB.val:gB->da bn
 |.blk k=>O k
 |.opt e t xs=>a8 e t xs
structure bD where
 n:E
 sl:I (E×af)
 bF:I (E×gB)
 next:E
def Jj(n:E):au af:= @E.rec (λ_=>au af) .nil (λk T=>T.set k (O .bot)) n
def Jk(T:au af)(l:I (E×af)):au af:= @I.rec (E×af) (λ_=>au af) T (λp _ c=>c.set p.1 (O p.2)) l
def CL(T:au bn)(l:I (E×gB)):au bn:= @I.rec (E×gB) (λ_=>au bn) T (λp _ c=>c.set p.1 p.2.val) l
def bD.T(s:bD):au af:=Jk (Jj s.n) s.sl
def bD.H(s:bD):ai:=⟨CL .nil s.bF,s.next⟩
abbrev Ren:=I (E×E×da E)
def look:Ren->E->da (E×da E)
 |[],_=>bs
 |p::l,j=>oi (dd p.1 j) (O p.2) (look l j)
def jw(b:dF)(p:Prop):Prop:=match b with |true=>p|false=>lm
def qs(σ:Ren)(j i:E):dF:=oi (dK (j+1) 64) (dd i j) (match look σ j with |some (c,bs)=>dd i c|_=>ao)
def rz(t u:aq)(xs:I t.den)(ys:I u.den):Prop:=if h:t=u then h ▸ xs=ys else lm
def Jl(z c:dF)(n:E)(p:Prop):Prop:=match c,z with
 |true,ao=>p/\dK 1 n=D
 |_,_=>p
def Ah:Value->Value->Prop
 |.int k a,.int c b=>jw (bP (k=c)) (a=b)
 |.bool a,.bool b=>a=b
 |.string a,.string b=>a=b
 |a,b=>a=b
def Wg(h:da E)(c f:aY):Prop:=match h with
 |none=>c=f
 |some m=>c=.known m/\f=bO m
def CN(σ:Ren)(i n:E)(cap:aY)(j n':E)(c:aY):Prop:=match look σ j with
 |some (f,h)=>jw (dd i f) (n=n'/\Wg h cap c)
 |none=>lm
mutual
def yc(σ:Ren):af->af->Prop
 |_,.bot=>True
 |.raw (.slice bs 0 0),.bZ _ _ _ _ n _=>n=0
 |.raw (.slice bs 0 0),.bh _ _ ys=>ys=[]
 |.raw a,.raw b=>Ah a b
 |.ptr i c,.ptr j f=>jw (qs σ j i) (c=f)
 |.slice i c n h,.slice j f p k=>jw (qs σ j i) (c=f/\n=p/\h=k)
 |.slice i 0 n h,.bZ _ _ j 0 p k=>CN σ i n h j p k
 |.func F a b,.func G A C=>jw (bP (F=G)) (ur σ a A/\ur σ b C)
 |.map i,.map j=>jw (qs σ j i) True
 |.iface t v,.iface J K=>jw (dd t J) (yc σ v K)
 |.agg r,.agg z=>ur σ r z
 |.tuple r,.tuple z=>ur σ r z
 |.bh M t xs,.bh Q u ys=>Jl M Q ys.length (rz t u xs ys)
 |.e9 t xs l c,.e9 u ys m f=>rz t u xs ys/\l=m/\c=f
 |.bZ e t i l n h,.bZ q u j m p k=>jw (dd e q&&(bP (t=u)&&qs σ j i)) (l=m/\n=p/\h=k)
 |.en e t i l c,.en q u j m f=>jw (dd e q&&(bP (t=u)&&qs σ j i)) (l=m/\c=f)
 |_,_=>lm
def ur(σ:Ren):I af->I af->Prop
 |[],[]=>True
 |v::l,f::c=>yc σ v f/\ur σ l c
 |_,_=>lm
end
section
variable(P:fd)(Z:da E)(b:da bn)(e:ed)(t:aq)(xs:I t.den)
def uu:Prop:=match b,Z with
 |some (.own c u ys),bs=>jw (dd e c) (rz u t ys xs)
 |some (.cells c f exact ao ao),Z=>jw (dd e c&&(dd (P.cellsOf e) t.size&&dK 1 t.size)) (f=t.flat xs/\match exact,Z with
  |true,O m=>m=xs.length
  |false,bs=>True
  |_,_=>lm)
 |_,_=>lm
def CO:Prop:=match b with
 |none=>(match Z with |none=>xs=[]|some _=>lm)
 |some k=>uu P Z (O k) e t xs
end
def air(P:fd)(e:ed)(t:aq)(xs:I t.den):CO P bs (a8 e t xs) e t xs:=by
 cases xs with
 |nil=>exact rfl
 |cons x l=>simp[a8,CO,uu,jw,rz]
def CP(P:fd)(σ:Ren)(H:ai)(p:E×gB):Prop:=match look σ p.1 with
 |none=>(match p.2 with |.opt _ _ xs=>xs=[]|.blk _=>lm)
 |some (i,c)=>match p.2 with
  |.opt e t xs=>CO P c (H.get i) e t xs
  |.blk (.own e t xs)=>uu P c (H.get i) e t xs
  |.blk (.cells e f x k r)=>(match H.get i,c with
    |some (.cells j h q l m),bs=>jw (dd e j&&(x==q&&(k==l&&r==m))) (ur σ h f)
    |_,_=>lm)
  |.blk _=>lm
def pw(σ:Ren)(T:au af)(K:Prop):I (E×af)->Prop
 |[]=>K
 |p::l=>yc σ ((T.get p.1).getD (.raw lk)) p.2/\pw σ T K l
def px(P:fd)(σ:Ren)(H:ai)(K:Prop):I (E×gB)->Prop
 |[]=>K
 |p::l=>CP P σ H p/\px P σ H K l
def yd(σ:Ren)(next:E):dF:=match σ with
 |[]=>D
 |p::l=>dK 64 p.1&&(dK (p.1+1) next&&(l.all (λq=> !Nat.beq q.2.1 p.2.1)&&yd l next))
def Wh(next:E)(l:I (E×gB)):dF:=l.all λp=>dK 64 p.1&&dK (p.1+1) next
def Wi(n:E)(l:I (E×af)):dF:=l.all λp=>dK (p.1+1) n
def fit(P:fd)(σ:Ren)(n:E)(T:au af)(H:ai)(s:bD):Prop:=
 jw (dd s.n n&&(yd σ s.next&&(Wh s.next s.bF&&(Wi n s.sl&&dK 64 s.next)))) (pw σ T (px P σ H True s.bF) s.sl)
def kA{b:dF}{p:Prop}(h:jw b p):b=D/\p:=by cases b<;>first |exact h.elim|exact⟨rfl,h⟩
def Wj{z c:dF}{n:E}{p:Prop}(h:Jl z c n p):p/\(c=D->z=D\/n≠0):=by
 cases c with
 |false=>exact⟨h,λe=>by cases e⟩
 |true=>
  cases z with
  |true=>exact⟨h,λ_=>.inl rfl⟩
  |false=>exact⟨h.1,λ_=>.inr (by have:=b5 h.2;omega)⟩
def rx{t u:aq}{xs:I t.den}{ys:I u.den}(h:rz t u xs ys):∃e:t=u,e ▸ xs=ys:=by
 unfold rz at h;split at h
 .exact⟨_,h⟩
 .exact h.elim
def Wk{a b:Value}(h:Ah a b):a=b:=by
 unfold Ah at h;split at h
 .obtain⟨c,rfl⟩:=kA h;rw[cC c]
 .rw[h]
 .rw[h]
 .exact h
def ren(σ:Ren)(ρ:Env):Env:=⟨λj=>if j<64 then ρ j else match look σ j with
 |some (i,f)=>(match ρ i with |some (b,c)=>O (b,f.getD c)|none=>bs)
 |none=>bs,ρ.fz⟩
section
variable{P:fd}{B:E}{ρ:Env}{H:ai}{w:du}{σ:Ren}
def Ai{i j b c:E}(h:qs σ j i=D)(k:ρ i=O (b,c)):ren σ ρ j=O (b,c):=by
 show(if j<64 then ρ j else _)=_;unfold qs at h;cases f:dK (j+1) 64 with
 |true=>
  rw[f]at h;have h:=ac h;subst h;have p:i<64:=b5 f;rw[dA p];exact k
 |false=>
  rw[f]at h;have q:¬j<64:=λl=>by rw[aw (show j+1<=64 from l)]at f;cases f
  rw[db q];simp only[sd]at h;split at h
  .rename_i r m;have h:=ac h;subst h;rw[m];simp only[k];rfl
  .cases h
def Den.ais{e:ed}{t:aq}{i j n n':E}{cap k:aY}{x:Value}(h:CN σ i n cap j n' k)(u:Den ρ (.slice i 0 n cap) x)(J:64<=j):Den (ren σ ρ) (.bZ e t j 0 n' k) x:=by
 unfold CN at h;split at h
 .rename_i F m z;obtain⟨c,rfl,f⟩:=kA h;have c:=ac c;subst c;obtain⟨b,p,G,q,l,r,rfl⟩:=u.jv;have A:ren σ ρ j=O (b,m.getD p):=by
   show(if j<64 then ρ j else _)=_;rw[db ω,z];simp only[q]
  refine Ny A ?_ r;unfold Wg at f;cases m with
  |none=>subst f;exact l
  |some C=>obtain⟨rfl,rfl⟩:=f;cases C<;>exact l
 .exact h.elim
def aE.split{ρ:Env}:∀{a b:I af}{ys:I Value},aE ρ (a++b) ys->∃c f,ys=c++f/\aE ρ a c/\aE ρ b f
 |[],b,ys,h=>⟨[],ys,rfl,.nil,h⟩
 |v::a,b,_,.cons j k=>by
  obtain⟨c,f,rfl,l,m⟩:=aE.split k;exact⟨_::c,f,rfl,.cons j l,m⟩
def pz{ρ ρ':Env}{t:aq}(c:∀(d:t.den) ys,aE ρ (t.cells d) ys->aE ρ' (t.cells d) ys):∀(xs:I t.den) ys,aE ρ (t.flat xs) ys->aE ρ' (t.flat xs) ys
 |[],ys,h=>by cases h;exact .nil
 |d::xs,ys,h=>by
  rw[aq.Cg]at h ⊢;obtain⟨k,l,rfl,f,j⟩:=aE.split h;exact(c d k f).append (pz c xs l j)
def oH{ρ ρ':Env}(j:∀b A,ρ.fz b=O A->ρ'.fz b=O A):∀(t:aq)(d:t.den) ys,aE ρ (t.cells d) ys->aE ρ' (t.cells d) ys
 |.int _,d,ys,h=>by cases h with |cons c f=>cases f;rw[c.cu];exact .cons (.raw _) .nil
 |.bool,d,ys,h=>by cases h with |cons c f=>cases f;rw[c.cu];exact .cons (.raw _) .nil
 |.str,d,ys,h=>by cases h with |cons c f=>cases f;rw[c.cu];exact .cons (.raw _) .nil
 |.list G t,d,ys,h=>by
   cases h with
   |cons c f=>
    cases f;refine .cons ?_ .nil;rcases Den.wj (t:=t) (xs:=d) c with⟨e,a,u,rfl,r⟩|⟨b,F,u,A,k,l,m,p,rfl,q⟩
    .have e:d=([]:I t.den):=e;subst e;exact .ff r
    .exact .bh (j _ _ k) l rfl (pz (λd ys=>oH j t d ys) _ _ m) p q
 |.pair a b,d,ys,h=>by
   obtain⟨z,C,rfl,c,f⟩:=aE.split (a:=a.cells d.1) (b:=b.cells d.2) h;exact(oH j a d.1 z c).append (oH j b d.2 C f)
 |.ptr t,d,ys,h=>by
   cases h with
   |cons c f=>
    cases f;refine .cons ?_ .nil;obtain⟨b,o,A,k,l,m,p,rfl⟩:=Den.Ch (t:=t) (xs:=[d]) c;exact .e9 (j _ _ k) l rfl (pz (λd ys=>oH j t d ys) _ _ m) p
 |.unit,d,ys,h=>by cases h;exact .nil
def aE.Jm{t:aq}{xs:I t.den}{ys:I Value}(h:aE ρ (t.flat xs) ys):aE (ren σ ρ) (t.flat xs) ys:=pz (ρ:=ρ) (ρ':=ren σ ρ) (λd ys=>oH (ρ:=ρ) (ρ':=ren σ ρ) (λ_ _ h=>h) t d ys) xs ys h
mutual
def Ou(m:∀u p,look σ u=O p->64<=u):∀{v v':af}{x:Value},yc σ v v'->Den ρ v x->Den (ren σ ρ) v' x:=by
 intro v v' x h j;unfold yc at h;split at h
 .exact .bot x
 .subst h;rw[j.cu];exact .sy
 .subst h;rw[j.cu];exact .ff λ_=>⟨rfl,rfl⟩
 .rw[j.cu,Wk h];exact .raw _
 .obtain⟨c,rfl⟩:=kA h;obtain⟨b,p,f,rfl⟩:=j.mK;exact .ptr (Ai c f)
 .obtain⟨c,rfl,rfl,rfl⟩:=kA h;obtain⟨b,p,z,f,k,l,rfl⟩:=j.jv;exact .slice (Ai c f) k l
 .rename_i i n p e t u n' M;refine Den.ais h j ?_;unfold CN at h;split at h
  .rename_i W;exact m _ _ W
  .exact h.elim
 .obtain⟨c,q,r⟩:=kA h;have c:=cC c;subst c;obtain⟨xs,ys,f,k,rfl⟩:=j.Ff;exact .func (CQ m q f) (CQ m r k)
 .obtain⟨c,_⟩:=kA h;obtain⟨b,p,f,rfl⟩:=j.xW;exact .map (Ai c f)
 .obtain⟨c,q⟩:=kA h;rw[<-ac c];obtain⟨y,f,rfl⟩:=j.Uu;exact .iface (Ou m q f)
 .obtain⟨xs,f,rfl⟩:=j.uf;exact .agg (CQ m h f)
 .obtain⟨xs,f,rfl⟩:=j.Fg;exact .tuple (CQ m h f)
 .rename_i m t xs A F ys;obtain⟨q,c⟩:=Wj h;obtain⟨e,rfl⟩:=rx q;subst e;rcases j.wj with⟨rfl,a,z,rfl,m⟩|⟨b,J,z,K,f,k,l,A,rfl,U⟩
  .exact .ff λe=>(c e).elim m λC=>absurd rfl C
  .refine .bh f k rfl ?_ A λe=>(c e).elim U λC Y=>C (by subst Y;rfl)
   exact aE.Jm l
 .rename_i t xs z J F ys G m;obtain⟨c,rfl,rfl⟩:=h;obtain⟨e,rfl⟩:=rx c;subst e;obtain⟨b,o,K,f,k,l,A,rfl⟩:=j.Ch;exact .e9 f k rfl (aE.Jm l) A
 .rename_i e t i z n p Q F u G n' M;obtain⟨c,rfl,rfl,rfl⟩:=kA h;simp only[ae,aN]at c;obtain⟨c,rfl,r⟩:=c;rcases j.kW with⟨rfl,a,rfl⟩|⟨b,q,A,f,k,l,rfl⟩
  .exact .sy
  .exact .bZ (Ai r f) k l
 .rename_i e t i z J Q F u G m;obtain⟨c,rfl,rfl⟩:=kA h;simp only[ae,aN]at c;obtain⟨c,rfl,r⟩:=c;obtain⟨b,p,f,rfl⟩:=j.zN;exact .en (Ai r f)
 .exact h.elim
def CQ(f:∀j p,look σ j=O p->64<=j):∀{v v':I af}{x:I Value},ur σ v v'->aE ρ v x->aE (ren σ ρ) v' x:=by
 intro v v' x h c;unfold ur at h;split at h
 .cases c;exact .nil
 .cases c with
  |cons k l=>exact .cons (Ou f h.1 k) (CQ f h.2 l)
 .exact h.elim
end
def Wl{T:au af}:∀(l:I (E×af))(t:E),(Jk T l).get t=match l.find? (λp=>dd p.1 t)with |some p=>O p.2|none=>T.get t
 |[],t=>rfl
 |p::l,t=>by
  show((Jk T l).set p.1 (O p.2)).get t=_;rw[au.gS,I.find?_cons];by_cases h:p.1=t
  .subst h;simp
  .rw[db h,wm h];exact Wl l t
def Ov{T:au bn}:∀(l:I (E×gB))(t:E),(CL T l).get t=match l.find? (λp=>dd p.1 t)with |some p=>p.2.val|none=>T.get t
 |[],t=>rfl
 |p::l,t=>by
  show((CL T l).set p.1 p.2.val).get t=_;rw[au.gS,I.find?_cons];by_cases h:p.1=t
  .subst h;simp
  .rw[db h,wm h];exact Ov l t
def Wm:∀(n t:E),(Jj n).get t=if t<n then O .bot else bs
 |0,t=>au.get_nil t
 |n+1,t=>by
  show((Jj n).set n (O .bot)).get t=_;rw[au.gS,Wm n t];by_cases h:n=t
  .subst h;simp
  .rw[db h];by_cases c:t<n
   .rw[dA c,dA ω]
   .rw[db c,db ω]
def Ow{T:au af}{K:Prop}:∀{l:I (E×af)},pw σ T K l->K/\∀p∈l,yc σ ((T.get p.1).getD (.raw lk)) p.2
 |[],h=>⟨h,λ_ h=>by cases h⟩
 |p::l,h=>by
  obtain⟨f,j⟩:=Ow h.2;refine⟨f,λq c=>?_⟩;rcases cQ.1 c with rfl |c
  .exact h.1
  .exact j q c
def Ox{K:Prop}:∀{l:I (E×gB)},px P σ H K l->K/\∀p∈l,CP P σ H p
 |[],h=>⟨h,λ_ h=>by cases h⟩
 |p::l,h=>by
  obtain⟨f,j⟩:=Ox h.2;refine⟨f,λq c=>?_⟩;rcases cQ.1 c with rfl |c
  .exact h.1
  .exact j q c
def FG{next:E}:∀{σ:Ren},yd σ next=D->∀{j i:E}{m:da E},look σ j=O (i,m)->64<=j/\j<next
 |[],_,j,i,m,h=>by cases h
 |p::r,f,j,i,m,h=>by
  simp only[yd,ae]at f;obtain⟨k,l,_,q⟩:=f;unfold look at h;cases c:dd p.1 j with
  |true=>
   have:=ac c;subst this;exact⟨b5 k,b5 l⟩
  |false=>rw[c]at h;exact FG q h
def Wn:∀{σ:Ren}{j i:E}{m:da E},look σ j=O (i,m)->(j,i,m)∈σ
 |[],j,i,m,h=>by cases h
 |p::l,j,i,m,h=>by
  unfold look at h;cases c:dd p.1 j with
  |true=>
   rw[c]at h;have:=ac c;subst this;have e:=kT h;rw[<-e];exact gb
  |false=>rw[c]at h;exact gQ _ (Wn h)
def yr{next:E}:∀{σ:Ren},yd σ next=D->∀{j f i:E}{m k:da E},look σ j=O (i,m)->look σ f=O (i,k)->j=f
 |[],_,j,f,i,m,k,h,_=>by cases h
 |p::F,r,j,f,i,m,k,h,c=>by
  simp only[yd,ae]at r;obtain⟨_,_,z,A⟩:=r;have u:∀{x:E}{G:da E},look F x=O (i,G)->p.2.1≠i:=λC e=>by
   have:=ky.1 z _ (Wn C);rw[e]at this;simp at this
  unfold look at h c;cases l:dd p.1 j<;>cases q:dd p.1 f<;>rw[l]at h<;>rw[q]at c<;>simp only[ka,sd]at h c
  .exact yr A h c
  .exact absurd (congrArg ql (kT c)) (u h)
  .exact absurd (congrArg ql (kT h)) (u c)
  .rw[<-ac l,<-ac q]
def Oy{j i b c:E}{f:da E}(h:look σ j=O (i,f))(l:64<=j)(k:ρ i=O (b,c)):ren σ ρ j=O (b,f.getD c):=by
 show(if j<64 then ρ j else _)=_;rw[db ω,h];simp only[k]
def ait{e:ed}{t:aq}{xs:I t.den}{k:bn}(h:a8 e t xs=O k):k=.own e t xs:=by
 cases xs with
 |nil=>cases h
 |cons x l=>cases h;rfl
def Wo{Y:da E}{e:ed}{t:aq}{xs:I t.den}{i j:E}(h:uu P Y (H.get i) e t xs)(a':bl P B ρ H w)(a1:look σ j=O (i,Y))(k3:64<=j):
  ∃Q b f o,H.get i=O Q/\ρ i=O (b,f)/\w.heap[b]? =O o/\ren σ ρ j=O (b,Y.getD f)/\iZ P (ren σ ρ) j (.own e t xs) o/\Q.fq=ao/\(Q.fq=ao->B<=b):=by
 unfold uu at h;split at h
 .rename_i r u ys p;obtain⟨c,m⟩:=kA h;have c:=ac c;obtain⟨k,m⟩:=rx m;subst c;subst k;subst m;obtain⟨b,f,o,k,C,⟨⟨Y,A,U,W,z,G,Q⟩,u,q⟩,F⟩:=a'.blk i _ p;have l:=Oy a1 k3 k;refine⟨_,b,f,o,p,k,C,l,⟨⟨Y,A,U,W,aE.Jm z,G,λM=>?_⟩,u,q⟩,rfl,F⟩;obtain⟨b',c',q,u⟩:=Q M;rw[k]at q;cases q;exact⟨b,f,l,u⟩
 .rename_i r K J a2 p;obtain⟨c,m,J⟩:=kA h;simp only[ae]at c;obtain⟨c,r,K⟩:=c;have c:=ac c;have r:=ac r;have K:=b5 K;subst c;subst m;obtain⟨b,f,o,k,C,⟨Y,A,U,W,z,G,Q⟩,F⟩:=a'.blk i _ p;have l:=Oy a1 k3 k;refine⟨_,b,f,o,p,k,C,l,⟨⟨Y,A,U,W,aE.Jm z,(λM=>by cases M),λ_=>?_⟩,r,K⟩,rfl,F⟩;split at J
  .subst J;exact⟨b,_,l,by rw[G rfl,t.jF,r];rfl⟩
  .obtain⟨b',c',q,u⟩:=Q rfl;rw[k]at q;cases q;exact⟨b,f,l,u⟩
  .exact J.elim
 .exact h.elim
def Wp(Q:bl P B ρ H w){s:bD}(U:yd σ s.next=D)(he:∀p∈s.bF,CP P σ H p){j:E}{G:bn}(f:s.H.get j=O G):
  ∃i C q b h o,look σ j=O (i,C)/\64<=j/\j<s.next/\H.get i=O q/\ρ i=O (b,h)/\w.heap[b]? =O o/\ren σ ρ j=O (b,C.getD h)/\iZ P (ren σ ρ) j G o/\G.fq=q.fq/\(q.fq=ao->B<=b):=by
 have f:(CL .nil s.bF).get j=O G:=f;rw[Ov]at f;split at f
 .rename_i p c;have l:=Ï c;have k:p.1=j:=ac (I.find?_some (p:=fun(r:E×gB)=>dd r.1 j) c);have c:=he p l;unfold CP at c;rw[k]at c;split at c
  .split at c
   .rename_i e t xs l;rw[l,c]at f;cases f
   .exact c.elim
  .rename_i i C k;obtain⟨u,W⟩:=FG U k;refine⟨i,C,?_⟩;split at c
   .rename_i e t xs l;rw[l]at f;have c:uu P C (H.get i) e t xs:=by
     unfold CO at c;split at c
     .split at c
      .subst c;cases f
      .exact c.elim
     .rename_i F;rw[F];exact c
    obtain rfl:=ait f;obtain⟨q,b,h,o,z,A,J,K,Y,r,C⟩:=Wo c Q k u;exact⟨q,b,h,o,k,u,W,z,A,J,K,Y,r.symm,C⟩
   .rename_i e t xs l;rw[l]at f;cases f;obtain⟨q,b,h,o,z,A,J,K,Y,r,C⟩:=Wo c Q k u;exact⟨q,b,h,o,k,u,W,z,A,J,K,Y,r.symm,C⟩
   .rename_i e G x q r l;rw[l]at f;cases f;split at c
    .rename_i l J C q r F;obtain⟨r,h2⟩:=kA c;simp only[ae,gw]at r;obtain⟨r,l,q,C⟩:=r;have r:=ac r;subst r;subst l;subst q;subst C;obtain⟨b,h,o,M,Y,⟨a2,K,k1,k2,l,a',a1⟩,g4⟩:=Q.blk i _ F;have C:=Oy k u M;have q:=CQ (λj p r=>(FG U (j:=j) (i:=p.1) (m:=p.2) r).1) h2 l;have r:J.length=G.length:=by
      have G:=l.length;have l:=q.length;omega
     refine⟨_,b,h,o,k,u,W,F,M,Y,C,⟨a2,K,k1,k2,by rw[<-r];exact q,λU=>by rw[a' U,r],λU=>?_⟩,rfl,g4⟩;obtain⟨k,l,z,A⟩:=a1 U;rw[M]at z;cases z;exact⟨b,h,C,A⟩
    .exact c.elim
   .exact c.elim
 .rw[au.get_nil]at f;cases f
def aiv{n:E}{T:au af}{a:Zq}{s:bD}(c:fS P B ρ n T H a w)(h:fit P σ n T H s):fS P B (ren σ ρ) n s.T s.H a w/\∀i,s.next<=i->ren σ ρ i=bs:=by
 obtain⟨k,l⟩:=kA h;simp only[ae]at k;obtain⟨k,A,q,r,f⟩:=k;have k:=ac k;have f:=b5 f;obtain⟨f,z⟩:=Ow l;obtain⟨_,q⟩:=Ox f;have l:=λ{j:E}{C:bn}(f:s.H.get j=O C)=>Wp c.H A q f
 refine⟨⟨⟨c.T.size,λt=>?_⟩,⟨λj C f=>?_,λu F G J b q r a3 a9 r1 r2=>?_,λj C f=>?_,c.H.base,λb W a'=>⟨(c.H.fz b W a').1,λj C u f a1=>?_⟩⟩,⟨λg C=>?_,c.G.Cq⟩⟩,λi q=>?_⟩
 .have e:s.T=Jk (Jj s.n) s.sl:=rfl;rw[e,Wl];split
  .rename_i p q;have F:=Ï q;have r:p.1=t:=ac (I.find?_some (p:=fun(G:E×af)=>dd G.1 t) q);have:=c.T.get p.1;rw[r]at this;have q:=z p F;rw[r]at q;exact Ou (λj G r=>(FG A (j:=j) (i:=G.1) (m:=G.2) r).1) q this
  .rw[Wm,k];by_cases k:t<n
   .rw[dA k];exact .bot _
   .rw[db k];have:a.tmps.getD t lk=lk:=by
     rw[mL,QN (by rw[c.T.size];omega)];rfl
    rw[this];exact .raw _
 .obtain⟨i,G,Q,b,u,o,J,M,r,z,F,U,q,k,K,Y⟩:=l f;exact⟨b,_,o,q,U,k,λe=>Y (K ▸ e)⟩
 .obtain⟨i1,m1,a4,b1,d1,o1,p1,p2,p3,a6,l5,b3,a2,_⟩:=l a3;obtain⟨i2,m2,a5,b2,d2,o2,J,M,r,z,F,U,q,_⟩:=l a9;rw[a2]at r1;cases r1;rw[q]at r2;cases r2;have:=c.H.inj i1 i2 a4 a5 b d1 d2 a6 z l5 F;subst this;exact yr A p1 J
 .obtain⟨i,G,Q,b,u,o,J,M,r,_⟩:=l f;exact r
 .obtain⟨i,G,Q,b',c',o,J,M,r,z,F,U,q,k,K,Y⟩:=l f;rw[q]at a1;cases a1;rw[K];exact(c.H.fz b W a').2 i Q c' z F
 .obtain⟨u,f⟩:=c.G.at' g C;refine⟨u,?_⟩;show(if g<64 then ρ g else _)=_;rw[dA C];exact f
 .show(if i<64 then ρ i else _)=_;rw[db ω];cases c:look σ i with
  |none=>rfl
  |some p=>exact absurd (FG A (j:=i) (i:=p.1) (m:=p.2) c).2 ω
def Wq{n:E}{T:au af}{a:Zq}{s:bD}(k:fS P B ρ n T H a w)(h:fit P σ n T H s){b:E}(u:Own (ren σ ρ) s.H b):Own ρ H b:=by
 obtain⟨c,m⟩:=kA h;simp only[ae]at c;obtain⟨_,p,_⟩:=c;obtain⟨q,_⟩:=Ow m;obtain⟨_,r⟩:=Ox q;obtain⟨Y,c,W,z,A,f⟩:=u;obtain⟨i,c,C,Q,d,o,m,M,U,l,F,q,G,K,j,J⟩:=Wp k.H p r z;rw[G]at f;cases f;exact⟨i,C,_,l,by rw[<-A,j],F⟩
