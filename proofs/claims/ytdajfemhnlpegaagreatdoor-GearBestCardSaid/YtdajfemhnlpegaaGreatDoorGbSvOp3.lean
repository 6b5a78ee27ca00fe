import Derived.OrdersIn
import Derived.Below
import Derived.Scope
import Derived.IntWalk
import Derived.ChangeKeysEq
import Derived.Laws.Slices
open Array renaming map_congr_left->sW,ext'->Gt
open Bool renaming false->ao,rec->jh,true->D,true_and->py,eq_false_iff->wz,not_eq_true'->Gp,or_eq_true->qh
open Go renaming IntKind->be,TypeId->ed,Code->mN,MapEntry->rb,Program->fd,Sem->PL,FuncId->ya,Operand->gn,undef->lk,Oper->ls,execOp->gy,goInt->È,Func->Ö,callFunc->Ki,BinOp->I1,Builtin->na,Addr->wu,World->du,heap_alloc_new->Sd,Result->yE,underlying->Zi,resolve->WK,asIntOf->õ,part->ü,eqGuard->Q1,binOp->Gx,run_equalIn_int->Ý,run_part_plain->yN
open Go.Call renaming operands->uX
open Go.Instr renaming checkKey->Z',findKey->Í,sureAddr->xx,indexAt->Tv,sliceBound->Zm,sliceBounds->G3,sliceAt->Fz,slice->NI
open Go.IntWalk renaming i64_in->Y'
open Go.Op renaming intArith->ô,intCmp->P',operands->gs,equalIn->sM,equal->Gu
open Go.Result renaming andThen_ok->kL
open Go.RowKit.Below renaming heap_alloc->I'
open Go.Sem renaming run->Ü,run_bind->nC,run_pure->oP
open List renaming replicate->ie,cons_ne_nil->ZZ,length_cons->la,getElem?_eq_none->JU,drop_append->Sj,drop_eq_nil_of_le->pB,nil_append->ts,take_append->Sn,mem_map_of_mem->sL,all_eq_true->ky,take_append_drop->pa,take_take->KE,drop_drop->PM
open Nat renaming sub->Hq,div->Tt,beq->dd,succ->nX,ble->dK,add->Sc,min->L',lt_of_lt_of_le->iy,le_succ->QZ,lt_irrefl->YZ,le_of_eq->uV,min_eq_left->ns,le_of_lt->kt,beq_refl->zX,add_mul->Gz,sub_self->Ru,mul_le_mul_right->Hr,zero_mul->CB
open Option renaming none->bs,some->O,rec->oN,isSome_iff_exists->DF,map_none->Ef,map_some->ta
open _root_ renaming ByteArray->ft,Nat->E,Bool->dF,Array->fh,Option->da,List->I,Int->N,cond->oi,decide->bP,UInt8->hN,if_false->á,if_pos->dA,if_neg->db,False->lm,cond_true->ka,not_true_eq_false->Gy,beq_self_eq_true->Kr,cond_false->sd
set_option linter.defProp false
set_option linter.unusedSimpArgs false
namespace Go.Proofs.YtdajfemhnlpegaaGreatDoor
abbrev AT:=ft
theorem τ{p:Prop}(h:p:=by simp):p:=h
theorem δ{p:Prop}(h:p:=by decide):p:=h
theorem ω{p:Prop}(h:p:=by omega):p:=h
def ay:=@decide_eq_true
def ab:=@decide_eq_false
def ac:=@E.eq_of_beq_eq_true
def ae:=@dF.and_eq_true
def b5:=@E.le_of_ble_eq_true
def aN:=@decide_eq_true_eq
def cy:=@fh.getElem?_eq_some_iff
def fB:=@beq_eq_false_iff_ne
def gw:=@beq_iff_eq
def ep:=@da.bind_eq_some_iff
def am:=@da.map_eq_some_iff
def ap:=@I.getD_eq_getElem?_getD
def cC:=@of_decide_eq_true
def ar:=@N.mul_le_mul_of_nonneg_left
def iK:=@N.mul_le_mul_of_nonneg_right
def aw:=@E.ble_eq_true_of_le
def eG:=@I.take_of_length_le
def bC:=@E.zero_add
def aC:=@E.le_refl
def cm:=@I.length_set
def iL:=@I.not_mem_nil
def fZ:=@N.emod_lt_of_pos
def fC:=@N.emod_nonneg
def fQ:=@I.length_append
def dx:=@I.take_length
def er:=@I.length_take
def cQ:=@I.mem_cons
def cD:=@E.le_trans
def cI:=@N.le_of_lt
def cS:=@bne_eq_false_iff_eq
def eX:=@bne_iff_ne
def gQ:=@I.mem_cons_of_mem
def gb:=@I.mem_cons_self
def iw:=@I.getElem?_eq_getElem
def mG:=@I.length_map
def p7:=@I.length_drop
def kT:=@da.some.inj
def vV:=@da.some.injEq
def gR:=@E.lt_succ_self
def ot:=@I.append_assoc
end Go.Proofs.YtdajfemhnlpegaaGreatDoor
namespace Go.Proofs.YtdajfemhnlpegaaGreatDoor.Sv
noncomputable section
inductive aY where
 |known (n:E)
 |full
 |any
inductive aq where
 |int (k:be)
 |bool
 |str
 |list (z:dF) (t:aq)
 |pair (a b:aq)
 |ptr (t:aq)
 |unit
 deriving DecidableEq
@[reducible] def aq.den:aq->Type
  |.int _=>N
  |.bool=>dF
  |.str=>AT
  |.list _ t=>I t.den
  |.pair a b=>a.den×b.den
  |.ptr t=>t.den
  |.unit=>Unit
def aq.size:aq->E
 |.int _=>1
 |.bool=>1
 |.str=>1
 |.list _ _=>1
 |.pair a b=>a.size+b.size
 |.ptr _=>1
 |.unit=>0
def aq.dflt:(t:aq)->t.den
 |.int _=>(0:N)
 |.bool=>ao
 |.str=>ft.empty
 |.list _ _=>[]
 |.pair a b=>(a.dflt,b.dflt)
 |.ptr t=>t.dflt
 |.unit=>()
inductive af where
 |raw (v:Value)
 |ptr (i off:E)
 |slice (i off len:E) (cap:aY)
 |func (fn:Fn) (first captured:I af)
 |yield (i:E)
 |map (i:E)
 |iface (t:ed) (v:af)
 |agg (cs:I af)
 |tuple (vs:I af)
 |bh (z:dF) (t:aq) (xs:I t.den)
 |e9 (t:aq) (xs:I t.den) (k off:E)
 |bZ (e:ed) (t:aq) (i k len:E) (cap:aY)
 |en (e:ed) (t:aq) (i k off:E)
 |bot
def aq.cells:(t:aq)->t.den->I af
 |.int k,x=>[.raw (.int k x)]
 |.bool,x=>[.raw (.bool x)]
 |.str,x=>[.raw (.string x)]
 |.list z t,x=>[.bh z t x]
 |.pair a b,x=>a.cells x.1++b.cells x.2
 |.ptr t,x=>[.e9 t [x] 0 0]
 |.unit,_=>[]
def aq.flat(t:aq)(xs:I t.den):I af:=xs.flatMap t.cells
inductive au(α:Type) where
 |nil
 |node (l:au α) (v:da α) (r:au α)
def zv(f:E):E->I dF:=
 @E.rec (λ_=>E->I dF) (λ_=>[]) (λ_ c i=>@jh (λ_=>I dF) (@jh (λ_=>I dF) (ao::c (Hq (Tt i 2) 1)) (D::c (Tt i 2)) (dd (E.mod i 2) 1)) [] (dd i 0)) f
def bits(i:E):I dF:=zv (nX i) i
def au.qX{α:Type}(p:I dF):au α->da α:=
 @I.rec dF (λ_=>au α->da α) (λt=>@au.rec α (λ_=>da α) bs (λ_ v _ _ _=>v) t)
   (λb _ c t=>@au.rec α (λ_=>da α) bs (λl _ r _ _=>@jh (λ_=>da α) (c r) (c l) b) t) p
def au.zw{α:Type}(x:da α)(p:I dF):au α->au α:=
 @I.rec dF (λ_=>au α->au α) (λt=>@au.rec α (λ_=>au α) (.node .nil x .nil) (λl _ r _ _=>.node l x r) t)
   (λb _ c t=>@au.rec α (λ_=>au α) (@jh (λ_=>au α) (.node .nil bs (c .nil)) (.node (c .nil) bs .nil) b) (λl v r _ _=>@jh (λ_=>au α) (.node l v (c r)) (.node (c l) v r) b) t) p
def au.get{α:Type}(t:au α)(i:E):da α:=au.qX (bits i) t
def au.set{α:Type}(t:au α)(i:E)(x:da α):au α:=au.zw x (bits i) t
def nth{α:Type}(l:I α):E->da α:=
 @I.rec α (λ_=>E->da α) (λ_=>bs) (λa _ c i=>@jh (λ_=>da α) (c (Hq i 1)) (O a) (dd i 0)) l
structure E0 where
 tmps:au af
 size:E
 params:fh Tmp
 assign:mN
 body:mN
 state:LoopState
 pending:da mN
inductive bn where
 |cells (elem:ed) (cs:I af) (exact cV ro:dF)
 |map (es:fh rb) (clock:E)
 |loop (r:E0)
 |deferred
 |own (elem:ed) (t:aq) (xs:I t.den)
 |one (key:Value) (v:af)
 |iter (i:E) (clock:E) (done:dF)
structure ai where
 m:au bn
 next:E
def ai.get(H:ai)(i:E):da bn:=H.m.get i
def ai.set(H:ai)(i:E)(b:bn):ai:= @ai.rec (λ_=>ai) (λm n=>⟨m.set i (O b),n⟩) H
def ai.drop(H:ai)(i:E):ai:= @ai.rec (λ_=>ai) (λm n=>⟨m.set i bs,n⟩) H
def ai.skip(H:ai):ai:= @ai.rec (λ_=>ai) (λm n=>⟨m,nX n⟩) H
def ai.new(H:ai)(b:bn):ai:= @ai.rec (λ_=>ai) (λm n=>⟨m.set n (O b),nX n⟩) H
def dZ(P:fd){α:Type}:PL α->da α
 |.pure a=>O a
 |.program k=>dZ P (k P)
 |.mark _ k=>dZ P k
 |_=>bs
mutual
def af.ju:af->da Value
 |.raw v=>O v
 |.iface t v=>(v.ju).map (Value.iface t)
 |.agg cs=>(af.mH cs).map λl=>Value.agg l.toArray
 |.tuple cs=>(af.mH cs).map λl=>Value.tuple l.toArray
 |.func c d cs=>(af.mH d).bind λl=>(af.mH cs).map λk=>Value.func c l.toArray k.toArray
 |_=>bs
def af.mH:I af->da (I Value)
 |[]=>O []
 |v::c=>(v.ju).bind λx=>(af.mH c).map λl=>x::l
end
def af.gh:af->da Value
 |.raw v=>O v
 |v=>v.ju
def jE(a:fh Value):I af:=a.toList.map .raw
def af.cells:af->I af
 |.agg cs=>cs
 |.raw (.agg cs)=>jE cs
 |v=>[v]
def af.xP(v:af):dF:= @af.casesOn (λ_=>dF) v (λ_=>ao) (λ_ _=>ao) (λ_ _ _ _=>ao) (λ_ _ _=>ao) (λ_=>ao) (λ_=>ao) (λ_ _=>ao) (λ_=>ao) (λ_=>ao) (λ_ _ _=>ao) (λ_ _ _ _=>ao) (λ_ _ _ _ _ _=>ao) (λ_ _ _ _ _=>ao) D
def af.one:af->dF
 |.raw (.agg _)|.raw (.tuple _)|.agg _|.tuple _|.yield _|.bot=>ao
 |_=>D
inductive aM where
 |no
 |ok (v:af) (H:ai)
 |enter (f:ya) (args:I af) (H:ai)
 |round (i:E) (args:I af) (H:ai)
def ah(H:ai)(x:da af):aM:= @oN af (λ_=>aM) .no (λv=>.ok v H) x
def fc(x:da (af×ai)):aM:=match x with |none=>.no|some (v,H)=>.ok v H
abbrev eB:=gn->af
def tS(k s:E)(x:af)(H:ai):aM:=match x with
 |.bh _ t xs=>oi (dd t.size s&&dK (k+1) xs.length) (.ok (.e9 t xs k 0) H) .no
 |.bZ e t i c d _=>oi (dd t.size s&&dK (k+1) d) (.ok (.en e t i (c+k) 0) H) .no
 |_=>.no
def xQ(k n s:E)(x:af)(H:ai):aM:=match x with
 |.e9 t xs c off=>oi (dK (k+1) n) (.ok (.e9 t xs c (off+k*s)) H) .no
 |.en e t i c off=>oi (dK (k+1) n) (.ok (.en e t i c (off+k*s)) H) .no
 |_=>.no
def lw(c n:E)(x:af)(H:ai):aM:=match x with
 |.e9 t xs k off=>@jh (λ_=>aM) .no (.ok (.e9 t xs k (off+c)) H) (dK 1 n)
 |.en e t i k off=>@jh (λ_=>aM) .no (.ok (.en e t i k (off+c)) H) (dK 1 n)
 |_=>.no
def aeW:TypeDesc->dF
 |.struct _|.array _ _=>D
 |_=>ao
section
variable(P:fd)(t:ed)
def E1:da dF:=(P.underlying t).map aeW
def eY:da E:=(P.info? t).map TypeInfo.size
def ou:da Value:=(P.info? t).bind TypeInfo.zero
def nK:da ed:=match P.underlying t with |some (.slice e)=>O e|_=>bs
end
inductive MA where
 |no
 |one
 |agg (n:E)
def lv(P:fd)(t:ed):MA:=match E1 P t,eY P t with
 |some D,O n=>.agg n
 |some ao,_=>.one
 |_,_=>.no
inductive Ui where
 |no
 |arr (n s:E)
 |sl (s:E)
def p8(P:fd)(t:ed):Ui:=match P.underlying t with
 |some (.array n e)=>(match eY P e with |some s=>.arr n s|none=>.no)
 |some (.slice e)=>(match eY P e with |some s=>.sl s|none=>.no)
 |_=>.no
inductive MB where
 |no
 |mk (off size:E) (t:ed)
def fv(P:fd)(s:ed)(f:E):MB:=match P.underlying s with
 |some (.struct d)=>(match d[f]? with
  |some c=>(match eY P c.type with |some n=>.mk c.offset n c.type|none=>.no)
  |none=>.no)
 |_=>.no
inductive zx where
 |no
 |mk (i off:E)
inductive bB where
 |no
 |mk (i off len:E) (cap:aY)
inductive xR where
 |no
 |mk (n:E)
inductive o5 where
 |no
 |mk (b:dF)
inductive E2 where
 |no
 |mk (e:ed) (cs:I af) (exact cV ro:dF)
inductive zy where
 |no
 |int (k:be) (n:N)
def MC(v:Value):zy:= @Value.casesOn (λ_=>zy) v (λ_=>.no) (λk n=>.int k n) (λ_ _=>.no) (λ_ _ _=>.no) (λ_=>.no) (λ_=>.no) (λ_ _ _=>.no) (λ_=>.no) (λ_=>.no) (λ_ _ _=>.no) .no (λ_ _=>.no) .no (λ_=>.no) (λ_=>.no)
def jW(v:af):zy:= @af.casesOn (λ_=>zy) v MC (λ_ _=>.no) (λ_ _ _ _=>.no) (λ_ _ _=>.no) (λ_=>.no) (λ_=>.no) (λ_ _=>.no) (λ_=>.no) (λ_=>.no) (λ_ _ _=>.no) (λ_ _ _ _=>.no) (λ_ _ _ _ _ _=>.no) (λ_ _ _ _ _=>.no) .no
def xS(n:N):xR:= @N.casesOn (λ_=>xR) n (λm=>.mk m) (λ_=>.no)
def p9(v:af):xR:= @zy.rec (λ_=>xR) .no (λ_ n=>xS n) (jW v)
def MD(v:Value):o5:= @Value.casesOn (λ_=>o5) v (λb=>.mk b) (λ_ _=>.no) (λ_ _=>.no) (λ_ _ _=>.no) (λ_=>.no) (λ_=>.no) (λ_ _ _=>.no) (λ_=>.no) (λ_=>.no) (λ_ _ _=>.no) .no (λ_ _=>.no) .no (λ_=>.no) (λ_=>.no)
def iX(v:af):o5:= @af.casesOn (λ_=>o5) v MD (λ_ _=>.no) (λ_ _ _ _=>.no) (λ_ _ _=>.no) (λ_=>.no) (λ_=>.no) (λ_ _=>.no) (λ_=>.no) (λ_=>.no) (λ_ _ _=>.no) (λ_ _ _ _=>.no) (λ_ _ _ _ _ _=>.no) (λ_ _ _ _ _=>.no) .no
def jX(v:af):zx:= @af.casesOn (λ_=>zx) v (λ_=>.no) (λi off=>.mk i off) (λ_ _ _ _=>.no) (λ_ _ _=>.no) (λ_=>.no) (λ_=>.no) (λ_ _=>.no) (λ_=>.no) (λ_=>.no) (λ_ _ _=>.no) (λ_ _ _ _=>.no) (λ_ _ _ _ _ _=>.no) (λ_ _ _ _ _=>.no) .no
def zz(v:af):bB:= @af.casesOn (λ_=>bB) v (λ_=>.no) (λ_ _=>.no) (λi off d c=>.mk i off d c) (λ_ _ _=>.no) (λ_=>.no) (λ_=>.no) (λ_ _=>.no) (λ_=>.no) (λ_=>.no) (λ_ _ _=>.no) (λ_ _ _ _=>.no) (λ_ _ _ _ _ _=>.no) (λ_ _ _ _ _=>.no) .no
def tT(v:af):da (I af):= @af.casesOn (λ_=>da (I af)) v (λ_=>bs) (λ_ _=>bs) (λ_ _ _ _=>bs) (λ_ _ _=>bs) (λ_=>bs) (λ_=>bs) (λ_ _=>bs) (λcs=>O cs) (λ_=>bs) (λ_ _ _=>bs) (λ_ _ _ _=>bs) (λ_ _ _ _ _ _=>bs) (λ_ _ _ _ _=>bs) bs
def BV(v:af):da (I af):= @af.casesOn (λ_=>da (I af)) v (λ_=>bs) (λ_ _=>bs) (λ_ _ _ _=>bs) (λ_ _ _=>bs) (λ_=>bs) (λ_=>bs) (λ_ _=>bs) (λ_=>bs) (λcs=>O cs) (λ_ _ _=>bs) (λ_ _ _ _=>bs) (λ_ _ _ _ _ _=>bs) (λ_ _ _ _ _=>bs) bs
def zp(b:da bn):E2:= @oN bn (λ_=>E2) .no (λb=>@bn.casesOn (λ_=>E2) b (λe cs x f r=>.mk e cs x f r) (λ_ _=>.no) (λ_=>.no) .no (λ_ _ _=>.no) (λ_ _=>.no) (λ_ _ _=>.no)) b
def bu(t:aq)(b:da bn):I t.den:=match b with
 |some (.own _ c xs)=>if h:c=t then h ▸ xs else []
 |_=>[]
def bx(e:ed)(t:aq)(b:da bn)(k:E):dF:=match b with
 |some (.own c d xs)=>dd e c&&(bP (d=t)&&dK (k+1) xs.length)
 |_=>ao
def aY.isFull:aY->dF
 |.full=>D
 |_=>ao
def aY.isNil:aY->dF
 |.known n=>dd n 0
 |_=>ao
def bO:E->aY
 |0=>.known 0
 |_+1=>.full
def mI(e:ed)(t:aq)(b:da bn)(n:E)(cap:aY):dF:=match b with
 |some (.own c d xs)=>dd e c&&(bP (d=t)&&(dd xs.length n&&cap.isFull))
 |none=>dd n 0&&cap.isNil
 |_=>ao
def a8(e:ed)(t:aq)(xs:I t.den):da bn:=match xs with
 |[]=>bs
 |x::l=>O (.own e t (x::l))
def elemAt(t:aq)(xs:I t.den)(k:E):I af:=t.cells (xs.getD k t.dflt)
def BW(k:be)(l:I af):da (N×I af):=match l with |.raw (.int c x)::r=>(if k=c then O (x,r)else bs)|_=>bs
def BX(l:I af):da (dF×I af):=match l with |.raw (.bool x)::r=>O (x,r)|_=>bs
def BZ(l:I af):da (AT×I af):=match l with |.raw (.string x)::r=>O (x,r)|_=>bs
def ME(z:dF)(t:aq)(l:I af):da (I t.den×I af):=match l with
 |.bh d c xs::r=>if h:c=t then(oi (!z||d||dK 1 xs.length) (O (h ▸ xs,r)) bs)else bs
 |.raw (.slice bs 0 0)::r=>O ([],r)
 |_=>bs
def B0(t:aq)(l:I af):da (t.den×I af):=match l with
 |.e9 c [x] 0 0::r=>if h:c=t then O (h ▸ x,r)else bs
 |_=>bs
def aq.vW:(t:aq)->I af->da (t.den×I af)
 |.int k,l=>BW k l
 |.bool,l=>BX l
 |.str,l=>BZ l
 |.list z t,l=>ME z t l
 |.pair a b,l=>match a.vW l with
   |some (x,c)=>(match b.vW c with |some (y,r)=>O ((x,y),r)|none=>bs)
   |none=>bs
 |.ptr t,l=>B0 t l
 |.unit,l=>O ((),l)
def aq.read(t:aq)(l:I af):da t.den:=match t.vW l with |some (d,[])=>O d|_=>bs
def aq.qY(t:aq):E->I af->da (I t.den)
 |0,[]=>O []
 |0,_::_=>bs
 |n+1,l=>match t.vW l with |some (d,r)=>(t.qY n r).map λc=>d::c|none=>bs
def cut(cs:I af)(off n:E):I af:=(cs.drop off).take n
section
variable(P:fd)(t:ed)(cs:I af)(off:E)
def apart:da af:=
 @MA.rec (λ_=>da af) bs (nth cs off) (λn=>O (.agg (cut cs off n))) (lv P t)
def lc:da af:=
 @MA.rec (λ_=>da af) bs (nth cs off) (λn=>@jh (λ_=>da af) bs (O (.agg (cut cs off n))) (dK (Sc off n) cs.length)) (lv P t)
end
def MF(v:af)(cs:I af):E->da (I af):=
 @I.rec af (λ_=>E->da (I af)) (λ_=>bs) (λa l c off=>@jh (λ_=>da (I af)) (@oN (I af) (λ_=>da (I af)) bs (λr=>O (a::r)) (c (Hq off 1))) (O (v::l)) (dd off 0)) cs
def mJ(cs:I af)(off:E)(vs:I af):da (I af):=
 match vs with
 |[v]=>MF v cs off
 |vs=>oi (dK (off+vs.length) cs.length) (O (cs.take off++vs++cs.drop (off+vs.length))) bs
def tU(c:E->da (E×E)):I af->I (E×af)->da (I af)
 |cells,[]=>O cells
 |cells,(i,v)::d=>
  (c i).bind λp=>oi (oi v.xP ao (dd v.cells.length p.2)) ((mJ cells p.1 v.cells).bind λcells=>tU c cells d) bs
def sameKind:af->af->dF
 |.ptr ..,.raw (.pointer bs)|.slice ..,.raw (.slice bs _ _)|.func ..,.raw .nilFunc|.iface ..,.raw .nilIface|.map _,.raw (.map bs)=>D
 |_,_=>ao
def ov(P:fd)(t:ed):af->dF
 |.ptr .. =>match P.underlying t with |some (.pointer _)=>D|_=>ao
 |.slice .. =>match P.underlying t with |some (.slice _)=>D|_=>ao
 |.func .. =>match P.underlying t with |some (.func _ _ _)=>D|_=>ao
 |.iface .. =>match P.underlying t with |some (.interface _)=>D|_=>ao
 |.map _=>match P.underlying t with |some (.map _ _)=>D|_=>ao
 |_=>ao
def tV(ev:eB)(x:gn):Value:=((ev x).gh).getD lk
def gen(P:fd)(o:ls)(ev:eB):da af:=
 oi (o.op.operands.toList.all λx=>(ev x).gh.isSome)
  (match dZ P (gy (tV ev) o)with
    |some (.value v)=>O (.raw v)
    |some .skip=>O (.raw lk)
    |_=>bs) bs
def ow(v:af):da E:= @xR.rec (λ_=>da E) bs (λn=>O n) (p9 v)
def ox(o:da af)(d:E):da E:=match o with |none=>O d|some v=>ow v
def B1(P:fd)(e:ed)(s n:E)(lo hi mx:da af)(k:E->E->af):da af:=
 (eY P e).bind λc=>(ox hi n).bind λh=>(ox lo 0).bind λl=>oi (mx.isNone&&dd s c&&dK l h&&dK h n) (O (k l h)) bs
def Uj(c:aY)(len:E):E:=match c with
 |.known n=>n
 |_=>len
def E3(P:fd)(t:ed)(x:af)(lo hi mx:da af):da af:=
 match P.underlying t,x with
 |some (.array n e),.ptr i off=>
  (eY P e).bind λs=>(ox mx n).bind λm=>(ox hi n).bind λh=>(ox lo 0).bind λl=>
    oi (dK l h&&dK h m&&dK m n&&(mx.isNone||hi.isSome)) (O (.slice i (oi (dd m l) off (off+l*s)) (h-l) (.known (m-l)))) bs
 |some (.slice e),.slice i off d f=>
  (eY P e).bind λs=>(ox hi d).bind λh=>(ox lo 0).bind λl=>
    match mx,f with
    |none,.known c=>oi (dK l h&&dK h c) (O (.slice i (oi (dd c l) off (off+l*s)) (h-l) (.known (c-l)))) bs
    |none,c=>oi (dK l h&&dK h d) (oi (dd l 0) (O (.slice i off h c)) (oi (dK (l+1) d) (O (.slice i (off+l*s) (h-l) .any)) bs)) bs
    |some j,c=>(ow j).bind λm=>oi (dK l h&&dK h m&&dK m (Uj c d)&&hi.isSome) (O (.slice i (oi (dd m l) off (off+l*s)) (h-l) (.known (m-l)))) bs
 |some (.slice e),.bh _ t xs=>B1 P e t.size xs.length lo hi mx (λl h=>oi (dK (l+1) h) (.bh ao t ((xs.take h).drop l)) (.bh ao t []))
 |some (.slice e),.bZ g t i k d f=>B1 P e t.size d lo hi mx (λl h=>oi (dd l 0) (.bZ g t i k h f) (oi (dK (l+1) h) (.bZ g t i (k+l) (h-l) .any) (.bh ao t [])))
 |_,_=>bs
def src(H:ai)(s:E):af->da (I af×E)
 |.raw (.slice bs 0 _)=>O ([],0)
 |.raw (.string b)=>oi (dd s 1) (O (b.data.toList.map λx=>.raw (.int .u8 x.toNat),b.size)) bs
 |.slice i off c _=>match H.get i with
   |some (.cells _ cs _ _ _)=>oi (dK (off+c*s) cs.length) (O (cut cs off (c*s),c)) bs
   |_=>bs
 |_=>bs
def bounded(n bytes:E):dF:=dK (n*bytes) 140737488355328&&dK n 140737488355328
def co:I af->dF
 |[]=>D
 |v::l=>oi v.one (co l) ao
def zA(e:ed)(c bytes:E)(i len:E)(cap:aY)(d:I af)(n:E)(H:ai):da (af×ai):=
 oi (bounded (len+n) bytes) (match H.get i with
  |some (.cells j cs exact ao ao)=>
   oi (dd e j&&dK (len*c) cs.length) (match cap with
    |.known f=>
      oi (dK (len+n) f)
       ((mJ cs (len*c) d).map λg=>(.slice i 0 (len+n) (.known f),H.set i (.cells e g exact ao ao)))
       (O (.slice H.next 0 (len+n) .full,H.new (.cells e (cs.take (len*c)++d) ao ao ao)))
    |.full=>oi exact bs (O (.slice H.next 0 (len+n) .full,(H.drop i).new (.cells e (cs.take (len*c)++d) ao ao ao)))
    |.any=>bs) bs
  |_=>bs) bs
def B2(P:fd)(t:ed)(s x:af)(H:ai):da (af×ai):=
 (nK P t).bind λe=>(P.info? e).bind λc=>(c.zero).bind λz=>
 oi (dd z.cells.size c.size&&dK 1 c.size)
 ((src H c.size x).bind λd=>
   oi (dd d.2 0) (match s with |.raw (.slice bs 0 0)|.slice .. =>O (s,H)|_=>bs)
   (oi (co d.1) (match s with
     |.raw (.slice bs 0 0)=>oi (bounded d.2 c.bytes) (O (.slice H.next 0 d.2 .full,H.new (.cells e d.1 ao ao ao))) bs
     |.slice i 0 g f=>zA e c.size c.bytes i g f d.1 d.2 H
     |_=>bs) bs)) bs
def tW(b:AT):I N:=b.data.toList.map λx=>(x.toNat:N)
def B3(H:ai)(ty:aq)(s:E):af->da (I ty.den×E)
 |.raw (.slice bs 0 _)=>O ([],0)
 |.raw (.string b)=>if h:aq.int .u8=ty then O (h ▸ tW b,b.size)else bs
 |.bh _ u ys=>if h:u=ty then O (h ▸ ys,ys.length)else bs
 |.bZ e u j k c _=>oi (bP (u=ty)&&(dd c 0||bx e ty (H.get j) (k+c-1))) (O (((bu ty (H.get j)).drop k).take c,c)) bs
 |.slice j off n d=>(src H s (.slice j off n d)).bind λg=>(ty.qY n g.1).map λf=>(f,n)
 |_=>bs
def tX(P:fd)(t:ed)(e:ed)(ty:aq)(i k len:E)(cap:aY)(f:dF)(x:af)(H:ai):da (af×ai):=
 (nK P t).bind λel=>(P.info? el).bind λc=>(c.zero).bind λz=>
 oi (dd z.cells.size c.size&&dK 1 c.size&&dd el e&&dd ty.size c.size&&dd k 0)
 ((B3 H ty c.size x).bind λd=>
   oi (dd d.2 0) (O (.bZ e ty i k len cap,oi f H.skip H))
   (oi (mI e ty (H.get i) len cap&&bounded (len+d.2) c.bytes)
     (O (.bZ e ty H.next 0 (len+d.2) .full,(H.drop i).new (.own e ty (bu ty (H.get i)++d.1)))) bs)) bs
def Ir(s:af):dF:=match s with
 |.slice _ _ n (.known c)=>dd n 0&&dd c 0
 |.raw (.slice bs 0 0)=>D
 |_=>ao
def Is(P:fd)(t:ed)(ty:aq)(x:af)(H:ai):da (af×ai):=match nK P t with
 |some e=>tX P t e ty H.next 0 0 (.known 0) D x H
 |none=>bs
def zB(ty:aq)(x:af)(H:ai):da (dF×ai):=match ty,x with
 |.list ao _,.slice j off 1 _=>(match H.get j with
   |some (.cells e cs g l r)=>(match nth cs off with
    |some (.bZ d p i 0 m _)=>(match H.get i with
     |some (.own f c xs)=>(match bP (p=c)&&(dd d f&& !Nat.beq i j)with
      |true=>O (dd m xs.length,(H.drop i).set j (.cells e (cs.set off (.bh ao c xs)) g l r))
      |false=>bs)
     |_=>bs)
    |_=>bs)
   |_=>bs)
 |_,_=>bs
section
variable(P:fd)(t:ed)
def E4(e:ed)(ty:aq)(i k len:E)(cap:aY)(x:af)(H:ai):da (af×ai):=match zB ty x H with
 |some (b,c)=>oi b (tX P t e ty i k len cap ao x c) bs
 |none=>tX P t e ty i k len cap ao x H
def oy(s x:af)(H:ai):da (af×ai):=match s with
 |.bZ e c i k f d=>E4 P t e c i k f d x H
 |s=>match x with
  |.bh z c ys=>oi (Ir s) (Is P t c (.bh z c ys) H) bs
  |x=>B2 P t s x H
def B4(d x:af)(H:ai):da (af×ai):=
 (nK P t).bind λe=>(eY P e).bind λs=>match x,d with
   |.slice m p n j,.slice i off c _=>(src H s (.slice m p n j)).bind λf=>match H.get i with
     |some (.cells l cs exact ao ao)=>
      oi (co (f.1.take (L' n c*s))) ((mJ cs off (f.1.take (L' n c*s))).map λg=>(.raw (È (L' n c)),H.set i (.cells l g exact ao ao))) bs
     |_=>bs
   |.raw (.slice bs 0 0),.slice _ _ _ _=>O (.raw (È 0),H)
   |_,_=>bs
def B5(i off len:E)(H:ai):da (af×ai):=
 (nK P t).bind λe=>(eY P e).bind λs=>(ou P e).bind λz=>match H.get i with
   |some (.cells d cs exact ao ao)=>oi (dK 1 len&&dd z.cells.size s&&co (ie len (jE z.cells)).flatten) ((mJ cs off (ie len (jE z.cells)).flatten).map λc=>(.raw (.tuple #[]),H.set i (.cells d c exact ao ao))) bs
   |_=>bs
end
def bytesOf:I af->da (I hN)
 |[]=>O []
 |.raw (.int .u8 (.ofNat n))::l=>oi (dK (n+1) 256) ((bytesOf l).map λr=>hN.ofNat n::r) bs
 |_=>bs
section
variable(P:fd)
def zr(t:ed):af->af->da dF
 |.ptr i off,.ptr j c=>match P.underlying t with
   |some (.pointer e)=>match eY P e with
    |some (_+1)=>oi (dd i j) (O (dd off c)) bs
    |_=>bs
   |_=>bs
 |_,_=>bs
def zt(t:ed)(c:fh rb)(f:Value)(g:dF):da Value:=
 match P.underlying t with
 |some (.map d i)=>(dZ P (Z' c.isEmpty 10000 d f)).bind λ_=>(dZ P (Í d f c.toList)).bind λr=>
  match r with
  |some p=>O (if g then .tuple #[p.2,.bool D]else p.2)
  |none=>(ou P i).map λz=>if g then .tuple #[z,.bool ao]else z
 |_=>bs
def MG(t:ed)(d:fh rb)(f:E)(c xv:Value):da (fh rb×E):=
 match P.underlying t with
 |some (.map g _)=>(dZ P (Z' ao 10000 g c)).bind λ_=>(dZ P (Í g c d.toList)).bind λr=>
  match r with
  |some p=>(dZ P (Instr.keyThatStays (((d[p.1]?).map (·.key)).getD c) c)).map λk=>(d.modify p.1 λe=>{e with key:=k,val:=xv},f)
  |none=>O (d.push {key:=c,val:=xv,born:=f},f+1)
 |_=>bs
def B6(f:ya)(fn:Ö)(args:I af)(H:ai):da (af×ai):=
 match af.mH args with
 |some c=>match dZ P (Ki f c.toArray)with
  |some (.value v)=>O (.raw v,H)
  |_=>oi (fn.name== "internal/bytealg.MakeNoZero")
   (match args,fn.resultTypes[0]? with
     |[.raw (.int .i64 (.ofNat n))],O t=>(nK P t).bind λe=>oi (dK n 140737488355328&&dd (P.cellsOf e) 1) (O (.slice H.next 0 n .full,H.new (.cells e [] ao ao ao))) bs
     |_,_=>bs) bs
 |none=>match args with
  |[x]=>oi (fn.name== "internal/abi.NoEscape") (O (x,H)) bs
  |_=>bs
def vX(f:ya)(args:I af)(H:ai):aM:=
 @oN Ö (λ_=>aM) .no (λc=>@oN mN (λ_=>aM) (fc (B6 P f c args H)) (λ_=>.enter f args H) c.body) (P.funcs[f]?)
end
inductive MH where
 |no
 |fn (f:ya)
def Uk(f:Fn):MH:=match f with |.func f=>.fn f|_=>.no
def zC(v:Value):MH:=match v with
 |.func c ⟨[]⟩ ⟨[]⟩=>Uk c
 |_=>.no
def fb(P:fd)(fv:af)(args:I af)(H:ai):aM:=
 match fv with
 |.raw v=>@MH.rec (λ_=>aM) (match v with |.func (.func f) first c=>vX P f (jE first++args++jE c) H|_=>.no) (λf=>vX P f args H) (zC v)
 |.func (.func f) first c=>vX P f (first++args++c) H
 |.yield i=>.round i args H
 |_=>.no
abbrev gx:=fd->ls->eB->ai->aM
def o6:gx:=λ_ _ _ _=>.no
def xT:gx:=λP o ev H=>ah H (gen P o ev)
def tZ(x:gn):gx:=λ_ _ ev H=>.ok (ev x) H
def qa(c a b:gn):gx:=λ_ _ ev H=>@o5.rec (λ_=>aM) .no (λd=>@jh (λ_=>aM) (.ok (ev b) H) (.ok (ev a) H) d) (iX (ev c))
def ua(ev:eB)(parts:fh (E×gn)):I (E×af):=parts.toList.map λp=>(p.1,ev p.2)
def se(P:fd)(c:fh Field)(i:E):da (E×E):=(c[i]?).bind λf=>(eY P f.type).map λs=>(f.offset,s)
def MI(P:fd)(ev:eB)(t:ed)(parts:fh (E×gn)):da af:=
 (ou P t).bind λz=>
   match P.underlying t with
   |some (.struct c)=>(tU (se P c) (jE z.cells) (ua ev parts)).bind λcs=>
     oi (c.toList.all λf=>(eY P f.type).isSome) (O (.agg cs)) bs
   |some (.array _ e)=>(eY P e).bind λs=>(tU (λi=>O (i*s,s)) (jE z.cells) (ua ev parts)).map .agg
   |_=>bs
def ui(t:ed)(parts:fh (E×gn)):gx:=λP _ ev H=>ah H (MI P ev t parts)
def MJ(P:fd)(o:ls)(ev:eB)(x:gn):da af:=match ev x with
 |.func (.func f) a b=>O (.func (.func f) a b)
 |.yield i=>O (.yield i)
 |.e9 t xs k off=>O (.e9 t xs k off)
 |.en e t i k off=>O (.en e t i k off)
 |_=>gen P o ev
def r8(x:gn):gx:=λP o ev H=>@zx.rec (λ_=>aM) (ah H (MJ P o ev x)) (λi off=>.ok (.ptr i off) H) (jX (ev x))
def vY(P:fd)(c:I1)(k:be)(a b:N):da Value:=
 match c with
 |.add|.sub|.mul=>dZ P (ô c k a b)
 |.quo|.rem=>dZ P (Op.intDiv c k a b)
 |.and|.or|.xor|.andNot=>dZ P (Op.intBits c k a b)
 |.shl|.shr=>bs
 |_=>dZ P (P' c a b)
def It:af->da (N×N)
 |.agg [.raw (.int .i64 a),.raw (.int .i64 b)]=>O (a,b)
 |_=>bs
section
variable(P:fd)(t:ed)(x y:af)
def Iu:da dF:=match x,y with
 |.raw (.int .i64 a),.raw (.int .i64 b)=>(match P.underlying t with |some (.int .i64)=>oi (P.plainKey t) (O (a==b)) bs|_=>bs)
 |.raw (.string a),.raw (.string b)=>(match P.underlying t with |some .string=>oi (P.plainKey t) (O (a.toList==b.toList)) bs|_=>bs)
 |_,_=>bs
def MK:da dF:=match x,y with
 |.agg [a,b],.agg [c,d]=>(match P.underlying t with
   |some (.struct i)=>(match i.toList with
    |[f,g]=>oi (f.name != "_" &&(g.name != "_" &&(dd f.offset 0&&(dd g.offset 1&&(!P.eqGuardType P.depth t&& !P.stoodInHeld t))))) (match Iu P f.type a c,Iu P g.type b d with
     |some p,O q=>O (p&&q)
     |_,_=>bs) bs
    |_=>bs)
   |_=>bs)
 |_,_=>bs
def ML:da dF:=
 match It x,It y with
 |some p,O q=>(match P.underlying t with
  |some (.array n e)=>(match P.underlying e with
   |some (.int .i64)=>oi (dd n 2&&(!P.eqGuardType P.depth t&&(P.plainKey e&&(dd (P.cellsOf e) 1&&(P.info? e).isSome)))) (O (p.1==q.1&&p.2==q.2)) bs
   |_=>bs)
  |_=>bs)
 |_,_=>bs
def MM:da dF:=match MK P t x y with
 |some b=>O b
 |none=>ML P t x y
end
def MN:af->da dF
 |.bh D _ xs=>O xs.isEmpty
 |_=>bs
def Iv:af->dF
 |.raw (.slice bs 0 0)=>D
 |_=>ao
def MO(P:fd)(t:ed)(x y:af):da dF:=
 match MN x with
 |some b=>(match P.underlying t with |some (.slice _)=>oi (Iv y) (O b) bs|_=>bs)
 |none=>bs
section
variable(P:fd)(o:ls)(ev:eB)
def E5(t:ed)(want:dF)(x y:af):da af:=
 match MO P t x y with
 |some b=>O (.raw (.bool (b==want)))
 |none=>
 match MM P t x y with
 |some b=>O (.raw (.bool (b==want)))
 |none=>
 match zr P t x y with
 |some b=>O (.raw (.bool (b==want)))
 |none=>oi (ov P t x&&sameKind x y) (O (.raw (.bool !want))) (oi (ov P t y&&sameKind y x) (O (.raw (.bool !want))) (gen P o ev))
def zD(c:I1)(t:ed)(x y:af):da af:=
 match c with
 |.eql=>E5 P o ev t D x y
 |.neq=>E5 P o ev t ao x y
 |_=>gen P o ev
def qZ(d:I1)(k c:be)(a b:N):da af:=
 oi (k==c) (match vY P d k a b with |some v=>O (.raw v)|none=>gen P o ev) (gen P o ev)
end
def v7:E->E->da af:=λ_ _=>bs
def small(n:E):da af:= @jh (λ_=>da af) bs (O (.raw (.int .i64 (.ofNat n)))) (dK (nX n) 9223372036854775808)
def B7:I1->E->E->da af:=
 @I1.rec (λ_=>E->E->da af) (λa b=>small (Sc a b)) (λa b=>@jh (λ_=>da af) bs (small (Hq a b)) (dK b a)) v7 v7 v7 v7 v7 v7 v7 v7 v7
   (λa b=>O (.raw (.bool (dd a b)))) (λa b=>O (.raw (.bool (!(dd a b))))) (λa b=>O (.raw (.bool (dK (nX a) b)))) (λa b=>O (.raw (.bool (dK a b))))
   (λa b=>O (.raw (.bool (dK (nX b) a)))) (λa b=>O (.raw (.bool (dK b a))))
def E6:be->dF:= @be.rec (λ_=>dF) ao ao ao D ao ao ao ao
def kU(d:I1)(k c:be)(a b:N):da af:=
 @xR.rec (λ_=>da af) bs (λm=>@xR.rec (λ_=>da af) bs (λn=>@jh (λ_=>da af) bs (@jh (λ_=>da af) bs (B7 d m n) (E6 c)) (E6 k)) (xS b)) (xS a)
def kn(c:I1)(t:ed)(x y:gn)(_yt:ed):gx:=λP o ev H=>
 @zy.rec (λ_=>aM) (ah H (zD P o ev c t (ev x) (ev y)))
   (λk a=>@zy.rec (λ_=>aM) (ah H (gen P o ev)) (λd b=>@oN af (λ_=>aM) (ah H (qZ P o ev c k d a b)) (λv=>.ok v H) (kU c k d a b)) (jW (ev y))) (jW (ev x))
def Ul(P:fd)(t:ed)(v:af):da af:=match P.underlying t with
 |some (.interface _)|none=>bs
 |some _=>O (.iface t v)
def ul(t:ed)(x:gn):gx:=λP _ ev H=>ah H (Ul P t (ev x))
def E7(fn:Fn)(first c:fh gn):gx:=λ_ _ ev H=>.ok (.func fn (first.toList.map ev) (c.toList.map ev)) H
def E8(P:fd)(o:ls)(ev:eB)(t:ed)(x:gn)(lo hi mx:da gn):da af:=match ev x with
 |.raw _=>gen P o ev
 |x=>E3 P t x (lo.map ev) (hi.map ev) (mx.map ev)
def q2(t:ed)(x:gn)(lo hi mx:da gn):gx:=λP o ev H=>ah H (E8 P o ev t x lo hi mx)
def dk(s:ed)(x:gn)(f:E):gx:=λP _ ev H=>
 @MB.rec (λ_=>aM) .no (λc n _=>@zx.rec (λ_=>aM) (lw c n (ev x) H) (λi off=>@jh (λ_=>aM) .no (.ok (.ptr i (Sc off c)) H) (dK 1 n)) (jX (ev x))) (fv P s f)
def r9(t:ed)(x:gn)(f:E):gx:=λP o ev H=>
 @oN (I af) (λ_=>aM) (ah H (gen P o ev)) (λcs=>@MB.rec (λ_=>aM) .no (λd _ c=>ah H (apart P c cs d)) (fv P t f)) (tT (ev x))
def o7(t:ed)(x c:gn):gx:=λP _ ev H=>
 @xR.rec (λ_=>aM) .no (λk=>@Ui.rec (λ_=>aM) .no
   (λn s=>@zx.rec (λ_=>aM) (xQ k n s (ev x) H) (λi off=>@jh (λ_=>aM) .no (.ok (.ptr i (Sc off (E.mul k s))) H) (dK (nX k) n)) (jX (ev x)))
   (λs=>@bB.rec (λ_=>aM) (tS k s (ev x) H) (λi off d _=>@jh (λ_=>aM) .no (.ok (.ptr i (Sc off (E.mul k s))) H) (dK (nX k) d)) (zz (ev x)))
   (p8 P t)) (p9 (ev c))
def Um(P:fd)(t:ed)(cs:I af)(c:af):da af:=match P.underlying t with
 |some (.array n e)=>(ow c).bind λk=>(eY P e).bind λs=>oi (dK (k+1) n) (apart P e cs (k*s)) bs
 |_=>bs
def oz(t:ed)(x c:gn):gx:=λP o ev H=>
 @oN (I af) (λ_=>aM) (ah H (gen P o ev)) (λcs=>ah H (Um P t cs (ev c))) (tT (ev x))
def sg(x:gn)(i:E):gx:=λP o ev H=>
 @oN (I af) (λ_=>aM) (ah H (gen P o ev)) (λc=>ah H (nth c i)) (BV (ev x))
def pc(P:fd)(t:ed)(x:af)(H:ai):aM:=match x with
 |.e9 u xs k off=>ah H (lc P t (elemAt u xs k) off)
 |.en e u i k off=>oi (bx e u (H.get i) k) (ah H (lc P t (elemAt u (bu u (H.get i)) k) off)) .no
 |_=>.no
def qb(t:ed)(x:gn):gx:=λP _ ev H=>
 @zx.rec (λ_=>aM) (pc P t (ev x) H) (λi off=>@E2.rec (λ_=>aM) .no (λ_ cs _ _ _=>ah H (lc P t cs off)) (zp (H.get i))) (jX (ev x))
def MP(P:fd)(o:ls)(ev:eB)(t:ed)(m k:af)(f:dF)(H:ai):da af:=match m,k.gh with
 |.map i,O d=>match H.get i with
   |some (.map c _)=>(zt P t c d f).map .raw
   |_=>bs
 |_,_=>gen P o ev
def pd(t:ed)(m k:gn)(c:dF):gx:=λP o ev H=>ah H (MP P o ev t (ev m) (ev k) c H)
def si(P:fd)(o:ls)(ev:eB)(s d:ed)(x:af)(H:ai):da (af×ai):=match x with
 |.slice i off c _=>match P.underlying s,P.underlying d,H.get i with
   |some (.slice e),O .string,O (.cells _ cs _ _ _)=>match P.underlying e with
    |some (.int .u8)=>oi (dK (off+c) cs.length) ((bytesOf (cut cs off c)).map λf=>(.raw (.string ⟨f.toArray⟩),H)) bs
    |_=>bs
   |_,_,_=>bs
 |.ptr i off=>match P.underlying s,P.underlying d,H.get i with
   |some (.pointer t),O .unsafePointer,O (.cells _ cs _ _ _)=>match eY P t with
    |some (_+1)=>oi (dK (off+1) cs.length) (O (.ptr i off,H)) bs
    |_=>bs
   |some .unsafePointer,O (.pointer u),O (.cells e cs D _ _)=>oi ((eY P u).isSome&&liesAt P P.depth e (cs.length/P.cellsOf e) off u 1) (O (.ptr i off,H)) bs
   |_,_,_=>bs
 |.raw (.string b)=>match P.underlying s,P.underlying d with
   |some .string,O (.slice e)=>match P.underlying e with
    |some (.int .u8)=>oi (dd (P.cellsOf e) 1) (O (.slice H.next 0 b.size .full,H.new (.cells e (b.data.toList.map λx=>.raw (.int .u8 x.toNat)) ao D ao))) bs
    |_=>bs
   |_,_=>(gen P o ev).map λv=>(v,H)
 |_=>(gen P o ev).map λv=>(v,H)
def B8(s d:ed)(x:gn):gx:=λP o ev H=>fc (si P o ev s d (ev x) H)
def v8(e:ed):gx:=λP _ _ H=>@oN Value (λ_=>aM) .no (λz=>.ok (.ptr H.next 0) (H.new (.cells e (jE z.cells) D ao ao))) (ou P e)
def q3(e:ed)(x:gn):gx:=λ_ _ ev H=>@jh (λ_=>aM) (.ok (.ptr H.next 0) (H.new (.cells e (ev x).cells D ao ao))) .no (ev x).xP
def q4(P:fd)(ev:eB)(t:ed)(len:E)(parts:fh (E×gn))(H:ai):da (af×ai):=
 (nK P t).bind λe=>(eY P e).bind λs=>(ou P e).bind λz=>
   oi (dK 1 s&&dK (len*s) 16777216&&dd z.cells.size s)
    ((tU (λi=>O (i*s,s)) (ie len (jE z.cells)).flatten (ua ev parts)).map λcs=>
      (.slice H.next 0 len (.known len),H.new (.cells e cs D ao ao))) bs
def B9(t:ed)(len:E)(parts:fh (E×gn)):gx:=λP _ ev H=>fc (q4 P ev t len parts H)
def sj(P:fd)(t:ed)(l c:af)(H:ai):da (af×ai):=
 (nK P t).bind λe=>(P.info? e).bind λd=>(d.zero).bind λz=>(ow l).bind λl=>(ow c).bind λc=>
   oi (dK l c&&dK 1 d.size&&bounded c d.bytes&&dd z.cells.size d.size)
    (O (.slice H.next 0 l (.known c),H.new (.cells e (ie c (jE z.cells)).flatten D ao ao))) bs
def d8(t:ed)(l c:gn):gx:=λP _ ev H=>fc (sj P t (ev l) (ev c) H)
section
variable(P:fd)(t:ed)
def we(n:E):dF:=match eY P t with |some m=>dd n m|none=>ao
def E9(i off:E)(y:af)(H:ai)(e:ed)(cs:I af)(exact:dF):da (af×ai):=
 oi (co y.cells&&we P t y.cells.length)
  ((mJ cs off y.cells).map λc=>(.raw lk,H.set i (.cells e c exact ao ao))) bs
def zE(x y:af)(H:ai):aM:=match x with
 |.en e u i k off=>oi (bx e u (H.get i) k) (oi (co y.cells&&we P t y.cells.length) (match(mJ (elemAt u (bu u (H.get i)) k) off y.cells).bind u.read with
     |some d=>.ok (.raw lk) (H.set i (.own e u ((bu u (H.get i)).set k d)))
     |none=>.no) .no) .no
 |_=>.no
end
def sr(t:ed)(x y:gn):gx:=λP _ ev H=>
 @zx.rec (λ_=>aM) (zE P t (ev x) (ev y) H) (λi off=>@E2.rec (λ_=>aM) .no (λe cs exact cV c=>@jh (λ_=>aM) (@jh (λ_=>aM) (fc (E9 P t i off (ev y) H e cs exact)) .no cV) .no c) (zp (H.get i))) (jX (ev x))
def ud(P:fd)(ev:eB)(t:ed)(r:da gn)(H:ai):da (af×ai):=match r with
 |none=>O (.map H.next,H.new (.map #[] 0))
 |some h=>match P.underlying t,ev h with |some (.map _ _),.raw (.int _ _)=>O (.map H.next,H.new (.map #[] 0))|_,_=>bs
def Ca(t:ed)(r:da gn):gx:=λP _ ev H=>fc (ud P ev t r H)
section
variable(P:fd)(t:ed)
def Iw(d:Value):dF:=match P.underlying t with
 |some (.map c _)=>match dZ P (Z' ao 10000 c d),dZ P (Í c d [])with
  |some _,O bs=>D
  |_,_=>ao
 |_=>ao
def MQ(m k x:af)(H:ai):da (af×ai):=match m,k.gh with
 |.map i,O c=>match H.get i with
   |some (.map ⟨[]⟩ 0)=>oi (Iw P t c) (O (.raw lk,H.set i (.one c x))) bs
   |_=>bs
 |_,_=>bs
def Fa(m k x:af)(H:ai):da (af×ai):=match m,k.gh,x.gh with
 |.map i,O f,O g=>match H.get i with
   |some (.map d c)=>(MG P t d c f g).map λr=>(.raw lk,H.set i (.map r.1 r.2))
   |_=>bs
 |_,_,bs=>MQ P t m k x H
 |_,_,_=>bs
def Iy(x:af)(H:ai):da (af×ai):=match P.underlying t,x with
 |some (.map _ _),.map i=>match H.get i with
  |some (.map ⟨[]⟩ 0)=>O (.ptr H.next 0,H.new (.iter i 0 ao))
  |some (.one _ _)=>O (.ptr H.next 0,H.new (.iter i 1 ao))
  |_=>bs
 |_,_=>bs
end
def Cb(t:ed)(x:gn):gx:=λP _ ev H=>fc (Iy P t (ev x) H)
def MR(j:E)(H:ai):da bn->da (af×ai)
 |some (.iter i 0 ao)=>match H.get i with
  |some (.map ⟨[]⟩ 0)=>O (.tuple [.raw (.bool ao)],H)
  |_=>bs
 |some (.iter i 1 ao)=>match H.get i with
  |some (.one c v)=>O (.tuple [.raw (.bool D),.raw c,v],H.set j (.iter i 1 D))
  |_=>bs
 |some (.iter i 1 D)=>match H.get i with
  |some (.one _ _)=>O (.tuple [.raw (.bool ao)],H)
  |_=>bs
 |_=>bs
def Iz(x:af)(s:dF)(H:ai):da (af×ai):=match x,s with
 |.ptr j 0,ao=>MR j H (H.get j)
 |_,_=>bs
def Cc(x:gn)(s:dF):gx:=λ_ _ ev H=>fc (Iz (ev x) s H)
def Un(H:ai):da bn->da af
 |some (.iter i 1 D)=>match H.get i with
  |some (.one c v)=>O (.tuple [.raw c,v])
  |_=>bs
 |_=>bs
def Uo(x:af)(H:ai):da af:=match x with
 |.ptr j 0=>Un H (H.get j)
 |_=>bs
def Fb(x:gn):gx:=λ_ _ ev H=>ah H (Uo (ev x) H)
def q5(t:ed)(m k x:gn):gx:=λP _ ev H=>fc (Fa P t (ev m) (ev k) (ev x) H)
def wg(l:I N):AT:=⟨(l.map λx=>hN.ofNat x.toNat).toArray⟩
def Up(l:I N):dF:=bP (tW (wg l)=l)
def IA(P:fd)(c e':ed)(u:aq):dF:=match P.underlying c with
 |some (.pointer e)=>dd e e'&&(dd (P.cellsOf e) 1&&bP (u=.int .u8))
 |_=>ao
def xU(P:fd)(d:ed)(x n:af)(H:ai):da (af×ai):=match x with
 |.ptr i 0=>match n with
   |.raw (.int .i64 (.ofNat n))=>match P.underlying d,H.get i with
     |some (.pointer e),O (.cells c cs exact _ ao)=>
      oi (dd e c&&dd (P.cellsOf e) 1&&dK 1 n&&dK n cs.length&&dK n 140737488355328)
       ((bytesOf (cs.take n)).map λf=>(.raw (.string ⟨f.toArray⟩),H.set i (.cells c cs exact D ao))) bs
     |_,_=>bs
   |_=>bs
 |.en c u i 0 0=>match n with
   |.raw (.int .i64 (.ofNat n))=>
     oi (IA P d c u&&(dK 1 n&&(dK n 140737488355328&&(bx c (.int .u8) (H.get i) (n-1)&&Up ((bu (.int .u8) (H.get i)).take n)))))
      (O (.raw (.string (wg ((bu (.int .u8) (H.get i)).take n))),H.drop i)) bs
   |_=>bs
 |_=>bs
def Uq(H:ai)(i:E):da af:=match H.get i with
 |some (.map c _)=>O (.raw (.int .i64 (.ofNat c.size)))
 |some (.one _ _)=>O (.raw (.int .i64 (.ofNat 1)))
 |_=>bs
section
variable(P:fd)(t:da ed)(v:af)
def Fc(H:ai):da af:=t.bind λt=>match P.underlying t,v with
 |some (.map _ _),.map i=>Uq H i
 |_,_=>bs
def MS:da af:=t.bind λt=>match P.underlying t,v with
 |some (.slice _),.slice _ _ c _=>O (.raw (.int .i64 (.ofNat c)))
 |some (.slice _),.bh _ _ xs=>O (.raw (.int .i64 (.ofNat xs.length)))
 |some (.slice _),.bZ _ _ _ _ c _=>O (.raw (.int .i64 (.ofNat c)))
 |some (.array n _),.agg _=>O (.raw (.int .i64 (.ofNat n)))
 |some .string,.raw (.string b)=>O (.raw (.int .i64 (.ofNat b.size)))
 |_,_=>bs
def MT:da af:=t.bind λt=>match P.underlying t,v with
 |some (.slice _),.slice _ _ _ (.known n)=>O (.raw (.int .i64 (.ofNat n)))
 |_,_=>bs
end
def qc(P:fd)(o:ls)(ev:eB)(b:na)(c:fh ed)(args:I af)(H:ai):aM:=
 match b,args with
 |.len,[v]=>match Fc P c[0]? v H with |some r=>.ok r H|none=>match MS P c[0]? v with |some r=>.ok r H|none=>ah H (gen P o ev)
 |.cap,[v]=>match MT P c[0]? v with |some r=>.ok r H|none=>ah H (gen P o ev)
 |.append,[s,x]=>match c.toList with
   |[t,j]=>match P.underlying j with
    |some (.slice _)=>fc (oy P t s x H)
    |some .string=>fc (oy P t s x H)
    |_=>.no
   |_=>.no
 |.copy,[f,x]=>match c.toList with |[t,_]=>fc (B4 P t f x H)|_=>.no
 |.clear,[.slice i off (d+1) _]=>match c.toList with |[t]=>fc (B5 P t i off (d+1) H)|_=>.no
 |.clear,[.slice _ _ 0 _]=>match c.toList with
   |[t]=>match P.underlying t with |some (.slice _)=>.ok (.raw (.tuple #[])) H|_=>.no
   |_=>.no
 |.unsafeString,[p,n]=>match c.toList with |[g,_]=>fc (xU P g p n H)|_=>.no
 |.unsafeSliceData,[.slice i off d _]=>@jh (λ_=>aM) .no (.ok (.ptr i off) H) (dK 1 d)
 |.unsafeSliceData,[.bZ e t i k d _]=>@jh (λ_=>aM) .no (.ok (.en e t i k 0) H) (dK 1 d)
 |_,_=>ah H (gen P o ev)
def fx(c:Call):gx:=λP o ev H=>
 match c.callee with
 |.value f=>fb P (ev f) (c.args.toList.map ev) H
 |.builtin b=>qc P o ev b c.argTypes (c.args.toList.map ev) H
 |.invoke _ _=>.no
def fR:Op->gx:=
 @Op.rec (λ_=>gx) tZ tZ qa v8 q3 ui B9 q5 qb sr (λ_=>o6) (λ_=>o6) r8 kn (λ_ _ _=>xT) B8 (λ_ _=>o6) ul E7 Ca (λ_ _=>o6) d8
   q2 dk r9 o7 oz pd q5 (λ_ _ _=>o6) (λ_ _ _ _=>o6) Cb Cc Fb (λ_ _ _ _=>xT) sg fx (λ_=>o6) (λ_=>o6) (λ_=>o6) (λ_ _=>o6) (λ_ _ _=>o6) (λ_ _=>o6)
--EV
def cF(T:au af):eB:=λx=>
 @gn.rec (λ_=>af) (λt=>@oN af (λ_=>af) (.raw lk) (λv=>v) (T.get t)) (λv=>.raw v) (λg=>@jh (λ_=>af) (.raw (.pointer (O ⟨g,0,bs⟩))) (.ptr g 0) (dK (nX g) 64)) (λf=>.raw (.func (.func f) #[] #[])) x
--VE
inductive R where
 |no
 |normal (T:au af) (H:ai) (m:I E)
 |exit (id:E) (T:au af) (H:ai) (m:I E)
 |goto (l:E) (T:au af) (H:ai) (m:I E)
 |ret (T:au af) (H:ai) (m:I E)
def jY(T:au af)(n:E)(c:da Tmp)(v:af):da (au af):=
 @oN Tmp (λ_=>da (au af)) (O T) (λd=>@jh (λ_=>da (au af)) bs (O (T.set d (O v))) (dK (nX d) n)) c
def iS(T:au af)(ops:fh ls)(g:E×dF):da dF:=
 match(ops[g.1]?).bind (·.dst)with
 |some d=>match T.get d with |some (.raw (.bool b))=>O (b==g.2)|some .bot=>bs|_=>O ao
 |none=>bs
def iY(T:au af)(ops:fh ls)(o:ls):da dF:=
 @oN (E×dF) (λ_=>da dF) (O D) (λg=>iS T ops g) o.guard
abbrev fe:=ya->I af->ai->aM
abbrev lz:=E->I af->ai->aM
def ko(P:fd)(call:fe)(round:lz)(o:ls)(ev:eB)(H:ai):aM:=
 @aM.rec (λ_=>aM) .no (λv H=>.ok v H) (λf c H=>call f c H) (λi c H=>round i c H) (fR o.op P o ev H)
inductive fH where
 |no
 |mk (T:au af) (H:ai)
def su(k:au af->ai->fH)(H:ai)(T:da (au af)):fH:= @oN (au af) (λ_=>fH) .no (λT=>k T H) T
def wh(n:E)(c:da Tmp)(k:au af->ai->fH)(T:au af)(r:aM):fH:=
 @aM.rec (λ_=>fH) .no (λv H=>su k H (jY T n c v)) (λ_ _ _=>.no) (λ_ _ _=>.no) r
section
variable(P:fd)(call:fe)(round:lz)(ops:fh ls)(n:E)
def zF(o:ls)(T:au af)(H:ai)(k:au af->ai->fH):fH:=
 @oN dF (λ_=>fH) .no (λb=>@jh (λ_=>fH) (su k H (jY T n o.dst (.raw lk))) (wh n o.dst k T (ko P call round o (cF T) H)) b) (iY T ops o)
def zG(l:I ls):au af->ai->fH:=
 @I.rec ls (λ_=>au af->ai->fH) (λT H=>.mk T H) (λo _ c T H=>zF P call round ops n o T H c) l
end
abbrev q6:=mN->(n:E)->(c:dF)->au af->ai->I E->R
def iter(c:au af->ai->I E->R)(k:E):au af->ai->I E->R:=
 @E.rec (λ_=>au af->ai->I E->R) (λ_ _ _=>.no) (λ_ d T H m=>@R.rec (λ_=>R) .no d .exit .goto .ret (c T H m)) k
def MU(P:fd)(T:au af)(H:ai):ResultVar->da af
 |.tmp t=>O ((T.get t).getD (.raw lk))
 |.cell a t=>match T.get a with
   |some (.ptr i off)=>match H.get i with
    |some (.cells _ cs _ _ _)=>lc P t cs off
    |_=>bs
   |_=>bs
def lE(P:fd)(T:au af)(H:ai):I ResultVar->da (I af)
 |[]=>O []
 |r::l=>(MU P T H r).bind λv=>(lE P T H l).map λc=>v::c
def lB(P:fd)(fn:Ö)(T:au af)(H:ai):aM:=
 match lE P T H fn.results.toList with
 |some [v]=>.ok v H
 |some c=>.ok (.tuple c) H
 |none=>.no
def gI(l:I af):au af->E->au af:=
 @I.rec af (λ_=>au af->E->au af) (λT _=>T) (λv _ c T k=>c (T.set k (O v)) (nX k)) l
def zH:I E->ai->da ai
 |[],H=>O H
 |i::m,H=>match H.get i with
  |some .deferred=>zH m (H.drop i)
  |_=>bs
def lW(P:fd)(fn:Ö)(T:au af)(H:ai)(m:I E):aM:=
 @oN ai (λ_=>aM) .no (λH=>lB P fn T H) (zH m H)
def MV(P:fd)(d:q6)(args:I af)(H:ai)(fn:Ö)(c:mN):aM:=
 @jh (λ_=>aM) .no (@R.rec (λ_=>aM) .no (λT H m=>lW P fn T H m) (λ_ _ _ _=>.no) (λ_ _ _ _=>.no) (λT H m=>lW P fn T H m)
   (d c fn.ntmps ao (gI args .nil 0) H [])) (dK args.length fn.ntmps)
def q7(P:fd)(i:q6):fe:=λg d H=>
 @oN Ö (λ_=>aM) .no (λc=>@oN mN (λ_=>aM) .no (λf=>MV P i d H c f) c.body) (P.funcs[g]?)
def pf(T:au af)(l:I (Tmp×af)):au af:=l.foldl (λT p=>T.set p.1 (O p.2)) T
def zI(i:E):R->aM
 |.normal _ H _=>match H.get i with |some (.loop r)=>.ok (.raw (.bool D)) (H.set i (.loop {r with state:= .ready,pending:=bs}))|_=>.no
 |.ret _ H _=>match H.get i with |some (.loop r)=>.ok (.raw (.bool ao)) (H.set i (.loop {r with state:= .done,pending:=O .ret}))|_=>.no
 |.exit id _ H _=>match H.get i with |some (.loop r)=>.ok (.raw (.bool ao)) (H.set i (.loop {r with state:= .done,pending:=O (.exit id)}))|_=>.no
 |.goto l _ H _=>match H.get i with |some (.loop r)=>.ok (.raw (.bool ao)) (H.set i (.loop {r with state:= .done,pending:=O (.goto l)}))|_=>.no
 |.no=>.no
def rounds:E:=4096
abbrev MW:=fe->lz->fh ls->E->au af->ai->fH
abbrev sw:=dF->MW
abbrev nL:=fd->sw->q6->(n:E)->(c:dF)->au af->ai->I E->R
def zJ:lz:=λ_ _ _=>.no
def Cd(m:I E)(r:fH):R:= @fH.rec (λ_=>R) .no (λT H=>.normal T H m) r
def Ur:nL:=λ_ _ _ _ _ T H m=>.normal T H m
def aeX(_id:E)(ops:fh ls)(d:dF):nL:=λP c f n _ T H m=>
 Cd m (c d (q7 P f) zJ ops n T H)
def aeY(a b:mN)(_ _:nL):nL:=λ_ _ d n c T H m=>@R.rec (λ_=>R) .no (λT H m=>d b n c T H m) .exit .goto .ret (d a n c T H m)
def aeZ(c:gn)(x y:mN)(_ _:nL):nL:=λ_ _ f n d T H m=>
 @o5.rec (λ_=>R) .no (λb=>@jh (λ_=>R) (f y n d T H m) (f x n d T H m) b) (iX (cF T c))
def ae0(id:E)(b:mN)(_:nL):nL:=λ_ _ d n c T H m=>
 @R.rec (λ_=>R) .no .normal (λi T H m=>@jh (λ_=>R) (.exit i T H m) (.normal T H m) (dd i id)) .goto .ret (d b n c T H m)
def ae1(id:E):nL:=λ_ _ _ _ _ T H m=>.exit id T H m
def ae2(b:mN)(_:nL):nL:=λ_ _ d n c T H m=>@R.rec (λ_=>R) .no .normal .exit (λ_ _ _ _=>.no) .ret (d b n c T H m)
def ae3(l:E):nL:=λ_ _ _ _ _ T H m=>.goto l T H m
def ae4:nL:=λ_ _ _ _ _ T H m=>.ret T H m
def MX:nL:=λ_ _ _ _ _ _ _ _=>.no
def IB:mN->nL:=
 @mN.rec (λ_=>nL) Ur aeX aeY aeZ ae0 (λ_ _=>MX) (λ_ _ _ _ _ _=>MX) ae1 ae2 (λ_=>Ur) ae3 ae4 (λ_=>MX)
def xV(S:fe)(call:fe):fe:=λf c H=>@aM.rec (λ_=>aM) (call f c H) (λv H=>.ok v H) .enter .round (S f c H)
def sx(P:fd)(draw:sw)(fuel:E):q6:=
 @E.rec (λ_=>q6) (λ_ _ _ _ _ _=>.no) (λ_ d c=>IB c P draw d) fuel
end
section
open Go.RowKit
def zK:I dF->E
 |[]=>0
 |true::l=>2*zK l+1
 |false::l=>2*zK l+2
def IC:∀(f i:E),i<f->zK (zv f i)=i
 |0,i,h=>by omega
 |f+1,i,h=>by
  have e:zv (f+1) i=@jh (λ_=>I dF) (@jh (λ_=>I dF) (ao::zv f (Hq (Tt i 2) 1)) (D::zv f (Tt i 2)) (dd (E.mod i 2) 1)) [] (dd i 0):=rfl;rw[e];cases c:dd i 0 with
  |true=>simpa[zK]using(ac c).symm
  |false=>
   have j:i≠0:=E.ne_of_beq_eq_false c;have d1:Tt i 2=i/2:=rfl;have l:E.mod i 2=i%2:=rfl;cases d:dd (E.mod i 2) 1 with
   |true=>
    have:=ac d;show 2*zK (zv f (Tt i 2))+1=i;rw[IC f _ (by rw[d1];omega),d1];omega
   |false=>
    have:=E.ne_of_beq_eq_false d;show 2*zK (zv f (Hq (Tt i 2) 1))+2=i;have g:Hq (Tt i 2) 1=i/2-1:=rfl;rw[g,IC f _ ω];omega
def ae5{i j:E}(h:bits i=bits j):i=j:=by
 have:=congrArg zK h;rwa[bits,bits,IC _ _ (gR i),IC _ _ (gR j)]at this
def au.zL{α:Type}(p:I dF):au.qX p (au.nil:au α)=bs:=by cases p<;>rfl
def au.MY{α:Type}(x:da α):∀(p q:I dF)(t:au α),au.qX q (au.zw x p t)=if p=q then x else au.qX q t
 |[],[],.nil=>rfl
 |[],[],.node l v r=>rfl
 |[],c::q,.nil=>by
  have:au.qX (c::q) (au.zw x [] (au.nil:au α))=bs:=by
   show @jh (λ_=>da α) (au.qX q .nil) (au.qX q .nil) c=bs
   cases c<;>simp[au.zL]
  simp[this,au.zL]
 |[],c::q,.node l v r=>by simp;rfl
 |b::p,[],.nil=>by
  simp only[ZZ,á,au.zL];cases b<;>rfl
 |b::p,[],.node l v r=>by simp only[ZZ,á];cases b<;>rfl
 |b::p,c::q,.nil=>by
  have e:au.qX (c::q) (au.zw x (b::p) (au.nil:au α))=if b=c then au.qX q (au.zw x p .nil)else bs:=by
   cases b<;>cases c<;>first |rfl |exact au.zL q
  rw[e,au.MY x p q .nil,au.zL,au.zL];by_cases h:b=c<;>simp[h]
 |b::p,c::q,.node l v r=>by
  have e:au.qX (c::q) (au.zw x (b::p) (au.node l v r))=if b=c then au.qX q (au.zw x p (oi b l r))else au.qX (c::q) (au.node l v r):=by
   cases b<;>cases c<;>rfl
  rw[e];by_cases h:b=c
  .subst h;rw[dA rfl,au.MY x p q];cases b<;>by_cases d:p=q<;>simp[d]<;>rfl
  .simp[h]
def au.gS{α:Type}(t:au α)(i j:E)(x:da α):(t.set i x).get j=if i=j then x else t.get j:=by
 unfold au.get au.set;rw[au.MY];by_cases h:i=j
 .subst h;simp
 .rw[db (λe=>h (ae5 e)),db h]
def au.get_nil{α:Type}(i:E):(au.nil:au α).get i=bs:=au.zL _
def Ce{α:Type}:∀(l:I α)(i:E),nth l i=l[i]?
 |[],i=>by cases i<;>rfl
 |a::l,0=>rfl
 |a::l,i+1=>by
  show @jh (λ_=>da α) (nth l (Hq (i+1) 1)) (O a) (dd (i+1) 0)=_
  have:dd (i+1) 0=ao:=rfl;rw[this];have e:Hq (i+1) 1=i:=rfl;rw[e,Ce l i];rfl
def MZ(v:af):∀(cs:I af)(off:E),MF v cs off=if off<cs.length then O (cs.set off v)else bs
 |[],off=>by simp;rfl
 |a::l,0=>by simp;rfl
 |a::l,i+1=>by
  show @oN (I af) (λ_=>da (I af)) bs (λr=>O (a::r)) (MF v l i)=_
  rw[MZ v l i];by_cases h:i<l.length<;>simp[h]
def Us{α:Type}(cs:I α)(off:E)(v:α)(h:off<cs.length):cs.set off v=cs.take off++[v]++cs.drop (off+1):=by
 rw[I.set_eq_take_append_cons_drop,dA h];simp
def Fe{cs vs r:I af}{off:E}(h:mJ cs off vs=O r):off+vs.length<=cs.length/\r=cs.take off++vs++cs.drop (off+vs.length):=by
 unfold mJ at h;split at h
 .rw[MZ]at h;split at h
  .rename_i d;injection h with h
   refine⟨by simp;omega,?_⟩;rw[<-h,Us _ _ _ d];rfl
  .cases h
 .cases c:dK (off+vs.length) cs.length with
  |false=>rw[c]at h;cases h
  |true=>
   rw[c]at h;injection h with h
   exact⟨b5 c,h.symm⟩
structure Env where
 at':E->da (E×E)
 fz:E->da (fh Value)
instance:CoeFun Env (λ_=>E->da (E×E)):=⟨Env.at'⟩
def Cf(cap:aY)(c k:E):Prop:=match cap with
 |.known n=>k=n
 |.full=>k=c
 |.any=>True
mutual
inductive Den(ρ:Env):af->Value->Prop
 |raw (v:Value):Den ρ (.raw v) v
 |ptr {i off b c:E} (h:ρ i=O (b,c)):Den ρ (.ptr i off) (.pointer (O ⟨b,off,bs⟩))
 |slice {i off len b c k:E} {cap:aY} (h:ρ i=O (b,c)) (hc:Cf cap c k) (hl:len<=k):Den ρ (.slice i off len cap) (.slice (O ⟨b,off,bs⟩) len k)
 |func {fn:Fn} {fs cs:I af} {xs ys:I Value} (hf:aE ρ fs xs) (hc:aE ρ cs ys):Den ρ (.func fn fs cs) (.func fn xs.toArray ys.toArray)
 |yield {i b c:E} (h:ρ i=O (b,c)):Den ρ (.yield i) (.func (.yield b) #[] #[])
 |map {i b c:E} (h:ρ i=O (b,c)):Den ρ (.map i) (.map (O b))
 |iface {t:ed} {v:af} {x:Value} (h:Den ρ v x):Den ρ (.iface t v) (.iface t x)
 |agg {cs:I af} {xs:I Value} (h:aE ρ cs xs):Den ρ (.agg cs) (.agg xs.toArray)
 |tuple {cs:I af} {xs:I Value} (h:aE ρ cs xs):Den ρ (.tuple cs) (.tuple xs.toArray)
 |bh {z:dF} {t:aq} {xs:I t.den} {b off k:E} {A:fh Value} {ys:I Value} (h:ρ.fz b=O A) (ho:off+(t.flat xs).length<=A.size) (hy:(A.toList.drop off).take (t.flat xs).length=ys) (hd:aE ρ (t.flat xs) ys) (hk:xs.length<=k) (hz:z=D->xs≠[]):Den ρ (.bh z t xs) (.slice (O ⟨b,off,bs⟩) xs.length k)
 |ff {z:dF} {t:aq} {a:da wu} {k:E} (hz:z=D->a=bs/\k=0):Den ρ (.bh z t []) (.slice a 0 k)
 |e9 {t:aq} {xs:I t.den} {k off b o:E} {A:fh Value} {ys:I Value} (h:ρ.fz b=O A) (ho:o+(t.flat xs).length<=A.size) (hy:(A.toList.drop o).take (t.flat xs).length=ys) (hd:aE ρ (t.flat xs) ys) (hk:k<xs.length):Den ρ (.e9 t xs k off) (.pointer (O ⟨b,o+(k*t.size+off),bs⟩))
 |bZ {e:ed} {t:aq} {i k len b c kc:E} {cap:aY} (h:ρ i=O (b,c)) (hc:Cf cap c kc) (hl:len<=kc):Den ρ (.bZ e t i k len cap) (.slice (O ⟨b,k*t.size,bs⟩) len kc)
 |sy {e:ed} {t:aq} {i k:E} {cap:aY} {a:da wu}:Den ρ (.bZ e t i k 0 cap) (.slice a 0 0)
 |en {e:ed} {t:aq} {i k off b c:E} (h:ρ i=O (b,c)):Den ρ (.en e t i k off) (.pointer (O ⟨b,k*t.size+off,bs⟩))
 |bot (x:Value):Den ρ .bot x
inductive aE(ρ:Env):I af->I Value->Prop
 |nil:aE ρ [] []
 |cons {v:af} {x:Value} {vs:I af} {xs:I Value} (h:Den ρ v x) (hs:aE ρ vs xs):aE ρ (v::vs) (x::xs)
end
structure cR(ρ ρ':Env):Prop where
 at':∀i x,ρ i=O x->ρ' i=O x
 fz:∀b A,ρ.fz b=O A->ρ'.fz b=O A
instance{ρ ρ':Env}:CoeFun (cR ρ ρ') (λ_=>∀i x,ρ i=O x->ρ' i=O x):=⟨cR.at'⟩
def cR.refl(ρ:Env):cR ρ ρ:=⟨λ_ _ h=>h,λ_ _ h=>h⟩
def cR.trans{a b c:Env}(h:cR a b)(k:cR b c):cR a c:=⟨λi x d=>k i x (h i x d),λi x d=>k.fz i x (h.fz i x d)⟩
mutual
def Den.mono{ρ ρ':Env}(c:cR ρ ρ'):∀{v:af}{x:Value},Den ρ v x->Den ρ' v x
 |_,_,.raw v=>.raw v
 |_,_,.ptr h=>.ptr (c _ _ h)
 |_,_,.slice h f d=>.slice (c _ _ h) f d
 |_,_,.func m f=>.func (aE.mono c m) (aE.mono c f)
 |_,_,.yield h=>.yield (c _ _ h)
 |_,_,.map h=>.map (c _ _ h)
 |_,_,.iface h=>.iface (Den.mono c h)
 |_,_,.agg h=>.agg (aE.mono c h)
 |_,_,.tuple h=>.tuple (aE.mono c h)
 |_,_,.bh h i j g d l=>.bh (c.fz _ _ h) i j (aE.mono c g) d l
 |_,_,.ff l=>.ff l
 |_,_,.e9 h i j g d=>.e9 (c.fz _ _ h) i j (aE.mono c g) d
 |_,_,.bZ h f d=>.bZ (c _ _ h) f d
 |_,_,.sy=>.sy
 |_,_,.en h=>.en (c _ _ h)
 |_,_,.bot x=>.bot x
def aE.mono{ρ ρ':Env}(c:cR ρ ρ'):∀{v:I af}{x:I Value},aE ρ v x->aE ρ' v x
 |_,_,.nil=>.nil
 |_,_,.cons h d=>.cons (Den.mono c h) (aE.mono c d)
end
section
variable{ρ:Env}
def aE.length:∀{vs:I af}{xs:I Value},aE ρ vs xs->xs.length=vs.length
 |_,_,.nil=>rfl
 |_,_,.cons _ c=>by simp[aE.length c]
def aE.append:∀{vs c:I af}{xs ys:I Value},aE ρ vs xs->aE ρ c ys->aE ρ (vs++c) (xs++ys)
 |_,_,_,_,.nil,h=>h
 |_,_,_,_,.cons h d,k=>.cons h (aE.append d k)
def aE.take:∀{vs:I af}{xs:I Value}(n:E),aE ρ vs xs->aE ρ (vs.take n) (xs.take n)
 |_,_,0,h=>by simpa using aE.nil
 |_,_,n+1,.nil=>by simpa using aE.nil
 |_,_,n+1,.cons h c=>.cons h (aE.take n c)
def aE.drop:∀{vs:I af}{xs:I Value}(n:E),aE ρ vs xs->aE ρ (vs.drop n) (xs.drop n)
 |_,_,0,h=>by simpa using h
 |_,_,n+1,.nil=>by simpa using aE.nil
 |_,_,n+1,.cons h c=>by simpa using aE.drop n c
def aE.get:∀{vs:I af}{xs:I Value}{i:E}{v:af},aE ρ vs xs->vs[i]? =O v->∃x,xs[i]? =O x/\Den ρ v x
 |_,_,i,v,.nil,h=>by simp at h
 |_,_,0,v,.cons h c,k=>by simp at k;subst k;exact⟨_,by simp,h⟩
 |_,_,i+1,v,.cons h c,k=>by simpa using aE.get c (by simpa using k)
def aE.ue:∀(l:I Value),aE ρ (l.map .raw) l
 |[]=>.nil
 |x::l=>.cons (.raw x) (aE.ue l)
def aE.Ut:∀{vs:I af}{xs:I Value},xs.length=vs.length->(∀(i:E)(v:af)(x:Value),vs[i]? =O v->xs[i]? =O x->Den ρ v x)->aE ρ vs xs
 |[],[],_,_=>.nil
 |[],_::_,h,_=>by simp at h
 |_::_,[],h,_=>by simp at h
 |v::vs,x::xs,h,k=>.cons (k 0 v x τ τ) (aE.Ut (by simpa using h) λi v x c d=>k (i+1) v x (by simpa using c) (by simpa using d))
mutual
def Den.ju:∀{v:af}{x w:Value},Den ρ v x->v.ju=O w->x=w
 |_,_,w,.raw v,h=>by simp[af.ju]at h;exact h
 |_,_,w,.ptr _,h=>by simp[af.ju]at h
 |_,_,w,.slice _ _ _,h=>by simp[af.ju]at h
 |_,_,w,.func g f,h=>by
  simp only[af.ju,ep,am]at h;obtain⟨l,c,k,i,rfl⟩:=h;rw[aE.mH g c,aE.mH f i]
 |_,_,w,.yield _,h=>by simp[af.ju]at h
 |_,_,w,.map _,h=>by simp[af.ju]at h
 |_,_,w,.iface d,h=>by
  simp only[af.ju,am]at h;obtain⟨l,c,rfl⟩:=h;rw[Den.ju d c]
 |_,_,w,.agg d,h=>by
  simp only[af.ju,am]at h;obtain⟨l,c,rfl⟩:=h;rw[aE.mH d c]
 |_,_,w,.tuple d,h=>by
  simp only[af.ju,am]at h;obtain⟨l,c,rfl⟩:=h;rw[aE.mH d c]
 |_,_,w,.bh _ _ _ _ _ _,h=>by simp[af.ju]at h
 |_,_,w,.ff _,h=>by simp[af.ju]at h
 |_,_,w,.e9 _ _ _ _ _,h=>by simp[af.ju]at h
 |_,_,w,.bZ _ _ _,h=>by simp[af.ju]at h
 |_,_,w,.sy,h=>by simp[af.ju]at h
 |_,_,w,.en _,h=>by simp[af.ju]at h
 |_,_,w,.bot _,h=>by simp[af.ju]at h
def aE.mH:∀{v:I af}{x w:I Value},aE ρ v x->af.mH v=O w->x=w
 |_,_,w,.nil,h=>by simp[af.mH]at h;exact h.symm
 |_,_,w,.cons g f,h=>by
  simp only[af.mH,ep,am]at h;obtain⟨l,d,k,c,rfl⟩:=h;rw[Den.ju g d,aE.mH f c]
end
def Den.gh{v:af}{x w:Value}(h:Den ρ v x)(k:v.gh=O w):x=w:=by
 unfold af.gh at k;split at k
 .cases h;injection k
 .exact h.ju k
def Den.cu{v x:Value}(h:Den ρ (.raw v) x):x=v:=by cases h;rfl
def Den.mK{i off:E}{x:Value}(h:Den ρ (.ptr i off) x):∃b c,ρ i=O (b,c)/\x=.pointer (O ⟨b,off,bs⟩):=by cases h;exact⟨_,_,‹_›,rfl⟩
def Den.jv{i off len:E}{cap:aY}{x:Value}(h:Den ρ (.slice i off len cap) x):∃b c k,ρ i=O (b,c)/\Cf cap c k/\len<=k/\x=.slice (O ⟨b,off,bs⟩) len k:=by cases h;exact⟨_,_,_,‹_›,‹_›,‹_›,rfl⟩
def Den.Ff{fn:Fn}{c cs:I af}{x:Value}(h:Den ρ (.func fn c cs) x):∃xs ys:I Value,aE ρ c xs/\aE ρ cs ys/\x=.func fn xs.toArray ys.toArray:=by cases h;exact⟨_,_,‹_›,‹_›,rfl⟩
def Den.M0{i:E}{x:Value}(h:Den ρ (.yield i) x):∃b c,ρ i=O (b,c)/\x=.func (.yield b) #[] #[]:=by cases h;exact⟨_,_,‹_›,rfl⟩
def Den.xW{i:E}{x:Value}(h:Den ρ (.map i) x):∃b c,ρ i=O (b,c)/\x=.map (O b):=by cases h;exact⟨_,_,‹_›,rfl⟩
def Den.Uu{t:ed}{v:af}{x:Value}(h:Den ρ (.iface t v) x):∃y,Den ρ v y/\x=.iface t y:=by cases h;exact⟨_,‹_›,rfl⟩
def Den.uf{cs:I af}{x:Value}(h:Den ρ (.agg cs) x):∃xs:I Value,aE ρ cs xs/\x=.agg xs.toArray:=by cases h;exact⟨_,‹_›,rfl⟩
def Den.Fg{cs:I af}{x:Value}(h:Den ρ (.tuple cs) x):∃xs:I Value,aE ρ cs xs/\x=.tuple xs.toArray:=by cases h;exact⟨_,‹_›,rfl⟩
def Den.cells{v:af}{x:Value}(h:Den ρ v x)(l:v.xP=ao):aE ρ v.cells x.cells.toList:=by
 cases h with
 |bot=>cases l
 |bh h g i f c j=>exact .cons (.bh h g i f c j) .nil
 |ff j=>exact .cons (.ff j) .nil
 |e9 h g i f c=>exact .cons (.e9 h g i f c) .nil
 |bZ h d c=>exact .cons (.bZ h d c) .nil
 |sy=>exact .cons .sy .nil
 |en h=>exact .cons (.en h) .nil
 |raw=>
  cases x with
  |agg cs=>simpa[af.cells,Value.cells,jE]using aE.ue cs.toList
  |_=>exact .cons (.raw _) .nil
 |agg h=>simpa[af.cells,Value.cells]using h
 |ptr h=>exact .cons (.ptr h) .nil
 |slice h d m=>exact .cons (.slice h d m) .nil
 |func h k=>exact .cons (.func h k) .nil
 |yield h=>exact .cons (.yield h) .nil
 |map h=>exact .cons (.map h) .nil
 |iface h=>exact .cons (.iface h) .nil
 |tuple h=>exact .cons (.tuple h) .nil
def Den.one{v:af}{x:Value}(h:Den ρ v x)(k:v.one=D):x.oneCell'=D:=by
 cases h with
 |raw=>cases x<;>first |rfl |(simp[af.one]at k)
 |agg h=>simp[af.one]at k
 |tuple h=>simp[af.one]at k
 |yield h=>simp[af.one]at k
 |bot=>simp[af.one]at k
 |_=>rfl
def M3{v:af}{l:I af}(h:co (v::l)=D):v.one=D/\co l=D:=by
 cases c:v.one with
 |false=>simp[co,c]at h
 |true=>simpa[co,c]using h
def aE.one:∀{vs:I af}{xs:I Value},aE ρ vs xs->co vs=D->∀x∈xs,x.oneCell'=D
 |_,_,.nil,_,x,h=>by simp at h
 |_,_,.cons f d,k,x,c=>by
  obtain⟨g,i⟩:=M3 k;rcases cQ.1 c with rfl |c
  .exact f.one g
  .exact aE.one d i x c
end
structure lC(ρ:Env)(T:au af)(n:E)(tmps:fh Value):Prop where
 size:tmps.size=n
 get:∀t,Den ρ ((T.get t).getD (.raw lk)) (tmps.getD t lk)
def lC.mono{ρ ρ':Env}(d:cR ρ ρ'){T:au af}{n:E}{c:fh Value}(h:lC ρ T n c):lC ρ' T n c:=
 ⟨h.size,λt=>(h.get t).mono d⟩
structure M4(ρ:Env)(r:E0)(R:Loop):Prop where
 state:R.state=r.state
 pending:R.pending=r.pending
 params:R.params=r.params
 assign:R.assign=r.assign
 body:R.body=r.body
 tmps:lC ρ r.tmps r.size R.tmps
def zM(P:fd)(ρ:Env)(i:E)(e:ed)(cs:I af)(exact cV:dF)(o:Obj):Prop:=
 ∃xs d,o=.cells xs e d/\(cV=ao->d=(0,0))/\aE ρ cs (xs.toList.take cs.length)/\(exact=D->xs.size=cs.length)/\
   (exact=ao->∃b c,ρ i=O (b,c)/\xs.size=c*P.cellsOf e)
def iZ(P:fd)(ρ:Env)(i:E):bn->Obj->Prop
 |.cells e cs exact cV _,o=>zM P ρ i e cs exact cV o
 |.own e t xs,o=>zM P ρ i e (t.flat xs) ao ao o/\P.cellsOf e=t.size/\1<=t.size
 |.map g d,o=>o=.map g d
 |.loop r,o=>∃R,o=.loop R/\M4 ρ r R
 |.deferred,o=>o=.deferred (O [])
 |.one j v,o=>∃x,o=.map #[{key:=j,val:=x,born:=0}] 1/\Den ρ v x
 |.iter i c f,o=>∃b q,ρ i=O (b,q)/\o=.mapIter (O b) c (match f with |true=> #[0]|false=> #[]) c
def zM.mono{P:fd}{ρ ρ':Env}(c:cR ρ ρ'){i:E}{e:ed}{cs:I af}{exact cV:dF}{o:Obj}(h:zM P ρ i e cs exact cV o):zM P ρ' i e cs exact cV o:=by
  obtain⟨xs,f,g,j,l,m,p⟩:=h;exact⟨xs,f,g,j,l.mono c,m,λu=>let ⟨b,d,q,s⟩:=p u;⟨b,d,c _ _ q,s⟩⟩
def iZ.mono{P:fd}{ρ ρ':Env}(f:cR ρ ρ'){i:E}{k:bn}{o:Obj}(h:iZ P ρ i k o):iZ P ρ' i k o:=by
 cases k with
 |cells e cs exact cV s=>exact zM.mono f h
 |own e t xs=>exact⟨zM.mono f h.1,h.2⟩
 |map m j=>exact h
 |loop r=>
  obtain⟨R,d,c⟩:=h;exact⟨R,d,c.state,c.pending,c.params,c.assign,c.body,c.tmps.mono f⟩
 |deferred=>exact h
 |one p v=>exact let ⟨x,d,c⟩:=h;⟨x,d,c.mono f⟩
 |iter i g l=>exact let ⟨b,q,d,c⟩:=h;⟨b,q,f _ _ d,c⟩
def bn.fq:bn->dF
 |.cells _ _ _ _ c=>c
 |_=>ao
structure bl(P:fd)(B:E)(ρ:Env)(H:ai)(w:du):Prop where
 blk:∀i k,H.get i=O k->∃b c o,ρ i=O (b,c)/\w.heap[b]? =O o/\iZ P ρ i k o/\(k.fq=ao->B<=b)
 inj:∀i j fu fI b ci cz,H.get i=O fu->H.get j=O fI->ρ i=O (b,ci)->ρ j=O (b,cz)->i=j
 lt:∀i k,H.get i=O k->i<H.next
 base:B<=w.heap.size
 fz:∀b A,ρ.fz b=O A->(∃e fr,w.heap[b]? =O (.cells A e fr))/\∀i k c,H.get i=O k->ρ i=O (b,c)->k.fq=D
def q8(ρ:Env)(H:ai)(b:E):Prop:=∃i k c,H.get i=O k/\ρ i=O (b,c)
def Own(ρ:Env)(H:ai)(b:E):Prop:=∃i k c,H.get i=O k/\k.fq=ao/\ρ i=O (b,c)
def Own.oA{ρ:Env}{H:ai}{b:E}(h:Own ρ H b):q8 ρ H b:=let ⟨i,k,c,d,_,f⟩:=h;⟨i,k,c,d,f⟩
structure bV(ρ:Env)(H:ai)(w:du)(ρ':Env)(H':ai)(w':du):Prop where
 le:cR ρ ρ'
 ext:∀i,i<H.next\/H'.next<=i->ρ' i=ρ i
 next:H.next<=H'.next
 size:w.heap.size<=w'.heap.size
 os:w'.os=w.os
 tape:w'.tape=w.tape
 output:w'.output=w.output
 frame:∀b,b<w.heap.size->¬Own ρ H b->w'.heap[b]? =w.heap[b]?
 own:∀b,b<w.heap.size->Own ρ' H' b->Own ρ H b
 oA:∀b,b<w.heap.size->q8 ρ' H' b->q8 ρ H b
 o8:∀b A,ρ'.fz b=O A->ρ.fz b=O A\/w.heap.size<=b\/Own ρ H b
def bV.refl(ρ:Env)(H:ai)(w:du):bV ρ H w ρ H w:=
 ⟨cR.refl _,λ_ _=>rfl,aC _,aC _,rfl,rfl,rfl,λ_ _ _=>rfl,λ_ _ h=>h,λ_ _ h=>h,λ_ _ h=>.inl h⟩
def bV.trans{ρ g j:Env}{H d f:ai}{w l m:du}(h:bV ρ H w g d l)(k:bV g d l j f m):bV ρ H w j f m where
 le:=h.le.trans k.le
 ext i hi:=by
  rcases hi with hi|hi
  .rw[k.ext i (.inl (iy hi h.next)),h.ext i (.inl hi)]
  .rw[k.ext i (.inr hi),h.ext i (.inr (cD k.next hi))]
 next:=cD h.next k.next
 size:=cD h.size k.size
 os:=k.os.trans h.os
 tape:=k.tape.trans h.tape
 output:=k.output.trans h.output
 frame b hb c:=by rw[k.frame b (iy hb h.size) (λp=>c (h.own b hb p)),h.frame b hb c]
 own b hb c:=h.own b hb (k.own b (iy hb h.size) c)
 oA b hb c:=h.oA b hb (k.oA b (iy hb h.size) c)
 o8 b A hb:=by
  rcases k.o8 b A hb with hb|hb
  .exact h.o8 b A hb
  .rcases hb with hb|hb
   .exact .inr (.inl (cD h.size hb))
   .by_cases q:b<w.heap.size
    .exact .inr (.inr (h.own b q hb))
    .exact .inr (.inl ω)
def bV.drew{ρ ρ':Env}{H H':ai}{w w':du}(h:bV ρ H w.drew ρ' H' w'):bV ρ H w ρ' H' w':=
 ⟨h.le,h.ext,h.next,h.size,h.os,h.tape,h.output,h.frame,h.own,h.oA,h.o8⟩
def bl.drew{P:fd}{B:E}{ρ:Env}{H:ai}{w:du}(h:bl P B ρ H w):bl P B ρ H w.drew:=⟨h.blk,h.inj,h.lt,h.base,h.fz⟩
def bV.below{P:fd}{B:E}{ρ ρ':Env}{H H':ai}{w w':du}(h:bV ρ H w ρ' H' w')(d:bl P B ρ H w):Below B w w':=
 ⟨h.os,h.tape,h.output,h.size,λk l=>h.frame k (iy l d.base) (λ⟨m,kk,p,g,i,j⟩=>by
   obtain⟨b,q,o,c,_,_,f⟩:=d.blk m kk g;rw[j]at c;cases c;exact absurd (f i) ω)⟩
def Fr(ρ:Env)(a b:E):Prop:=∀i,a<=i->i<b->ρ i=bs
def bl.at{P:fd}{B:E}{ρ:Env}{H:ai}{w:du}(h:bl P B ρ H w){i b c:E}{k:bn}(hi:H.get i=O k)(l:ρ i=O (b,c)):
  ∃o,w.heap[b]? =O o/\iZ P ρ i k o/\(k.fq=ao->B<=b):=by
 obtain⟨m,p,o,d,g,j,f⟩:=h.blk i k hi;rw[l]at d;cases d;exact⟨o,g,j,f⟩
def ai.gS(H:ai)(i j:E)(b:bn):(H.set i b).get j=if i=j then O b else H.get j:=au.gS H.m i j (O b)
def ai.qd(H:ai)(i j:E):(H.drop i).get j=if i=j then bs else H.get j:=au.gS H.m i j bs
def ai.iM(H:ai)(j:E)(b:bn):(H.new b).get j=if H.next=j then O b else H.get j:=au.gS H.m H.next j (O b)
def ai.ae6(H:ai)(i:E):(H.drop i).next=H.next:=rfl
def ai.M5(H:ai)(b:bn):(H.new b).next=H.next+1:=rfl
def Env.put(ρ:Env)(i b c:E):Env:=⟨λj=>if j=i then O (b,c)else ρ j,ρ.fz⟩
def Env.sA{ρ:Env}{i b c:E}(h:ρ i=bs):cR ρ (ρ.put i b c):=⟨λj x d=>by
 unfold Env.put;show(if j=i then O (b,c)else ρ j)=O x;split
 .rename_i e;subst e;rw[h]at d;cases d
 .exact d,λ_ _ h=>h⟩
def Env.eu(ρ:Env)(i b c:E):ρ.put i b c i=O (b,c):=by simp[Env.put]
variable{P:fd}{B:E}{ρ:Env}{H:ai}{w:du}
section
variable(Z:bl P B ρ H w)
def kw(d:Fr ρ H.next (H.next+1))(c:E)(k:bn)(o:Obj)(m:iZ P (ρ.put H.next w.heap.size c) H.next k o):
  bl P B (ρ.put H.next w.heap.size c) (H.new k) (w.alloc o)/\bV ρ H w (ρ.put H.next w.heap.size c) (H.new k) (w.alloc o):=by
 have f:ρ H.next=bs:=d H.next (aC _) (gR _);have M:cR ρ (ρ.put H.next w.heap.size c):=Env.sA f;have d:∀i k,H.get i=O k->i≠H.next:=λi k d=>E.ne_of_lt (Z.lt i k d)
 have U:∀i k b f,H.get i=O k->ρ i=O (b,f)->b<w.heap.size:=λi k b f d z=>by
  obtain⟨o,e,_⟩:=Z.at d z;exact(cy.1 e).1
 have p:∀i,i≠H.next->ρ.put H.next w.heap.size c i=ρ i:=λi d=>by simp[Env.put,d]
 have l:∀b C,(ρ.put H.next w.heap.size c).fz b=O C->(∃e K,(w.alloc o).heap[b]? =O (.cells C e K))/\∀i g f,(H.new k).get i=O g->ρ.put H.next w.heap.size c i=O (b,f)->g.fq=D:=λb C s=>by
  obtain⟨⟨e,K,j⟩,L⟩:=Z.fz b C s;have q:b<w.heap.size:=(cy.1 j).1;refine⟨⟨e,K,(I' w o b q).trans j⟩,λi g f d z=>?_⟩;rw[ai.iM]at d;split at d
  .rename_i e;subst e;rw[Env.eu]at z;cases z;omega
  .rename_i e;rw[p i (λx=>e x.symm)]at z;exact L i g f d z
 refine⟨⟨λi g d=>?_,λi G T S b W X d F A u=>?_,λi g d=>?_,by simp;exact E.le_succ_of_le Z.base,l⟩,⟨M,λi d=>?_,QZ _,by simp,rfl,rfl,rfl,λb s _=>?_,λb s Q=>?_,λb s Q=>?_,λ_ _ h=>.inl h⟩⟩
 .rw[ai.iM]at d;split at d
  .rename_i e;subst e;cases d;exact⟨w.heap.size,c,o,Env.eu ..,Sd w o,m,λ_=>Z.base⟩
  .obtain⟨b,f,z,q,m,l,V⟩:=Z.blk i g d;exact⟨b,f,z,M _ _ q,(I' w o b (cy.1 m).1).trans m,l.mono M,V⟩
 .rw[ai.iM]at d F;split at d<;>split at F
  .omega
  .rename_i q m;subst q;rw[Env.eu]at A;cases A;rw[p G (λe=>m e.symm)]at u;exact absurd (U G S _ _ F u) (YZ _)
  .rename_i m q;subst q;rw[Env.eu]at u;cases u;rw[p i (λe=>m e.symm)]at A;exact absurd (U i T _ _ d A) (YZ _)
  .rename_i q m;rw[p i (λe=>q e.symm)]at A;rw[p G (λe=>m e.symm)]at u;exact Z.inj i G T S b W X d F A u
 .rw[ai.iM]at d;split at d
  .rename_i e;subst e;exact gR _
  .exact E.lt_succ_of_lt (Z.lt i g d)
 .rw[ai.M5]at d;exact p i ω
 .exact I' w o b s
 .obtain⟨i,g,f,j,L,l⟩:=Q;rw[ai.iM]at j;split at j
  .rename_i e;subst e;rw[Env.eu]at l;cases l;exact absurd s (YZ _)
  .rename_i e;rw[p i (λJ=>e J.symm)]at l;exact⟨i,g,f,j,L,l⟩
 .obtain⟨i,g,f,j,l⟩:=Q;rw[ai.iM]at j;split at j
  .rename_i e;subst e;rw[Env.eu]at l;cases l;exact absurd s (YZ _)
  .rename_i e;rw[p i (λJ=>e J.symm)]at l;exact⟨i,g,f,j,l⟩
def xX{i b c:E}{p k:bn}(hi:H.get i=O p)(q:ρ i=O (b,c))(C:p.fq=ao)(w':du)(o:Obj)
  (F:w'.os=w.os) (S:w'.tape=w.tape) (L:w'.output=w.output) (U:w'.heap.size=w.heap.size) (s:w'.heap[b]? =O o) (M:∀j,j≠b->w'.heap[j]? =w.heap[j]?) (K:iZ P ρ i k o):
  bl P B ρ (H.set i k) w'/\bV ρ H w ρ (H.set i k) w':=by
 have Q:Own ρ H b:=⟨i,p,c,hi,C,q⟩;have u:∀d A,ρ.fz d=O A->(∃e G,w'.heap[d]? =O (.cells A e G))/\∀j g l,(H.set i k).get j=O g->ρ j=O (d,l)->g.fq=D:=λd A f=>by
  obtain⟨⟨e,G,m⟩,z⟩:=Z.fz d A f;have T:d≠b:=λe=>by
   have:=z i p c hi (e ▸ q);rw[C]at this;cases this
  refine⟨⟨e,G,(M d T).trans m⟩,λj g l f J=>?_⟩;rw[ai.gS]at f;split at f
  .rename_i e;subst e;rw[q]at J;cases J;exact absurd rfl T
  .exact z j g l f J
 refine⟨⟨λj g f=>?_,λj V G a0 d X J f a' T a1=>?_,λj g f=>?_,by rw[U];exact Z.base,u⟩,⟨cR.refl _,λ_ _=>rfl,aC _,uV U.symm,F,S,L,λd _ u=>M d (λe=>u (e ▸ Q)),λd _ u=>?_,λd _ u=>?_,λ_ _ h=>.inl h⟩⟩
 .rw[ai.gS]at f;split at f
  .rename_i e;subst e;cases f;obtain⟨_,_,_,F⟩:=Z.at hi q;exact⟨b,c,o,q,s,K,λ_=>F C⟩
  .rename_i e;obtain⟨d,l,K,Q,A,s,F⟩:=Z.blk j g f;refine⟨d,l,K,Q,?_,s,F⟩;rw[M d (λs=>e (Z.inj i j p g b c l hi f q (s ▸ Q)))];exact A
 .have S:∀x L,(H.set i k).get x=O L->∃W,H.get x=O W:=λx L K=>by
   rw[ai.gS]at K;split at K
   .rename_i e;subst e;exact⟨p,hi⟩
   .exact⟨L,K⟩
  obtain⟨_,q⟩:=S j G f;obtain⟨_,s⟩:=S V a0 a';exact Z.inj j V _ _ d X J q s T a1
 .rw[ai.gS]at f;split at f
  .rename_i e;subst e;exact Z.lt i p hi
  .exact Z.lt j g f
 .obtain⟨j,g,l,m,z,s⟩:=u;rw[ai.gS]at m;split at m
  .rename_i e;subst e;exact⟨i,p,l,hi,C,s⟩
  .exact⟨j,g,l,m,z,s⟩
 .obtain⟨j,g,l,m,s⟩:=u;rw[ai.gS]at m;split at m
  .rename_i e;subst e;exact⟨i,p,l,hi,s⟩
  .exact⟨j,g,l,m,s⟩
def ae8{i b c:E}{s:bn}(hi:H.get i=O s)(A:ρ i=O (b,c))(G:s.fq=ao)(w':du)
  (u:w'.os=w.os) (S:w'.tape=w.tape) (F:w'.output=w.output) (J:w'.heap.size=w.heap.size) (C:∀j,j≠b->w'.heap[j]? =w.heap[j]?):
  bl P B ρ (H.drop i) w'/\bV ρ H w ρ (H.drop i) w':=by
 have M:Own ρ H b:=⟨i,s,c,hi,G,A⟩;have l:∀j k,(H.drop i).get j=O k->i≠j/\H.get j=O k:=λj k f=>by
  rw[ai.qd]at f;split at f
  .cases f
  .rename_i h;exact⟨h,f⟩
 refine⟨⟨λj d f=>?_,λj K V q g Q W f p m z=>Z.inj j K _ _ g Q W (l j V f).2 (l K q p).2 m z,λj d f=>Z.lt j d (l j d f).2,by rw[J];exact Z.base,λg L z=>?_⟩,
  ⟨cR.refl _,λ_ _=>rfl,aC _,uV J.symm,u,S,F,λg _ q=>C g (λe=>q (e ▸ M)),λg _ q=>?_,λg _ q=>?_,λ_ _ h=>.inl h⟩⟩
 .obtain⟨g,m,p,F,T,U,M⟩:=Z.blk j d (l j d f).2;refine⟨g,m,p,F,?_,U,M⟩;rw[C g (λS=>(l j d f).1 (Z.inj i j s d b c m hi (l j d f).2 A (S ▸ F)))];exact T
 .obtain⟨⟨e,X,p⟩,u⟩:=Z.fz g L z;have z:g≠b:=λe=>by
   have:=u i s c hi (e ▸ A);rw[G]at this;cases this
  exact⟨⟨e,X,(C g z).trans p⟩,λj d m f s=>u j d m (l j d f).2 s⟩
 .obtain⟨j,d,m,p,u,z⟩:=q;exact⟨j,d,m,(l j d p).2,u,z⟩
 .obtain⟨j,d,m,p,z⟩:=q;exact⟨j,d,m,(l j d p).2,z⟩
def Uv(i:E):bl P B ρ (H.drop i) w/\bV ρ H w ρ (H.drop i) w:=by
 have g:∀j k,(H.drop i).get j=O k->H.get j=O k:=λj k c=>by
  rw[ai.qd]at c;split at c
  .cases c
  .exact c
 exact⟨⟨λj k c=>Z.blk j k (g j k c),λa b p q x s u z f=>Z.inj a b p q x s u (g a p z) (g b q f),λj k c=>Z.lt j k (g j k c),Z.base,λb A f=>⟨(Z.fz b A f).1,λj k d c C=>(Z.fz b A f).2 j k d (g j k c) C⟩⟩,
  ⟨cR.refl _,λ_ _=>rfl,aC _,aC _,rfl,rfl,rfl,λ_ _ _=>rfl,λb _ ⟨j,k,d,l,m⟩=>⟨j,k,d,g j k l,m⟩,λb _ ⟨j,k,d,l,m⟩=>⟨j,k,d,g j k l,m⟩,λ_ _ h=>.inl h⟩⟩
def ae9(d:Fr ρ H.next (H.next+1)){i b c:E}{z k:bn}(hi:H.get i=O z)(F:ρ i=O (b,c))(A:z.fq=ao)(w':du)(o:Obj)
  (T:w'.os=w.os) (a5:w'.tape=w.tape) (a4:w'.output=w.output) (K:w'.heap.size=w.heap.size) (a1:w'.heap[b]? =O o) (a':∀j,j≠b->w'.heap[j]? =w.heap[j]?) (a2:iZ P (ρ.put H.next b c) H.next k o):
  bl P B (ρ.put H.next b c) ((H.drop i).new k) w'/\bV ρ H w (ρ.put H.next b c) ((H.drop i).new k) w':=by
 have f:ρ H.next=bs:=d H.next (aC _) (gR _);have W:cR ρ (ρ.put H.next b c):=Env.sA f;have X:Own ρ H b:=⟨i,z,c,hi,A,F⟩;have s:∀j,j≠H.next->ρ.put H.next b c j=ρ j:=λj f=>by simp[Env.put,f]
 have u:∀j d,((H.drop i).new k).get j=O d->(j=H.next/\d=k)\/(j≠H.next/\j≠i/\H.get j=O d):=λj d f=>by
  rw[ai.iM,ai.qd,ai.ae6]at f;split at f
  .rename_i e;cases f;exact .inl ⟨e.symm,rfl⟩
  .rename_i e;split at f
   .cases f
   .rename_i J;exact .inr ⟨λx=>e x.symm,λx=>J x.symm,f⟩
 have L:∀g Q,(ρ.put H.next b c).fz g=O Q->(∃e V,w'.heap[g]? =O (.cells Q e V))/\∀j d m,((H.drop i).new k).get j=O d->ρ.put H.next b c j=O (g,m)->d.fq=D:=λg Q l=>by
  obtain⟨⟨e,V,p⟩,q⟩:=Z.fz g Q l;have l:g≠b:=λe=>by
   have:=q i z c hi (e ▸ F);rw[A]at this;cases this
  refine⟨⟨e,V,(a' g l).trans p⟩,λj d m f S=>?_⟩;rcases u j d f with⟨rfl,rfl⟩|⟨C,M,G⟩
  .rw[Env.eu]at S;cases S;exact absurd rfl l
  .rw[s j C]at S;exact q j d m G S
 refine⟨⟨λj d f=>?_,λj M U Q g V a0 f a3 C G=>?_,λj d f=>?_,by rw[K];exact Z.base,L⟩,⟨W,λj f=>s j ?_,QZ _,uV K.symm,T,a5,a4,λg _ L=>a' g (λe=>L (e ▸ X)),λg _ L=>?_,λg _ L=>?_,λ_ _ h=>.inl h⟩⟩
 .rcases u j d f with⟨rfl,rfl⟩|⟨p,q,l⟩
  .obtain⟨_,_,_,T⟩:=Z.at hi F;exact⟨b,c,o,Env.eu ..,a1,a2,λ_=>T A⟩
  .obtain⟨g,m,S,A,J,K,T⟩:=Z.blk j d l;refine⟨g,m,S,W _ _ A,?_,K.mono W,T⟩;rw[a' g (λS=>q (Z.inj j i d z g m c l hi A (S ▸ F)))];exact J
 .rcases u j U f with⟨rfl,rfl⟩|⟨p,q,l⟩<;>rcases u M Q a3 with⟨e,rfl⟩|⟨T,W,S⟩
  .exact e.symm
  .rw[Env.eu]at C;cases C;rw[s M T]at G;exact absurd (Z.inj M i Q z _ _ _ S hi G F) W
  .subst e;rw[Env.eu]at G;cases G;rw[s j p]at C;exact absurd (Z.inj j i U z _ _ _ l hi C F) q
  .rw[s j p]at C;rw[s M T]at G;exact Z.inj j M U Q g V a0 l S C G
 .rcases u j d f with⟨rfl,rfl⟩|⟨p,q,l⟩
  .exact gR _
  .exact E.lt_succ_of_lt (Z.lt j d l)
 .have:((H.drop i).new k).next=H.next+1:=rfl;rw[this]at f;omega
 .obtain⟨j,d,m,p,q,l⟩:=L;rcases u j d p with⟨rfl,rfl⟩|⟨A,J,K⟩
  .rw[Env.eu]at l;cases l;exact X
  .rw[s j A]at l;exact⟨j,d,m,K,q,l⟩
 .obtain⟨j,d,m,p,l⟩:=L;rcases u j d p with⟨rfl,rfl⟩|⟨A,J,K⟩
  .rw[Env.eu]at l;cases l;exact X.oA
  .rw[s j A]at l;exact⟨j,d,m,K,l⟩
end
end
section
open Go.RowKit
def aq.M6:∀(t:aq)(d:t.den),(t.cells d).length=t.size
 |.int _,_=>rfl
 |.bool,_=>rfl
 |.str,_=>rfl
 |.list _ _,_=>rfl
 |.pair a b,d=>by
   show(a.cells d.1++b.cells d.2).length=a.size+b.size;rw[fQ,a.M6,b.M6]
 |.ptr _,_=>rfl
 |.unit,_=>rfl
def aq.Cg(t:aq)(d:t.den)(xs:I t.den):t.flat (d::xs)=t.cells d++t.flat xs:=rfl
def aq.Fh(t:aq)(xs ys:I t.den):t.flat (xs++ys)=t.flat xs++t.flat ys:=by simp[aq.flat]
def aq.jF(t:aq):∀xs:I t.den,(t.flat xs).length=xs.length*t.size
 |[]=>by simp[aq.flat]
 |d::xs=>by rw[aq.Cg,fQ,t.M6,t.jF xs,la,E.succ_mul,E.add_comm]
def aq.Uw(t:aq)(xs:I t.den)(k:E)(h:k<xs.length):t.flat xs=t.flat (xs.take k)++(elemAt t xs k++t.flat (xs.drop (k+1))):=by
 have e:xs=xs.take k++xs.getD k t.dflt::xs.drop (k+1):=by
  have:xs.getD k t.dflt=xs[k]:=by simp[ap,h]
  rw[this];simp
 have:t.flat xs=t.flat (xs.take k++xs.getD k t.dflt::xs.drop (k+1)):=by rw[<-e]
 rw[this,aq.Fh,aq.Cg];rfl
def aq.Ux(t:aq)(xs:I t.den)(k:E)(h:k<xs.length):(t.flat (xs.take k)).length=k*t.size:=by
 rw[t.jF,er,ns (kt h)]
def Uy{P:fd}{T:ed}{pre mid post:I af}{off:E}{v:af}(h:lc P T mid off=O v):lc P T (pre++(mid++post)) (pre.length+off)=O v:=by
 unfold lc at h ⊢;cases f:lv P T with
 |no=>rw[f]at h;cases h
 |one=>
  rw[f]at h;simp only[Ce]at h ⊢;have i:off<mid.length:=by
   rcases E.lt_or_ge off mid.length with c|c
   .exact c
   .rw[JU c]at h;cases h
  rw[I.getElem?_append_right ω,show pre.length+off-pre.length=off by omega,I.getElem?_append_left i,h]
 |agg n=>
  rw[f]at h;simp only at h ⊢;cases d:dK (Sc off n) mid.length with
  |false=>rw[d]at h;cases h
  |true=>
   rw[d]at h;cases h;have j:off+n<=mid.length:=b5 d;have g:dK (Sc (pre.length+off) n) (pre++(mid++post)).length=D:=aw (by simp only[fQ];show pre.length+off+n<=_;omega);rw[g];show O (af.agg (cut (pre++(mid++post)) (pre.length+off) n))=_;congr 2;unfold cut;rw[Sj,pB ω,ts,show pre.length+off-pre.length=off by omega,Sj,Sn,show n-(mid.drop off).length=0 by simp;omega];simp
def Uz{P:fd}{T:ed}{t:aq}{xs:I t.den}{k off:E}{v:af}(c:k<xs.length)(h:lc P T (elemAt t xs k) off=O v):lc P T (t.flat xs) (k*t.size+off)=O v:=by
 rw[t.Uw xs k c];have:=Uy (pre:=t.flat (xs.take k)) (post:=t.flat (xs.drop (k+1))) h;rwa[t.Ux xs k c]at this
def Den.wj{ρ:Env}{z:dF}{t:aq}{xs:I t.den}{x:Value}(h:Den ρ (.bh z t xs) x):(xs=[]/\∃a k,x=.slice a 0 k/\(z=D->a=bs/\k=0))\/
  ∃b off k A,ρ.fz b=O A/\off+(t.flat xs).length<=A.size/\aE ρ (t.flat xs) ((A.toList.drop off).take (t.flat xs).length)/\xs.length<=k/\x=.slice (O ⟨b,off,bs⟩) xs.length k/\(z=D->xs≠[]):=by
 cases h with
 |bh h g i d f c=>subst i;exact .inr ⟨_,_,_,_,h,g,d,f,rfl,c⟩
 |ff c=>exact .inl ⟨rfl,_,_,rfl,c⟩
def Den.Ch{ρ:Env}{t:aq}{xs:I t.den}{k off:E}{x:Value}(h:Den ρ (.e9 t xs k off) x):∃b o A,ρ.fz b=O A/\o+(t.flat xs).length<=A.size/\aE ρ (t.flat xs) ((A.toList.drop o).take (t.flat xs).length)/\k<xs.length/\
  x=.pointer (O ⟨b,o+(k*t.size+off),bs⟩):=by
 cases h with
 |e9 h f g c d=>subst g;exact⟨_,_,_,h,f,c,d,rfl⟩
def Den.zN{ρ:Env}{e:ed}{t:aq}{i k off:E}{x:Value}(h:Den ρ (.en e t i k off) x):∃b c,ρ i=O (b,c)/\x=.pointer (O ⟨b,k*t.size+off,bs⟩):=by
 cases h with
 |en h=>exact⟨_,_,h,rfl⟩
def Den.kW{ρ:Env}{e:ed}{t:aq}{i k len:E}{cap:aY}{x:Value}(h:Den ρ (.bZ e t i k len cap) x):(len=0/\∃a,x=.slice a 0 0)\/∃b d c,ρ i=O (b,d)/\Cf cap d c/\len<=c/\x=.slice (O ⟨b,k*t.size,bs⟩) len c:=by
 cases h with
 |bZ h f g=>exact .inr ⟨_,_,_,h,f,g,rfl⟩
 |sy=>exact .inl ⟨rfl,_,rfl⟩
def aq.xY{ρ:Env}:∀(t:aq){l r:I af}{d:t.den}{ys:I Value},t.vW l=O (d,r)->aE ρ l ys->∃y1 y2,ys=y1++y2/\aE ρ (t.cells d) y1/\aE ρ r y2
 |.int k,l,r,d,ys,h,hd=>by
   change BW k l=_ at h;unfold BW at h;split at h
   .split at h
    .rename_i e;subst e;cases h;cases hd with |cons h1 h2=>exact⟨[_],_,rfl,.cons h1 .nil,h2⟩
    .cases h
   .cases h
 |.bool,l,r,d,ys,h,hd=>by
   change BX l=_ at h;unfold BX at h;split at h
   .cases h;cases hd with |cons h1 h2=>exact⟨[_],_,rfl,.cons h1 .nil,h2⟩
   .cases h
 |.str,l,r,d,ys,h,hd=>by
   change BZ l=_ at h;unfold BZ at h;split at h
   .cases h;cases hd with |cons h1 h2=>exact⟨[_],_,rfl,.cons h1 .nil,h2⟩
   .cases h
 |.list z t,l,r,d,ys,h,hd=>by
   change ME z t l=_ at h;unfold ME at h;split at h
   .rename_i z' t' xs r';split at h
    .rename_i e;subst e;cases hc:(!z||z'||dK 1 xs.length)with
     |false=>rw[hc]at h;cases h
     |true=>
      rw[hc]at h;cases h;cases hd with
      |cons h1 h2=>
       refine⟨[_],_,rfl,.cons ?_ .nil,h2⟩;rcases h1.wj with⟨rfl,a,k,rfl,hz⟩|⟨b,off,k,A,g1,g2,g3,g4,rfl,g5⟩
       .refine .ff λe=>hz ?_
        subst e;simpa using hc
       .refine .bh g1 g2 rfl g3 g4 λe hxs=>?_
        subst e;subst hxs;have:z'=D:=by simpa using hc
        exact g5 this rfl
    .cases h
   .cases h;cases hd with
    |cons h1 h2=>
     refine⟨[_],_,rfl,.cons ?_ .nil,h2⟩;rw[h1.cu];exact .ff λ_=>⟨rfl,rfl⟩
   .cases h
 |.pair a b,l,r,d,ys,h,hd=>by
   simp only[aq.vW]at h;cases ha:a.vW l with
   |none=>rw[ha]at h;cases h
   |some p=>
    obtain⟨x,l'⟩:=p;rw[ha]at h;simp only at h;cases hb:b.vW l' with
    |none=>rw[hb]at h;cases h
    |some q=>
     obtain⟨y,r'⟩:=q;rw[hb]at h;cases h;obtain⟨y1,y2,rfl,h1,h2⟩:=a.xY ha hd;obtain⟨y3,ID,rfl,h3,h4⟩:=b.xY hb h2;exact⟨y1++y3,ID,by simp,h1.append h3,h4⟩
 |.ptr t,l,r,d,ys,h,hd=>by
   change B0 t l=_ at h;unfold B0 at h;split at h
   .split at h
    .rename_i e;subst e;cases h;cases hd with
     |cons h1 h2=>exact⟨[_],_,rfl,.cons h1 .nil,h2⟩
    .cases h
   .cases h
 |.unit,l,r,d,ys,h,hd=>by
   cases h;exact⟨[],ys,rfl,.nil,hd⟩
def aq.afa{ρ:Env}{t:aq}{l:I af}{d:t.den}{ys:I Value}(h:t.read l=O d)(g:aE ρ l ys):aE ρ (t.cells d) ys:=by
 unfold aq.read at h;split at h
 .rename_i i he;cases h;obtain⟨j,m,rfl,c,f⟩:=t.xY he g;cases f;simpa using c
 .cases h
def aq.Ci{ρ:Env}{t:aq}:∀{n:E}{l:I af}{c:I t.den}{ys:I Value},t.qY n l=O c->aE ρ l ys->aE ρ (t.flat c) ys/\c.length=n
 |0,[],c,ys,h,d=>by cases h;cases d;exact⟨.nil,rfl⟩
 |0,_::_,c,ys,h,d=>by cases h
 |n+1,l,c,ys,h,d=>by
  have h:(match t.vW l with |some (f,r)=>(t.qY n r).map λc=>f::c|none=>bs)=O c:=by cases l<;>exact h
  split at h
  .rename_i f r he;simp only[am]at h;obtain⟨q,p,rfl⟩:=h;obtain⟨s,u,rfl,g,i⟩:=t.xY he d;obtain⟨j,m⟩:=aq.Ci p i;exact⟨by rw[aq.Cg];exact g.append j,by simp[m]⟩
  .cases h
section
variable{P:fd}{B:E}{ρ:Env}{H:ai}{w:du}
def M7(e:ed)(t:aq)(xs:I t.den):bu t (O (.own e t xs))=xs:=by simp[bu]
def xZ{e:ed}{t:aq}{b:da bn}{k:E}(h:bx e t b k=D):b=O (.own e t (bu t b))/\k<(bu t b).length:=by
 unfold bx at h;split at h
 .rename_i g i xs;rw[ae,ae]at h;obtain⟨c,d,f⟩:=h;have c:=ac c;have d:=cC d;subst c;subst d;rw[M7];exact⟨rfl,b5 f⟩
 .cases h
def afb{e:ed}{t:aq}{b:da bn}{n:E}{cap:aY}(h:mI e t b n cap=D):(b=bs/\n=0/\bu t b=[]/\cap=.known 0)\/(b=O (.own e t (bu t b))/\(bu t b).length=n/\cap=.full):=by
 unfold mI at h;split at h
 .rename_i i j xs;simp only[ae]at h;obtain⟨c,d,f,g⟩:=h;have c:=ac c;have d:=cC d;have f:=ac f;subst c;subst d;rw[M7];refine .inr ⟨rfl,f,?_⟩;cases cap<;>first |rfl |cases g
 .rw[ae]at h;refine .inl ⟨rfl,ac h.1,rfl,?_⟩;cases cap with
  |known m=>rw[ac h.2]
  |full=>cases h.2
  |any=>cases h.2
 .cases h
def a7(e:ed)(t:aq)(xs:I t.den):bu t (a8 e t xs)=xs:=by
 cases xs with
 |nil=>rfl
 |cons x l=>exact M7 e t _
def ph(e:ed)(t:aq)(xs:I t.den):mI e t (a8 e t xs) xs.length (bO xs.length)=D:=by
 cases xs with
 |nil=>rfl
 |cons x l=>simp[a8,mI,bO,aY.isFull]
def zO(a b:E):dK a b=bP (a<=b):=by
 cases h:dK a b with
 |true=>exact(ay (b5 h)).symm
 |false=>exact(ab λc=>by rw[aw c]at h;cases h).symm
section
variable(e:ed)(t:aq)(xs:I t.den)(k:E)
def eK:bx e t (a8 e t xs) k=bP (k<xs.length):=by
 cases xs with
 |nil=>simp[a8,bx]
 |cons x l=>simp only[a8,bx,zX,decide_true,py];exact zO _ _
def zP:bx e t (O (.own e t xs)) k=bP (k<xs.length):=by
 simp only[bx,zX,decide_true,py];exact zO _ _
end
def ug(z:bl P B ρ H w){i b c:E}{e:ed}{t:aq}{xs:I t.den}(hi:H.get i=O (.own e t xs))(g:ρ i=O (b,c)):
  ∃ys,w.heap[b]? =O (.cells ys e (0,0))/\aE ρ (t.flat xs) (ys.toList.take (t.flat xs).length)/\ys.size=c*P.cellsOf e/\(t.flat xs).length<=ys.size/\P.cellsOf e=t.size/\1<=t.size:=by
 obtain⟨o,s,u,_⟩:=z.at hi g;obtain⟨⟨ys,G,rfl,l,f,J,m⟩,p,q⟩:=u;have A:=l rfl;subst A;obtain⟨C,F,d,j⟩:=m rfl;rw[g]at d;cases d;refine⟨ys,s,f,j,?_,p,q⟩;have:=f.length;simp at this;omega
end
end
end Go.Proofs.YtdajfemhnlpegaaGreatDoor.Sv
namespace Go.Proofs.YtdajfemhnlpegaaGreatDoor.Sv
open Go.RowKit
def wk:Next->Value->Prop
 |.value v,x=>x=v
 |.skip,x=>x=lk
 |_,_=>lm
def dy(P:fd)(B:E)(ρ:Env)(H:ai)(w:du)(r:yE Next):aM->Prop
 |.no=>True
 |.ok v c=>Fr ρ H.next c.next->∃g x f i,r=.ok i f/\wk i x/\Den g v x/\bl P B g c f/\bV ρ H w g c f
 |.enter l d c=>c=H/\∃xs:I Value,r=.ok (.enter l xs.toArray) w/\aE ρ d xs
 |.round m d c=>c=H/\∃(b j:E)(xs:I Value),ρ m=O (b,j)/\r=(Instr.yield b xs.toArray).run P w/\aE ρ d xs
def qf{P:fd}{α:Type}:∀(s:PL α){a:α}(w:du),dZ P s=O a->s.run P w=.ok a w
 |.pure a,_,w,h=>by simp[dZ]at h;subst h;rfl
 |.program k,_,w,h=>by
   have:=qf (k P) w (by simpa[dZ]using h);simpa[Ü]using this
 |.mark m k,_,w,h=>by
   have:=qf k w (by simpa[dZ]using h);simpa[Ü]using this
 |.load ..,_,_,h=>by simp[dZ]at h
 |.store ..,_,_,h=>by simp[dZ]at h
 |.new ..,_,_,h=>by simp[dZ]at h
 |.shape ..,_,_,h=>by simp[dZ]at h
 |.freeze ..,_,_,h=>by simp[dZ]at h
 |.frozen ..,_,_,h=>by simp[dZ]at h
 |.getObj ..,_,_,h=>by simp[dZ]at h
 |.setObj ..,_,_,h=>by simp[dZ]at h
 |.choose ..,_,_,h=>by simp[dZ]at h
 |.sys ..,_,_,h=>by simp[dZ]at h
 |.halt ..,_,_,h=>by simp[dZ]at h
section
variable{P:fd}{B:E}{ρ:Env}{H:ai}{w:du}{r:yE Next}
def d9(i:bl P B ρ H w){x:da af}(h:∀v,x=O v->∃c y,r=.ok c w/\wk c y/\Den ρ v y):dy P B ρ H w r (ah H x):=by
 cases x with
 |none=>trivial
 |some v=>
  obtain⟨c,y,d,f,g⟩:=h v rfl;exact λ_=>⟨ρ,y,w,c,d,f,g,i,bV.refl _ _ _⟩
def gU(c:bl P B ρ H w){v:af}{y:Value}(h:r=.ok (.value y) w)(d:Den ρ v y):dy P B ρ H w r (.ok v H):=
 λ_=>⟨ρ,y,w,.value y,h,rfl,d,c,bV.refl _ _ _⟩
def pi{v:af}{i off:E}(h:jX v=.mk i off):v=.ptr i off:=by
 cases v<;>first |(cases h;rfl)|(simp[jX]at h)
def afc{v:af}{i off len:E}{cap:aY}(h:zz v=.mk i off len cap):v=.slice i off len cap:=by
 cases v<;>first |(cases h;rfl)|(simp[zz]at h)
def UA{v:af}{cs:I af}(h:tT v=O cs):v=.agg cs:=by
 cases v<;>first |(cases h;rfl)|(simp[tT]at h)
def afd{v:af}{cs:I af}(h:BV v=O cs):v=.tuple cs:=by
 cases v<;>first |(cases h;rfl)|(simp[BV]at h)
def afe{v:Value}{b:dF}(h:MD v=.mk b):v=.bool b:=by
 cases v<;>first |(cases h;rfl)|(simp[MD]at h)
def pj{v:af}{b:dF}(h:iX v=.mk b):v=.raw (.bool b):=by
 cases v<;>first |(rw[afe h])|(simp[iX]at h)
def aff{v:Value}{k:be}{n:N}(h:MC v=.int k n):v=.int k n:=by
 cases v<;>first |(cases h;rfl)|(simp[MC]at h)
def Cj{v:af}{k:be}{n:N}(h:jW v=.int k n):v=.raw (.int k n):=by
 cases v<;>first |(rw[aff h])|(simp[jW]at h)
def M8{n:N}{m:E}(h:xS n=.mk m):n=m:=by
 cases n<;>first |(cases h;rfl)|(simp[xS]at h)
def UB{v:af}{m:E}(h:p9 v=.mk m):∃k,v=.raw (.int k m):=by
 unfold p9 at h;cases c:jW v with
 |no=>rw[c]at h;cases h
 |int k n=>
  rw[c]at h;have:=M8 h;subst this;exact⟨k,Cj c⟩
def Fi{v:af}{m:E}(h:ow v=O m):∃k,v=.raw (.int k m):=by
 unfold ow at h;cases c:p9 v with
 |no=>rw[c]at h;cases h
 |mk n=>rw[c]at h;cases h;exact UB c
def UC{b:da bn}{e:ed}{cs:I af}{x f r:dF}(h:zp b=.mk e cs x f r):b=O (.cells e cs x f r):=by
 cases b with
 |none=>cases h
 |some b=>cases b<;>first |(cases h;rfl)|(simp[zp]at h)
def zQ{t:ed}{n:E}(h:eY P t=O n):∃i,P.info? t=O i/\i.size=n:=by
 simpa[eY,am]using h
def M9{t:ed}{z:Value}(h:ou P t=O z):∃i,P.info? t=O i/\i.zero=O z:=by
 simpa[ou,ep]using h
def zR{t e:ed}(h:nK P t=O e):P.underlying t=O (.slice e):=by
 unfold nK at h;split at h
 .rename_i c he;cases h;exact he
 .cases h
section
variable{t:ed}
def lD{n:E}(h:eY P t=O n)(w:du):(sizeOf t).run P w=.ok n w:=by
 obtain⟨i,c,rfl⟩:=zQ h;simp[sizeOf,typeInfo,c]
def Fj{z:Value}(h:ou P t=O z)(w:du):(zeroValue t).run P w=.ok z w:=by
 obtain⟨i,c,d⟩:=M9 h;simp[zeroValue,typeInfo,c,d]
def ec{d:TypeDesc}(h:P.underlying t=O d)(w:du):(Zi t).run P w=.ok d w:=by
 simp[Zi,h]
def IE{b:dF}(h:E1 P t=O b)(w:du):(isAgg t).run P w=.ok b w:=by
 simp only[E1,am]at h;obtain⟨d,c,rfl⟩:=h;unfold isAgg;simp only[nC,ec c,kL];cases d<;>rfl
def UD(h:lv P t=.one):E1 P t=O ao:=by
 unfold lv at h;split at h<;>first |assumption|(cases h)
def UE{n:E}(h:lv P t=.agg n):E1 P t=O D/\eY P t=O n:=by
 unfold lv at h;split at h
 .rename_i c d;cases h;exact⟨c,d⟩
 .cases h
 .cases h
def UF{n s:E}(h:p8 P t=.arr n s):∃e,P.underlying t=O (.array n e)/\eY P e=O s:=by
 unfold p8 at h;split at h
 .rename_i d e he;split at h
  .rename_i f c;cases h;exact⟨e,he,c⟩
  .cases h
 .split at h<;>cases h
 .cases h
def UG{s:E}(h:p8 P t=.sl s):∃e,P.underlying t=O (.slice e)/\eY P e=O s:=by
 unfold p8 at h;split at h
 .split at h<;>cases h
 .rename_i e he;split at h
  .rename_i d c;cases h;exact⟨e,he,c⟩
  .cases h
 .cases h
end
def Na{s:ed}{f off n:E}{t:ed}(h:fv P s f=.mk off n t):∃d c,P.underlying s=O (.struct d)/\d[f]? =O c/\c.offset=off/\c.type=t/\eY P t=O n:=by
 unfold fv at h;split at h
 .rename_i d j;split at h
  .rename_i c g;split at h
   .rename_i l i;cases h;exact⟨d,c,j,g,rfl,rfl,i⟩
   .cases h
  .cases h
 .cases h
def sB:Op->dF
 |.select .. =>ao
 |_=>D
def execOp_congr{e e':gn->Value}{o:ls}(C:sB o.op=D)(h:∀x∈o.op.operands.toList,e x=e' x):gy e o=gy e' o:=by
 obtain⟨J,F,M,L,G,guard⟩:=o;cases F with
 |call j=>
  obtain⟨m,i,q⟩:=j;have c:i.map e=i.map e':=by
   apply sW;intro x d;exact h x (by simp[gs,uX,d])
  cases m with
  |value f=>
   have g:=h f (by simp[gs,uX]);simp[gy,WK,c,g]
  |invoke f p=>
   have g:=h f (by simp[gs,uX]);simp[gy,WK,c,g]
  |builtin b=>simp[gy,WK,c]
 |go j=>
  obtain⟨m,i,q⟩:=j;have c:i.map e=i.map e':=by
   apply sW;intro x d;exact h x (by simp[gs,uX,d])
  cases m with
  |value f=>
   have g:=h f (by simp[gs,uX]);simp[gy,WK,c,g]
  |invoke f p=>
   have g:=h f (by simp[gs,uX]);simp[gy,WK,c,g]
  |builtin b=>simp[gy,WK,c]
 |defer j=>
  obtain⟨m,i,q⟩:=j;have c:i.map e=i.map e':=by
   apply sW;intro x d;exact h x (by simp[gs,uX,d])
  cases m with
  |value f=>
   have g:=h f (by simp[gs,uX]);simp[gy,WK,c,g]
  |invoke f p=>
   have g:=h f (by simp[gs,uX]);simp[gy,WK,c,g]
  |builtin b=>simp[gy,WK,c]
 |build t ps=>
  have c:(ps.map fun(l,x)=>(l,e x))=ps.map fun(l,x)=>(l,e' x):=by
   apply sW;intro x d;have:=h x.2 (by simp only[gs];exact sL (fh.mem_toList_iff.2 d));simp[this]
  simp[gy,c]
 |buildSlice t s ps=>
  have c:(ps.map fun(l,x)=>(l,e x))=ps.map fun(l,x)=>(l,e' x):=by
   apply sW;intro x d;have:=h x.2 (by simp only[gs];exact sL (fh.mem_toList_iff.2 d));simp[this]
  simp[gy,c]
 |makeFunc K f j=>
  have u:f.map e=f.map e':=sW λx d=>h x (by simp[gs,d])
  have z:j.map e=j.map e':=sW λx d=>h x (by simp[gs,d])
  simp[gy,u,z]
 |makeMap t r=>cases r<;>simp_all[gs,gy]
 |slice t x s A p=>cases s<;>cases A<;>cases p<;>simp_all[gs,gy]
 |select cs b=>cases C
 |_=>simp_all[gs,gy]
def afg{ev:eB}{e:gn->Value}(he:∀x,Den ρ (ev x) (e x)){x:gn}(h:(ev x).gh.isSome=D):tV ev x=e x:=by
 obtain⟨v,c⟩:=DF.1 h;rw[tV,c,(he x).gh c];rfl
def x4{o:ls}{ev:eB}{e:gn->Value}(he:∀x,Den ρ (ev x) (e x))(i:sB o.op=D){v:af}(h:gen P o ev=O v)(w:du):
  ∃f y,(gy e o).run P w=.ok f w/\wk f y/\Den ρ v y:=by
 unfold gen at h;cases c:(o.op.operands.toList.all λx=>(ev x).gh.isSome)with
 |false=>rw[c]at h;cases h
 |true=>
  rw[c]at h;have g:gy (tV ev) o=gy e o:=execOp_congr i λx j=>afg he (ky.1 c x j)
  simp only[ka,g]at h;split at h
  .rename_i y d;cases h;exact⟨_,y,qf _ w d,rfl,.raw y⟩
  .rename_i d;cases h;exact⟨_,lk,qf _ w d,rfl,.raw lk⟩
  .cases h
def ib{o:ls}{ev:eB}{e:gn->Value}(c:bl P B ρ H w)(he:∀x,Den ρ (ev x) (e x))(d:sB o.op=D):dy P B ρ H w ((gy e o).run P w) (ah H (gen P o ev)):=
 d9 c λ_ h=>x4 he d h w
variable{o:ls}{ev:eB}{e:gn->Value}
section
variable(Z:bl P B ρ H w)(he:∀x,Den ρ (ev x) (e x))
def afh{x:gn}(c:o.op=.move x):dy P B ρ H w ((gy e o).run P w) (tZ x P o ev H):=
 gU Z (y:=e x) (by simp[gy,c]) (he x)
def afi{x:gn}(c:o.op=.assign x):dy P B ρ H w ((gy e o).run P w) (tZ x P o ev H):=
 gU Z (y:=e x) (by simp[gy,c]) (he x)
def afj{c a b:gn}(f:o.op=.pick c a b):dy P B ρ H w ((gy e o).run P w) (qa c a b P o ev H):=by
 unfold qa;cases g:iX (ev c)with
 |no=>trivial
 |mk k=>
  have d:=he c;rw[pj g]at d;have d:=d.cu;cases k
  .exact gU Z (y:=e b) (by simp[gy,f,d,asBool]) (he b)
  .exact gU Z (y:=e a) (by simp[gy,f,d,asBool]) (he a)
def afk{x:gn}(i:o.op=.nilCheck x):dy P B ρ H w ((gy e o).run P w) (r8 x P o ev H):=by
 unfold r8;have c:=he x;cases q:jX (ev x)with
 |mk p off=>
  rw[pi q]at c;obtain⟨b,j,l,d⟩:=c.mK;exact gU Z (y:=e x) (by simp[gy,i,d]) c
 |no=>
  refine d9 Z λv f=>?_
  unfold MJ at f;split at f
  .rename_i u a b g;cases f;rw[g]at c;obtain⟨xs,ys,l,d,m⟩:=c.Ff;exact⟨_,e x,by simp[gy,i,m];rfl,by rw[m];rfl,c⟩
  .rename_i p g;cases f;rw[g]at c;obtain⟨b,j,l,d⟩:=c.M0;exact⟨_,e x,by simp[gy,i,d];rfl,by rw[d];rfl,c⟩
  .rename_i t xs k off g;cases f;rw[g]at c;obtain⟨b,z,A,_,_,_,_,d⟩:=c.Ch;exact⟨_,e x,by simp[gy,i,d];rfl,by rw[d];rfl,c⟩
  .rename_i s t p k off g;cases f;rw[g]at c;obtain⟨b,j,_,d⟩:=c.zN;exact⟨_,e x,by simp[gy,i,d];rfl,by rw[d];rfl,c⟩
  .exact x4 he (by simp[i,sB]) f w
def afl{fn:Fn}{a c:fh gn}(i:o.op=.makeFunc fn a c):dy P B ρ H w ((gy e o).run P w) (E7 fn a c P o ev H):=by
 have d:∀l:I gn,aE ρ (l.map ev) (l.map e):=λl=>by
  induction l with
  |nil=>exact .nil
  |cons x l j=>exact .cons (he x) j
 have h:=Den.func (fn:=fn) (d a.toList) (d c.toList);have f:(a.toList.map e).toArray=a.map e:=by apply Gt;simp
 have g:(c.toList.map e).toArray=c.map e:=by apply Gt;simp
 rw[f,g]at h;exact gU Z (by simp[gy,i,Instr.makeFunc]) h
def afm{t:ed}{x:gn}(i:o.op=.makeInterface t x):dy P B ρ H w ((gy e o).run P w) (ul t x P o ev H):=by
 refine d9 Z λv c=>?_
 unfold Ul at c;split at c
 .cases c
 .cases c
 .rename_i d f g;cases c;refine⟨.value (.iface t (e x)),.iface t (e x),?_,rfl,.iface (he x)⟩;simp only[gy,i,Instr.makeInterface,nC,ec g,kL];cases d<;>first |rfl |exact absurd rfl (f _)
end
def kq(b off n:E):(⟨b,off,bs⟩:wu).add n=⟨b,off+n,bs⟩:=by
 unfold wu.add;split
 .rename_i e;subst e;rfl
 .rfl
def UH{s t:ed}{x:gn}{f d n b c:E}(z:o.op=.fieldAddr s x f)(q:fv P s f=.mk d n t)(p:dK 1 n=D)(A:e x=.pointer (O ⟨b,c,bs⟩)):
  (gy e o).run P w=.ok (.value (.pointer (O ⟨b,c+d,bs⟩))) w:=by
 obtain⟨F,C,g,i,j,l,m⟩:=Na q;have u:n≠0:=by have:=b5 p;omega
 subst j;subst l;simp[gy,z,Instr.fieldAt,ec g,i,A,xx,fieldPlace,lD m,u,kq]
def afn(j:bl P B ρ H w){s t:ed}{x:gn}{f c n:E}{v:af}(m:o.op=.fieldAddr s x f)(l:fv P s f=.mk c n t)(p:Den ρ v (e x)):dy P B ρ H w ((gy e o).run P w) (lw c n v H):=by
 unfold lw;split
 .rename_i u xs k off;cases i:dK 1 n with
  |false=>trivial
  |true=>
   obtain⟨b,q,F,d,z,A,C,g⟩:=p.Ch;refine gU j (UH m l i g) ?_;rw[show q+(k*u.size+off)+c=q+(k*u.size+(off+c)) by omega];exact .e9 d z rfl A C
 .rename_i J u K k off;cases i:dK 1 n with
  |false=>trivial
  |true=>
   obtain⟨b,G,d,g⟩:=p.zN;refine gU j (UH m l i g) ?_;rw[E.add_assoc];exact .en d
 .trivial
def afo(g:bl P B ρ H w)(he:∀x,Den ρ (ev x) (e x)){s:ed}{x:gn}{f:E}(j:o.op=.fieldAddr s x f):dy P B ρ H w ((gy e o).run P w) (dk s x f P o ev H):=by
 unfold dk;cases i:fv P s f with
 |no=>trivial
 |mk d n t=>
  cases J:jX (ev x)with
  |no=>exact afn g j i (he x)
  |mk Q off=>
   cases c:dK 1 n with
   |false=>simp only[c];trivial
   |true=>
    simp only[c];have l:=he x;rw[pi J]at l;obtain⟨b,K,A,C⟩:=l.mK;obtain⟨M,L,m,p,q,u,z⟩:=Na i;have G:n≠0:=by have:=b5 c;omega
    have F:(⟨b,off,bs⟩:wu).add d=⟨b,off+d,bs⟩:=by
     unfold wu.add;split
     .rename_i e;subst e;rfl
     .rfl
    refine gU g (y:= .pointer (O ⟨b,off+d,bs⟩)) ?_ (.ptr A);subst q;subst u;simp[gy,j,Instr.fieldAt,ec m,p,C,xx,fieldPlace,lD z,G,F]
def sf{t:ed}{x d:gn}{k n s b c:E}{g:be}(m:o.op=.indexAddr t x d)(f:e d=.int g k)(p:p8 P t=.arr n s)(q:e x=.pointer (O ⟨b,c,bs⟩))(l:k<n):
  (gy e o).run P w=.ok (.value (.pointer (O ⟨b,c+k*s,bs⟩))) w:=by
 obtain⟨el,i,j⟩:=UF p;simp[gy,m,Tv,f,õ,ec i,q,xx,lD j,l,kq]
def UI{t:ed}{x d:gn}{k s len kk b c:E}{g:be}(m:o.op=.indexAddr t x d)(f:e d=.int g k)(p:p8 P t=.sl s)(q:e x=.slice (O ⟨b,c,bs⟩) len kk)(l:k<len):
  (gy e o).run P w=.ok (.value (.pointer (O ⟨b,c+k*s,bs⟩))) w:=by
 obtain⟨el,i,j⟩:=UG p;simp[gy,m,Tv,f,õ,ec i,q,lD j,l,kq]
section
variable(Z:bl P B ρ H w){t:ed}{x Y:gn}
def afp{k n s:E}{q:be}{v:af}(j:o.op=.indexAddr t x Y)(i:e Y=.int q k)(l:p8 P t=.arr n s)(m:Den ρ v (e x)):dy P B ρ H w ((gy e o).run P w) (xQ k n s v H):=by
 unfold xQ;split
 .rename_i u xs g off;cases f:dK (k+1) n with
  |false=>trivial
  |true=>
   obtain⟨b,p,F,c,z,A,C,d⟩:=m.Ch;refine gU Z (sf j i l d (b5 f)) ?_;rw[show p+(g*u.size+off)+k*s=p+(g*u.size+(off+k*s)) by omega];exact .e9 c z rfl A C
 .rename_i J u K g off;cases f:dK (k+1) n with
  |false=>trivial
  |true=>
   obtain⟨b,G,c,d⟩:=m.zN;refine gU Z (sf j i l d (b5 f)) ?_;rw[E.add_assoc];exact .en c
 .trivial
def afq{k s:E}{z:be}{v:af}(j:o.op=.indexAddr t x Y)(i:e Y=.int z k)(l:p8 P t=.sl s)(m:Den ρ v (e x)):dy P B ρ H w ((gy e o).run P w) (tS k s v H):=by
 unfold tS;split
 .rename_i S u xs;cases c:(dd u.size s&&dK (k+1) xs.length)with
  |false=>trivial
  |true=>
   rw[ae]at c;obtain⟨d,c⟩:=c;have d:=ac d;have c:k<xs.length:=b5 c;subst d;rcases m.wj with⟨rfl,_⟩|⟨b,off,kk,F,f,A,C,L,g,_⟩
   .simp at c
   .refine gU Z (UI j i l g c) ?_;rw[show off+k*u.size=off+(k*u.size+0) by omega];exact .e9 f A rfl C c
 .rename_i K u M p q J;cases c:(dd u.size s&&dK (k+1) q)with
  |false=>trivial
  |true=>
   rw[ae]at c;obtain⟨d,c⟩:=c;have d:=ac d;have c:k<q:=b5 c;subst d;rcases m.kW with⟨rfl,_⟩|⟨b,G,Q,f,_,_,g⟩
   .omega
   .refine gU Z (UI j i l g c) ?_;rw[show p*u.size+k*u.size=(p+k)*u.size+0 by rw[Gz];rfl];exact .en f
 .trivial
end
def afr(g:bl P B ρ H w)(he:∀x,Den ρ (ev x) (e x)){t:ed}{x l:gn}(i:o.op=.indexAddr t x l):dy P B ρ H w ((gy e o).run P w) (o7 t x l P o ev H):=by
 unfold o7;cases G:p9 (ev l)with
 |no=>trivial
 |mk k=>
  obtain⟨M,J⟩:=UB G;have d:=he l;rw[J]at d;have d:=d.cu;have f:=he x;cases j:p8 P t with
  |no=>trivial
  |arr n A=>
   cases z:jX (ev x)with
   |no=>exact afp g i d j f
   |mk K off=>
    cases c:dK (nX k) n with
    |false=>simp only[c];trivial
    |true=>
     simp only[c];have c:=b5 c;rw[pi z]at f;obtain⟨b,F,q,s⟩:=f.mK;obtain⟨el,m,p⟩:=UF j;refine gU g (y:= .pointer (O ⟨b,off+k*A,bs⟩)) ?_ (.ptr q);have u:k<n:=c;simp[gy,i,Tv,d,õ,ec m,s,xx,lD p,u,kq]
  |sl A=>
   cases z:zz (ev x)with
   |no=>exact afq g i d j f
   |mk K off C L=>
    cases c:dK (nX k) C with
    |false=>simp only[c];trivial
    |true=>
     simp only[c];have c:=b5 c;rw[afc z]at f;obtain⟨b,F,kk,q,_,_,s⟩:=f.jv;obtain⟨el,m,p⟩:=UG j;refine gU g (y:= .pointer (O ⟨b,off+k*A,bs⟩)) ?_ (.ptr q);have u:k<C:=c;simp[gy,i,Tv,d,õ,ec m,s,lD p,u,kq]
def UJ{t:ed}{cs:I af}{off:E}{v:af}(h:apart P t cs off=O v){xs:I Value}(g:aE ρ cs xs)(w:du):∃y,(ü t xs.toArray off).run P w=.ok y w/\Den ρ v y:=by
 unfold apart at h;cases c:lv P t with
 |no=>rw[c]at h;cases h
 |one=>
  rw[c]at h;simp only[Ce]at h;obtain⟨y,d,f⟩:=g.get h;refine⟨y,?_,f⟩;simp[ü,IE (UD c),d]
 |agg n=>
  rw[c]at h;cases h;refine⟨.agg ((xs.drop off).take n).toArray,?_,.agg ((g.drop off).take n)⟩;obtain⟨d,f⟩:=UE c;have i:((xs.drop off).take n).toArray=xs.toArray.extract off (off+n):=by apply Gt;simp
  rw[i];simp[ü,IE d,lD f]
section
variable(Z:bl P B ρ H w)(he:∀x,Den ρ (ev x) (e x))
def afs{t:ed}{x:gn}{f:E}(c:o.op=.field t x f):dy P B ρ H w ((gy e o).run P w) (r9 t x f P o ev H):=by
 unfold r9;cases q:tT (ev x)with
 |none=>exact ib Z he (by simp[c,sB])
 |some cs=>
  have d:=he x;rw[UA q]at d;obtain⟨xs,m,p⟩:=d.uf;cases s:fv P t f with
  |no=>trivial
  |mk K n G=>
   refine d9 Z λv u=>?_
   obtain⟨F,C,g,i,j,l,J⟩:=Na s;subst j;subst l;obtain⟨y,z,A⟩:=UJ u m w;exact⟨.value y,y,by simp[gy,c,Instr.field,ec g,i,p,asAgg,z],rfl,A⟩
def aft{t:ed}{x g:gn}(i:o.op=.index t x g):dy P B ρ H w ((gy e o).run P w) (oz t x g P o ev H):=by
 unfold oz;cases p:tT (ev x)with
 |none=>exact ib Z he (by simp[i,sB])
 |some cs=>
  have j:=he x;rw[UA p]at j;obtain⟨xs,l,m⟩:=j.uf;refine d9 Z λv c=>?_
  unfold Um at c;split at c
  .rename_i n el A;simp only[ep]at c;obtain⟨k,q,J,z,c⟩:=c;obtain⟨G,s⟩:=Fi q;have f:=he g;rw[s]at f;have f:=f.cu;cases d:dK (k+1) n with
   |false=>rw[d]at c;cases c
   |true=>
    rw[d]at c;have d:=b5 d;obtain⟨y,C,F⟩:=UJ c l w;have u:k<n:=d;exact⟨.value y,y,by simp[gy,i,Instr.index,f,õ,ec A,m,u,lD z,C],rfl,F⟩
  .cases c
def afu{x:gn}{i:E}(c:o.op=.extract x i):dy P B ρ H w ((gy e o).run P w) (sg x i P o ev H):=by
 unfold sg;cases l:BV (ev x)with
 |none=>exact ib Z he (by simp[c,sB])
 |some cs=>
  have f:=he x;rw[afd l]at f;obtain⟨xs,g,j⟩:=f.Fg;refine d9 Z λv d=>?_
  rw[Ce]at d;obtain⟨y,m,p⟩:=g.get d;exact⟨.value y,y,by simp[gy,c,Instr.extract,j,m],rfl,p⟩
end
end
section
variable{P:fd}{B:E}{ρ:Env}{H:ai}{w:du}{o:ls}{ev:eB}{e:gn->Value}
def wm{a b:E}(h:a≠b):dd a b=ao:=by
 cases c:dd a b with
 |false=>rfl
 |true=>exact absurd (ac c) h
def afv(c:I1)(t:ed)(x y:gn)(a b:Value)(f:∀cs d,a=.agg cs->b=.agg d->lm)(g:a=.nilIface->b=.nilIface->lm)(w:du):(Q1 c t x y a b).run P w=.ok () w:=by
 unfold Q1;cases c<;>first |rfl |(cases a<;>first |rfl |(cases b<;>first |rfl |exact(f _ _ rfl rfl).elim|exact(g rfl rfl).elim))
def Nb{c:I1}{t ag:ed}{x y:gn}(l:o.op=.binOp c t x y ag){a b:Value}(i:e x=a)(j:e y=b)(f:∀cs d,a=.agg cs->b=.agg d->lm)(g:a=.nilIface->b=.nilIface->lm)
  {v:Value} (h:(Gx c t a b).run P w=.ok v w):(gy e o).run P w=.ok (.value v) w:=by
 subst i;subst j;simp[gy,l,afv c t x y _ _ f g,h]
def Nc{n:E}{v:af}(h:small n=O v):n<9223372036854775808/\v=.raw (.int .i64 n):=by
 unfold small at h;cases c:dK (nX n) 9223372036854775808 with
 |false=>rw[c]at h;cases h
 |true=>rw[c]at h;cases h;exact⟨b5 c,rfl⟩
def UK{k:be}(h:E6 k=D):k=.i64:=by cases k<;>first |rfl |cases h
def afw{g:I1}{m n:E}{v:af}(h:B7 g m n=O v)(t:ed)(w:du):∃y,v=.raw y/\(Gx g t (.int .i64 m) (.int .i64 n)).run P w=.ok y w:=by
 have d:∀b:dF,∀y,(O (af.raw (.bool b))=O y)->y=.raw (.bool b):=λb y h=>by cases h;rfl
 cases g
 case add=>
  obtain⟨i,rfl⟩:=Nc h;refine⟨_,rfl,?_⟩;have e:be.i64.wrap ((m:N)+n)=((Sc m n:E):N):=by
   rw[Y' _ (by have:Sc m n=m+n:=rfl;omega)];rfl
  simp[Gx,ô,e]
 case sub=>
  have j:B7 .sub m n=@jh (λ_=>da af) bs (small (Hq m n)) (dK n m):=rfl;rw[j]at h;cases d:dK n m with
  |false=>rw[d]at h;cases h
  |true=>
   rw[d]at h;have p:=b5 d;obtain⟨i,rfl⟩:=Nc h;refine⟨_,rfl,?_⟩;have l:Hq m n=m-n:=rfl;have e:be.i64.wrap ((m:N)-n)=((Hq m n:E):N):=by
    rw[Y' _ ω];omega
   simp[Gx,ô,e]
 case eql=>
  refine⟨_,d _ _ h,?_⟩;simp only[Gx,P',ne_eq,Gy,á,oP];congr 2;by_cases c:m=n
  .subst c;simp
  .rw[wm c];simp;omega
 case neq=>
  refine⟨_,d _ _ h,?_⟩;simp only[Gx,P',ne_eq,Gy,á,oP];congr 2;by_cases c:m=n
  .subst c;simp
  .rw[wm c];simp[bne];omega
 case lss=>
  refine⟨_,d _ _ h,?_⟩;simp only[Gx,P',ne_eq,Gy,á,oP];congr 2;by_cases c:m<n
  .rw[aw c];simpa using c
  .rw[show dK (nX m) n=ao from wz.2 λf=>c (b5 f)];simpa using c
 case leq=>
  refine⟨_,d _ _ h,?_⟩;simp only[Gx,P',ne_eq,Gy,á,oP];congr 2;by_cases c:m<=n
  .rw[aw c];simpa using c
  .rw[show dK m n=ao from wz.2 λf=>c (b5 f)];simpa using c
 case gtr=>
  refine⟨_,d _ _ h,?_⟩;simp only[Gx,P',ne_eq,Gy,á,oP];congr 2;by_cases c:n<m
  .rw[aw c];simpa using c
  .rw[show dK (nX n) m=ao from wz.2 λf=>c (b5 f)];simpa using c
 case geq=>
  refine⟨_,d _ _ h,?_⟩;simp only[Gx,P',ne_eq,Gy,á,oP];congr 2;by_cases c:n<=m
  .rw[aw c];simpa using c
  .rw[show dK n m=ao from wz.2 λf=>c (b5 f)];simpa using c
 all_goals (exact absurd (show(bs:da af)=O v from h) τ)
def afx{c:I1}{k:be}{a b:N}{v:Value}(h:vY P c k a b=O v)(t:ed)(w:du):(Gx c t (.int k a) (.int k b)).run P w=.ok v w:=by
 unfold vY at h;cases c<;>first
  |(have:=qf _ w h;simpa[Gx]using this)
  |cases h
def afy{t:ed}{x y:af}{b:dF}(h:zr P t x y=O b):∃i off c el n,x=.ptr i off/\y=.ptr i c/\P.underlying t=O (.pointer el)/\eY P el=O (n+1)/\b=dd off c:=by
 unfold zr at h;split at h
 .rename_i i off j c;split at h
  .rename_i el g;split at h
   .rename_i n f;cases d:dd i j with
    |false=>rw[d]at h;cases h
    |true=>
     rw[d]at h;cases h;have:=ac d;subst this;exact⟨i,off,c,el,n,rfl,rfl,g,f,rfl⟩
   .cases h
  .cases h
 .cases h
def afz(b off c:E):((⟨b,off,bs⟩:wu)==⟨b,c,bs⟩)=dd off c:=by
 by_cases h:off=c
 .subst h;rw[Kr];exact(zX off).symm
 .rw[wm h];exact beq_false_of_ne λd=>h (by cases d;rfl)
section
variable{t el:ed}{n:E}(Z:P.underlying t=O (.pointer el))
def afA(f:eY P el=O (n+1))(b off c:E)(w:du)(d:E):
  (sM (d+1) t (.pointer (O ⟨b,off,bs⟩)) (.pointer (O ⟨b,c,bs⟩))).run P w=.ok (dd off c) w:=by
 simp only[sM,nC,ec Z,kL,lD f];rw[dA ω];unfold sameAddr;simp only[Kr,if_true,afz];rfl
def pk(d:eY P el=O (n+1))(b off c:E)(w:du):
  (Gu t (.pointer (O ⟨b,off,bs⟩)) (.pointer (O ⟨b,c,bs⟩))).run P w=.ok (dd off c) w:=afA Z d b off c w 9999
end
def afB{t:ed}{i off:E}(h:ov P t (.ptr i off)=D):∃el,P.underlying t=O (.pointer el):=by
 simp only[ov]at h;split at h
 .exact⟨_,‹_›⟩
 .cases h
def afC{t:ed}{i off len:E}{cap:aY}(h:ov P t (.slice i off len cap)=D):∃el,P.underlying t=O (.slice el):=by
 simp only[ov]at h;split at h
 .exact⟨_,‹_›⟩
 .cases h
def afD{t:ed}{f:Fn}{a b:I af}(h:ov P t (.func f a b)=D):∃x y z,P.underlying t=O (.func x y z):=by
 simp only[ov]at h;split at h
 .exact⟨_,_,_,‹_›⟩
 .cases h
def afE{t u:ed}{v:af}(h:ov P t (.iface u v)=D):∃c,P.underlying t=O (.interface c):=by
 simp only[ov]at h;split at h
 .exact⟨_,‹_›⟩
 .cases h
def afF{t:ed}{i:E}(h:ov P t (.map i)=D):∃k v,P.underlying t=O (.map k v):=by
 simp only[ov]at h;split at h
 .exact⟨_,_,‹_›⟩
 .cases h
def Value.hU:Value->dF
 |.pointer _|.slice .. |.func .. |.nilFunc|.iface .. |.map _=>D
 |_=>ao
section
variable{t:ed}{a b:Value}(h:Value.hU a=D\/Value.hU b=D)
def afG:Gx .eql t a b=(do pure (.bool (<-Gu t a b))):=by
 cases a<;>first |rfl |(cases b<;>first |rfl |(rcases h with h|h<;>cases h))
def afH:Gx .neq t a b=(do pure (.bool (!(<-Gu t a b)))):=by
 cases a<;>first |rfl |(cases b<;>first |rfl |(rcases h with h|h<;>cases h))
end
def UL{t:ed}{x y:af}(i:ov P t x=D)(j:sameKind x y=D){a b:Value}(f:Den ρ x a)(g:Den ρ y b)(w:du)(d:E):
  (sM (d+1) t a b).run P w=.ok ao w/\(sM (d+1) t b a).run P w=.ok ao w/\Value.hU a=D/\a≠ .nilIface:=by
 unfold sameKind at j;split at j
 .obtain⟨el,c⟩:=afB i;obtain⟨l,m,_,rfl⟩:=f.mK;have:=g.cu;subst this;simp[sM,ec c,Value.hU]
 .obtain⟨el,c⟩:=afC i;obtain⟨l,m,k,_,_,_,rfl⟩:=f.jv;have:=g.cu;subst this;simp[sM,ec c,Value.hU]
 .obtain⟨_,_,_,c⟩:=afD i;obtain⟨xs,ys,_,_,rfl⟩:=f.Ff;have:=g.cu;subst this;simp[sM,ec c,Value.hU]
 .obtain⟨_,c⟩:=afE i;obtain⟨y,_,rfl⟩:=f.Uu;have:=g.cu;subst this;simp[sM,ec c,Value.hU]
 .obtain⟨_,_,c⟩:=afF i;obtain⟨l,m,_,rfl⟩:=f.xW;have:=g.cu;subst this;simp[sM,ec c,Value.hU]
 .cases j
def UM{v:af}{p:N×N}(h:It v=O p){z:Value}(g:Den ρ v z):z=.agg #[.int .i64 p.1,.int .i64 p.2]:=by
 unfold It at h;split at h
 .cases h;obtain⟨xs,c,rfl⟩:=g.uf;cases c with
  |cons c d=>
   cases d with
   |cons d f=>
    cases f;rw[c.cu,d.cu]
 .cases h
def UN{t:ed}{x y:af}{b:dF}(h:Iu P t x y=O b){j l:Value}(g:Den ρ x j)(i:Den ρ y l)(w:du)(d:E):P.plainKey t=D/\(sM (d+1) t j l).run P w=.ok b w:=by
 unfold Iu at h;split at h
 .split at h
  .rename_i f;cases c:P.plainKey t with
   |false=>rw[c]at h;cases h
   |true=>rw[c]at h;cases h;rw[g.cu,i.cu];exact⟨rfl,Ý w d t .i64 .i64 _ _ f⟩
  .cases h
 .split at h
  .rename_i f;cases c:P.plainKey t with
   |false=>rw[c]at h;cases h
   |true=>rw[c]at h;cases h;rw[g.cu,i.cu];exact⟨rfl,run_equalIn_string w d t _ _ f⟩
  .cases h
 .cases h
def UO{a b:af}{z:Value}(h:Den ρ (.agg [a,b]) z):∃x y,z=.agg #[x,y]/\Den ρ a x/\Den ρ b y:=by
 obtain⟨xs,c,rfl⟩:=h.uf;cases c with
 |cons c d=>
  cases d with
  |cons d f=>
   cases f;exact⟨_,_,rfl,c,d⟩
section
variable{t:ed}{x y:af}{b:dF}
def afI(h:MK P t x y=O b){q s:Value}(T:Den ρ x q)(U:Den ρ y s)(w:du):
  (∃xs,q=.agg xs)/\(∃ys,s=.agg ys)/\P.eqGuardType P.depth t=ao/\(Gu t q s).run P w=.ok b w:=by
 unfold MK at h;split at h
 .rename_i c d f d1;split at h
  .rename_i L C;split at h
   .rename_i f g G;cases l:(f.name != "_" &&(g.name != "_" &&(dd f.offset 0&&(dd g.offset 1&&(!P.eqGuardType P.depth t&& !P.stoodInHeld t)))))with
    |false=>rw[l]at h;cases h
    |true=>
     rw[l]at h;simp only[ae,Gp,eX]at l;obtain⟨s,n2,m,p,J,K⟩:=l;have m:=ac m;have p:=ac p;simp only[ka]at h;split at h
     .rename_i a' a0 Q S;cases h;obtain⟨c,d,rfl,W,X⟩:=UO T;obtain⟨i,j,rfl,l,q⟩:=UO U;obtain⟨u,T⟩:=UN Q W l w 9998;obtain⟨z,F⟩:=UN S X q w 9998;refine⟨⟨_,rfl⟩,⟨_,rfl⟩,J,?_⟩;have A:P.fieldsOf t=L:=by unfold fd.fieldsOf;rw[C]
      have h:=run_equalIn_struct w 9999 t #[c,d] #[i,j] (by rw[A];exact C) K;have M:(Gu t (.agg #[c,d]) (.agg #[i,j])).run P w=_:=h;rw[M,A,G];have V:(ü f.type #[c,d] f.offset).run P w=.ok c w:=yN w u (by rw[m];rfl);have l:(ü g.type #[c,d] g.offset).run P w=.ok d w:=yN w z (by rw[p];rfl);have c:(ü f.type #[i,j] f.offset).run P w=.ok i w:=yN w u (by rw[m];rfl);have d:(ü g.type #[i,j] g.offset).run P w=.ok j w:=yN w z (by rw[p];rfl);cases a'<;>cases a0<;>simp[Op.eqFields,s,n2,nC,V,l,c,d,T,F]
     .cases h
   .cases h
  .cases h
 .cases h
def afK(h:ML P t x y=O b){f g:Value}(S:Den ρ x f)(T:Den ρ y g)(w:du):
  (∃xs,f=.agg xs)/\(∃ys,g=.agg ys)/\P.eqGuardType P.depth t=ao/\(Gu t f g).run P w=.ok b w:=by
 unfold ML at h;split at h
 .rename_i p q K L;split at h
  .rename_i n e Q;split at h
   .rename_i j;cases d:(dd n 2&&(!P.eqGuardType P.depth t&&(P.plainKey e&&(dd (P.cellsOf e) 1&&(P.info? e).isSome))))with
    |false=>rw[d]at h;cases h
    |true=>
     rw[d]at h;cases h;simp only[ae,Gp]at d;obtain⟨m,s,c,u,z⟩:=d;have J:n=2:=ac m;subst J;have G:=ac u;obtain⟨d,V⟩:=DF.1 z;rw[UM K S,UM L T];refine⟨⟨_,rfl⟩,⟨_,rfl⟩,s,?_⟩;have h:=run_equalIn_array (w:=w) 9999 #[.int .i64 p.1,.int .i64 p.2] #[.int .i64 q.1,.int .i64 q.2] Q V;have C:(Gu t (.agg #[.int .i64 p.1,.int .i64 p.2]) (.agg #[.int .i64 q.1,.int .i64 q.2])).run P w=_:=h;rw[C,G];have M:I.range 2=[0,1]:=rfl;rw[M];have U:(ü e #[.int .i64 p.1,.int .i64 p.2] (0*1)).run P w=.ok (.int .i64 p.1) w:=yN w c rfl;have W:(ü e #[.int .i64 p.1,.int .i64 p.2] (1*1)).run P w=.ok (.int .i64 p.2) w:=yN w c rfl;have X:(ü e #[.int .i64 q.1,.int .i64 q.2] (0*1)).run P w=.ok (.int .i64 q.1) w:=yN w c rfl;have d:(ü e #[.int .i64 q.1,.int .i64 q.2] (1*1)).run P w=.ok (.int .i64 q.2) w:=yN w c rfl;have l:(sM 9999 e (.int .i64 p.1) (.int .i64 q.1)).run P w=.ok (p.1==q.1) w:=Ý w 9998 e .i64 .i64 p.1 q.1 j;have i:(sM 9999 e (.int .i64 p.2) (.int .i64 q.2)).run P w=.ok (p.2==q.2) w:=Ý w 9998 e .i64 .i64 p.2 q.2 j;cases A:(p.1==q.1)<;>cases F:(p.2==q.2)<;>rw[A]at l<;>rw[F]at i<;>simp[Op.eqItems,nC,U,W,X,d,l,i]
   .cases h
  .cases h
 .cases h
def afL(h:MM P t x y=O b){c d:Value}(f:Den ρ x c)(g:Den ρ y d)(w:du):
  (∃xs,c=.agg xs)/\(∃ys,d=.agg ys)/\P.eqGuardType P.depth t=ao/\(Gu t c d).run P w=.ok b w:=by
 unfold MM at h;split at h
 .rename_i j i;cases h;exact afI i f g w
 .exact afK h f g w
end
def afM{v:af}{b:dF}(h:MN v=O b){z:Value}(g:Den ρ v z):∃a n k,z=.slice a n k/\(b=D->a=bs/\n=0/\k=0)/\(b=ao->∃q,a=O q):=by
 unfold MN at h;split at h
 .cases h;cases g with
  |bh c i j l m f=>exact⟨_,_,_,rfl,λd=>absurd (I.isEmpty_iff.1 d) (f rfl),λ_=>⟨_,rfl⟩⟩
  |ff c=>exact⟨_,_,_,rfl,λ_=>⟨(c rfl).1,rfl,(c rfl).2⟩,λd=>by cases d⟩
 .cases h
def afN{v:af}(h:Iv v=D){z:Value}(c:Den ρ v z):z=.slice bs 0 0:=by
 unfold Iv at h;split at h
 .exact c.cu
 .cases h
def afO{t:ed}{x y:af}{b:dF}(h:MO P t x y=O b){c i:Value}(p:Den ρ x c)(q:Den ρ y i)(w:du)(d:E):
  (sM (d+1) t c i).run P w=.ok b w/\Value.hU c=D/\(∃a n k,c=.slice a n k):=by
 unfold MO at h;split at h
 .rename_i s m;split at h
  .rename_i el g;cases f:Iv y with
   |false=>rw[f]at h;cases h
   |true=>
    rw[f]at h;cases h;have:=afN f q;subst this;obtain⟨a,n,k,rfl,j,l⟩:=afM m p;cases b with
    |true=>
     obtain⟨rfl,rfl,rfl⟩:=j rfl;refine⟨?_,?_,_,_,_,rfl⟩
     .simp[sM,ec g]
     .simp[Value.hU]
    |false=>
     obtain⟨u,rfl⟩:=l rfl;refine⟨?_,?_,_,_,_,rfl⟩
     .simp[sM,ec g]
     .simp[Value.hU]
  .cases h
 .cases h
section
variable{t ag:ed}{x y:gn}{want:dF}
def afP(c:o.op=.binOp (if want then .eql else .neq) t x y ag){xs ys:fh Value}(l:e x=.agg xs)(m:e y=.agg ys)(p:P.eqGuardType P.depth t=ao){b:dF}(i:(Gu t (.agg xs) (.agg ys)).run P w=.ok b w):
  (gy e o).run P w=.ok (.value (.bool (b==want))) w:=by
 have j:∀g,(Q1 g t x y (.agg xs) (.agg ys)).run P w=.ok () w:=λg=>run_eqGuard_agg w g t x y xs ys p
 cases want
 .have d:Gx .neq t (.agg xs) (.agg ys)=(do pure (.bool (!(<-Gu t (.agg xs) (.agg ys))))):=rfl;have f:(Gx .neq t (.agg xs) (.agg ys)).run P w=.ok (.bool (!b)) w:=by
   rw[d];simp only[nC,i,kL,oP]
  have c:o.op=.binOp .neq t x y ag:=c;simp[gy,c,l,m,j,f]
 .have d:Gx .eql t (.agg xs) (.agg ys)=(do pure (.bool (<-Gu t (.agg xs) (.agg ys)))):=rfl;have f:(Gx .eql t (.agg xs) (.agg ys)).run P w=.ok (.bool b) w:=by
   rw[d];simp only[nC,i,kL,oP]
  have c:o.op=.binOp .eql t x y ag:=c;simp[gy,c,l,m,j,f]
def UQ(he:∀x,Den ρ (ev x) (e x))(G:o.op=.binOp (if want then .eql else .neq) t x y ag){v:af}(h:E5 P o ev t want (ev x) (ev y)=O v)(w:du):
  ∃l z,(gy e o).run P w=.ok l w/\wk l z/\Den ρ v z:=by
 unfold E5 at h;have i:=he x;have j:=he y
 -- what == comes to, and both operations out of it
 have A:∀r:dF,(Gu t (e x) (e y)).run P w=.ok r w->(Value.hU (e x)=D\/Value.hU (e y)=D)->(∀cs m,e x=.agg cs->e y=.agg m->lm)->(e x=.nilIface->e y=.nilIface->lm)->v=.raw (.bool (r==want))->
   ∃l z,(gy e o).run P w=.ok l w/\wk l z/\Den ρ v z:=λr M J C F X=>by
  refine⟨.value (.bool (r==want)),.bool (r==want),?_,rfl,by rw[X];exact .raw _⟩;refine Nb G rfl rfl C F ?_;cases want
  .simp only[dF.false_eq_true,á,afH J,nC,M,kL,oP];cases r<;>rfl
  .simp only[if_true,afG J,nC,M,kL,oP];cases r<;>rfl
 split at h
 .rename_i b q;cases h;obtain⟨g,f,a,n,k,d⟩:=afO q i j w 9999;exact A b g (.inl f) (λcs m c=>by rw[d]at c;cases c) (λc=>by rw[d]at c;cases c) rfl
 split at h
 .rename_i b q;cases h;obtain⟨⟨xs,Q⟩,⟨ys,K⟩,S,L⟩:=afL q i j w;rw[Q,K]at L;exact⟨_,_,afP G Q K S L,rfl,.raw _⟩
 split at h
 .rename_i b q;obtain⟨p,off,l,el,n,C,F,U,V,W⟩:=afy q;rw[C]at i;rw[F]at j;obtain⟨T,p,g,f⟩:=i.mK;obtain⟨q,s,d,p⟩:=j.mK;rw[g]at d;cases d;cases h;refine A b ?_ (.inl (by rw[f];rfl)) (λcs m c=>by rw[f]at c;cases c) (λc=>by rw[f]at c;cases c) rfl;rw[f,p,W];exact pk U V T off l w
 .cases s:ov P t (ev x)&&sameKind (ev x) (ev y)with
  |true=>
   rw[s]at h;cases h;rw[ae]at s;obtain⟨g,f,d,p⟩:=UL s.1 s.2 i j w 9999;exact A ao g (.inl d) (λcs m c=>by rw[c]at d;cases d) (λc=>(p c).elim) (by cases want<;>rfl)
  |false=>
   rw[s]at h;cases u:ov P t (ev y)&&sameKind (ev y) (ev x)with
   |true=>
    rw[u]at h;cases h;rw[ae]at u;obtain⟨g,f,d,p⟩:=UL u.1 u.2 j i w 9999;exact A ao f (.inr d) (λcs m _ c=>by rw[c]at d;cases d) (λ_ c=>(p c).elim) (by cases want<;>rfl)
   |false=>
    rw[u]at h;exact x4 he (by rw[G];rfl) h w
end
def eh{j:I1}{k i:be}{a b:N}{v:af}(h:kU j k i a b=O v):∃m n:E,k=.i64/\i=.i64/\a=m/\b=n/\B7 j m n=O v:=by
 unfold kU at h;cases f:xS a with
 |no=>rw[f]at h;cases h
 |mk m=>
  rw[f]at h;cases g:xS b with
  |no=>rw[g]at h;cases h
  |mk n=>
   rw[g]at h;cases c:E6 k with
   |false=>rw[c]at h;cases h
   |true=>
    rw[c]at h;cases d:E6 i with
    |false=>rw[d]at h;cases h
    |true=>
     rw[d]at h;exact⟨m,n,UK c,UK d,M8 f,M8 g,h⟩
def afQ(g:bl P B ρ H w)(he:∀x,Den ρ (ev x) (e x)){q:I1}{t ag:ed}{x y:gn}(f:o.op=.binOp q t x y ag):dy P B ρ H w ((gy e o).run P w) (kn q t x y ag P o ev H):=by
 have i:sB o.op=D:=by rw[f];rfl
 unfold kn;cases F:jW (ev x)with
 |no=>
  refine d9 g λv c=>?_
  unfold zD at c;split at c
  .exact UQ (want:=D) he f c w
  .exact UQ (want:=ao) he f c w
  .exact x4 he i c w
 |int k a=>
  cases G:jW (ev y)with
  |no=>exact ib g he i
  |int j b=>
   have u:e x=.int k a:=by have:=he x;rw[Cj F]at this;exact this.cu
   have s:e y=.int j b:=by have:=he y;rw[Cj G]at this;exact this.cu
   cases l:kU q k j a b with
   |some v=>
    obtain⟨J,n,rfl,rfl,rfl,rfl,A⟩:=eh l;obtain⟨z,rfl,p⟩:=afw A t w;simp only[l];exact gU g (Nb f u s (λ_ _ d=>by cases d) (λd=>by cases d) p) (.raw z)
   |none=>
    simp only[l];refine d9 g λv c=>?_
    unfold qZ at c;cases m:k==j with
    |false=>rw[m]at c;exact x4 he i c w
    |true=>
     rw[m]at c;have C:k=j:=by simpa using m
     subst C;simp only[ka]at c;split at c
     .rename_i z p;cases c;exact⟨.value z,z,Nb f u s (λ_ _ d=>by cases d) (λd=>by cases d) (afx p t w),rfl,.raw z⟩
     .exact x4 he i c w
end
section
variable{P:fd}{B:E}{ρ:Env}{H:ai}{w:du}{o:ls}{ev:eB}{e:gn->Value}
def nM{r:yE Next}{v:af}{y:Value}(h:r=.ok (.value y) w)(d:Den ρ v y):∃c z,r=.ok c w/\wk c z/\Den ρ v z:=⟨.value y,y,h,rfl,d⟩
def zT{he:∀x,Den ρ (ev x) (e x)}{q:da gn}{d n:E}(h:ox (q.map ev) d=O n):(q=bs/\n=d)\/∃k,q.map e=O (.int k n):=by
 cases q with
 |none=>left;simp[ox]at h;exact⟨rfl,h.symm⟩
 |some x=>
  right;obtain⟨k,c⟩:=Fi (v:=ev x) h;have:=he x;rw[c]at this;exact⟨k,by simp[this.cu]⟩
def afR{k:be}{i y:E}(h:i<=y)(c:BoundsCode)(w:du):(Zm (.int k i) y c).run P w=.ok i w:=by
 have:=run_sliceBound (P:=P) (w:=w) k (i:N) y c ω ω;simpa using this
def IG(US:dF){len cap l h m:E}{lo hi mx:da Value}(j:(lo=bs/\l=0)\/∃k,lo=O (.int k l))(i:(hi=bs/\h=len)\/∃k,hi=O (.int k h))
  (p:(mx=bs/\m=cap)\/∃k,mx=O (.int k m)) (c:mx=bs\/hi≠bs) (d:l<=h) (f:h<=m) (g:m<=cap) (w:du):(G3 US len cap lo hi mx).run P w=.ok (l,h,m) w:=by
 rcases j with⟨rfl,rfl⟩|⟨s,rfl⟩<;>rcases i with⟨rfl,rfl⟩|⟨q,rfl⟩<;>rcases p with⟨rfl,rfl⟩|⟨u,rfl⟩<;>
  first
   |(simp[G3,afR,d,f,g];done)
   |(rcases c with c|c<;>first |cases c|exact absurd rfl c)
def aq.afS{t:aq}(xs:I t.den)(h:E)(d:h<=xs.length):t.flat (xs.take h)=(t.flat xs).take (h*t.size):=by
 have e:(t.flat xs).take (h*t.size)=(t.flat (xs.take h)++t.flat (xs.drop h)).take (h*t.size):=by rw[<-aq.Fh,pa]
 have c:(t.flat (xs.take h)).length=h*t.size:=by rw[t.jF,er,ns d]
 rw[e,Sn,eG (uV c),c,Ru];simp
def aq.afT{t:aq}(xs:I t.den)(h:E)(d:h<=xs.length):t.flat (xs.drop h)=(t.flat xs).drop (h*t.size):=by
 have e:(t.flat xs).drop (h*t.size)=(t.flat (xs.take h)++t.flat (xs.drop h)).drop (h*t.size):=by rw[<-aq.Fh,pa]
 have c:(t.flat (xs.take h)).length=h*t.size:=by rw[t.jF,er,ns d]
 rw[e,Sj,pB (uV c),c,Ru];simp
def aq.afU{t:aq}(xs:I t.den)(l h:E)(d:l<=h)(c:h<=xs.length):t.flat ((xs.take h).drop l)=((t.flat xs).take (h*t.size)).drop (l*t.size):=by
 rw[aq.afT _ _ (by rw[er];omega),aq.afS _ _ c]
def Fk{ρ:Env}{t:aq}{xs:I t.den}{A:I Value}{off l h:E}(i:aE ρ (t.flat xs) ((A.drop off).take (t.flat xs).length))(g:l<=h)(c:h<=xs.length):
  aE ρ (t.flat ((xs.take h).drop l)) ((A.drop (off+l*t.size)).take (t.flat ((xs.take h).drop l)).length):=by
 have d:(t.flat ((xs.take h).drop l)).length=h*t.size-l*t.size:=by
  rw[t.jF,p7,er,ns c,E.sub_mul]
 have j:h*t.size<=xs.length*t.size:=Hr _ c;have:=(i.take (h*t.size)).drop (l*t.size);rw[d,aq.afU xs l h g c];have f:(((A.drop off).take (t.flat xs).length).take (h*t.size)).drop (l*t.size)=(A.drop (off+l*t.size)).take (h*t.size-l*t.size):=by
  rw[KE,ns (by rw[t.jF];exact j),I.drop_take,PM]
 rwa[f]at this
def II{t el:ed}{x:gn}{lo hi mx:da gn}(he:∀x,Den ρ (ev x) (e x))(q:o.op=.slice t x lo hi mx)(A:P.underlying t=O (.slice el)){len kk l h s:E}{a:da wu}
  (C:e x=.slice a len kk) (p:mx=bs) (z:eY P el=O s) (g:ox (hi.map ev) len=O h) (i:ox (lo.map ev) 0=O l) (d:l<=h) (f:h<=kk):
  (gy e o).run P w=.ok (.value (.slice (if kk=l then a else a.map (·.add (l*s))) (h-l) (kk-l))) w:=by
 have c:=zT (he:=he) g;have j:=zT (he:=he) i;subst p;have u:=IG (P:=P) D (len:=len) (cap:=kk) (lo:=lo.map e) (hi:=hi.map e) (mx:=bs) (l:=l) (h:=h) (m:=kk)
  (by rcases j with⟨rfl,h⟩|h; ·exact .inl ⟨rfl,h⟩
      .exact .inr h) (by rcases c with⟨rfl,h⟩|h; ·exact .inl ⟨rfl,h⟩
                         .exact .inr h) (.inl ⟨rfl,rfl⟩) (.inl rfl) d f (aC _) w
 simp only[gy,q,Fz,nC,ec A,kL,C,NI,Ef,u,lD z,oP]
def UT{el:ed}{s n:E}{lo hi mx:da af}{k:E->E->af}{v:af}(h:B1 P el s n lo hi mx k=O v):eY P el=O s/\∃h l,ox hi n=O h/\ox lo 0=O l/\mx=bs/\l<=h/\h<=n/\v=k l h:=by
 unfold B1 at h;simp only[ep]at h;obtain⟨u,q,f,m,l,p,h⟩:=h;cases c:(mx.isNone&&dd s u&&dK l f&&dK f n)with
 |false=>rw[c]at h;cases h
 |true=>
  rw[c]at h;cases h;simp only[ae]at c;obtain⟨⟨⟨g,d⟩,i⟩,j⟩:=c;have d:=ac d;subst d;exact⟨q,f,l,m,p,by simpa using g,b5 i,b5 j,rfl⟩
def afV(d:bl P B ρ H w)(he:∀x,Den ρ (ev x) (e x)){t:ed}{x:gn}{lo hi mx:da gn}(J:o.op=.slice t x lo hi mx):dy P B ρ H w ((gy e o).run P w) (q2 t x lo hi mx P o ev H):=by
 refine d9 d λv c=>?_
 have K:=he x;unfold E8 at c;split at c
 .exact x4 he (by rw[J];rfl) c w
 .rename_i f d;unfold E3 at c;split at c
  .rename_i n el Q off u M;rw[M]at K;obtain⟨b,a',A,G⟩:=K.mK;simp only[ep]at c;obtain⟨S,s,m,a1,h,j,l,C,c⟩:=c;cases d:(dK l h&&dK h m&&dK m n&&((mx.map ev).isNone||(hi.map ev).isSome))with
   |false=>rw[d]at c;cases c
   |true=>
    rw[d]at c;simp only[ae,qh]at d;obtain⟨⟨⟨f,g⟩,p⟩,b4⟩:=d;have f:=b5 f;have g:=b5 g;have p:=b5 p;cases c;have q:mx.map e=bs\/hi.map e≠bs:=by
     rcases b4 with b4|b4
     .left;cases mx<;>simp_all
     .right;cases hi<;>simp_all
    have z:=zT (he:=he) a1;have X:=zT (he:=he) j;have T:=zT (he:=he) C;have i:=IG (P:=P) ao (len:=n) (cap:=n) (lo:=lo.map e) (hi:=hi.map e) (mx:=mx.map e) (l:=l) (h:=h) (m:=m)
     (by rcases T with⟨rfl,h⟩|h; ·exact .inl ⟨rfl,h⟩
         .exact .inr h) (by rcases X with⟨rfl,h⟩|h; ·exact .inl ⟨rfl,h⟩
                            .exact .inr h) (by rcases z with⟨rfl,h⟩|h; ·exact .inl ⟨rfl,h⟩
                                               .exact .inr h) q f g p w
    have z:Den ρ (af.slice Q (oi (dd m l) off (off+l*S)) (h-l) (.known (m-l))) (.slice (O ⟨b,oi (dd m l) off (off+l*S),bs⟩) (h-l) (m-l)):= .slice A rfl ω;refine nM ?_ z;simp only[gy,J,Fz,nC,ec u,kL,G,xx,oP,i,lD s];congr 4;by_cases z:m=l
    .subst z;simp
    .rw[wm z,db z,kq];rfl
  .rename_i el Q off len cap u M;rw[M]at K;obtain⟨b,a',kk,A,a0,a5,G⟩:=K.jv;simp only[ep]at c;obtain⟨S,s,h,j,l,C,c⟩:=c;have X:=zT (he:=he) j;have T:=zT (he:=he) C;have a3:∀(W:E)(z:aY),mx=bs->l<=h->h<=kk->v=.slice Q W (h-l) z->Cf z a' (kk-l)->(if kk=l then off=W else off+l*S=W)->∃V U,(gy e o).run P w=.ok V w/\wk V U/\Den ρ v U:=by
    intro W z a2 h1 h2 L a9 F;subst a2;subst L;have i:=IG (P:=P) D (len:=len) (cap:=kk) (lo:=lo.map e) (hi:=hi.map e) (mx:=bs) (l:=l) (h:=h) (m:=kk)
     (by rcases T with⟨rfl,h⟩|h; ·exact .inl ⟨rfl,h⟩
         .exact .inr h) (by rcases X with⟨rfl,h⟩|h; ·exact .inl ⟨rfl,h⟩
                            .exact .inr h) (.inl ⟨rfl,rfl⟩) (.inl rfl) h1 h2 (aC _) w
    refine nM ?_ (.slice (off:=W) A a9 (show h-l<=kk-l by omega));simp only[gy,J,Fz,nC,ec u,kL,G,NI,Ef,i,lD s,oP];congr 3;by_cases z:kk=l
    .rw[dA z]at F ⊢;rw[F]
    .rw[db z]at F ⊢;simp[kq,F]
   have a6:mx=bs->((oi (dK l h&&dK h len) (oi (dd l 0) (O (af.slice Q off h cap)) (oi (dK (l+1) len) (O (af.slice Q (off+l*S) (h-l) .any)) bs)) bs)=O v)->∃V U,(gy e o).run P w=.ok V w/\wk V U/\Den ρ v U:=by
    intro L c;cases d:(dK l h&&dK h len)with
    |false=>rw[d]at c;cases c
    |true=>
     rw[d]at c;rw[ae]at d;have f:=b5 d.1;have g:=b5 d.2;simp only[ka]at c;cases F:dd l 0 with
     |true=>
      have V:=ac F;rw[F]at c;subst V;cases c;exact a3 off cap L f ω rfl a0 τ
     |false=>
      rw[F]at c;simp only[sd]at c;cases F:dK (l+1) len with
      |false=>rw[F]at c;cases c
      |true=>
       rw[F]at c;have F:=b5 F;cases c;refine a3 _ .any L f ω rfl trivial ?_;rw[db ω]
   cases mx with
   |some F=>
    simp only[ta,ep]at c;obtain⟨m,a1,c⟩:=c;obtain⟨b',V⟩:=Fi (v:=ev F) a1;have a4:=he F;rw[V]at a4;cases d:(dK l h&&dK h m&&dK m (Uj cap len)&&(hi.map ev).isSome)with
    |false=>rw[d]at c;cases c
    |true=>
     rw[d]at c;simp only[ae]at d;obtain⟨⟨⟨f,g⟩,p⟩,b4⟩:=d;have f:=b5 f;have g:=b5 g;have p:=b5 p;have p:m<=kk:=by
      cases cap with
      |known W=>
       have V:kk=W:=a0;subst V;exact p
      |full=>exact cD p a5
      |any=>exact cD p a5
     cases c;have q:(O F).map e=bs\/hi.map e≠bs:=by right;cases hi<;>simp_all
     have i:=IG (P:=P) D (len:=len) (cap:=kk) (lo:=lo.map e) (hi:=hi.map e) (mx:=(O F).map e) (l:=l) (h:=h) (m:=m)
      (by rcases T with⟨rfl,h⟩|h; ·exact .inl ⟨rfl,h⟩
          .exact .inr h) (by rcases X with⟨rfl,h⟩|h; ·exact .inl ⟨rfl,h⟩
                             .exact .inr h) (.inr ⟨b',by simp[a4.cu]⟩) q f g p w
     refine nM ?_ (.slice (off:=oi (dd m l) off (off+l*S)) A rfl (show h-l<=m-l by omega));simp only[gy,J,Fz,nC,ec u,kL,G,NI,i,lD s,oP];congr 3;by_cases z:m=l
     .subst z;simp
     .rw[db z,wm z];simp[kq]
   |none=>
    cases cap with
    |known W=>
     have V:kk=W:=a0;subst V;simp only[Ef]at c;cases d:(dK l h&&dK h kk)with
     |false=>rw[d]at c;cases c
     |true=>
      rw[d]at c;rw[ae]at d;have f:=b5 d.1;have g:=b5 d.2;cases c;refine a3 _ _ rfl f g rfl rfl ?_;by_cases z:kk=l
      .subst z;simp
      .rw[db z,wm z];rfl
    |full=>exact a6 rfl c
    |any=>exact a6 rfl c
  .rename_i el U T xs u M;rw[M]at K;obtain⟨s,h,l,j,C,a2,f,g,rfl⟩:=UT c;have L:mx=bs:=by cases mx<;>simp_all
   rcases K.wj with⟨rfl,a,k,q,_⟩|⟨b,off,k,p,A,G,d,F,q,_⟩
   .have z:l=0:=by simp at g;omega
    have p:h=0:=by simp at g;omega
    subst z;subst p;exact nM (II he J u q L s j C f τ) (.ff λe=>by cases e)
   .have i:=II (w:=w) he J u q L s j C f (cD g F);cases F:dK (l+1) h with
    |true=>
     have F:=b5 F;rw[db (show¬k=l by omega)]at i;refine nM i ?_;simp only[ta,kq,ka];have S:((xs.take h).drop l).length=h-l:=by simp;omega
     rw[<-S];refine .bh A ?_ rfl (Fk d f g) (by rw[S];omega) (λe=>by cases e);rw[T.jF,S];rw[T.jF]at G;have:(h-l)*T.size+l*T.size<=xs.length*T.size:=by rw[<-Gz];exact Hr _ ω
     omega
    |false=>
     have:¬l+1<=h:=λj=>by rw[aw j]at F;cases F
     obtain rfl:l=h:=by omega
     refine nM i ?_;rw[Ru];exact .ff λe=>by cases e
  .rename_i el S T Q U len cap u M;rw[M]at K;obtain⟨s,h,l,j,C,a2,f,g,rfl⟩:=UT c;have L:mx=bs:=by cases mx<;>simp_all
   rcases K.kW with⟨rfl,a,q⟩|⟨b,a',M,A,G,d,q⟩
   .have z:l=0:=by omega
    have p:h=0:=by omega
    subst z;subst p;refine nM (II he J u q L s j C f τ) ?_;exact .sy
   .have i:=II (w:=w) he J u q L s j C f (cD g d);cases d:dd l 0 with
    |true=>
     have d:=ac d;subst d;refine nM i ?_;simp only[ka,E.sub_zero,CB,ta,kq,E.add_zero,ite_self];exact .bZ A G ω
    |false=>
     cases F:dK (l+1) h with
     |true=>
      have F:=b5 F;rw[db (show¬M=l by omega)]at i;refine nM i ?_;simp only[ta,kq,ka,sd];rw[<-Gz];exact .bZ A trivial ω
     |false=>
      have:¬l+1<=h:=λj=>by rw[aw j]at F;cases F
      obtain rfl:l=h:=by omega
      refine nM i ?_;rw[Ru];exact .ff λe=>by cases e
  .cases c
