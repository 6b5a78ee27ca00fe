/- The runner over an abstract memory: regions that draw their order: definitions. -/
import Derived.Test.YtibikmmdbdlafaaGreatDoorZxSvCode4
set_option linter.unusedSectionVars false
set_option linter.unusedSimpArgs false
namespace Go.Proofs.YtibikmmdbdlafaaGreatDoor.Sv
noncomputable section
inductive Kd where
 |p|r|a|e|b
def Kd.al:Kd->Bool
 | .a| .b=>true
 |_=>false
def qX (P:Program) (t:Option TypeId):Bool:=match t.bind P.underlying with
 |some (.map _ _)=>true
 |_=>false
def Zx (P:Program) (c:Call):Kd:=match c.callee with
 | .builtin .len=>cond (qX P c.argTypes[0]?) .e .p
 | .builtin .append=> .e
 | .builtin .copy=> .e
 | .builtin .unsafeString=> .e
 | .builtin .clear=> .e
 | .builtin _=> .p
 |_=> .e
def mg (P:Program):Op->Kd:=
 @Op.rec (fun _=>Kd) (fun _=> .p) (fun _=> .p) (fun _ _ _=> .p) (fun _=> .a) (fun _ _=> .b) (fun _ _=> .p) (fun _ _ _=> .b) (fun _ _ _ _=> .e) (fun _ _=> .r) (fun _ _ _=> .e) (fun _=> .e) (fun _=> .e) (fun _=> .p) (fun _ _ _ _ _=> .p) (fun _ _ _=> .p)
   (fun _ _ _=> .e) (fun _ _=> .e) (fun _ _=> .p) (fun _ _ _=> .p) (fun _ _=> .b) (fun _ _=> .e) (fun _ _ _=> .b) (fun _ _ _ _ _=> .p) (fun _ _ _=> .p) (fun _ _ _=> .p) (fun _ _ _=> .p) (fun _ _ _=> .p) (fun _ _ _ _=> .r) (fun _ _ _ _=> .e)
   (fun _ _ _=> .e) (fun _ _ _ _=> .e) (fun _ _=> .e) (fun _ _=> .e) (fun _=> .e) (fun _ _ _ _=> .p) (fun _ _=> .p) (Zx P) (fun _=> .e) (fun _=> .e) (fun _=> .e) (fun _ _=> .e) (fun _ _ _=> .e) (fun _ _=> .e)
def cu (o:Oper):List Nat:=(o.after.toList.filter (Region.binds .any)).map Edge.on
def kF (i:Nat) (l:List Nat):Bool:= @List.rec Nat (fun _=>Bool) false (fun a _ ih=> @Bool.rec (fun _=>Bool) ih true (Nat.beq a i)) l
def Zy (o:Oper):List Tmp:=o.op.operands.toList.filterMap fun x=>match x with | .tmp t=>some t|_=>none
def xh (t:Tmp) (o:Oper):Bool:=match o.dst with |some d=>Nat.beq d t|none=>false
def g9 (t:Tmp):List Oper->Nat->Option (Nat×Oper)
 |[],_=>none
 |o::l,i=>cond (xh t o) (some (i,o)) (g9 t l (i+1))
def xj (ops:List Oper) (i:Nat) (o:Oper):Bool:=
 (cu o).all (fun d=>Nat.ble (d+1) i)&&
 (Zy o).all (fun t=>match g9 t ops 0 with |none=>true|some q=>kF q.1 (cu o)||kF i (cu q.2))&&
 (match o.dst with |none=>true|some d=>match g9 d ops 0 with |some q=>Nat.beq q.1 i|none=>false)&&
 (match o.guard with |none=>true|some g=>kF g.1 (cu o))
def qY (ops:List Oper):List Oper->Nat->Bool
 |[],_=>true
 |o::l,i=>cond (xj ops i o) (qY ops l (i+1)) false
def BN:Value->Value->Bool
 | .int k a, .int k' b=>decide (k=k')&&decide (a=b)
 | .bool a, .bool b=>a==b
 | .string a, .string b=>decide (a=b)
 | .pointer none, .pointer none=>true
 | .slice none l c, .slice none l' c'=>Nat.beq l l'&&Nat.beq c c'
 | .map none, .map none=>true
 | .nilFunc, .nilFunc=>true
 | .nilIface, .nilIface=>true
 | .func f ⟨[]⟩ ⟨[]⟩, .func g ⟨[]⟩ ⟨[]⟩=>decide (f=g)
 |_,_=>false
def zo (f:Value->Value->Bool):List Value->List Value->Bool
 |[],[]=>true
 |a::l,b::m=>cond (f a b) (zo f l m) false
 |_,_=>false
def xk:Nat->Value->Value->Bool
 |0,a,b=>BN a b
 |n+1,a,b=>match a,b with
  | .agg ⟨l⟩, .agg ⟨m⟩=>zo (xk n) l m
  | .tuple ⟨l⟩, .tuple ⟨m⟩=>zo (xk n) l m
  |a,b=>BN a b
def aS.same:aS->aS->Bool
 | .known a, .known b=>Nat.beq a b
 | .full, .full=>true
 | .any, .any=>true
 |_,_=>false
def au.beq:(t:au)->t.den->t.den->Bool
 | .int _,a,b=>decide (a=b)
 | .bool,a,b=>a==b
 | .str,a,b=>decide (a=b)
 | .list _ t,a,b=>Nat.beq a.length b.length&&(a.zip b).all fun p=>t.beq p.1 p.2
 | .pair s t,a,b=>s.beq a.1 b.1&&t.beq a.2 b.2
 | .ptr t,a,b=>t.beq a b
 | .unit,_,_=>true
def zq (t u:au) (xs:List t.den) (ys:List u.den):Bool:=if h:u=t then au.beq (.list false t) xs (h ▸ ys)else false
def qe:aa->aa->Bool
 | .bk z t xs, .bk z' u ys=>z==z'&&zq t u xs ys
 | .e8 t xs k off, .e8 u ys k' off'=>zq t u xs ys&&(Nat.beq k k'&&Nat.beq off off')
 | .bN e t i k n c, .bN e' u i' k' n' c'=>Nat.beq e e'&&(decide (t=u)&&(Nat.beq i i'&&(Nat.beq k k'&&(Nat.beq n n'&&c.same c'))))
 | .dy e t i k off, .dy e' u i' k' off'=>Nat.beq e e'&&(decide (t=u)&&(Nat.beq i i'&&(Nat.beq k k'&&Nat.beq off off')))
 | .raw a, .raw b=>xk 3 a b
 | .ptr i o, .ptr j q=>Nat.beq i j&&Nat.beq o q
 | .slice i o l c, .slice j q m d=>Nat.beq i j&&Nat.beq o q&&Nat.beq l m&&c.same d
 | .map i, .map j=>Nat.beq i j
 | .func f [] [], .func g [] []=>decide (f=g)
 | .yield i, .yield j=>Nat.beq i j
 |_,_=>false
def p4:List aa->List aa->Bool
 |[],[]=>true
 |a::l,b::m=>qe a b&&p4 l m
 |_,_=>false
def aa.same:aa->aa->Bool
 | .agg l, .agg m=>p4 l m
 | .tuple l, .tuple m=>p4 l m
 | .func f (x::a) b, .func g c d=>decide (f=g)&&(p4 (x::a) c&&p4 b d)
 | .func f [] (x::b), .func g c d=>decide (f=g)&&(p4 [] c&&p4 (x::b) d)
 |a,b=>qe a b
def oK (P:Program) (o:Oper) (ev:dH) (v:aa) (H:ai):Bool:=match eU o.op P o ev H with | .ok v' _=>aa.same v' v|_=>false
def qZ (P:Program) (o:Oper) (ev:dH) (v:aa):List ai->Bool
 |[]=>true
 |H::l=>cond (oK P o ev v H) (qZ P o ev v l) false
structure oL where
 i:Nat
 o:Oper
 T:av aa
 v:aa
def jm (ds:List Nat):List oL->List oL
 |[]=>[]
 |q::l=>cond (kF q.i ds) (jm ds l) (q::jm ds l)
def hJ (P:Program) (H:ai):List oL->Bool
 |[]=>true
 |q::l=>cond (oK P q.o (cc q.T) q.v H) (hJ P H l) false
def level (bK:av Nat):List Nat->Nat
 |[]=>0
 |d::l=>Nat.max ((bK.get d).getD 0) (level bK l)
def s4 (l ds:List Nat):Bool:=l.all fun i=>kF i ds
structure fR where
 i:Nat
 k:Nat
 T:av aa
 cur:ai
 hs:List ai
 bK:av Nat
 dz:List oL
 c7:List Nat
def mh (n:Nat) (o:Oper) (s:fR) (v:aa) (f:av aa->fR):Option fR:=(iC s.T n o.dst v).map f
def np (P:Program) (call:er) (round:jC) (ops:Array Oper) (n:Nat) (o:Oper) (s:fR):Option fR:=
 let ds:=cu o
 let lv:=level s.bK ds
 match gu s.T ops o with
 |none=>none
 |some false=>mh n o s (.raw undef) fun T=>{s with i:=s.i+1,T:=T,bK:=s.bK.set s.i (some lv)}
 |some true=>match mg P o.op with
  | .p=>match eU o.op P o (cc s.T) s.cur with
    | .ok v _=>mh n o s v fun T=>{s with i:=s.i+1,T:=T,bK:=s.bK.set s.i (some lv)}
    |_=>none
  | .r=>match s.hs with
    |H::_=>match eU o.op P o (cc s.T) H with
     | .ok v _=>cond (qZ P o (cc s.T) v (s.hs.take (s.k+1-lv)))
       (mh n o s v fun T=>{s with i:=s.i+1,T:=T,bK:=s.bK.set s.i (some lv),dz:=⟨s.i,o,s.T,v⟩::s.dz}) none
     |_=>none
    |[]=>none
  | .a=>match eU o.op P o (cc s.T) s.cur with
    | .ok v H=>mh n o s v fun T=>{s with i:=s.i+1,T:=T,cur:=H,bK:=s.bK.set s.i (some lv),c7:=s.i::s.c7}
    |_=>none
  | .e=>cond (Nat.beq lv s.k&&s4 s.c7 ds)
    (match iO P call round o (cc s.T) s.cur with
      | .ok v H=>cond (hJ P H (jm ds s.dz))
        (mh n o s v fun T=>{i:=s.i+1,k:=s.k+1,T:=T,cur:=H,hs:=H::s.hs,bK:=s.bK.set s.i (some (s.k+1)),dz:=jm ds s.dz,c7:=[]}) none
      |_=>none) none
  | .b=>cond (Nat.beq lv s.k&&s4 s.c7 ds)
    (match iO P call round o (cc s.T) s.cur with
      | .ok v H=>cond (hJ P H (jm ds s.dz))
        (mh n o s v fun T=>{i:=s.i+1,k:=s.k+1,T:=T,cur:=H,hs:=H::s.hs,bK:=s.bK.set s.i (some (s.k+1)),dz:=jm ds s.dz,c7:=[]}) none
      |_=>none)
    (match eU o.op P o (cc s.T) s.cur with
      | .ok v H=>mh n o s v fun T=>{s with i:=s.i+1,T:=T,cur:=H,bK:=s.bK.set s.i (some lv),c7:=s.i::s.c7}
      |_=>none)
def xm (P:Program) (call:er) (round:jC) (ops:Array Oper) (n:Nat):List Oper->fR->eN
 |[],s=> .mk s.T s.cur
 |o::l,s=>match np P call round ops n o s with
  |some s=>xm P call round ops n l s
  |none=> .no
def zu (P:Program):Hz:=fun call round ops n T H=>
 cond (qY ops.toList ops.toList 0) (xm P call round ops n ops.toList {i:=0,k:=0,T:=T,cur:=H,hs:=[H],bK:= .nil,dz:=[],c7:=[]}) .no
def nQ (P:Program) (S:er):oE:=fun d call round ops n T H=> @Bool.rec (fun _=>eN) (wP P (uI S call) round ops n ops.toList T H) (zu P (uI S call) round ops n T H) d
end
end Go.Proofs.YtibikmmdbdlafaaGreatDoor.Sv
/- The runner over an abstract memory: operations by kind; what they read of the slots. -/
namespace Go.Proofs.YtibikmmdbdlafaaGreatDoor.Sv
open Go.RowKit
section
variable {P:Program} {B:Nat} {ρ:Env} {H:ai} {w:World} {o:Oper} {ev ev':dH}
theorem p5 (hp:pS o.op=true) (h:∀x∈o.op.operands.toList,ev x=ev' x):gen P o ev=gen P o ev':=by
 unfold gen;have e1:(o.op.operands.toList.all fun x=>(ev x).e9.isSome)=o.op.operands.toList.all fun x=>(ev' x).e9.isSome:=by
  rw [Bool.eq_iff_iff,List.all_eq_true,List.all_eq_true];exact⟨fun hh x hx=>by rw [<-h x hx];exact hh x hx,fun hh x hx=>by rw [h x hx];exact hh x hx⟩
 have e2:execOp (mc ev) o=execOp (mc ev') o:=execOp_congr hp fun x hx=>by simp only [mc,h x hx]
 rw [e1,e2]
theorem Iv {l:List Operand} (h:∀x∈l,ev x=ev' x):l.map ev=l.map ev':=List.map_congr_left h
theorem Pv {ps:Array (Nat×Operand)} (h:∀p∈ps.toList,ev p.2=ev' p.2):qP ev ps=qP ev' ps:=List.map_congr_left fun p hp=>by rw [h p hp]
theorem Pw (h:∀x∈o.op.operands.toList,ev x=ev' x):eU o.op P o ev H=eU o.op P o ev' H:=by
 cases ho:o.op with
 |move x=>
  have h1:=h x (by simp [ho,Op.operands]);show md x P o ev H=md x P o ev' H;simp only [md,h1]
 |assign x=>
  have h1:=h x (by simp [ho,Op.operands]);show md x P o ev H=md x P o ev' H;simp only [md,h1]
 |pick c a b=>
  have h1:=h c (by simp [ho,Op.operands]);have h2:=h a (by simp [ho,Op.operands]);have h3:=h b (by simp [ho,Op.operands]);show nI c a b P o ev H=nI c a b P o ev' H;simp only [nI,h1,h2,h3]
 |box t x=>
  have h1:=h x (by simp [ho,Op.operands]);show oA t x P o ev H=oA t x P o ev' H;simp only [oA,h1]
 |build t ps=>
  have h1:=Pv (ev:=ev) (ev':=ev') (ps:=ps) fun p hp=>h p.2 (by simp only [ho,Op.operands];exact List.mem_map_of_mem hp)
  show Bg t ps P o ev H=Bg t ps P o ev' H;simp only [Bg,Hl,h1]
 |buildSlice t l ps=>
  have h1:=Pv (ev:=ev) (ev':=ev') (ps:=ps) fun p hp=>h p.2 (by simp only [ho,Op.operands];exact List.mem_map_of_mem hp)
  show y4 t l ps P o ev H=y4 t l ps P o ev' H;simp only [y4,oB,h1]
 |insert t m k v=>
  have h1:=h m (by simp [ho,Op.operands]);have h2:=h k (by simp [ho,Op.operands]);have h3:=h v (by simp [ho,Op.operands]);show oC t m k v P o ev H=oC t m k v P o ev' H;simp only [oC,h1,h2,h3]
 |mapUpdate t m k v=>
  have h1:=h m (by simp [ho,Op.operands]);have h2:=h k (by simp [ho,Op.operands]);have h3:=h v (by simp [ho,Op.operands]);show oC t m k v P o ev H=oC t m k v P o ev' H;simp only [oC,h1,h2,h3]
 |load t x=>
  have h1:=h x (by simp [ho,Op.operands]);show nJ t x P o ev H=nJ t x P o ev' H;simp only [nJ,h1]
 |store t x y=>
  have h1:=h x (by simp [ho,Op.operands]);have h2:=h y (by simp [ho,Op.operands]);show pO t x y P o ev H=pO t x y P o ev' H;simp only [pO,h1,h2]
 |nilCheck x=>
  have h1:=h x (by simp [ho,Op.operands]);have hg:=p5 (P:=P) (by rw [ho];rfl) h;show pJ x P o ev H=pJ x P o ev' H;simp only [pJ,Ho,h1,hg]
 |binOp op t x y ah=>
  have h1:=h x (by simp [ho,Op.operands]);have h2:=h y (by simp [ho,Op.operands]);have hg:=p5 (P:=P) (by rw [ho];rfl) h;show iM op t x y ah P o ev H=iM op t x y ah P o ev' H;simp only [iM,wM,oy,Bh,h1,h2,hg]
 |unOp op t x=>
  have hg:=p5 (P:=P) (by rw [ho];rfl) h;show uG P o ev H=uG P o ev' H;simp only [uG,hg]
 |typeAssert a b c d=>
  have hg:=p5 (P:=P) (by rw [ho];rfl) h;show uG P o ev H=uG P o ev' H;simp only [uG,hg]
 |convert s d x=>
  have h1:=h x (by simp [ho,Op.operands]);have hg:=p5 (P:=P) (by rw [ho];rfl) h;show yZ s d x P o ev H=yZ s d x P o ev' H;simp only [yZ,Bm,h1,hg]
 |makeInterface t x=>
  have h1:=h x (by simp [ho,Op.operands]);show Bj t x P o ev H=Bj t x P o ev' H;simp only [Bj,h1]
 |makeFunc fn f c=>
  have h1:=Iv (ev:=ev) (ev':=ev') (l:=f.toList) fun x hx=>h x (by simp only [ho,Op.operands,Array.toList_append];exact List.mem_append_left _ hx)
  have h2:=Iv (ev:=ev) (ev':=ev') (l:=c.toList) fun x hx=>h x (by simp only [ho,Op.operands,Array.toList_append];exact List.mem_append_right _ hx)
  show Bk fn f c P o ev H=Bk fn f c P o ev' H;simp only [Bk,h1,h2]
 |makeMap t r=>
  show i7 t r P o ev H=i7 t r P o ev' H;cases r with
  |none=>rfl
  |some x=>
   have h1:=h x (by simp [ho,Op.operands]);simp only [i7,qQ,h1]
 |makeSlice t l c=>
  have h1:=h l (by simp [ho,Op.operands]);have h2:=h c (by simp [ho,Op.operands]);show sK t l c P o ev H=sK t l c P o ev' H;simp only [sK,h1,h2]
 |slice t x l hi m=>
  have h1:=h x (by simp [ho,Op.operands]);have h2:l.map ev=l.map ev':=by
   cases l with
   |none=>rfl
   |some y=>simp [h y (by simp [ho,Op.operands])]
  have h3:hi.map ev=hi.map ev':=by
   cases hi with
   |none=>rfl
   |some y=>simp [h y (by simp [ho,Op.operands])]
  have h4:m.map ev=m.map ev':=by
   cases m with
   |none=>rfl
   |some y=>simp [h y (by simp [ho,Op.operands])]
  have hg:=p5 (P:=P) (by rw [ho];rfl) h;show oz t x l hi m P o ev H=oz t x l hi m P o ev' H;simp only [oz,Bl,h1,h2,h3,h4,hg]
 |fieldAddr s x f=>
  have h1:=h x (by simp [ho,Op.operands]);show pK s x f P o ev H=pK s x f P o ev' H;simp only [pK,h1]
 |field t x f=>
  have h1:=h x (by simp [ho,Op.operands]);have hg:=p5 (P:=P) (by rw [ho];rfl) h;show pL t x f P o ev H=pL t x f P o ev' H;simp only [pL,h1,hg]
 |indexAddr t x i=>
  have h1:=h x (by simp [ho,Op.operands]);have h2:=h i (by simp [ho,Op.operands]);show mT t x i P o ev H=mT t x i P o ev' H;simp only [mT,h1,h2]
 |index t x i=>
  have h1:=h x (by simp [ho,Op.operands]);have h2:=h i (by simp [ho,Op.operands]);have hg:=p5 (P:=P) (by rw [ho];rfl) h;show lX t x i P o ev H=lX t x i P o ev' H;simp only [lX,h1,h2,hg]
 |lookup t m k ok=>
  have h1:=h m (by simp [ho,Op.operands]);have h2:=h k (by simp [ho,Op.operands]);have hg:=p5 (P:=P) (by rw [ho];rfl) h;show ne t m k ok P o ev H=ne t m k ok P o ev' H;simp only [ne,wn,h1,h2,hg]
 |extract x i=>
  have h1:=h x (by simp [ho,Op.operands]);have hg:=p5 (P:=P) (by rw [ho];rfl) h;show pM x i P o ev H=pM x i P o ev' H;simp only [pM,h1,hg]
 |call c=>
  obtain⟨callee,args,argTypes⟩:=c;have h1:=Iv (ev:=ev) (ev':=ev') (l:=args.toList) fun x hx=>h x (by simp only [ho,Op.operands,Call.operands,Array.toList_append];exact List.mem_append_right _ hx)
  have hg:=p5 (P:=P) (by rw [ho];rfl) h;show iN ⟨callee,args,argTypes⟩ P o ev H=iN ⟨callee,args,argTypes⟩ P o ev' H;cases callee with
  |value f=>
   have h2:=h f (by simp [ho,Op.operands,Call.operands]);simp only [iN,h1,h2]
  |builtin b=>simp only [iN,nK,h1,hg]
  |invoke r m=>rfl
 |range t x=>
  have h1:=h x (by simp [ho,Op.operands]);show y5 t x P o ev H=y5 t x P o ev' H;simp only [y5,h1]
 |next x b=>
  have h1:=h x (by simp [ho,Op.operands]);show y6 x b P o ev H=y6 x b P o ev' H;simp only [y6,h1]
 |entry x=>
  have h1:=h x (by simp [ho,Op.operands]);show Bp x P o ev H=Bp x P o ev' H;simp only [Bp,h1]
 |_=>rfl
theorem Zz {t:Option TypeId} {v:aa} (h:qX P t=false) (H:ai):Bq P t v H=none:=by
 unfold qX at h;unfold Bq;cases t with
 |none=>rfl
 |some t=>
  simp only [Option.bind_some]at h ⊢;split
  .rename_i hu;rw [hu]at h;cases h
  .rfl
theorem ZA {args:Array Operand} {argTypes:Array TypeId} (hk:mg P (.call {callee:= .builtin .len,args,argTypes})= .p):qX P argTypes[0]? =false:=by
 have hk:cond (qX P argTypes[0]?) Kd.e Kd.p= .p:=hk;cases h:qX P argTypes[0]? with
 |true=>rw [h]at hk;cases hk
 |false=>rfl
theorem ZB {args:Array Operand} {argTypes:Array TypeId} (hk:mg P (.call {callee:= .builtin .len,args,argTypes})= .r):False:=by
 have hk:cond (qX P argTypes[0]?) Kd.e Kd.p= .r:=hk;cases h:qX P argTypes[0]? <;>rw [h]at hk<;>cases hk
theorem ZC {args:Array Operand} {argTypes:Array TypeId} (hk:(mg P (.call {callee:= .builtin .len,args,argTypes})).al=true):False:=by
 have hk:(cond (qX P argTypes[0]?) Kd.e Kd.p).al=true:=hk;cases h:qX P argTypes[0]? <;>rw [h]at hk<;>cases hk
theorem BO {x:Option aa} {v:aa} {H1:ai} (h:ag H x= .ok v H1):x=some v/\H1=H:=by
 cases x with
 |none=>cases h
 |some y=>cases h;exact⟨rfl,rfl⟩
theorem j0 {x:Option aa} {v:aa} {H1:ai} (h:ag H x= .ok v H1) (H2:ai):ag H2 x= .ok v H2:=by
 obtain⟨rfl,_⟩:=BO h;rfl
theorem ZD {gp n:Nat} {x v:aa} {H1:ai} (h:kd gp n x H= .ok v H1) (H2:ai):kd gp n x H2= .ok v H2:=by
 unfold kd at h ⊢;split at h
 .cases hb:Nat.ble 1 n<;>rw [hb]at h<;>cases h;rfl
 .cases hb:Nat.ble 1 n<;>rw [hb]at h<;>cases h;rfl
 .cases h
theorem ZE {k n s:Nat} {x v:aa} {H1:ai} (h:uD k n s x H= .ok v H1) (H2:ai):uD k n s x H2= .ok v H2:=by
 unfold uD at h ⊢;split at h
 .cases hb:Nat.ble (k+1) n<;>rw [hb]at h<;>cases h;rfl
 .cases hb:Nat.ble (k+1) n<;>rw [hb]at h<;>cases h;rfl
 .cases h
theorem ZF {k s:Nat} {x v:aa} {H1:ai} (h:t8 k s x H= .ok v H1) (H2:ai):t8 k s x H2= .ok v H2:=by
 unfold t8 at h ⊢;split at h
 .rename_i z t xs;cases hb:(Nat.beq t.size s&&Nat.ble (k+1) xs.length)<;>rw [hb]at h<;>cases h;rfl
 .rename_i e t i k0 len cap;cases hb:(Nat.beq t.size s&&Nat.ble (k+1) len)<;>rw [hb]at h<;>cases h;rfl
 .cases h
theorem ZG (hk:mg P o.op= .p) {v:aa} {H1:ai} (h:eU o.op P o ev H= .ok v H1) (H2:ai):eU o.op P o ev H2= .ok v H2:=by
 cases ho:o.op with
 |move x=>rw [ho]at h;cases h;rfl
 |assign x=>rw [ho]at h;cases h;rfl
 |pick c a b=>
  rw [ho]at h;have h:nI c a b P o ev H= .ok v H1:=h;show nI c a b P o ev H2= .ok v H2;unfold nI at h ⊢;cases hb:gq (ev c)with
  |no=>rw [hb]at h;cases h
  |mk q=>rw [hb]at h;cases q<;>(cases h;rfl)
 |build t ps=>rw [ho]at h;exact j0 h H2
 |nilCheck x=>
  rw [ho]at h;have h:pJ x P o ev H= .ok v H1:=h;show pJ x P o ev H2= .ok v H2;unfold pJ at h ⊢;cases hb:iB (ev x)with
  |no=>rw [hb]at h;exact j0 h H2
  |mk i off=>rw [hb]at h;cases h;rfl
 |binOp op t x y ah=>
  rw [ho]at h;have h:iM op t x y ah P o ev H= .ok v H1:=h;show iM op t x y ah P o ev H2= .ok v H2;unfold iM at h ⊢;cases hb:iA (ev x)with
  |no=>rw [hb]at h;exact j0 h H2
  |int k a=>
   rw [hb]at h;simp only at h ⊢;cases kA:iA (ev y)with
   |no=>rw [kA]at h;exact j0 h H2
   |int k' b=>
    rw [kA]at h;simp only at h ⊢;cases hf:ji op k k' a b with
    |none=>rw [hf]at h;exact j0 h H2
    |some q=>rw [hf]at h;cases h;rfl
 |unOp op t x=>rw [ho]at h;exact j0 h H2
 |typeAssert a b c d=>rw [ho]at h;exact j0 h H2
 |makeInterface t x=>rw [ho]at h;exact j0 h H2
 |makeFunc fn f c=>rw [ho]at h;cases h;rfl
 |slice t x l hi m=>rw [ho]at h;exact j0 h H2
 |fieldAddr s x f=>
  rw [ho]at h;have h:pK s x f P o ev H= .ok v H1:=h;show pK s x f P o ev H2= .ok v H2;unfold pK at h ⊢;cases hf:fv P s f with
  |no=>rw [hf]at h;cases h
  |mk a n t=>
   rw [hf]at h;simp only at h ⊢;cases hb:iB (ev x)with
   |no=>rw [hb]at h;exact ZD h H2
   |mk i off=>
    rw [hb]at h;simp only at h ⊢;cases hn:Nat.ble 1 n with
    |false=>rw [hn]at h;cases h
    |true=>rw [hn]at h;cases h;rfl
 |field t x f=>
  rw [ho]at h;have h:pL t x f P o ev H= .ok v H1:=h;show pL t x f P o ev H2= .ok v H2;unfold pL at h ⊢;cases hb:qK (ev x)with
  |none=>rw [hb]at h;exact j0 h H2
  |some cs=>
   rw [hb]at h;simp only at h ⊢;cases hf:fv P t f with
   |no=>rw [hf]at h;cases h
   |mk a n t=>rw [hf]at h;exact j0 h H2
 |indexAddr t x i=>
  rw [ho]at h;have h:mT t x i P o ev H= .ok v H1:=h;show mT t x i P o ev H2= .ok v H2;unfold mT at h ⊢;cases hk2:nH (ev i)with
  |no=>rw [hk2]at h;cases h
  |mk k=>
   rw [hk2]at h;simp only at h ⊢;cases ht:nG P t with
   |no=>rw [ht]at h;cases h
   |arr n s=>
    rw [ht]at h;simp only at h ⊢;cases hb:iB (ev x)with
    |no=>rw [hb]at h;exact ZE h H2
    |mk i off=>
     rw [hb]at h;simp only at h ⊢;cases hn:Nat.ble (Nat.succ k) n with
     |false=>rw [hn]at h;cases h
     |true=>rw [hn]at h;cases h;rfl
   |sl s=>
    rw [ht]at h;simp only at h ⊢;cases hb:wI (ev x)with
    |no=>rw [hb]at h;exact ZF h H2
    |mk i off len cap=>
     rw [hb]at h;simp only at h ⊢;cases hn:Nat.ble (Nat.succ k) len with
     |false=>rw [hn]at h;cases h
     |true=>rw [hn]at h;cases h;rfl
 |index t x i=>
  rw [ho]at h;have h:lX t x i P o ev H= .ok v H1:=h;show lX t x i P o ev H2= .ok v H2;unfold lX at h ⊢;cases hb:qK (ev x)with
  |none=>rw [hb]at h;exact j0 h H2
  |some cs=>rw [hb]at h;exact j0 h H2
 |extract x i=>
  rw [ho]at h;have h:pM x i P o ev H= .ok v H1:=h;show pM x i P o ev H2= .ok v H2;unfold pM at h ⊢;cases hb:yO (ev x)with
  |none=>rw [hb]at h;exact j0 h H2
  |some cs=>rw [hb]at h;exact j0 h H2
 |call c=>
  obtain⟨callee,args,argTypes⟩:=c;rw [ho]at h hk;cases callee with
  |value f=>cases hk
  |invoke r m=>cases hk
  |builtin b=>
   have h:nK P o ev b argTypes (args.toList.map ev) H= .ok v H1:=h;show nK P o ev b argTypes (args.toList.map ev) H2= .ok v H2;unfold nK at h ⊢;split at h
   .rw [Zz (ZA hk)]at h ⊢;simp only at h ⊢;split at h
    .cases h;rfl
    .exact j0 h H2
   .split at h
    .cases h;rfl
    .exact j0 h H2
   .cases hk
   .cases hk
   .cases hk
   .cases hk
   .cases hk
   .rename_i i off len cap _ _;have h: @Bool.rec (fun _=>aI) .no (.ok (.ptr i off) H) (Nat.ble 1 len)= .ok v H1:=h;show @Bool.rec (fun _=>aI) .no (.ok (.ptr i off) H2) (Nat.ble 1 len)= .ok v H2
    cases hn:Nat.ble 1 len with
    |false=>rw [hn]at h;cases h
    |true=>rw [hn]at h;cases h;rfl
   .rename_i e' u i k len cap _ _;have h: @Bool.rec (fun _=>aI) .no (.ok (.dy e' u i k 0) H) (Nat.ble 1 len)= .ok v H1:=h;show @Bool.rec (fun _=>aI) .no (.ok (.dy e' u i k 0) H2) (Nat.ble 1 len)= .ok v H2
    cases hn:Nat.ble 1 len with
    |false=>rw [hn]at h;cases h
    |true=>rw [hn]at h;cases h;rfl
   .exact j0 h H2
 |_=>rw [ho]at hk;cases hk
theorem ZH (hk:mg P o.op= .r) {v:aa} {H1:ai} (h:eU o.op P o ev H= .ok v H1):H1=H:=by
 cases ho:o.op with
 |load t x=>
  rw [ho]at h;have h:nJ t x P o ev H= .ok v H1:=h;unfold nJ at h;cases hb:iB (ev x)with
  |no=>
   rw [hb]at h;have h:sI P t (ev x) H= .ok v H1:=h;unfold sI at h;split at h
   .exact(BO h).2
   .rename_i e' u i k off _;cases hc:bt e' u (H.get i) k with
    |false=>rw [hc]at h;cases h
    |true=>rw [hc]at h;exact(BO h).2
   .cases h
  |mk i off=>
   rw [hb]at h;simp only at h;cases hc:sC (H.get i)with
   |no=>rw [hc]at h;cases h
   |mk a b c d e=>rw [hc]at h;exact(BO h).2
 |lookup t m k ok=>rw [ho]at h;exact(BO h).2
 |call c=>
  obtain⟨callee,args,argTypes⟩:=c;rw [ho]at hk;cases callee with
  |value f=>cases hk
  |invoke r m=>cases hk
  |builtin b=>cases b<;>first |cases hk|exact(ZB hk).elim
 |_=>rw [ho]at hk;cases hk
theorem If (hk:(mg P o.op).al=true) {v:aa} {H1:ai} (h:eU o.op P o ev H= .ok v H1):True/\∃blk,H1=H.new blk/\∀H2:ai,H2.next=H.next->eU o.op P o ev H2= .ok v (H2.new blk):=by
 cases ho:o.op with
 |alloc t=>
  rw [ho]at h;have h:sJ t P o ev H= .ok v H1:=h;unfold sJ at h;cases hz:mR P t with
  |none=>rw [hz]at h;cases h
  |some z=>
   rw [hz]at h;cases h;refine⟨trivial,_,rfl,fun H2 h2=> ?_⟩;show sJ t P o ev H2=_;unfold sJ;rw [hz];simp only [h2]
 |box t x=>
  rw [ho]at h;have h:oA t x P o ev H= .ok v H1:=h;unfold oA at h;cases hb:(ev x).uC with
  |true=>rw [hb]at h;cases h
  |false=>
   rw [hb]at h;cases h;refine⟨trivial,_,rfl,fun H2 h2=> ?_⟩;show oA t x P o ev H2=_;unfold oA;rw [hb];simp only [h2]
 |buildSlice t len parts=>
  rw [ho]at h;have h:eE (oB P ev t len parts H)= .ok v H1:=h;have key:∀H2:ai,oB P ev t len parts H2=(oB P ev t len parts {m:= .nil,next:=0}).bind fun _=>(k8 P t).bind fun e=>(cp P e).bind fun s=>(mR P e).bind fun z=>
    ((qM (fun i=>some (i*s,s)) (List.replicate len (gX z.cells)).flatten (qP ev parts)).map fun cs=>(.slice H2.next 0 len (.known len),H2.new (.cells e cs true false false))):=by
   intro H2;unfold oB;cases h1:k8 P t with
   |none=>rfl
   |some e=>
    simp only [Option.bind_some];cases h2:cp P e with
    |none=>rfl
    |some s=>
     simp only [Option.bind_some];cases h3:mR P e with
     |none=>rfl
     |some z=>
      simp only [Option.bind_some];cases h4:(Nat.ble 1 s&&Nat.ble (len*s) 16777216&&Nat.beq z.cells.size s)with
      |false=>rfl
      |true=>
       simp only [cond_true];cases h5:qM (fun i=>some (i*s,s)) (List.replicate len (gX z.cells)).flatten (qP ev parts)with
       |none=>rfl
       |some cs=>rfl
  obtain⟨r,hr⟩:∃r,oB P ev t len parts H=some r:=by
   cases hq:oB P ev t len parts H with
   |none=>rw [hq]at h;cases h
   |some r=>exact⟨r,rfl⟩
  rw [hr]at h;have hk2:=key H;rw [hr]at hk2;have hk2:=hk2.symm;simp only [dG,am]at hk2;obtain⟨cL,h0,e,h1,s,h2,z,h3,cs,h4,h5⟩:=hk2;subst h5;cases h;refine⟨trivial,_,rfl,fun H2 hn=> ?_⟩;show eE (oB P ev t len parts H2)=_;rw [key H2,h0];simp only [Option.bind_some,h1,h2,h3,h4,Option.map_some,hn,eE]
 |call c=>
  obtain⟨callee,args,argTypes⟩:=c;rw [ho]at hk;cases callee with
  |value f=>cases hk
  |invoke r m=>cases hk
  |builtin b=>cases b<;>first |cases hk|exact(ZC hk).elim
 |makeMap t r=>
  rw [ho]at h;have h:eE (qQ P ev t r H)= .ok v H1:=h;have key:∀H2:ai,qQ P ev t r H2=(qQ P ev t r {m:= .nil,next:=0}).map fun _=>(.map H2.next,H2.new (.map #[] 0)):=by
   intro H2;unfold qQ;cases r with
   |none=>rfl
   |some x=>
    simp only;split<;>rfl
  rw [key H]at h;cases hq:qQ P ev t r {m:= .nil,next:=0}with
  |none=>rw [hq]at h;cases h
  |some q=>
   rw [hq]at h;cases h;refine⟨trivial,_,rfl,fun H2 h2=> ?_⟩;show eE (qQ P ev t r H2)=_;rw [key H2,hq];simp only [Option.map_some,eE,h2]
 |makeSlice t l c=>
  rw [ho]at h;have h:eE (pN P t (ev l) (ev c) H)= .ok v H1:=h;obtain⟨q,hq⟩:∃q,pN P t (ev l) (ev c) H=some q:=by
   cases hq:pN P t (ev l) (ev c) H with
   |none=>rw [hq]at h;cases h
   |some q=>exact⟨q,rfl⟩
  rw [hq]at h;have uW:=hq;unfold pN at uW;simp only [dG]at uW;obtain⟨e,h1,inf,h2,z,h3,n,h4,m,h5,h6⟩:=uW;cases hb:(Nat.ble n m&&Nat.ble 1 inf.size&&bounded m inf.bytes&&Nat.beq z.cells.size inf.size)with
  |false=>rw [hb]at h6;cases h6
  |true=>
   rw [hb]at h6;cases h6;cases h;refine⟨trivial,_,rfl,fun H2 hn=> ?_⟩;show eE (pN P t (ev l) (ev c) H2)=_;unfold pN;simp only [h1,h2,h3,h4,h5,Option.bind_some,hb,cond_true,eE,hn]
 |_=>rw [ho]at hk;cases hk
end
end Go.Proofs.YtibikmmdbdlafaaGreatDoor.Sv
/- The runner over an abstract memory: regions that draw their order: the run's record. -/
namespace Go.Proofs.YtibikmmdbdlafaaGreatDoor.Sv
open Go.RowKit
theorem Px {a b:Value} (h:BN a b=true):a=b:=by
 unfold BN at h;split at h
 .simp only [ae,bz]at h;rw [h.1,h.2]
 .simp only [fU]at h;rw [h]
 .simp only [bz]at h;rw [h]
 .rfl
 .simp only [ae]at h;rw [ac h.1,ac h.2]
 .rfl
 .rfl
 .rfl
 .simp only [bz]at h;rw [h]
 .cases h
theorem Iw {f:Value->Value->Bool} (hf:∀a b,f a b=true->a=b):∀{l m:List Value},zo f l m=true->l=m
 |[],[],_=>rfl
 |[],_::_,h=>by cases h
 |_::_,[],h=>by cases h
 |a::l,b::m,h=>by
  have e:zo f (a::l) (b::m)=cond (f a b) (zo f l m) false:=rfl;rw [e]at h;cases hc:f a b with
  |false=>rw [hc]at h;cases h
  |true=>rw [hc]at h;rw [hf a b hc,Iw hf h]
theorem Iy:∀(n:Nat) {a b:Value},xk n a b=true->a=b
 |0,_,_,h=>Px h
 |n+1,a,b,h=>by
  unfold xk at h;split at h
  .rw [Iw (fun _ _ h=>Iy n h) h]
  .rw [Iw (fun _ _ h=>Iy n h) h]
  .exact Px h
theorem Py {a b:aS} (h:aS.same a b=true):a=b:=by
 unfold aS.same at h;split at h
 .rw [ac h]
 .rfl
 .rfl
 .cases h
theorem PA {α:Type} {f:α->α->Bool} (hf:∀a b,f a b=true->a=b):∀{l m:List α},l.length=m.length->(l.zip m).all (fun p=>f p.1 p.2)=true->l=m
 |[],[],_,_=>rfl
 |[],_::_,h,_=>by simp at h
 |_::_,[],h,_=>by simp at h
 |a::l,b::m,h,k=>by
  simp only [List.zip_cons_cons,List.all_cons,ae]at k;rw [hf a b k.1,PA hf (by simpa using h) k.2]
theorem au.zv:∀(t:au) {a b:t.den},t.beq a b=true->a=b
 | .int _,a,b,h=>ap h
 | .bool,a,b,h=>eq_of_beq h
 | .str,a,b,h=>ap h
 | .list _ t,a,b,h=>by
   have h:(Nat.beq a.length b.length&&(a.zip b).all fun p=>t.beq p.1 p.2)=true:=h;rw [ae]at h;exact PA (fun a b h=>t.zv h) (ac h.1) h.2
 | .pair s t,a,b,h=>by
   have h:(s.beq a.1 b.1&&t.beq a.2 b.2)=true:=h;rw [ae]at h;exact Prod.ext (s.zv h.1) (t.zv h.2)
 | .ptr t,_,_,h=>t.zv h
 | .unit,_,_,_=>rfl
theorem PB {t u:au} {xs:List t.den} {ys:List u.den} (h:zq t u xs ys=true):∃e:u=t,xs=e ▸ ys:=by
 unfold zq at h;split at h
 .rename_i e;exact⟨e,(au.zv (.list false t) h:(xs:List t.den)=_)⟩
 .cases h
theorem PC {a b:aa} (h:qe a b=true):a=b:=by
 unfold qe at h;split at h
 .simp only [ae]at h;obtain⟨e,h2⟩:=PB h.2;subst e;subst h2;rw [eq_of_beq h.1]
 .simp only [ae]at h;obtain⟨e,h2⟩:=PB h.1;subst e;subst h2;rw [ac h.2.1,ac h.2.2]
 .simp only [ae,bz]at h;obtain⟨h1,h2,h3,h4,h5,h6⟩:=h;subst h2;rw [ac h1,ac h3,ac h4,ac h5,Py h6]
 .simp only [ae,bz]at h;obtain⟨h1,h2,h3,h4,h5⟩:=h;subst h2;rw [ac h1,ac h3,ac h4,ac h5]
 .rw [Iy 3 h]
 .simp only [ae]at h;rw [ac h.1,ac h.2]
 .simp only [ae]at h;rw [ac h.1.1.1,ac h.1.1.2,ac h.1.2,Py h.2]
 .rw [ac h]
 .simp only [bz]at h;rw [h]
 .rw [ac h]
 .cases h
theorem xo:∀{l m:List aa},p4 l m=true->l=m
 |[],[],_=>rfl
 |[],_::_,h=>by cases h
 |_::_,[],h=>by cases h
 |a::l,b::m,h=>by
  simp only [p4,ae]at h;rw [PC h.1,xo h.2]
theorem ZI {a b:aa} (h:aa.same a b=true):a=b:=by
 unfold aa.same at h;split at h
 .rw [xo h]
 .rw [xo h]
 .simp only [ae,bz]at h;rw [h.1,xo h.2.1,xo h.2.2]
 .simp only [ae,bz]at h;rw [h.1,xo h.2.1,xo h.2.2]
 .exact PC h
theorem BP {i:Nat}:∀{l:List Nat},kF i l=true↔i∈l
 |[]=>by simp [kF]
 |a::l=>by
  have e:kF i (a::l)= @Bool.rec (fun _=>Bool) (kF i l) true (Nat.beq a i):=rfl;rw [e];cases hb:Nat.beq a i with
  |false=>have:=Nat.ne_of_beq_eq_false hb;simp only [BP,dV];exact⟨.inr,fun h=>h.resolve_left fun e=>this e.symm⟩
  |true=>simp [ac hb]
theorem PD {l ds:List Nat} (h:s4 l ds=true):∀i∈l,i∈ds:=fun i hi=>BP.1 (List.all_eq_true.1 h i hi)
theorem PE {bK:av Nat} {e:Nat}:∀{ds:List Nat},(∀d∈ds,(bK.get d).getD 0<=e)->level bK ds<=e
 |[],_=>Nat.zero_le _
 |a::l,h=>by
  have e:level bK (a::l)=Nat.max ((bK.get a).getD 0) (level bK l):=rfl;rw [e];exact Nat.max_le.2 ⟨h a k7,PE fun d hd=>h d (k6 _ hd)⟩
theorem PF {t k:Nat} {o:Oper}:∀{l:List Oper} {i:Nat},g9 t l i=some (k,o)->i<=k/\l[k-i]? =some o/\o.dst=some t
 |[],_,h=>by cases h
 |a::l,i,h=>by
  have e:g9 t (a::l) i=cond (xh t a) (some (i,a)) (g9 t l (i+1)):=rfl;rw [e]at h;cases hd:xh t a with
  |true=>
   rw [hd]at h;cases h;refine⟨aE _,by simp, ?_⟩;unfold xh at hd;split at hd
   .rename_i d he;rw [he,ac hd]
   .cases hd
  |false=>
   rw [hd]at h;obtain⟨h1,h2,h3⟩:=PF (l:=l) h;refine⟨by omega, ?_,h3⟩;have:k-i=(k-(i+1))+1:=by omega
   rw [this];simpa using h2
theorem PG {t:Nat}:∀{l:List Oper} {i:Nat},g9 t l i=none->∀o∈l,o.dst≠some t
 |[],_,_,o,ho=>by simp at ho
 |a::l,i,h,o,ho=>by
  have e:g9 t (a::l) i=cond (xh t a) (some (i,a)) (g9 t l (i+1)):=rfl;rw [e]at h;cases hd:xh t a with
  |true=>rw [hd]at h;cases h
  |false=>
   rw [hd]at h;rcases dV.1 ho with rfl |ho
   .intro hh;unfold xh at hd;rw [hh]at hd;have:Nat.beq t t=true:=Nat.beq_refl t;simp only at hd;rw [this]at hd;cases hd
   .exact PG (l:=l) h o ho
theorem PI {ops:List Oper}:∀{l:List Oper} {i:Nat},qY ops l i=true->∀j o,l[j]? =some o->xj ops (i+j) o=true
 |[],i,h,j,o,hj=>by simp at hj
 |a::l,i,h,j,o,hj=>by
  have e:qY ops (a::l) i=cond (xj ops i a) (qY ops l (i+1)) false:=rfl;rw [e]at h;cases hc:xj ops i a with
  |false=>rw [hc]at h;cases h
  |true=>
   rw [hc]at h;cases j with
   |zero=>simp at hj;subst hj;exact hc
   |succ j=>
    have:=PI (l:=l) h j o (by simpa using hj);have e:i+1+j=i+(j+1):=by omega
    rwa [e]at this
structure ZJ (ops:Array Oper) (i:Nat) (o:Oper):Prop where
 lt:∀d∈cu o,d<i
 slot:∀t,Operand.tmp t∈o.op.operands.toList->(∀(j:Nat) (p:Oper),ops[j]? =some p->p.dst≠some t)\/∃(k:Nat) (p:Oper),ops[k]? =some p/\p.dst=some t/\(k∈cu o\/i∈cu p)
 dst:∀t,o.dst=some t->∀(j:Nat) (p:Oper),ops[j]? =some p->p.dst=some t->j=i
 guard:∀g,o.guard=some g->g.1∈cu o
theorem s5 {ops:Array Oper} (h:qY ops.toList ops.toList 0=true) {i:Nat} {o:Oper} (hi:ops[i]? =some o):ZJ ops i o:=by
 have at':∀{j:Nat} {p:Oper},ops[j]? =some p->xj ops.toList j p=true:=fun {j p} hj=>by
  have:=PI h j p (by simpa using hj);simpa using this
 have own:∀{j:Nat} {p:Oper} {t:Tmp},ops[j]? =some p->p.dst=some t->∃q,g9 t ops.toList 0=some (j,q):=fun {j p t} hj ht=>by
  have hk:=at' hj;simp only [xj,ae,ht]at hk;have h3:=hk.1.2;split at h3
  .rename_i q hq;have:=ac h3;exact⟨q.2,by rw [hq];simp [<-this]⟩
  .cases h3
 have hk:=at' hi;simp only [xj,ae,List.all_eq_true]at hk;obtain⟨⟨⟨h1,h2⟩,h3⟩,h4⟩:=hk;refine⟨fun d hd=>bR (h1 d hd),fun t ht=> ?_,fun t ht j p hj hp=> ?_,fun g hg=> ?_⟩
 .have BQ:=h2 t (List.mem_filterMap.2 ⟨_,ht,rfl⟩);cases hw:g9 t ops.toList 0 with
  |none=>exact .inl fun j p hj=>PG hw p (List.mem_of_getElem? (by simpa using hj))
  |some q=>
   obtain⟨k,p⟩:=q;rw [hw]at BQ;obtain⟨_,e2,e3⟩:=PF hw;simp only [Bool.or_eq_true,BP]at BQ;exact .inr ⟨k,p,by simpa using e2,e3,BQ⟩
 .obtain⟨q,hq⟩:=own hi ht;obtain⟨q',PJ⟩:=own hj hp;rw [hq]at PJ;cases PJ;rfl
 .rw [hg]at h4;exact BP.1 h4
theorem BR {T aL:av aa} {n:Nat} {dst:Option Tmp} {v:aa} (h:iC T n dst v=some aL) (t:Nat):aL.get t=if dst=some t then some v else T.get t:=by
 cases dst with
 |none=>cases h;simp
 |some d=>
  have e:iC T n (some d) v= @Bool.rec (fun _=>Option (av aa)) none (some (T.set d (some v))) (Nat.ble (Nat.succ d) n):=rfl;rw [e]at h;cases hb:Nat.ble (Nat.succ d) n with
  |false=>rw [hb]at h;cases h
  |true=>
   rw [hb]at h;cases h;rw [av.fQ];by_cases hd:d=t<;>simp [hd]
theorem ZK {T aL:av aa} {n:Nat} {dst:Option Tmp} {v:aa} (h:iC T n dst v=some aL) (T2:av aa):∃ZL,iC T2 n dst v=some ZL:=by
 cases dst with
 |none=>exact⟨_,rfl⟩
 |some d=>
  have e:∀T,iC T n (some d) v= @Bool.rec (fun _=>Option (av aa)) none (some (T.set d (some v))) (Nat.ble (Nat.succ d) n):=fun _=>rfl
  rw [e]at h ⊢;cases hb:Nat.ble (Nat.succ d) n with
  |false=>rw [hb]at h;cases h
  |true=>exact⟨_,rfl⟩
inductive Iz (P:Program) (call:er) (round:jC) (ops:Array Oper) (o:Oper) (s:fR) (v:aa) (s':fR):Prop
 |skip (h:gu s.T ops o=some false) (hv:v= .raw undef) (hk:s'.k=s.k) (hc:s'.cur=s.cur) (hh:s'.hs=s.hs) (hl:s'.bK=s.bK.set s.i (some (level s.bK (cu o)))) (hp:s'.dz=s.dz) (ha:s'.c7=s.c7)
 |p (h:gu s.T ops o=some true) (fX:mg P o.op= .p) (hop:∃H,eU o.op P o (cc s.T) s.cur= .ok v H) (hk:s'.k=s.k) (hc:s'.cur=s.cur) (hh:s'.hs=s.hs) (hl:s'.bK=s.bK.set s.i (some (level s.bK (cu o)))) (hp:s'.dz=s.dz) (ha:s'.c7=s.c7)
 |r (h:gu s.T ops o=some true) (fX:mg P o.op= .r) (hr:qZ P o (cc s.T) v (s.hs.take (s.k+1-level s.bK (cu o)))=true) (hk:s'.k=s.k) (hc:s'.cur=s.cur) (hh:s'.hs=s.hs) (hl:s'.bK=s.bK.set s.i (some (level s.bK (cu o)))) (hp:s'.dz=⟨s.i,o,s.T,v⟩::s.dz) (ha:s'.c7=s.c7)
 |a (h:gu s.T ops o=some true) (fX:(mg P o.op).al=true) (hop:eU o.op P o (cc s.T) s.cur= .ok v s'.cur) (hk:s'.k=s.k) (hh:s'.hs=s.hs) (hl:s'.bK=s.bK.set s.i (some (level s.bK (cu o)))) (hp:s'.dz=s.dz) (ha:s'.c7=s.i::s.c7)
 |e (h:gu s.T ops o=some true) (hlv:level s.bK (cu o)=s.k) (hs:∀j∈s.c7,j∈cu o) (hop:iO P call round o (cc s.T) s.cur= .ok v s'.cur) (gw:hJ P s'.cur (jm (cu o) s.dz)=true)
    (hk:s'.k=s.k+1) (hh:s'.hs=s'.cur::s.hs) (hl:s'.bK=s.bK.set s.i (some (s.k+1))) (hp:s'.dz=jm (cu o) s.dz) (ha:s'.c7=[])
theorem IA {P:Program} {call:er} {round:jC} {ops:Array Oper} {n:Nat} {o:Oper} {s s':fR} (h:np P call round ops n o s=some s'):∃v,iC s.T n o.dst v=some s'.T/\s'.i=s.i+1/\Iz P call round ops o s v s':=by
 unfold np at h;simp only [mh]at h;split at h
 .cases h
 .rename_i hw;simp only [am]at h;obtain⟨T,hT,rfl⟩:=h;exact⟨_,hT,rfl, .skip hw rfl rfl rfl rfl rfl rfl rfl⟩
 .rename_i hw;split at h
  .rename_i fX;split at h
   .rename_i v H hop;simp only [am]at h;obtain⟨T,hT,rfl⟩:=h;exact⟨v,hT,rfl, .p hw fX ⟨H,hop⟩ rfl rfl rfl rfl rfl rfl⟩
   .cases h
  .rename_i fX;split at h
   .split at h
    .rename_i H l aqx v H' hop;cases hr:qZ P o (cc s.T) v (s.hs.take (s.k+1-level s.bK (cu o)))with
     |false=>rw [hr]at h;cases h
     |true=>
      rw [hr]at h;simp only [cond_true,am]at h;obtain⟨T,hT,rfl⟩:=h;exact⟨v,hT,rfl, .r hw fX hr rfl rfl rfl rfl rfl rfl⟩
    .cases h
   .cases h
  .rename_i fX;split at h
   .rename_i v H hop;simp only [am]at h;obtain⟨T,hT,rfl⟩:=h;exact⟨v,hT,rfl, .a hw (by rw [fX];rfl) hop rfl rfl rfl rfl rfl⟩
   .cases h
  .rename_i fX;cases hc:(Nat.beq (level s.bK (cu o)) s.k&&s4 s.c7 (cu o))with
   |false=>rw [hc]at h;cases h
   |true=>
    rw [hc]at h;simp only [ae]at hc;simp only [cond_true]at h;split at h
    .rename_i v H hop;cases hp:hJ P H (jm (cu o) s.dz)with
     |false=>rw [hp]at h;cases h
     |true=>
      rw [hp]at h;simp only [cond_true,am]at h;obtain⟨T,hT,rfl⟩:=h;exact⟨v,hT,rfl, .e hw (ac hc.1) (PD hc.2) hop hp rfl rfl rfl rfl rfl⟩
    .cases h
  .rename_i fX;cases hc:(Nat.beq (level s.bK (cu o)) s.k&&s4 s.c7 (cu o))with
   |false=>
    rw [hc]at h;simp only [cond_false]at h;split at h
    .rename_i v H hop;simp only [am]at h;obtain⟨T,hT,rfl⟩:=h;exact⟨v,hT,rfl, .a hw (by rw [fX];rfl) hop rfl rfl rfl rfl rfl⟩
    .cases h
   |true=>
    rw [hc]at h;simp only [ae]at hc;simp only [cond_true]at h;split at h
    .rename_i v H hop;cases hp:hJ P H (jm (cu o) s.dz)with
     |false=>rw [hp]at h;cases h
     |true=>
      rw [hp]at h;simp only [cond_true,am]at h;obtain⟨T,hT,rfl⟩:=h;exact⟨v,hT,rfl, .e hw (ac hc.1) (PD hc.2) hop hp rfl rfl rfl rfl rfl⟩
    .cases h
theorem PK {P:Program} {call:er} {round:jC} {ops:Array Oper} {n:Nat} {aL:av aa} {H':ai}:∀{l:List Oper} {s:fR},xm P call round ops n l s= .mk aL H'->
  ∃S:Nat->fR,S 0=s/\(∀i o,l[i]? =some o->np P call round ops n o (S i)=some (S (i+1)))/\(S l.length).T=aL/\(S l.length).cur=H'
 |[],s,h=>by cases h;exact⟨fun _=>s,rfl,fun i o h=>by simp at h,rfl,rfl⟩
 |o::l,s,h=>by
  have e:xm P call round ops n (o::l) s=match np P call round ops n o s with
   |some s=>xm P call round ops n l s
   |none=> .no:=rfl
  rw [e]at h;cases hs:np P call round ops n o s with
  |none=>rw [hs]at h;cases h
  |some s1=>
   rw [hs]at h;obtain⟨S,h0,h1,h2,h3⟩:=PK (l:=l) h;refine⟨fun i=>match i with |0=>s|i+1=>S i,rfl,fun i o' hi=> ?_,h2,h3⟩;cases i with
   |zero=>simp at hi;subst hi;simp only [h0];exact hs
   |succ i=>exact h1 i o' (by simpa using hi)
structure cY (P:Program) (call:er) (round:jC) (ops:Array Oper) (n:Nat) (S:Nat->fR) (V:Nat->aa):Prop where
 ok:qY ops.toList ops.toList 0=true
 BS:∃T H,S 0={i:=0,k:=0,T:=T,cur:=H,hs:=[H],bK:= .nil,dz:=[],c7:=[]}
 put:∀i o,ops[i]? =some o->iC (S i).T n o.dst (V i)=some (S (i+1)).T
 kind:∀i o,ops[i]? =some o->Iz P call round ops o (S i) (V i) (S (i+1))
 i:∀i,i<=ops.size->(S i).i=i
theorem PL {P:Program} {call:er} {round:jC} {ops:Array Oper} {n:Nat} {T aL:av aa} {H H':ai} (h:zu P call round ops n T H= .mk aL H'):
  ∃S V,cY P call round ops n S V/\(S 0).T=T/\(S 0).cur=H/\(S ops.size).T=aL/\(S ops.size).cur=H':=by
 unfold zu at h;cases hk:qY ops.toList ops.toList 0 with
 |false=>rw [hk]at h;cases h
 |true=>
  rw [hk]at h;obtain⟨S,h0,h1,h2,h3⟩:=PK (l:=ops.toList) h;have step:∀i o,ops[i]? =some o->np P call round ops n o (S i)=some (S (i+1)):=fun i o hi=>h1 i o (by simpa using hi)
  classical
  refine⟨S,fun i=>match ops[i]? with |some o=>if h:∃v,iC (S i).T n o.dst v=some (S (i+1)).T/\(S (i+1)).i=(S i).i+1/\Iz P call round ops o (S i) v (S (i+1))then h.choose else .raw undef|none=> .raw undef,⟨hk,⟨T,H,h0⟩,fun i o hi=> ?_,fun i o hi=> ?_,fun i=> ?_⟩,by rw [h0],by rw [h0],by simpa using h2,by simpa using h3⟩
  .have hx:=IA (step i o hi);simp only [hi,dif_pos hx];exact hx.choose_spec.1
  .have hx:=IA (step i o hi);simp only [hi,dif_pos hx];exact hx.choose_spec.2.2
  .induction i with
   |zero=>intro _;rw [h0]
   |succ i ih=>
    intro hi;have hlt:i<ops.size:=hi;obtain⟨v,_,e,_⟩:=IA (step i ops[i] (by simp));rw [e,ih (Nat.le_of_lt hlt)]
variable [Ground]
theorem PM {bK D5:av Nat}:∀{ds:List Nat},(∀d∈ds,bK.get d=D5.get d)->level bK ds=level D5 ds
 |[],_=>rfl
 |a::l,h=>by
  show Nat.max ((bK.get a).getD 0) (level bK l)=Nat.max ((D5.get a).getD 0) (level D5 l);rw [h a k7,PM fun d hd=>h d (k6 _ hd)]
theorem D6 {ds:List Nat} {q:oL} (hq:¬q.i∈ds):∀{l:List oL},q∈l->q∈jm ds l
 |[],h=>by cases h
 |a::l,h=>by
  show q∈cond (kF a.i ds) (jm ds l) (a::jm ds l);cases hm:kF a.i ds with
  |true=>
   rcases dV.1 h with rfl |h
   .exact absurd (BP.1 hm) hq
   .exact D6 hq h
  |false=>
   rcases dV.1 h with rfl |h
   .exact k7
   .exact k6 _ (D6 hq h)
theorem sm {P:Program} {H:ai} {q:oL}:∀{l:List oL},hJ P H l=true->q∈l->oK P q.o (cc q.T) q.v H=true
 |[],_,h=>by cases h
 |a::l,hp,h=>by
  have e:hJ P H (a::l)=cond (oK P a.o (cc a.T) a.v H) (hJ P H l) false:=rfl;rw [e]at hp;cases hr:oK P a.o (cc a.T) a.v H with
  |false=>rw [hr]at hp;cases hp
  |true=>
   rw [hr]at hp;rcases dV.1 h with rfl |h
   .exact hr
   .exact sm hp h
theorem PN {P:Program} {o:Oper} {ev:dH} {v:aa} {H:ai}:∀{l:List ai},qZ P o ev v l=true->H∈l->oK P o ev v H=true
 |[],_,h=>by cases h
 |a::l,hp,h=>by
  have e:qZ P o ev v (a::l)=cond (oK P o ev v a) (qZ P o ev v l) false:=rfl;rw [e]at hp;cases hr:oK P o ev v a with
  |false=>rw [hr]at hp;cases hp
  |true=>
   rw [hr]at hp;rcases dV.1 h with rfl |h
   .exact hr
   .exact PN hp h
theorem ZM {P:Program} {o:Oper} {ev:dH} {v:aa} {H:ai} (hk:mg P o.op= .r) (h:oK P o ev v H=true):eU o.op P o ev H= .ok v H:=by
 unfold oK at h;split at h
 .rename_i v' H' hop;rw [hop,ZI h,ZH hk hop]
 .cases h
section
variable {P:Program} {call:er} {round:jC} {ops:Array Oper} {n:Nat} {S:Nat->fR} {V:Nat->aa}
theorem lz {i:Nat} (h:i<ops.size):∃o,ops[i]? =some o:=⟨ops[i],by simp⟩
abbrev eP (S:Nat->fR) (m:Nat):Prop:=(S (m+1)).k=(S m).k+1
abbrev jJ (S:Nat->fR) (j:Nat):Prop:=(S (j+1)).c7=j::(S j).c7
noncomputable abbrev lvl (S:Nat->fR) (N j:Nat):Nat:=((S N).bK.get j).getD 0
noncomputable abbrev hpf (S:Nat->fR) (N e:Nat):ai:=((S N).hs.reverse[e]?).getD {m:= .nil,next:=0}
variable (R:cY P call round ops n S V)
include R
theorem cY.PO {i:Nat} (hi:i<ops.size):(S (i+1)).k=(S i).k\/(S (i+1)).k=(S i).k+1:=by
 obtain⟨o,ho⟩:=lz hi;cases R.kind i o ho with
 |skip _ _ hk=>exact .inl hk
 |p _ _ _ hk=>exact .inl hk
 |r _ _ _ hk=>exact .inl hk
 |a _ _ _ hk=>exact .inl hk
 |e _ _ _ _ _ hk=>exact .inr hk
theorem cY.q2 {i:Nat}:∀{j:Nat},i<=j->j<=ops.size->(S i).k<=(S j).k
 |0,h,_=>by have:i=0:=by omega
            subst this;exact aE _
 |j+1,h,hj=>by
  by_cases hi:i=j+1
  .subst hi;exact aE _
  .have h1:=cY.q2 (i:=i) (j:=j) (by omega) (by omega);have h2:=R.PO (i:=j) (by omega);omega
theorem cY.D7 {i e:Nat}:∀{j:Nat},i<=j->j<=ops.size->(S i).k<e->e<=(S j).k->∃m,i<=m/\m<j/\(S m).k+1=e/\eP S m
 |0,h,_,h1,h2=>by have:i=0:=by omega
                  subst this;omega
 |j+1,h,hj,h1,h2=>by
  by_cases hi:i=j+1
  .subst hi;omega
  .by_cases he:e<=(S j).k
   .obtain⟨m,a,b,c,d⟩:=cY.D7 (j:=j) (by omega) (by omega) h1 he;exact⟨m,a,by omega,c,d⟩
   .have h3:=R.PO (i:=j) (by omega);exact⟨j,by omega,by omega,by omega,by unfold eP;omega⟩
theorem cY.k0:(S 0).k=0:=by obtain⟨T,H,h⟩:=R.BS;rw [h]
theorem cY.PR (hC:bB P call) (hR:lq P round) {i:Nat} (hi:i<ops.size):(S i).cur.next<=(S (i+1)).cur.next:=by
 obtain⟨o,ho⟩:=lz hi;cases R.kind i o ho with
 |skip _ _ _ hc=>exact Nat.le_of_eq (by rw [hc])
 |p _ _ _ _ hc=>exact Nat.le_of_eq (by rw [hc])
 |r _ _ _ _ hc=>exact Nat.le_of_eq (by rw [hc])
 |a _ fX hop=>
  obtain⟨_,blk,e,_⟩:=If fX hop;rw [e];exact Nat.le_succ _
 |e _ _ _ hop=>exact sf hC hR hop
theorem cY.oM (hC:bB P call) (hR:lq P round) {i:Nat}:∀{j:Nat},i<=j->j<=ops.size->(S i).cur.next<=(S j).cur.next
 |0,h,_=>by have:i=0:=by omega
            subst this;exact aE _
 |j+1,h,hj=>by
  by_cases hi:i=j+1
  .subst hi;exact aE _
  .exact cX (cY.oM hC hR (i:=i) (j:=j) (by omega) (by omega)) (R.PR hC hR (by omega))
theorem cY.ZN {i x:Nat} (hi:i<ops.size) (hx:x≠i):(S (i+1)).bK.get x=(S i).bK.get x:=by
 obtain⟨o,ho⟩:=lz hi;have e:=R.i i (Nat.le_of_lt hi);have key:∀y,((S i).bK.set (S i).i (some y)).get x=(S i).bK.get x:=fun y=>by rw [av.fQ,e,if_neg fun h=>hx h.symm]
 cases R.kind i o ho with
 |skip _ _ _ _ _ hl=>rw [hl,key]
 |p _ _ _ _ _ _ hl=>rw [hl,key]
 |r _ _ _ _ _ _ hl=>rw [hl,key]
 |a _ _ _ _ _ hl=>rw [hl,key]
 |e _ _ _ _ _ _ _ hl=>rw [hl,key]
theorem cY.IB {i x:Nat} (hx:x<i):∀{j:Nat},i<=j->j<=ops.size->(S j).bK.get x=(S i).bK.get x
 |0,h,_=>by omega
 |j+1,h,hj=>by
  by_cases hi:i=j+1
  .subst hi;rfl
  .rw [R.ZN (by omega) (by omega),cY.IB hx (j:=j) (by omega) (by omega)]
theorem cY.level {i:Nat} {o:Oper} (ho:ops[i]? =some o):level (S i).bK (cu o)=level (S ops.size).bK (cu o):=by
 have hi:i<ops.size:=(dx.1 ho).1;exact PM fun d hd=>(R.IB ((s5 R.ok ho).lt d hd) (Nat.le_of_lt hi) (aE _)).symm
theorem cY.IC {i:Nat} {o:Oper} (ho:ops[i]? =some o):(eP S i/\lvl S ops.size i=(S i).k+1)\/(¬eP S i/\lvl S ops.size i=Sv.level (S ops.size).bK (cu o)):=by
 have hi:i<ops.size:=(dx.1 ho).1;have e:=R.i i (Nat.le_of_lt hi);have h1:lvl S ops.size i=((S (i+1)).bK.get i).getD 0:=by unfold lvl;rw [R.IB (e7 i) hi (aE _)]
 have key:∀y,(S (i+1)).bK=(S i).bK.set (S i).i (some y)->lvl S ops.size i=y:=fun y h=>by rw [h1,h,av.fQ,e,if_pos rfl];rfl
 have hl:=R.level ho;cases R.kind i o ho with
 |skip _ _ hk _ _ hh=>exact .inr ⟨by unfold eP;omega,by rw [key _ hh,hl]⟩
 |p _ _ _ hk _ _ hh=>exact .inr ⟨by unfold eP;omega,by rw [key _ hh,hl]⟩
 |r _ _ _ hk _ _ hh=>exact .inr ⟨by unfold eP;omega,by rw [key _ hh,hl]⟩
 |a _ _ _ hk _ hh=>exact .inr ⟨by unfold eP;omega,by rw [key _ hh,hl]⟩
 |e _ _ _ _ _ hk _ hh=>exact .inl ⟨hk,by rw [key _ hh]⟩
theorem cY.D8 {i:Nat} (hi:i<ops.size):((S (i+1)).hs=(S i).hs/\(S (i+1)).k=(S i).k)\/((S (i+1)).hs=(S (i+1)).cur::(S i).hs/\(S (i+1)).k=(S i).k+1):=by
 obtain⟨o,ho⟩:=lz hi;cases R.kind i o ho with
 |skip _ _ hk _ hh=>exact .inl ⟨hh,hk⟩
 |p _ _ _ hk _ hh=>exact .inl ⟨hh,hk⟩
 |r _ _ _ hk _ hh=>exact .inl ⟨hh,hk⟩
 |a _ _ _ hk hh=>exact .inl ⟨hh,hk⟩
 |e _ _ _ _ _ hk hh=>exact .inr ⟨hh,hk⟩
theorem cY.D9 {i:Nat} (hi:i<=ops.size):(S i).hs.length=(S i).k+1:=by
 induction i with
 |zero=>obtain⟨T,H,h⟩:=R.BS;rw [h];rfl
 |succ i ih=>
  have ih:=ih (Nat.le_of_succ_le hi);rcases R.D8 (i:=i) hi with⟨a,b⟩|⟨a,b⟩
  .rw [a,b,ih]
  .rw [a,b,List.length_cons,ih]
theorem cY.PS {i e:Nat} (he:e<=(S i).k):∀{j:Nat},i<=j->j<=ops.size->(S j).hs.reverse[e]? =(S i).hs.reverse[e]?
 |0,h,_=>by have:i=0:=by omega
            subst this;rfl
 |j+1,h,hj=>by
  by_cases hi:i=j+1
  .subst hi;rfl
  .have ih:=cY.PS he (j:=j) (by omega) (by omega);rcases R.D8 (i:=j) hj with⟨a,b⟩|⟨a,b⟩
   .rw [a,ih]
   .have hl:=R.D9 (i:=j) (by omega);have hm:=R.q2 (i:=i) (j:=j) (by omega) (by omega);rw [a,List.reverse_cons,List.getElem?_append_left (by simp;omega),ih]
theorem cY.ID {i e:Nat} (hi:i<=ops.size) (he:e<=(S i).k):(S i).hs.reverse[e]? =some (hpf S ops.size e):=by
 have h1:=R.PS he hi (aE _);have hl:=R.D9 hi;have h2:∃x,(S i).hs.reverse[e]? =some x:=⟨_,mP (by simp;omega)⟩;obtain⟨x,hx⟩:=h2;unfold hpf;rw [h1,hx];rfl
theorem cY.Ea {i:Nat} (hi:i<ops.size) (he:eP S i):hpf S ops.size ((S i).k+1)=(S (i+1)).cur:=by
 have h1:=R.ID (i:=i+1) (e:=(S i).k+1) hi (by unfold eP at he;omega);have hl:=R.D9 (i:=i) (by omega);unfold eP at he;rcases R.D8 (i:=i) hi with⟨a,b⟩|⟨a,b⟩
 .omega
 .rw [a,List.reverse_cons,List.getElem?_append_right (by simp;omega)]at h1;simp [hl]at h1;exact h1.symm
theorem cY.IE:hpf S ops.size 0=(S 0).cur:=by
 have h1:=R.ID (i:=0) (e:=0) (Nat.zero_le _) (Nat.zero_le _);obtain⟨T,H,h⟩:=R.BS;rw [h]at h1 ⊢;simp at h1;exact h1.symm
theorem cY.ZO {i e l:Nat} (hi:i<=ops.size) (he:e<=(S i).k) (hl:l<=e):hpf S ops.size e∈(S i).hs.take ((S i).k+1-l):=by
 have h1:=R.ID hi he;have hn:=R.D9 hi;rw [List.getElem?_reverse (by omega)]at h1;refine List.mem_of_getElem? (i:=(S i).hs.length-1-e) ?_;rw [List.getElem?_take_of_lt (by omega)];exact h1
theorem cY.IF {i:Nat} (hi:i<=ops.size):∀j,j∈(S i).c7↔(j<i/\jJ S j/\(S j).k=(S i).k):=by
 induction i with
 |zero=>intro j;obtain⟨T,H,h⟩:=R.BS;rw [h];simp
 |succ i ih=>
  have ih:=ih (Nat.le_of_succ_le hi);obtain⟨o,ho⟩:=lz (ops:=ops) (i:=i) hi;have e:=R.i i (Nat.le_of_lt hi);have same:(S (i+1)).c7=(S i).c7->(S (i+1)).k=(S i).k->∀j,j∈(S (i+1)).c7↔(j<i+1/\jJ S j/\(S j).k=(S (i+1)).k):=fun ha hk j=>by
   rw [ha,hk,ih];constructor
   .rintro⟨a,b,c⟩;exact⟨by omega,b,c⟩
   .rintro⟨a,b,c⟩;refine⟨?_,b,c⟩;by_cases hj:j=i
    .subst hj;unfold jJ at b;rw [ha]at b;have:=congrArg List.length b;simp at this
    .omega
  cases R.kind i o ho with
  |skip _ _ hk _ _ _ _ ha=>exact same ha hk
  |p _ _ _ hk _ _ _ _ ha=>exact same ha hk
  |r _ _ _ hk _ _ _ _ ha=>exact same ha hk
  |a _ _ _ hk _ _ _ ha=>
   intro j;rw [ha,hk,e,dV,ih];constructor
   .rintro(rfl |⟨a,b,c⟩)
    .exact⟨e7 _,by unfold jJ;rw [ha,e],rfl⟩
    .exact⟨by omega,b,c⟩
   .rintro⟨a,b,c⟩;by_cases hj:j=i
    .exact .inl hj
    .exact .inr ⟨by omega,b,c⟩
  |e _ _ _ _ _ hk _ _ _ ha=>
   intro j;rw [ha,hk];constructor
   .intro h;cases h
   .rintro⟨a,b,c⟩;have:=R.q2 (i:=j) (j:=i) (by omega) (by omega);omega
noncomputable abbrev uX (S:Nat->fR) (j:Nat):Option bf:=(S (j+1)).cur.get (S j).cur.next
theorem cY.PT {i:Nat} {o:Oper} (ho:ops[i]? =some o) (ha:jJ S i):gu (S i).T ops o=some true/\(mg P o.op).al=true/\eU o.op P o (cc (S i).T) (S i).cur= .ok (V i) (S (i+1)).cur/\(S (i+1)).k=(S i).k:=by
 have hi:i<ops.size:=(dx.1 ho).1;have no:(S (i+1)).c7=(S i).c7->False:=fun h=>by
  unfold jJ at ha;rw [h]at ha;have:=congrArg List.length ha;simp at this
 cases R.kind i o ho with
 |skip _ _ _ _ _ _ _ h=>exact(no h).elim
 |p _ _ _ _ _ _ _ _ h=>exact(no h).elim
 |r _ _ _ _ _ _ _ _ h=>exact(no h).elim
 |a h1 h2 h3 h4=>exact⟨h1,h2,h3,h4⟩
 |e _ _ _ _ _ _ _ _ _ h=>unfold jJ at ha;rw [h]at ha;cases ha
theorem cY.PU {i:Nat} (hi:i<=ops.size):(∀x b,(S i).cur.get x=some b->(hpf S ops.size (S i).k).get x=some b\/∃j∈(S i).c7,x=(S j).cur.next/\uX S j=some b)/\
  (∀x,(hpf S ops.size (S i).k).get x≠none->(S i).cur.get x≠none)/\(∀j∈(S i).c7,(S i).cur.get (S j).cur.next≠none):=by
 induction i with
 |zero=>
  rw [R.k0,R.IE];refine⟨fun x b h=> .inl h,fun x h=>h,fun j hj=> ?_⟩;obtain⟨T,H,h⟩:=R.BS;rw [h]at hj;cases hj
 |succ i ih=>
  have ih:=ih (Nat.le_of_succ_le hi);obtain⟨o,ho⟩:=lz (ops:=ops) (i:=i) hi;have e:=R.i i (Nat.le_of_lt hi);cases R.kind i o ho with
  |skip _ _ hk hc _ _ _ ha=>rw [hk,hc,ha];exact ih
  |p _ _ _ hk hc _ _ _ ha=>rw [hk,hc,ha];exact ih
  |r _ _ _ hk hc _ _ _ ha=>rw [hk,hc,ha];exact ih
  |a _ fX hop hk _ _ _ ha=>
   obtain⟨_,blk,mZ,_⟩:=If fX hop;rw [hk,ha,e];refine⟨fun x b h=> ?_,fun x h=> ?_,fun j hj=> ?_⟩
   .rw [mZ,ai.gb]at h;split at h
    .rename_i hx;refine .inr ⟨i,k7,hx.symm, ?_⟩;unfold uX;rw [mZ,ai.gb,if_pos rfl,h]
    .rcases ih.1 x b h with h|⟨j,h1,h2⟩
     .exact .inl h
     .exact .inr ⟨j,k6 _ h1,h2⟩
   .rw [mZ,ai.gb];split
    .simp
    .exact ih.2.1 x h
   .rw [mZ,ai.gb];split
    .simp
    .rename_i hne;rcases dV.1 hj with rfl |hj
     .exact absurd rfl hne
     .exact ih.2.2 j hj
  |e _ _ _ _ _ hk _ _ _ ha=>
   rw [hk,R.Ea hi hk,ha];exact⟨fun x b h=> .inl h,fun x h=>h,fun j hj=>by cases hj⟩
theorem cY.PV {i:Nat} {o:Oper} (ho:ops[i]? =some o) (hp:(S (i+1)).dz=⟨(S i).i,o,(S i).T,V i⟩::(S i).dz):∀{j:Nat},i<j->j<=ops.size->
  (∀m mj,i<m->m<j->eP S m->ops[m]? =some mj->¬i∈cu mj)->(⟨(S i).i,o,(S i).T,V i⟩:oL)∈(S j).dz
 |0,h,_,_=>by omega
 |j+1,h,hj,hm=>by
  by_cases hi:i=j
  .subst hi;rw [hp];exact k7
  .have ih:=cY.PV ho hp (j:=j) (by omega) (by omega) fun m mj h1 h2=>hm m mj h1 (by omega)
   obtain⟨oj,zw⟩:=lz (ops:=ops) (i:=j) hj;have kG:=R.i i (by omega);cases R.kind j oj zw with
   |skip _ _ _ _ _ _ hq=>rw [hq];exact ih
   |p _ _ _ _ _ _ _ hq=>rw [hq];exact ih
   |r _ _ _ _ _ _ _ hq=>rw [hq];exact k6 _ ih
   |a _ _ _ _ _ _ hq=>rw [hq];exact ih
   |e _ _ _ _ _ hk _ _ hq=>rw [hq];exact D6 (by rw [kG];exact hm j oj (by omega) (e7 _) hk zw) ih
theorem cY.read {i e:Nat} {o:Oper} (ho:ops[i]? =some o) (fX:mg P o.op= .r) (hr:qZ P o (cc (S i).T) (V i) ((S i).hs.take ((S i).k+1-Sv.level (S i).bK (cu o)))=true)
  (hp:(S (i+1)).dz=⟨(S i).i,o,(S i).T,V i⟩::(S i).dz) (hl:Sv.level (S ops.size).bK (cu o)<=e) (he:e<=(S ops.size).k) (hm:∀m mj,m<ops.size->eP S m->(S m).k<e->ops[m]? =some mj->¬i∈cu mj):
  eU o.op P o (cc (S i).T) (hpf S ops.size e)= .ok (V i) (hpf S ops.size e):=by
 have hi:i<ops.size:=(dx.1 ho).1;refine ZM fX ?_;by_cases hk:e<=(S i).k
 .exact PN hr (R.ZO (Nat.le_of_lt hi) hk (by rw [R.level ho];exact hl))
 .obtain⟨m,h1,h2,h3,h4⟩:=R.D7 (i:=i) (j:=ops.size) (Nat.le_of_lt hi) (aE _) (by omega) he;obtain⟨mj,s6⟩:=lz h2;have him:i≠m:=fun hh=>by
   subst hh;rw [ho]at s6;cases s6;have hc:=R.kind i o ho;have:=R.D8 h2;cases hc with
   |skip _ _ hk=>unfold eP at h4;omega
   |p _ _ _ hk=>unfold eP at h4;omega
   |r _ _ _ hk=>unfold eP at h4;omega
   |a _ _ _ hk=>unfold eP at h4;omega
   |e _ _ _ _ _ _ _ _ hq=>
    have h1:=congrArg List.length (hp.symm.trans hq);have h2:∀(ds:List Nat) (l:List oL),(jm ds l).length<=l.length:=fun ds l=>by
     induction l with
     |nil=>exact aE _
     |cons a l ih=>
      show(cond (kF a.i ds) (jm ds l) (a::jm ds l)).length<=_;cases kF a.i ds<;>simp<;>omega
    have:=h2 (cu o) (S i).dz;simp at h1;omega
  have hq:=R.PV ho hp (j:=m) (by omega) (Nat.le_of_lt h2) fun m' ZP a b c d=>hm m' ZP (by omega) c (by
   have:=R.q2 (i:=m') (j:=m) (by omega) (by omega);omega) d
  have kG:=R.i i (Nat.le_of_lt hi);cases R.kind m mj s6 with
  |skip _ _ hk=>unfold eP at h4;omega
  |p _ _ _ hk=>unfold eP at h4;omega
  |r _ _ _ hk=>unfold eP at h4;omega
  |a _ _ _ hk=>unfold eP at h4;omega
  |e _ _ _ _ gw=>
   have:=sm gw (D6 (by rw [kG];exact hm m mj h2 h4 (by omega) s6) hq);rw [<-R.Ea h2 h4,h3]at this;exact this
theorem cY.PW {t:Nat} (h:∀(j:Nat) (p:Oper),ops[j]? =some p->p.dst≠some t) {i:Nat} (hi:i<=ops.size):(S i).T.get t=(S 0).T.get t:=by
 induction i with
 |zero=>rfl
 |succ i ih=>
  obtain⟨o,ho⟩:=lz (ops:=ops) (i:=i) hi;rw [BR (R.put i o ho),if_neg (h i o ho),ih (Nat.le_of_succ_le hi)]
theorem cY.ZQ {t k:Nat} {p:Oper} (hk:ops[k]? =some p) (hp:p.dst=some t) {i:Nat} (hi:i<=k):(S i).T.get t=(S 0).T.get t:=by
 have pT:k<ops.size:=(dx.1 hk).1;induction i with
 |zero=>rfl
 |succ i ih=>
  obtain⟨o,ho⟩:=lz (ops:=ops) (i:=i) (by omega);rw [BR (R.put i o ho),if_neg (fun hh=>by
   have:=(s5 R.ok hk).dst t hp i o ho hh;omega),ih (Nat.le_of_succ_le hi)]
theorem cY.Eb {t k:Nat} {p:Oper} (hk:ops[k]? =some p) (hp:p.dst=some t):∀{i:Nat},k<i->i<=ops.size->(S i).T.get t=some (V k)
 |0,h,_=>by omega
 |i+1,h,hi=>by
  obtain⟨o,ho⟩:=lz (ops:=ops) (i:=i) (by omega);rw [BR (R.put i o ho)];by_cases hik:i=k
  .subst hik;rw [hk]at ho;cases ho;rw [if_pos hp]
  .rw [if_neg (fun hh=>hik ((s5 R.ok hk).dst t hp i o ho hh)),cY.Eb hk hp (i:=i) (by omega) (by omega)]
end
end Go.Proofs.YtibikmmdbdlafaaGreatDoor.Sv
namespace Go.Proofs.YtibikmmdbdlafaaGreatDoor.Sv
open Go.RowKit
variable [Ground]
structure q3 (P:Program) (B:Nat) (eG:Env) (H0:ai) (w0:World) (top:Nat) (ρ:Env) (g:Nat->Option bf) (w:World):Prop where
 blk:∀i k,g i=some k->∃b c o,ρ i=some (b,c)/\w.heap[b]? =some o/\gv P ρ i k o/\(k.eF=false->B<=b)
 inj:∀i j eB eO b ci b9,g i=some eB->g j=some eO->ρ i=some (b,ci)->ρ j=some (b,b9)->i=j
 base:B<=w.heap.size
 le:cw eG ρ
 ext:∀i,i<H0.next\/top<=i->ρ i=eG i
 size:w0.heap.size<=w.heap.size
 os:w.os=w0.os
 tape:w.tape=w0.tape
 output:w.output=w0.output
 frame:∀b,b<w0.heap.size->¬Own eG H0 b->w.heap[b]? =w0.heap[b]?
 own:∀b,b<w0.heap.size->∀i k c,g i=some k->k.eF=false->ρ i=some (b,c)->Own eG H0 b
 lY:∀b,b<w0.heap.size->∀i k c,g i=some k->ρ i=some (b,c)->oF eG H0 b
 fz:∀b A,ρ.fz b=some A->(∃e fr,w.heap[b]? =some (.cells A e fr))/\∀i k c,g i=some k->ρ i=some (b,c)->k.eF=true
 mV:∀b A,ρ.fz b=some A->eG.fz b=some A\/w0.heap.size<=b\/Own eG H0 b
noncomputable def mm (g:Nat->Option bf) (X X':ai):Nat->Option bf:=fun x=>match X'.get x with
 |some k=>some k
 |none=>match X.get x with
  |some _=>none
  |none=>g x
theorem Ec {g:Nat->Option bf} {X X':ai} {x:Nat} {k:bf} (h:X'.get x=some k):mm g X X' x=some k:=by unfold mm;rw [h]
theorem IG {g:Nat->Option bf} {X X':ai} {x:Nat} (h:X'.get x=none) (h2:X.get x=none):mm g X X' x=g x:=by unfold mm;rw [h,h2]
theorem uY {g:Nat->Option bf} {X X':ai} {x:Nat} {k:bf} (h:mm g X X' x=some k):X'.get x=some k\/(X'.get x=none/\X.get x=none/\g x=some k):=by
 unfold mm at h;split at h
 .rename_i h1;cases h;exact .inl h1
 .rename_i h1;split at h
  .cases h
  .rename_i h2;exact .inr ⟨h1,h2,h⟩
theorem ZR {g:Nat->Option bf} {X:ai} (h:∀x k,X.get x=some k->g x=some k):mm g X X=g:=by
 funext x;cases hx:X.get x with
 |none=>exact IG hx hx
 |some k=>rw [Ec hx,h x k hx]
section
variable {P:Program} {B:Nat} {eG:Env} {H0:ai} {w0:World} {top:Nat} {ρ:Env} {g:Nat->Option bf} {w:World}
theorem q3.at (h:q3 P B eG H0 w0 top ρ g w) {i b c:Nat} {k:bf} (hi:g i=some k) (hr:ρ i=some (b,c)):∃o,w.heap[b]? =some o/\gv P ρ i k o/\(k.eF=false->B<=b):=by
 obtain⟨b',c',o,e1,e2,e3,bP⟩:=h.blk i k hi;rw [hr]at e1;cases e1;exact⟨o,e2,e3,bP⟩
theorem q3.ld (h:q3 P B eG H0 w0 top ρ g w) {X:ai} (hX:∀x k,X.get x=some k->g x=some k) (hl:∀x k,X.get x=some k->x<X.next):aX P B ρ X w:=
 ⟨fun i k hi=>h.blk i k (hX i k hi),fun i j eB eO b ci b9 hi hj=>h.inj i j eB eO b ci b9 (hX i eB hi) (hX j eO hj),hl,h.base,fun b A hb=>⟨(h.fz b A hb).1,fun i k c hi hr=>(h.fz b A hb).2 i k c (hX i k hi) hr⟩⟩
theorem q3.step (h:q3 P B eG H0 w0 top ρ g w) {X X':ai} {ρ':Env} {w':World} (hX:∀x k,X.get x=some k->g x=some k) (hH:aX P B ρ' X' w') (hs:bL ρ X w ρ' X' w')
  (hx:∀x,x<H0.next\/top<=x->ρ' x=ρ x):q3 P B eG H0 w0 top ρ' (mm g X X') w':=by
 have keep:∀x k,g x=some k->X.get x=none->∃b c o,ρ x=some (b,c)/\ρ' x=some (b,c)/\w.heap[b]? =some o/\w'.heap[b]? =some o/\gv P ρ x k o/\(k.eF=false->B<=b)/\b<w.heap.size:=fun x k BU nM=>by
  obtain⟨b,c,o,e1,e2,e3,bP⟩:=h.blk x k BU;have hb:b<w.heap.size:=(dx.1 e2).1;refine⟨b,c,o,e1,hs.le _ _ e1,e2, ?_,e3,bP,hb⟩;rw [hs.frame b hb fun⟨i,k',c',h1,_,h3⟩=> ?_,e2];have:=h.inj i x k' k b c' c (hX i k' h1) BU h3 e1;subst this;rw [nM]at h1;cases h1
 have BV:∀x k b c,g x=some k->ρ' x=some (b,c)->ρ x=some (b,c):=fun x k b c BU hr=>by
  obtain⟨b',c',o,e1,_⟩:=h.blk x k BU;rw [hs.le _ _ e1]at hr;cases hr;exact e1
 refine⟨fun i k hi=> ?_,fun i j eB eO b ci b9 hi hj jk fu=> ?_,hH.base,h.le.trans hs.le,fun i hi=>by rw [hx i hi,h.ext i hi],cX h.size hs.size,hs.os.trans h.os,hs.tape.trans h.tape,hs.output.trans h.output,fun b hb ho=> ?_,fun b hb i k c hi hk hr=> ?_,fun b hb i k c hi hr=> ?_,fun b A hb=>⟨(hH.fz b A hb).1,fun i k c hi hr=> ?_⟩,fun b A hb=> ?_⟩
 .rcases uY hi with hi|⟨_,h2,h3⟩
  .exact hH.blk i k hi
  .obtain⟨b,c,o,_,e1,_,e2,e3,bP,_⟩:=keep i k h3 h2;exact⟨b,c,o,e1,e2,e3.mono hs.le,bP⟩
 .have mixed:∀i j eB eO ci b9,X'.get i=some eB->X.get j=none->g j=some eO->ρ' i=some (b,ci)->ρ' j=some (b,b9)->False:=fun i j eB eO ci b9 h1 h2 h3 r1 r2=>by
   obtain⟨b',c',o,e0,e1,e2,_,_,_,hb⟩:=keep j eO h3 h2;rw [e1]at r2;cases r2;obtain⟨x,kx,pY,q1,aO⟩:=hs.lY b hb ⟨i,eB,ci,h1,r1⟩;have:=h.inj x j kx eO b pY b9 (hX x kx q1) h3 aO e0;subst this;rw [h2]at q1;cases q1
  rcases uY hi with hi|⟨_,h2,h3⟩<;>rcases uY hj with hj|⟨_,k2,dB⟩
  .exact hH.inj i j eB eO b ci b9 hi hj jk fu
  .exact(mixed i j eB eO ci b9 hi k2 dB jk fu).elim
  .exact(mixed j i eO eB b9 ci hj h2 h3 fu jk).elim
  .exact h.inj i j eB eO b ci b9 h3 dB (BV _ _ _ _ h3 jk) (BV _ _ _ _ dB fu)
 .rw [hs.frame b (Nat.lt_of_lt_of_le hb h.size) fun⟨i,k',c',h1,h2,h3⟩=>ho (h.own b hb i k' c' (hX i k' h1) h2 h3),h.frame b hb ho]
 .rcases uY hi with hi|⟨_,h2,h3⟩
  .obtain⟨x,kx,pY,q1,aO,bZ⟩:=hs.own b (Nat.lt_of_lt_of_le hb h.size) ⟨i,k,c,hi,hk,hr⟩;exact h.own b hb x kx pY (hX x kx q1) aO bZ
  .exact h.own b hb i k c h3 hk (BV _ _ _ _ h3 hr)
 .rcases uY hi with hi|⟨_,h2,h3⟩
  .obtain⟨x,kx,pY,q1,aO⟩:=hs.lY b (Nat.lt_of_lt_of_le hb h.size) ⟨i,k,c,hi,hr⟩;exact h.lY b hb x kx pY (hX x kx q1) aO
  .exact h.lY b hb i k c h3 (BV _ _ _ _ h3 hr)
 .rcases uY hi with hi|⟨_,h2,h3⟩
  .exact(hH.fz b A hb).2 i k c hi hr
  .have hr':=BV _ _ _ _ h3 hr;rcases hs.mV b A hb with hb'|hb'
   .exact(h.fz b A hb').2 i k c h3 hr'
   .rcases hb' with hb'|⟨x,kx,pY,q1,_,bZ⟩
    .obtain⟨b1,c1,o,e1,e2,_⟩:=h.blk i k h3;rw [hr']at e1;cases e1;have:=(dx.1 e2).1;omega
    .have:=h.inj x i kx k b pY c (hX x kx q1) h3 bZ hr';subst this;rw [h2]at q1;cases q1
 .rcases hs.mV b A hb with hb'|hb'
  .exact h.mV b A hb'
  .rcases hb' with hb'|⟨x,kx,pY,q1,aO,bZ⟩
   .exact .inr (.inl (cX h.size hb'))
   .by_cases hl:b<w0.heap.size
    .exact .inr (.inr (h.own b hl x kx pY (hX x kx q1) aO bZ))
    .exact .inr (.inl (by omega))
theorem q3.final (h:q3 P B eG H0 w0 top ρ g w) {X:ai} (hX:∀x k,X.get x=some k->g x=some k) (ht:X.next=top) (hn:H0.next<=top):bL eG H0 w0 ρ X w:=
 ⟨h.le,fun i hi=>h.ext i (by rw [ht]at hi;exact hi),by rw [ht];exact hn,h.size,h.os,h.tape,h.output,h.frame,fun b hb ⟨i,k,c,h1,h2,h3⟩=>h.own b hb i k c (hX i k h1) h2 h3,fun b hb ⟨i,k,c,h1,h3⟩=>h.lY b hb i k c (hX i k h1) h3,h.mV⟩
end
section
variable {P:Program} {call:er} {round:jC} {ops:Array Oper} {n:Nat} {S:Nat->fR} {V:Nat->aa}
theorem cY.PX (R:cY P call round ops n S V) {i:Nat} (hi:i<=ops.size):(hpf S ops.size (S i).k).next<=(S i).cur.next:=by
 induction i with
 |zero=>rw [R.k0,R.IE];exact aE _
 |succ i ih=>
  have ih:=ih (Nat.le_of_succ_le hi);obtain⟨o,ho⟩:=lz (ops:=ops) (i:=i) hi;cases R.kind i o ho with
  |skip _ _ hk hc=>rw [hk,hc];exact ih
  |p _ _ _ hk hc=>rw [hk,hc];exact ih
  |r _ _ _ hk hc=>rw [hk,hc];exact ih
  |a _ fX hop hk=>
   obtain⟨_,blk,mZ,_⟩:=If fX hop;rw [hk,mZ];exact Nat.le_succ_of_le ih
  |e _ _ _ _ _ hk=>rw [hk,R.Ea hi hk];exact aE _
theorem cY.Ed (R:cY P call round ops n S V) {i:Nat} (hi:i<ops.size) (ha:jJ S i):(S (i+1)).cur.next=(S i).cur.next+1/\∃b,uX S i=some b:=by
 obtain⟨o,ho⟩:=lz hi;obtain⟨_,fX,hop,_⟩:=R.PT ho ha;obtain⟨_,blk,mZ,_⟩:=If fX hop;refine⟨by rw [mZ];rfl,blk, ?_⟩;unfold uX;rw [mZ,ai.gb,if_pos rfl]
structure jo (P:Program) (B:Nat) (eG:Env) (w0:World) (a0:Act) (ops:Array Oper) (n:Nat) (S:Nat->fR) (V:Nat->aa) (L:Nat->Prop) (e:Nat) (ρ:Env) (g:Nat->Option bf) (T:av aa) (a:Act) (w:World):Prop where
 closed:∀(j:Nat) (o:Oper),L j->ops[j]? =some o->∀d∈cu o,L d
 q4:∀m,m<ops.size->eP S m->(L m↔(S m).k<e)
 bK:∀j,j<ops.size->L j->lvl S ops.size j<=e
 le:e<=(S ops.size).k
 zx:jE ρ T n a.tmps
 zy:∀(j:Nat) (p:Oper) (t:Tmp),ops[j]? =some p->p.dst=some t->(L j->T.get t=some (V j))/\(¬L j->T.get t=(S 0).T.get t)
 II:∀t:Tmp,(∀(j:Nat) (p:Oper),ops[j]? =some p->p.dst≠some t)->T.get t=(S 0).T.get t
 G:nP ρ
 xp:q3 P B eG (S 0).cur w0 (S ops.size).cur.next ρ g w
 hp:∀x k,(hpf S ops.size e).get x=some k->g x=some k
 lt:∀x k,(hpf S ops.size e).get x=some k->x<(hpf S ops.size e).next
 dz:∀j,j<ops.size->L j->jJ S j->e<=(S j).k->g (S j).cur.next=uX S j
 conv:∀x k,g x=some k->(hpf S ops.size e).get x=some k\/∃j,j<ops.size/\L j/\jJ S j/\e<=(S j).k/\x=(S j).cur.next
 fresh:∀j,j<ops.size->¬L j->Fr ρ (S j).cur.next (S (j+1)).cur.next
 PY:a.defers=a0.defers
variable {B:Nat} {eG:Env} {w0:World} {a0:Act} {L:Nat->Prop} {e:Nat} {ρ:Env} {g:Nat->Option bf} {T:av aa} {a:Act} {w:World} {i:Nat} {o:Oper}
theorem jo.slots (R:cY P call round ops n S V) (I:jo P B eG w0 a0 ops n S V L e ρ g T a w) (ho:ops[i]? =some o) (hL:¬L i) (hd:∀d∈cu o,L d) {t:Tmp} (ht:Operand.tmp t∈o.op.operands.toList):T.get t=(S i).T.get t:=by
 have hi:i<ops.size:=(dx.1 ho).1;have F:=s5 R.ok ho;rcases F.slot t ht with h|⟨k,p,h1,h2,h3|h3⟩
 .rw [I.II t h,R.PW h (Nat.le_of_lt hi)]
 .rw [(I.zy k p t h1 h2).1 (hd k h3),R.Eb h1 h2 (F.lt k h3) (Nat.le_of_lt hi)]
 .have hk:¬L k:=fun hk=>hL (I.closed k p hk h1 i h3)
  rw [(I.zy k p t h1 h2).2 hk,R.ZQ h1 h2 (Nat.le_of_lt ((s5 R.ok h1).lt i h3))]
theorem jo.ev (R:cY P call round ops n S V) (I:jo P B eG w0 a0 ops n S V L e ρ g T a w) (ho:ops[i]? =some o) (hL:¬L i) (hd:∀d∈cu o,L d):∀x∈o.op.operands.toList,cc T x=cc (S i).T x:=fun x hx=>by
 cases x with
 |tmp t=>
  show @Option.rec aa (fun _=>aa) (.raw undef) (fun v=>v) (T.get t)= @Option.rec aa (fun _=>aa) (.raw undef) (fun v=>v) ((S i).T.get t)
  rw [I.slots R ho hL hd hx]
 |_=>rfl
theorem jo.wants (R:cY P call round ops n S V) (I:jo P B eG w0 a0 ops n S V L e ρ g T a w) (ho:ops[i]? =some o) (hd:∀d∈cu o,L d):gu T ops o=gu (S i).T ops o:=by
 have hi:i<ops.size:=(dx.1 ho).1;have F:=s5 R.ok ho;cases hg:o.guard with
 |none=>unfold gu;rw [hg]
 |some q=>
  have e:∀T,gu T ops o=wN T ops q:=fun T=>by unfold gu;rw [hg]
  rw [e,e];unfold wN;cases hp:ops[q.1]? with
  |none=>rfl
  |some p=>
   cases gw:p.dst with
   |none=>simp [gw]
   |some d=>
    simp only [Option.bind_some,gw];have hq:=F.guard q hg;rw [(I.zy q.1 p d hp gw).1 (hd _ hq),R.Eb hp gw (F.lt _ hq) (Nat.le_of_lt hi)]
theorem jo.level (R:cY P call round ops n S V) (I:jo P B eG w0 a0 ops n S V L e ρ g T a w) (ho:ops[i]? =some o) (hd:∀d∈cu o,L d):Sv.level (S ops.size).bK (cu o)<=e:=
 PE fun d hdd=>I.bK d (Nat.lt_trans ((s5 R.ok ho).lt d hdd) (dx.1 ho).1) (hd d hdd)
theorem jo.after (R:cY P call round ops n S V) (hC:bB P call) (hR:lq P round) (I:jo P B eG w0 a0 ops n S V L e ρ g T a w) (ho:ops[i]? =some o) (hL:¬L i) (hd:∀d∈cu o,L d)
  {X X':ai} {ρ':Env} {w':World} {x:Value} {T1:av aa} {e':Nat} (hT:iC T n o.dst (V i)=some T1) (hx:Den ρ' (V i) x) (hX:∀x k,X.get x=some k->g x=some k) (hH:aX P B ρ' X' w') (hs:bL ρ X w ρ' X' w')
  (hρ:∀x,x<(S i).cur.next\/(S (i+1)).cur.next<=x->ρ' x=ρ x)
  (he:e<=e') (ZS:∀m,m<ops.size->eP S m->((m=i\/L m)↔(S m).k<e')) (ZT:lvl S ops.size i<=e') (hle:e'<=(S ops.size).k)
  (ZU:∀x k,(hpf S ops.size e').get x=some k->mm g X X' x=some k) (hlt:∀x k,(hpf S ops.size e').get x=some k->x<(hpf S ops.size e').next)
  (ZV:∀j,j<ops.size->(j=i\/L j)->jJ S j->e'<=(S j).k->mm g X X' (S j).cur.next=uX S j)
  (ZW:∀x k,mm g X X' x=some k->(hpf S ops.size e').get x=some k\/∃j,j<ops.size/\(j=i\/L j)/\jJ S j/\e'<=(S j).k/\x=(S j).cur.next):
  jo P B eG w0 a0 ops n S V (fun j=>j=i\/L j) e' ρ' (mm g X X') T1 (a.put o.dst x) w':=by
 have hi:i<ops.size:=(dx.1 ho).1;refine⟨fun j p hj hp d hdd=> ?_,ZS,fun j hj h=> ?_,hle,Ib (I.zx.mono hs.le) hT hx,fun j p t hj hp=> ?_,fun t ht=> ?_,I.G.mono hs.le,I.xp.step hX hH hs fun x hx=>hρ x ?_,ZU,hlt,ZV,ZW,fun j hj hn x h1 h2=> ?_,by rw [put_defers,I.PY]⟩
 .rcases hj with rfl |hj
  .rw [ho]at hp;cases hp;exact .inr (hd d hdd)
  .exact .inr (I.closed j p hj hp d hdd)
 .rcases h with rfl |h
  .exact ZT
  .exact cX (I.bK j hj h) he
 .rw [BR hT];by_cases hji:j=i
  .subst hji;rw [ho]at hj;cases hj;rw [if_pos hp];exact⟨fun _=>rfl,fun h=>(h (.inl rfl)).elim⟩
  .rw [if_neg fun hh=>hji ((s5 R.ok ho).dst t hh j p hj hp)];exact⟨fun h=>(I.zy j p t hj hp).1 (h.resolve_left hji),fun h=>(I.zy j p t hj hp).2 fun hh=>h (.inr hh)⟩
 .rw [BR hT,if_neg (ht i o ho),I.II t ht]
 .rcases hx with hx|hx
  .exact .inl (Nat.lt_of_lt_of_le hx (R.oM hC hR (Nat.zero_le _) (Nat.le_of_lt hi)))
  .exact .inr (cX (R.oM hC hR hi (aE _)) hx)
 .have hj2:¬j=i/\¬L j:=⟨fun h=>hn (.inl h),fun h=>hn (.inr h)⟩;rw [hρ x ?_]
  .exact I.fresh j hj hj2.2 x h1 h2
  .rcases Nat.lt_or_gt_of_ne hj2.1 with hl|hl
   .exact .inl (Nat.lt_of_lt_of_le h2 (R.oM hC hR hl (Nat.le_of_lt hi)))
   .exact .inr (cX (R.oM hC hR hl (Nat.le_of_lt hj)) h1)
end
end Go.Proofs.YtibikmmdbdlafaaGreatDoor.Sv
/- The runner over an abstract memory: regions that draw their order. -/
namespace Go.Proofs.YtibikmmdbdlafaaGreatDoor.Sv
open Go.RowKit
variable [Ground]
section
variable {P:Program} {call:er} {round:jC} {ops:Array Oper} {n:Nat} {S:Nat->fR} {V:Nat->aa}
variable {B:Nat} {eG:Env} {w0:World} {a0:Act} {L:Nat->Prop} {e:Nat} {ρ:Env} {g:Nat->Option bf} {T:av aa} {a:Act} {w:World} {i:Nat} {o:Oper}
theorem PZ (h:eP S i) (R:cY P call round ops n S V) (hi:i<ops.size):¬jJ S i:=fun ha=>by
 obtain⟨o,ho⟩:=lz hi;obtain⟨_,_,_,hk⟩:=R.PT ho ha;unfold eP at h;omega
theorem jo.quiet (R:cY P call round ops n S V) (hC:bB P call) (hR:lq P round) (I:jo P B eG w0 a0 ops n S V L e ρ g T a w) (ho:ops[i]? =some o) (hL:¬L i) (hd:∀d∈cu o,L d)
  (hE:¬eP S i) (hA:¬jJ S i) {X:ai} {ρ':Env} {w':World} {x:Value} {T1:av aa} (hT:iC T n o.dst (V i)=some T1) (hx:Den ρ' (V i) x) (hX:∀x k,X.get x=some k->g x=some k) (hH:aX P B ρ' X w') (hs:bL ρ X w ρ' X w'):
  jo P B eG w0 a0 ops n S V (fun j=>j=i\/L j) e ρ' g T1 (a.put o.dst x) w':=by
 have hlv:lvl S ops.size i<=e:=by
  rcases R.IC ho with⟨h,_⟩|⟨_,h⟩
  .exact absurd h hE
  .rw [h];exact I.level R ho hd
 have hu:=ZR hX;have:=I.after R hC hR ho hL hd (X:=X) (X':=X) (e':=e) hT hx hX hH hs (fun x _=>hs.ext x (by omega)) (aE _)
  (fun m hm hem=>⟨fun h=>(I.q4 m hm hem).1 (h.resolve_left fun hh=>hE (hh ▸ hem)),fun h=> .inr ((I.q4 m hm hem).2 h)⟩) hlv I.le (by rw [hu];exact I.hp) I.lt
  (by rw [hu];exact fun j hj hjl ha=>I.dz j hj (hjl.resolve_left fun hh=>hA (hh ▸ ha)) ha)
  (by rw [hu];exact fun x k hk=>(I.conv x k hk).imp id fun⟨j,h1,h2,h3⟩=>⟨j,h1, .inr h2,h3⟩)
 rwa [hu]at this
theorem jo.step (hK:eW P) (R:cY P call round ops n S V) (hC:bB P call) (hR:lq P round) (I:jo P B eG w0 a0 ops n S V L e ρ g T a w) (ho:ops[i]? =some o) (hL:¬L i) (hd:∀d∈cu o,L d) (rd:Option Nat) (m:Nat) {K:Act->World->Prop} {Q:Exit->Act->World->Prop}
  (hK':∀e' ρ' g' aL a' w',jo P B eG w0 a0 ops n S V (fun j=>j=i\/L j) e' ρ' g' aL a' w'->K a' w'):wpOpIn (dM rd) m P ops Q i K a w:=by
 have hi:i<ops.size:=(dx.1 ho).1;have kG:=R.i i (Nat.le_of_lt hi);have P0:=I.ev R ho hL hd;have IJ:=I.wants R ho hd;obtain⟨T1,hT⟩:=ZK (R.put i o ho) T;have IK:(S (i+1)).c7=(S i).c7->¬jJ S i:=fun h ha=>by
  unfold jJ at ha;rw [h]at ha;have:=congrArg List.length ha;simp at this
 have BW:(S (i+1)).k=(S i).k->¬eP S i:=fun h he=>by unfold eP at he;omega
 let Z:ai:={m:= .nil,next:=(S i).cur.next}
 have hZ:∀x,Z.get x=none:=fun x=>av.get_nil x
 have Ee:∀x k,Z.get x=some k->g x=some k:=fun x k h=>by rw [hZ]at h;cases h
 have IL:aX P B ρ Z w:=I.xp.ld Ee fun x k h=>by rw [hZ]at h;cases h
 have run:∀(X X':ai),gu (S i).T ops o=some true->aX P B ρ X w->iO P call round o (cc T) X= .ok (V i) X'->Fr ρ X.next X'.next->
   (∀x ρ' w',Den ρ' (V i) x->aX P B ρ' X' w'->bL ρ X w ρ' X' w'->K (a.put o.dst x) w')->wpOpIn (dM rd) m P ops Q i K a w:=fun X X' hw hX hop hf hn=>by
  unfold wpOpIn;rw [ho];simp only;rw [Ic I.zx (IJ.trans hw),if_pos rfl];exact Pg hK hC hR ⟨I.zx,hX,I.G⟩ hop hf rd m hn
 have IM:∀{X:ai} {v:aa} {X':ai},eU o.op P o (cc (S i).T) X= .ok v X'->iO P call round o (cc T) X= .ok v X':=fun {X v X'} h=>by
  unfold iO;rw [Pw P0,h]
 cases R.kind i o ho with
 |skip hw hv hk hc hh hl hp ha=>
  unfold wpOpIn;rw [ho];simp only;rw [Ic I.zx (IJ.trans hw)];simp only [Bool.false_eq_true,if_false];refine⟨fun _ _=>trivial,hK' e ρ g T1 _ w ?_⟩;exact I.quiet R hC hR ho hL hd (BW hk) (IK ha) hT (by rw [hv];exact .raw _) Ee IL (bL.refl _ _ _)
 |p hw fX hop hk hc hh hl hp ha=>
  obtain⟨H1,hop⟩:=hop;refine run Z Z hw IL (IM (ZG fX hop Z)) (fun x h1 h2=>absurd h2 (by omega)) fun x ρ' w' h1 h2 h3=>hK' e ρ' g T1 _ w' ?_
  exact I.quiet R hC hR ho hL hd (BW hk) (IK ha) hT h1 Ee h2 h3
 |r hw fX hr hk hc hh hl hp ha=>
  have hop:=R.read ho fX hr hp (I.level R ho hd) I.le fun m mj hm hem hkm s6 hmem=>hL (I.closed m mj ((I.q4 m hm hem).2 hkm) s6 i hmem)
  refine run _ _ hw (I.xp.ld I.hp I.lt) (IM hop) (fun x h1 h2=>absurd h2 (by omega)) fun x ρ' w' h1 h2 h3=>hK' e ρ' g T1 _ w' ?_
  exact I.quiet R hC hR ho hL hd (BW hk) (IK ha) hT h1 I.hp h2 h3
 |a hw fX hop hk hh hl hp ha=>
  have hA:jJ S i:=by unfold jJ;rw [ha,kG]
  obtain⟨_,blk,mZ,ZX⟩:=If fX hop;obtain⟨hnx,b0,hb0⟩:=R.Ed hi hA;have hblk:uX S i=some blk:=by unfold uX;rw [mZ,ai.gb,if_pos rfl]
  have hfr:=I.fresh i hi hL;have hnone:ρ (S i).cur.next=none:=hfr _ (aE _) (by omega);have ZY:g (S i).cur.next=none:=by
   cases hg:g (S i).cur.next with
   |none=>rfl
   |some k=>
    obtain⟨b,c,o',e1,_⟩:=I.xp.blk _ _ hg;rw [hnone]at e1;cases e1
  have IP:eU o.op P o (cc (S i).T) Z= .ok (V i) (Z.new blk):=ZX Z rfl;have IQ:∀x,(Z.new blk).get x=if(S i).cur.next=x then some blk else none:=fun x=>by rw [ai.gb,hZ]
  have xq:e<=(S i).k:=by
   refine Nat.le_of_not_lt fun hlt=> ?_
   obtain⟨m,h1,h2,h3,h4⟩:=R.D7 (i:=i) (j:=ops.size) (e:=(S i).k+1) (Nat.le_of_lt hi) (aE _) (e7 _) (cX hlt I.le);obtain⟨mj,s6⟩:=lz h2;have hne:i≠m:=fun hh=>PZ h4 R h2 (hh ▸ hA)
   have hmem:i∈(S m).c7:=(R.IF (Nat.le_of_lt h2) i).2 ⟨by omega,hA,by omega⟩;have ZZ:L m:=(I.q4 m h2 h4).2 (by omega);cases R.kind m mj s6 with
   |skip _ _ hk=>unfold eP at h4;omega
   |p _ _ _ hk=>unfold eP at h4;omega
   |r _ _ _ hk=>unfold eP at h4;omega
   |a _ _ _ hk=>unfold eP at h4;omega
   |e _ _ hsub=>exact hL (I.closed m mj ZZ s6 i (hsub i hmem))
  have hlv:lvl S ops.size i<=e:=by
   rcases R.IC ho with⟨h,_⟩|⟨_,h⟩
   .exact absurd h (BW hk)
   .rw [h];exact I.level R ho hd
  have old:∀x k,g x=some k->mm g Z (Z.new blk) x=some k:=fun x k hg=>by
   have hne:¬(S i).cur.next=x:=fun hh=>by rw [<-hh,ZY]at hg;cases hg
   rw [IG (by rw [IQ,if_neg hne]) (hZ x),hg]
  refine run Z (Z.new blk) hw IL (IM IP) (fun x h1 h2=>hfr x h1 (by rw [hnx];exact h2)) fun x ρ' w' h1 h2 h3=>hK' e ρ' (mm g Z (Z.new blk)) T1 _ w' ?_
  refine I.after R hC hR ho hL hd hT h1 Ee h2 h3 (fun x hx=>h3.ext x (by rw [hnx]at hx;exact hx)) (aE _)
   (fun m hm hem=>⟨fun h=>(I.q4 m hm hem).1 (h.resolve_left fun hh=>BW hk (hh ▸ hem)),fun h=> .inr ((I.q4 m hm hem).2 h)⟩) hlv I.le (fun x k h=>old x k (I.hp x k h)) I.lt (fun j hj hjl haj IU=> ?_) (fun x k h=> ?_)
  .by_cases hji:j=i
   .subst hji;rw [hblk];exact Ec (by rw [IQ,if_pos rfl])
   .have h4:=I.dz j hj (hjl.resolve_left hji) haj IU;obtain⟨_,b,hb⟩:=R.Ed hj haj;rw [hb]at h4 ⊢;exact old _ _ h4
  .rcases uY h with h|⟨_,_,h⟩
   .rw [IQ]at h;split at h
    .rename_i hx;exact .inr ⟨i,hi, .inl rfl,hA,xq,hx.symm⟩
    .cases h
   .exact(I.conv x k h).imp id fun⟨j,h1,h2,h3⟩=>⟨j,h1, .inr h2,h3⟩
 |e hw hlv hsub hop gw hk hh hl hp ha=>
  have hE:eP S i:=hk;have xq:e=(S i).k:=by
   have h1:=I.level R ho hd;rw [<-R.level ho,hlv]at h1;have h2:¬(S i).k<e:=fun h=>hL ((I.q4 i hi hE).2 h)
   omega
  obtain⟨c1,c2,c3⟩:=R.PU (Nat.le_of_lt hi);have zz:=R.IF (Nat.le_of_lt hi);have hX:∀x k,(S i).cur.get x=some k->g x=some k:=fun x k h=>by
   rcases c1 x k h with h|⟨j,hj,rfl,hb⟩
   .rw [<-xq]at h;exact I.hp x k h
   .obtain⟨q1,aO,bZ⟩:=(zz j).1 hj;rw [I.dz j (by omega) (hd j (hsub j hj)) aO (by omega),hb]
  have hlt:∀x k,(S i).cur.get x=some k->x<(S i).cur.next:=fun x k h=>by
   rcases c1 x k h with h|⟨j,hj,rfl,hb⟩
   .have:=R.PX (Nat.le_of_lt hi);rw [<-xq]at h this;exact Nat.lt_of_lt_of_le (I.lt x k h) this
   .obtain⟨q1,aO,bZ⟩:=(zz j).1 hj;have h5:=(R.Ed (i:=j) (by omega) aO).1;have h6:=R.oM hC hR (i:=j+1) (j:=i) q1 (Nat.le_of_lt hi);omega
  have IP:iO P call round o (cc T) (S i).cur= .ok (V i) (S (i+1)).cur:=by
   unfold iO at hop ⊢;rw [Pw P0];exact hop
  have Z0:lvl S ops.size i=e+1:=by
   rcases R.IC ho with⟨_,h⟩|⟨h,_⟩
   .rw [h,xq]
   .exact absurd hE h
  have hle:e+1<=(S ops.size).k:=by
   have:=R.q2 (i:=i+1) (j:=ops.size) hi (aE _);omega
  have IV:hpf S ops.size (e+1)=(S (i+1)).cur:=by rw [xq];exact R.Ea hi hE
  -- what is laid behind this effect lies beyond
  have later:∀j,j<ops.size->L j->jJ S j->e<=(S j).k->(S i).cur.get (S j).cur.next=none->i<j:=fun j hj hjl haj IU hnone=>by
   refine Nat.lt_of_not_le fun hji=> ?_
   have hne:j≠i:=fun hh=>hL (hh ▸ hjl)
   have hm:=R.q2 (i:=j) (j:=i) hji (Nat.le_of_lt hi);exact c3 j ((zz j).2 ⟨by omega,haj,by omega⟩) hnone
  refine run _ _ hw (I.xp.ld hX hlt) IP (I.fresh i hi hL) fun x ρ' w' h1 h2 h3=>hK' (e+1) ρ' (mm g (S i).cur (S (i+1)).cur) T1 _ w' ?_
  have beyond:∀j,j<ops.size->i<j->(S i).cur.get (S j).cur.next=none/\(S (i+1)).cur.get (S j).cur.next=none:=fun j hj hij=>by
   have h6:=R.oM hC hR (i:=i+1) (j:=j) hij (Nat.le_of_lt hj);have h7:=R.PR hC hR hi;constructor
   .cases hg:(S i).cur.get (S j).cur.next with
    |none=>rfl
    |some k=>have:=hlt _ _ hg;omega
   .cases hg:(S (i+1)).cur.get (S j).cur.next with
    |none=>rfl
    |some k=>have:=h2.lt _ _ hg;omega
  refine I.after R hC hR ho hL hd hT h1 hX h2 h3 (fun x hx=>h3.ext x hx) (Nat.le_succ _) (fun m hm hem=> ?_) (Nat.le_of_eq Z0) hle (fun x k h=>by rw [IV]at h;exact Ec h) (fun x k h=>by rw [IV]at h ⊢;exact h2.lt x k h) (fun j hj hjl haj IU=> ?_) (fun x k h=> ?_)
  .constructor
   .rintro(rfl |h)
    .omega
    .have:=(I.q4 m hm hem).1 h;omega
   .intro h;by_cases hlt2:(S m).k<e
    .exact .inr ((I.q4 m hm hem).2 hlt2)
    .left;have hme:(S m).k=(S i).k:=by omega
     rcases Nat.lt_trichotomy m i with hl|hl|hl
     .have:=R.q2 (i:=m+1) (j:=i) hl (Nat.le_of_lt hi);unfold eP at hem;omega
     .exact hl
     .have:=R.q2 (i:=i+1) (j:=m) hl (Nat.le_of_lt hm);omega
  .have hne:j≠i:=fun hh=>PZ hE R hi (hh ▸ haj)
   have hij:i<j:=by
    refine Nat.lt_of_not_le fun hji=> ?_
    have:=R.q2 (i:=j) (j:=i) hji (Nat.le_of_lt hi);omega
   obtain⟨q1,aO⟩:=beyond j hj hij;rw [IG aO q1];exact I.dz j hj (hjl.resolve_left hne) haj (by omega)
  .rcases uY h with h|⟨_,hn,h⟩
   .left;rw [IV];exact h
   .rcases I.conv x k h with h|⟨j,q1,aO,bZ,ei,rfl⟩
    .rw [xq]at h;exact absurd hn (c2 x (by rw [h];simp))
    .have hij:=later j q1 aO bZ ei hn;have:=R.q2 (i:=i+1) (j:=j) hij (Nat.le_of_lt q1);exact .inr ⟨j,q1, .inr aO,bZ,by omega,rfl⟩
theorem Z1 {l:Array Bool} {i j:Nat} (hi:i<l.size):(l.setIfInBounds i true).getD j false=true↔(j=i\/l.getD j false=true):=by
 simp only [Array.getD_eq_getD_getElem?,Array.getElem?_setIfInBounds];by_cases h:i=j
 .subst h;simp [hi]
 .rw [if_neg h];exact⟨.inr,fun h2=>h2.resolve_left fun h3=>h h3.symm⟩
theorem P3:∀{l:List Bool} {i:Nat},l[i]? =some false->(l.set i true).countP (! ·)+1=l.countP (! ·)
 |[],i,h=>by simp at h
 |a::l,0,h=>by
  simp at h;subst h;simp
 |a::l,i+1,h=>by
  have:=P3 (l:=l) (i:=i) (by simpa using h);simp only [List.set_cons_succ,List.countP_cons];omega
theorem Z2 (hK:eW P) (R:cY P call round ops n S V) (hC:bB P call) (hR:lq P round) (rd:Option Nat) (m:Nat) {Q:Exit->Act->World->Prop}
  (hQ:∀L e ρ g T a w,(∀j,j<ops.size->L j)->jo P B eG w0 a0 ops n S V L e ρ g T a w->Q .normal a w):∀(fuel:Nat) (listed:Array Bool) {e:Nat} {ρ:Env} {g:Nat->Option bf} {T:av aa} {a:Act} {w:World},
  listed.size=ops.size->listed.toList.countP (! ·)<=fuel->jo P B eG w0 a0 ops n S V (fun j=>listed.getD j false=true) e ρ g T a w->wpAnyIn (dM rd) m P .any ops Q fuel listed a w:=by
 have last:∀(listed:Array Bool) {e:Nat} {ρ:Env} {g:Nat->Option bf} {T:av aa} {a:Act} {w:World},listed.size=ops.size->jo P B eG w0 a0 ops n S V (fun j=>listed.getD j false=true) e ρ g T a w->Region.ready .any ops listed=[]->Q .normal a w:=fun listed e ρ g T a w hs I hr=>by
  refine hQ _ e ρ g T a w (fun j=> ?_) I;induction j using Nat.strongRecOn with
  |ind j ih=>
   intro hj;refine Classical.byContradiction fun hn=> ?_
   obtain⟨o,ho⟩:=lz hj;have hmem:j∈Region.ready .any ops listed:=by
    refine mem_ready.2 ⟨?_,o,ho,fun e' he hb=> ?_⟩
    .have hlt:j<listed.size:=by omega
     simp only [Array.getD_eq_getD_getElem?,Array.getElem?_eq_getElem hlt,Option.getD_some]at hn ⊢;simpa using hn
    .have s7:e'.on∈cu o:=List.mem_map.2 ⟨e',List.mem_filter.2 ⟨by simpa using he,hb⟩,rfl⟩;have:=(s5 R.ok ho).lt _ s7;exact ih _ this (by omega)
   rw [hr]at hmem;cases hmem
 intro fuel;induction fuel with
 |zero=>
  intro listed e ρ g T a w hs hc I;have hr:Region.ready .any ops listed=[]:=by
   refine List.eq_nil_iff_forall_not_mem.2 fun j hj=> ?_
   obtain⟨h1,o,ho,_⟩:=mem_ready.1 hj;have hlt:j<listed.size:=by rw [hs];exact(dx.1 ho).1
   have h0:=List.countP_eq_zero.1 (Nat.le_zero.1 hc) listed[j] (by simp);simp only [Array.getD_eq_getD_getElem?,Array.getElem?_eq_getElem hlt,Option.getD_some]at h1;rw [h1]at h0;simp at h0
  exact⟨hr,last listed hs I hr⟩
 |succ fuel ih=>
  intro listed e ρ g T a w hs hc I;refine⟨last listed hs I,fun i hi=> ?_⟩;obtain⟨h1,o,ho,h2⟩:=mem_ready.1 hi;have hlt:i<listed.size:=by rw [hs];exact(dx.1 ho).1
  have hf:listed[i]=false:=by simpa [Array.getD_eq_getD_getElem?,hlt]using h1
  refine I.step hK R hC hR ho (by simp [Array.getD_eq_getD_getElem?,hlt,hf]) (fun d hd=> ?_) rd m fun e' ρ' g' aL a' w' I'=> ?_
  .obtain⟨x,hx,rfl⟩:=List.mem_map.1 hd;obtain⟨hx1,hx2⟩:=List.mem_filter.1 hx;exact h2 x (by simpa using hx1) hx2
  .refine ih _ (e:=e') (ρ:=ρ') (g:=g') (T:=aL) (by simpa using hs) ?_ ?_
   .have:=P3 (l:=listed.toList) (i:=i) (by simp [hlt,hf]);simp only [Array.toList_setIfInBounds];omega
   .have he:(fun j=>(listed.setIfInBounds i true).getD j false=true)=fun j=>j=i\/listed.getD j false=true:=by
     funext j;exact propext (Z1 hlt)
    rw [he];exact I'
theorem zd (hK:eW P) (hm:P.follows .mixedOrders=true):xb P true (zu P) where
 mono call round hC hR ops n T H aL H' h:=by
  obtain⟨S,V,R,e1,e2,e3,bP⟩:=PL h;rw [<-e2,<-bP];exact R.oM hC hR (Nat.zero_le _) (aE _)
 ct call round hC hR id ops n T H aL H' h B ρ a w rd k Q aN hf hQ:=by
  obtain⟨S,V,R,e1,e2,e3,bP⟩:=PL h;have hle:=R.oM hC hR (Nat.zero_le _) (aE _);refine wpIn_region_any hm ?_;refine Z2 (B:=B) (eG:=ρ) (w0:=w) (a0:=a) (e:=0) (ρ:=ρ) (g:=H.get) (T:=T) hK R hC hR rd k (fun L e ρ' g T2 a' w' hL I=> ?_) ops.size _ (by simp) ?_ ?_
  .have mZ:=R.PU (aE _);have zz:=R.IF (aE _);have he:e=(S ops.size).k:=by
    refine Nat.le_antisymm I.le (Nat.le_of_not_lt fun hlt=> ?_);by_cases h0:(S ops.size).k=0
    .omega
    .obtain⟨m,h1,h2,h3,h4⟩:=R.D7 (i:=0) (j:=ops.size) (e:=(S ops.size).k) (Nat.zero_le _) (aE _) (by rw [R.k0];omega) (aE _);have:=(I.q4 m h2 h4).1 (hL m h2);omega
   have hX:∀x b,(S ops.size).cur.get x=some b->g x=some b:=fun x b hx=>by
    rcases mZ.1 x b hx with hx|⟨j,hj,rfl,hb⟩
    .rw [<-he]at hx;exact I.hp x b hx
    .obtain⟨q1,aO,bZ⟩:=(zz j).1 hj;rw [I.dz j q1 (hL j q1) aO (by omega),hb]
   have hlt:∀x b,(S ops.size).cur.get x=some b->x<(S ops.size).cur.next:=fun x b hx=>by
    rcases mZ.1 x b hx with hx|⟨j,hj,rfl,hb⟩
    .have:=R.PX (aE _);rw [<-he]at hx this;exact Nat.lt_of_lt_of_le (I.lt x b hx) this
    .obtain⟨q1,aO,bZ⟩:=(zz j).1 hj;have h5:=(R.Ed (i:=j) q1 aO).1;have h6:=R.oM hC hR (i:=j+1) (j:=ops.size) q1 (aE _);omega
   refine hQ ρ' a' w' ⟨⟨I.zx.size,fun t=> ?_⟩, ?_,I.G⟩ ?_ I.PY
   .have ht:aL.get t=T2.get t:=by
     rw [<-e3];by_cases hw:∃(j:Nat) (p:Oper),ops[j]? =some p/\p.dst=some t
     .obtain⟨j,p,hj,hp⟩:=hw;have hjl:j<ops.size:=(dx.1 hj).1;rw [R.Eb hj hp hjl (aE _),(I.zy j p t hj hp).1 (hL j hjl)]
     .have hw':∀(j:Nat) (p:Oper),ops[j]? =some p->p.dst≠some t:=fun j p hj hp=>hw ⟨j,p,hj,hp⟩
      rw [R.PW hw' (aE _),I.II t hw']
    rw [ht];exact I.zx.get t
   .rw [<-bP];exact I.xp.ld hX hlt
   .rw [<-e2,<-bP];exact I.xp.final hX rfl hle
  .have:∀n:Nat,(List.replicate n false).countP (! ·)<=n:=fun n=>by
    have:=List.countP_le_length (p:=(! ·)) (l:=List.replicate n false);simpa using this
   simpa using this ops.size
  .have hno:∀j,¬(Array.replicate ops.size false).getD j false=true:=fun j=>by
    simp [Array.getD_eq_getD_getElem?,Array.getElem?_replicate];split<;>simp
   have hH:=aN.H.drew;have h0:hpf S ops.size 0=H:=by rw [R.IE,e2]
   refine⟨fun j o hj=>(hno j hj).elim,fun m hm hem=>⟨fun h=>(hno m h).elim,fun h=>absurd h (Nat.not_lt_zero _)⟩,fun j _ h=>(hno j h).elim,Nat.zero_le _,aN.T,fun j p t _ _=>⟨fun h=>(hno j h).elim,fun _=>by rw [e1]⟩,fun t _=>by rw [e1],aN.G, ?_,by rw [h0];exact fun x k h=>h,by rw [h0];exact hH.lt,fun j _ h=>(hno j h).elim,by rw [h0];exact fun x k h=> .inl h,fun j hj _ x h1 h2=>hf x ?_ ?_,rfl⟩
   .rw [e2];exact⟨hH.blk,hH.inj,hH.base,cw.refl _,fun _ _=>rfl,aE _,rfl,rfl,rfl,fun _ _ _=>rfl,fun b _ i k c h1 h2 h3=>⟨i,k,c,h1,h2,h3⟩,fun b _ i k c h1 h3=>⟨i,k,c,h1,h3⟩,hH.fz,fun _ _ h=> .inl h⟩
   .have:=R.oM hC hR (Nat.zero_le j) (Nat.le_of_lt hj);rw [e2]at this;exact cX this h1
   .have:=R.oM hC hR hj (aE _);rw [bP]at this;exact Nat.lt_of_lt_of_le h2 this
theorem Ef {S call:er} (hS:bB P S) (hC:bB P call):bB P (uI S call) where
 mono f args H v H' h:=by
  unfold uI at h;cases hs:S f args H with
  |no=>rw [hs]at h;exact hC.mono _ _ _ _ _ h
  |ok v1 H1=>rw [hs]at h;cases h;exact hS.mono _ _ _ _ _ hs
  |enter _ _ _=>rw [hs]at h;cases h
  |round _ _ _=>rw [hs]at h;cases h
 ct f args H v H' h:=by
  unfold uI at h;cases hs:S f args H with
  |no=>rw [hs]at h;exact hC.ct _ _ _ _ _ h
  |ok v1 H1=>rw [hs]at h;cases h;exact hS.ct _ _ _ _ _ hs
  |enter _ _ _=>rw [hs]at h;cases h
  |round _ _ _=>rw [hs]at h;cases h
theorem P4 (hK:eW P):xb P false (fun call round ops n T H=>wP P call round ops n ops.toList T H) where
 mono _ _ hC hR _ _ _ _ _ _ h:=Ie hC hR _ h
 ct _ _ hC hR _ ops _ _ _ _ _ h _ _ _ _ rd k _ aN hf hQ:=wpIn_region (Pj hK hC hR rd k _ _ (Zq ops) aN h hf hQ)
theorem BX (hK:eW P) (hm:P.follows .mixedOrders=true) {S:er} (hS:bB P S):∀d,xb P d (nQ P S d)
 |false=>⟨fun _ _ hC hR=>(P4 hK).mono _ _ (Ef hS hC) hR,fun _ _ hC hR=>(P4 hK).ct _ _ (Ef hS hC) hR⟩
 |true=>⟨fun _ _ hC hR=>(zd hK hm).mono _ _ (Ef hS hC) hR,fun _ _ hC hR=>(zd hK hm).ct _ _ (Ef hS hC) hR⟩
end
end Go.Proofs.YtibikmmdbdlafaaGreatDoor.Sv
