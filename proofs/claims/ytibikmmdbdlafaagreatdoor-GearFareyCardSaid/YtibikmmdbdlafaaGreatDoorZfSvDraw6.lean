import Derived.Test.YtibikmmdbdlafaaGreatDoorZfSvCode4
set_option linter.defProp false
set_option linter.unusedSectionVars false
set_option linter.unusedSimpArgs false
namespace Go.Proofs.YtibikmmdbdlafaaGreatDoor.Sv
noncomputable section
inductive Kd where
 |p|r|a|e|b
def Kd.al:Kd->Bool
 | .a| .b=>true
 |_=>false
def rP (P:Program) (t:Option TypeId):Bool:=match t.bind P.underlying with
 |some (.map _ _)=>true
 |_=>false
def abK (P:Program) (c:Call):Kd:=match c.callee with
 | .builtin .len=>cond (rP P c.argTypes[0]?) .e .p
 | .builtin .append=> .e
 | .builtin .copy=> .e
 | .builtin .unsafeString=> .e
 | .builtin .clear=> .e
 | .builtin _=> .p
 |_=> .e
def xJ (P:Program) (s d:TypeId):Kd:=match P.underlying s,P.underlying d with
 |some (.int _),some (.int _)=> .p
 |_,_=> .e
def mo (P:Program):Op->Kd:=
 @Op.rec (fun _=>Kd) (fun _=> .p) (fun _=> .p) (fun _ _ _=> .p) (fun _=> .a) (fun _ _=> .b) (fun _ _=> .p) (fun _ _ _=> .b) (fun _ _ _ _=> .e) (fun _ _=> .r) (fun _ _ _=> .e) (fun _=> .e) (fun _=> .e) (fun _=> .p) (fun _ _ _ _ _=> .p) (fun _ _ _=> .p)
   (fun s d _=>xJ P s d) (fun _ _=> .e) (fun _ _=> .p) (fun _ _ _=> .p) (fun _ _=> .b) (fun _ _=> .e) (fun _ _ _=> .b) (fun _ _ _ _ _=> .p) (fun _ _ _=> .p) (fun _ _ _=> .p) (fun _ _ _=> .p) (fun _ _ _=> .p) (fun _ _ _ _=> .r) (fun _ _ _ _=> .e)
   (fun _ _ _=> .e) (fun _ _ _ _=> .e) (fun _ _=> .e) (fun _ _=> .e) (fun _=> .e) (fun _ _ _ _=> .p) (fun _ _=> .p) (abK P) (fun _=> .e) (fun _=> .e) (fun _=> .e) (fun _ _=> .e) (fun _ _ _=> .e) (fun _ _=> .e)
def bi (o:Oper):List Nat:=(o.after.toList.filter (Region.binds .any)).map Edge.on
def kM (i:Nat) (l:List Nat):Bool:= @List.rec Nat (fun _=>Bool) false (fun a _ ih=> @Bool.rec (fun _=>Bool) ih true (Nat.beq a i)) l
def abL (o:Oper):List Tmp:=o.op.operands.toList.filterMap fun x=>match x with | .tmp t=>some t|_=>none
def xK (t:Tmp) (o:Oper):Bool:=match o.dst with |some d=>Nat.beq d t|none=>false
def qv (t:Tmp):List Oper->Nat->Option (Nat×Oper)
 |[],_=>none
 |o::l,i=>cond (xK t o) (some (i,o)) (qv t l (i+1))
def xL (ops:List Oper) (i:Nat) (o:Oper):Bool:=
 (bi o).all (fun d=>Nat.ble (d+1) i)&&
 (abL o).all (fun t=>match qv t ops 0 with |none=>true|some q=>kM q.1 (bi o)||kM i (bi q.2))&&
 (match o.dst with |none=>true|some d=>match qv d ops 0 with |some q=>Nat.beq q.1 i|none=>false)&&
 (match o.guard with |none=>true|some g=>kM g.1 (bi o))
def rQ (ops:List Oper):List Oper->Nat->Bool
 |[],_=>true
 |o::l,i=>cond (xL ops i o) (rQ ops l (i+1)) false
def Cp:Value->Value->Bool
 | .int k a, .int k' b=>decide (k=k')&&decide (a=b)
 | .bool a, .bool b=>a==b
 | .string a, .string b=>decide (a=b)
 | .pointer none, .pointer none=>true
 | .slice none l c, .slice none l' c'=>Nat.beq l l'&&Nat.beq c c'
 | .map none, .map none=>true
 | .nilFunc, .nilFunc=>true
 | .nilIface, .nilIface=>true
 | .func f ⟨[]⟩ ⟨[]⟩, .func g ⟨[]⟩ ⟨[]⟩=>decide (f=g)
 |_,_=>false
def zW (f:Value->Value->Bool):List Value->List Value->Bool
 |[],[]=>true
 |a::l,b::m=>cond (f a b) (zW f l m) false
 |_,_=>false
def xM:Nat->Value->Value->Bool
 |0,a,b=>Cp a b
 |n+1,a,b=>match a,b with
  | .agg ⟨l⟩, .agg ⟨m⟩=>zW (xM n) l m
  | .tuple ⟨l⟩, .tuple ⟨m⟩=>zW (xM n) l m
  |a,b=>Cp a b
def aZ.same:aZ->aZ->Bool
 | .known a, .known b=>Nat.beq a b
 | .full, .full=>true
 | .any, .any=>true
 |_,_=>false
def av.beq:(t:av)->t.den->t.den->Bool
 | .int _,a,b=>decide (a=b)
 | .bool,a,b=>a==b
 | .str,a,b=>decide (a=b)
 | .list _ t,a,b=>Nat.beq a.length b.length&&(a.zip b).all fun p=>t.beq p.1 p.2
 | .pair s t,a,b=>s.beq a.1 b.1&&t.beq a.2 b.2
 | .ptr t,a,b=>t.beq a b
 | .unit,_,_=>true
def zX (t u:av) (xs:List t.den) (ys:List u.den):Bool:=if h:u=t then av.beq (.list false t) xs (h ▸ ys)else false
def vE:af->af->Bool
 | .bt z t xs, .bt z' u ys=>z==z'&&zX t u xs ys
 | .ff t xs k off, .ff u ys k' off'=>zX t u xs ys&&(Nat.beq k k'&&Nat.beq off off')
 | .bT e t i k n c, .bT e' u i' k' n' c'=>Nat.beq e e'&&(decide (t=u)&&(Nat.beq i i'&&(Nat.beq k k'&&(Nat.beq n n'&&c.same c'))))
 | .dA e t i k off, .dA e' u i' k' off'=>Nat.beq e e'&&(decide (t=u)&&(Nat.beq i i'&&(Nat.beq k k'&&Nat.beq off off')))
 | .raw a, .raw b=>xM 3 a b
 | .ptr i o, .ptr j q=>Nat.beq i j&&Nat.beq o q
 | .slice i o l c, .slice j q m d=>Nat.beq i j&&Nat.beq o q&&Nat.beq l m&&c.same d
 | .map i, .map j=>Nat.beq i j
 | .func f [] [], .func g [] []=>decide (f=g)
 | .yield i, .yield j=>Nat.beq i j
 |_,_=>false
def qw:List af->List af->Bool
 |[],[]=>true
 |a::l,b::m=>vE a b&&qw l m
 |_,_=>false
def af.same:af->af->Bool
 | .agg l, .agg m=>qw l m
 | .tuple l, .tuple m=>qw l m
 | .func f (x::a) b, .func g c d=>decide (f=g)&&(qw (x::a) c&&qw b d)
 | .func f [] (x::b), .func g c d=>decide (f=g)&&(qw [] c&&qw (x::b) d)
 |a,b=>vE a b
def lc (P:Program) (o:Oper) (ev:dJ) (v:af) (H:ai):Bool:=match e5 o.op P o ev H with | .ok v' _=>af.same v' v|_=>false
def rR (P:Program) (o:Oper) (ev:dJ) (v:af):List ai->Bool
 |[]=>true
 |H::l=>cond (lc P o ev v H) (rR P o ev v l) false
structure o8 where
 i:Nat
 o:Oper
 T:au af
 v:af
def jv (ds:List Nat):List o8->List o8
 |[]=>[]
 |q::l=>cond (kM q.i ds) (jv ds l) (q::jv ds l)
def qx (P:Program) (H:ai):List o8->Bool
 |[]=>true
 |q::l=>cond (lc P q.o (cm q.T) q.v H) (qx P H l) false
def level (bR:au Nat):List Nat->Nat
 |[]=>0
 |d::l=>Nat.max ((bR.get d).getD 0) (level bR l)
def tP (l ds:List Nat):Bool:=l.all fun i=>kM i ds
structure gb where
 i:Nat
 k:Nat
 T:au af
 cur:ai
 hs:List ai
 bR:au Nat
 dB:List o8
 c9:List Nat
def mq (n:Nat) (o:Oper) (s:gb) (v:af) (f:au af->gb):Option gb:=(iI s.T n o.dst v).map f
def tQ (P:Program) (call:ew) (round:jQ) (ops:Array Oper) (n:Nat) (o:Oper) (s:gb):Option gb:=
 let ds:=bi o
 let lv:=level s.bR ds
 match gJ s.T ops o with
 |none=>none
 |some false=>mq n o s (.raw undef) fun T=>{s with i:=s.i+1,T:=T,bR:=s.bR.set s.i (some lv)}
 |some true=>match mo P o.op with
  | .p=>match e5 o.op P o (cm s.T) s.cur with
    | .ok v _=>mq n o s v fun T=>{s with i:=s.i+1,T:=T,bR:=s.bR.set s.i (some lv)}
    |_=>none
  | .r=>match s.hs with
    |H::_=>match e5 o.op P o (cm s.T) H with
     | .ok v _=>cond (rR P o (cm s.T) v (s.hs.take (s.k+1-lv)))
       (mq n o s v fun T=>{s with i:=s.i+1,T:=T,bR:=s.bR.set s.i (some lv),dB:=⟨s.i,o,s.T,v⟩::s.dB}) none
     |_=>none
    |[]=>none
  | .a=>match e5 o.op P o (cm s.T) s.cur with
    | .ok v H=>mq n o s v fun T=>{s with i:=s.i+1,T:=T,cur:=H,bR:=s.bR.set s.i (some lv),c9:=s.i::s.c9}
    |_=>none
  | .e=>cond (Nat.beq lv s.k&&tP s.c9 ds)
    (match fm P call round o (cm s.T) s.cur with
      | .ok v H=>cond (qx P H (jv ds s.dB))
        (mq n o s v fun T=>{i:=s.i+1,k:=s.k+1,T:=T,cur:=H,hs:=H::s.hs,bR:=s.bR.set s.i (some (s.k+1)),dB:=jv ds s.dB,c9:=[]}) none
      |_=>none) none
  | .b=>cond (Nat.beq lv s.k&&tP s.c9 ds)
    (match fm P call round o (cm s.T) s.cur with
      | .ok v H=>cond (qx P H (jv ds s.dB))
        (mq n o s v fun T=>{i:=s.i+1,k:=s.k+1,T:=T,cur:=H,hs:=H::s.hs,bR:=s.bR.set s.i (some (s.k+1)),dB:=jv ds s.dB,c9:=[]}) none
      |_=>none)
    (match e5 o.op P o (cm s.T) s.cur with
      | .ok v H=>mq n o s v fun T=>{s with i:=s.i+1,T:=T,cur:=H,bR:=s.bR.set s.i (some lv),c9:=s.i::s.c9}
      |_=>none)
def xN (P:Program) (call:ew) (round:jQ) (ops:Array Oper) (n:Nat):List Oper->gb->eV
 |[],s=> .mk s.T s.cur
 |o::l,s=>match tQ P call round ops n o s with
  |some s=>xN P call round ops n l s
  |none=> .no
def wv (P:Program):Je:=fun call round ops n T H=>
 cond (rQ ops.toList ops.toList 0) (xN P call round ops n ops.toList {i:=0,k:=0,T:=T,cur:=H,hs:=[H],bR:= .nil,dB:=[],c9:=[]}) .no
def n4 (P:Program) (S:ew):oY:=fun d call round ops n T H=> @Bool.rec (fun _=>eV) (CH P (vh S call) round ops n ops.toList T H) (wv P (vh S call) round ops n T H) d
end
section
open Go.RowKit
section
variable {P:Program} {B:Nat} {ρ:Env} {H:ai} {w:World} {o:Oper} {ev ev':dJ}
def qy (hp:qj o.op=true) (h:∀x∈o.op.operands.toList,ev x=ev' x):gen P o ev=gen P o ev':=by
 unfold gen;have e1:(o.op.operands.toList.all fun x=>(ev x).fh.isSome)=o.op.operands.toList.all fun x=>(ev' x).fh.isSome:=by
  rw [Bool.eq_iff_iff,List.all_eq_true,List.all_eq_true];exact⟨fun hh x hx=>by rw [<-h x hx];exact hh x hx,fun hh x hx=>by rw [h x hx];exact hh x hx⟩
 have e2:execOp (m9 ev) o=execOp (m9 ev') o:=execOp_congr hp fun x hx=>by simp only [m9,h x hx]
 rw [e1,e2]
def J3 {l:List Operand} (h:∀x∈l,ev x=ev' x):l.map ev=l.map ev':=List.map_congr_left h
def Rr {ps:Array (Nat×Operand)} (h:∀p∈ps.toList,ev p.2=ev' p.2):rI ev ps=rI ev' ps:=List.map_congr_left fun p hp=>by rw [h p hp]
def ww (h:∀x∈o.op.operands.toList,ev x=ev' x):e5 o.op P o ev H=e5 o.op P o ev' H:=by
 cases ho:o.op with
 |move x=>
  have h1:=h x (by simp [ho,Op.operands]);show rH x P o ev H=rH x P o ev' H;simp only [rH,h1]
 |assign x=>
  have h1:=h x (by simp [ho,Op.operands]);show rH x P o ev H=rH x P o ev' H;simp only [rH,h1]
 |pick c a b=>
  have h1:=h c (by simp [ho,Op.operands]);have h2:=h a (by simp [ho,Op.operands]);have h3:=h b (by simp [ho,Op.operands]);show nT c a b P o ev H=nT c a b P o ev' H;simp only [nT,h1,h2,h3]
 |box t x=>
  have h1:=h x (by simp [ho,Op.operands]);show oU t x P o ev H=oU t x P o ev' H;simp only [oU,h1]
 |build t ps=>
  have h1:=Rr (ev:=ev) (ev':=ev') (ps:=ps) fun p hp=>h p.2 (by simp only [ho,Op.operands];exact List.mem_map_of_mem hp)
  show tw t ps P o ev H=tw t ps P o ev' H;simp only [tw,IZ,h1]
 |buildSlice t l ps=>
  have h1:=Rr (ev:=ev) (ev':=ev') (ps:=ps) fun p hp=>h p.2 (by simp only [ho,Op.operands];exact List.mem_map_of_mem hp)
  show zB t l ps P o ev H=zB t l ps P o ev' H;simp only [zB,oV,h1]
 |insert t m k v=>
  have h1:=h m (by simp [ho,Op.operands]);have h2:=h k (by simp [ho,Op.operands]);have h3:=h v (by simp [ho,Op.operands]);show oW t m k v P o ev H=oW t m k v P o ev' H;simp only [oW,h1,h2,h3]
 |mapUpdate t m k v=>
  have h1:=h m (by simp [ho,Op.operands]);have h2:=h k (by simp [ho,Op.operands]);have h3:=h v (by simp [ho,Op.operands]);show oW t m k v P o ev H=oW t m k v P o ev' H;simp only [oW,h1,h2,h3]
 |load t x=>
  have h1:=h x (by simp [ho,Op.operands]);show nU t x P o ev H=nU t x P o ev' H;simp only [nU,h1]
 |store t x y=>
  have h1:=h x (by simp [ho,Op.operands]);have h2:=h y (by simp [ho,Op.operands]);show qf t x y P o ev H=qf t x y P o ev' H;simp only [qf,h1,h2]
 |nilCheck x=>
  have h1:=h x (by simp [ho,Op.operands]);have hg:=qy (P:=P) (by rw [ho];rfl) h;show tz x P o ev H=tz x P o ev' H;simp only [tz,I0,h1,hg]
 |binOp op t x y ah=>
  have h1:=h x (by simp [ho,Op.operands]);have h2:=h y (by simp [ho,Op.operands]);have hg:=qy (P:=P) (by rw [ho];rfl) h;show iU op t x y ah P o ev H=iU op t x y ah P o ev' H;simp only [iU,xj,oT,BQ,h1,h2,hg]
 |unOp op t x=>
  have hg:=qy (P:=P) (by rw [ho];rfl) h;show ve P o ev H=ve P o ev' H;simp only [ve,hg]
 |typeAssert a b c d=>
  have hg:=qy (P:=P) (by rw [ho];rfl) h;show ve P o ev H=ve P o ev' H;simp only [ve,hg]
 |convert s d x=>
  have h1:=h x (by simp [ho,Op.operands]);have hg:=qy (P:=P) (by rw [ho];rfl) h;show zA s d x P o ev H=zA s d x P o ev' H;simp only [zA,qc,h1,hg]
 |makeInterface t x=>
  have h1:=h x (by simp [ho,Op.operands]);show BS t x P o ev H=BS t x P o ev' H;simp only [BS,h1]
 |makeFunc fn f c=>
  have h1:=J3 (ev:=ev) (ev':=ev') (l:=f.toList) fun x hx=>h x (by simp only [ho,Op.operands,Array.toList_append];exact List.mem_append_left _ hx)
  have h2:=J3 (ev:=ev) (ev':=ev') (l:=c.toList) fun x hx=>h x (by simp only [ho,Op.operands,Array.toList_append];exact List.mem_append_right _ hx)
  show BU fn f c P o ev H=BU fn f c P o ev' H;simp only [BU,h1,h2]
 |makeMap t r=>
  show zC t r P o ev H=zC t r P o ev' H;cases r with
  |none=>rfl
  |some x=>
   have h1:=h x (by simp [ho,Op.operands]);simp only [zC,rJ,h1]
 |makeSlice t l c=>
  have h1:=h l (by simp [ho,Op.operands]);have h2:=h c (by simp [ho,Op.operands]);show dT t l c P o ev H=dT t l c P o ev' H;simp only [dT,h1,h2]
 |slice t x l hi m=>
  have h1:=h x (by simp [ho,Op.operands]);have h2:l.map ev=l.map ev':=by
   cases l with
   |none=>rfl
   |some y=>simp [h y (by simp [ho,Op.operands])]
  have h3:hi.map ev=hi.map ev':=by
   cases hi with
   |none=>rfl
   |some y=>simp [h y (by simp [ho,Op.operands])]
  have h4:m.map ev=m.map ev':=by
   cases m with
   |none=>rfl
   |some y=>simp [h y (by simp [ho,Op.operands])]
  have hg:=qy (P:=P) (by rw [ho];rfl) h;show ib t x l hi m P o ev H=ib t x l hi m P o ev' H;simp only [ib,BV,h1,h2,h3,h4,hg]
 |fieldAddr s x f=>
  have h1:=h x (by simp [ho,Op.operands]);show p9 s x f P o ev H=p9 s x f P o ev' H;simp only [p9,h1]
 |field t x f=>
  have h1:=h x (by simp [ho,Op.operands]);have hg:=qy (P:=P) (by rw [ho];rfl) h;show qa t x f P o ev H=qa t x f P o ev' H;simp only [qa,h1,hg]
 |indexAddr t x i=>
  have h1:=h x (by simp [ho,Op.operands]);have h2:=h i (by simp [ho,Op.operands]);show mV t x i P o ev H=mV t x i P o ev' H;simp only [mV,h1,h2]
 |index t x i=>
  have h1:=h x (by simp [ho,Op.operands]);have h2:=h i (by simp [ho,Op.operands]);have hg:=qy (P:=P) (by rw [ho];rfl) h;show l5 t x i P o ev H=l5 t x i P o ev' H;simp only [l5,h1,h2,hg]
 |lookup t m k ok=>
  have h1:=h m (by simp [ho,Op.operands]);have h2:=h k (by simp [ho,Op.operands]);have hg:=qy (P:=P) (by rw [ho];rfl) h;show BW t m k ok P o ev H=BW t m k ok P o ev' H;simp only [BW,I6,h1,h2,hg]
 |extract x i=>
  have h1:=h x (by simp [ho,Op.operands]);have hg:=qy (P:=P) (by rw [ho];rfl) h;show qb x i P o ev H=qb x i P o ev' H;simp only [qb,h1,hg]
 |call c=>
  obtain⟨callee,args,argTypes⟩:=c;have h1:=J3 (ev:=ev) (ev':=ev') (l:=args.toList) fun x hx=>h x (by simp only [ho,Op.operands,Call.operands,Array.toList_append];exact List.mem_append_right _ hx)
  have hg:=qy (P:=P) (by rw [ho];rfl) h;show iV ⟨callee,args,argTypes⟩ P o ev H=iV ⟨callee,args,argTypes⟩ P o ev' H;cases callee with
  |value f=>
   have h2:=h f (by simp [ho,Op.operands,Call.operands]);simp only [iV,h1,h2]
  |builtin b=>simp only [iV,dE,h1,hg]
  |invoke r m=>rfl
 |range t x=>
  have h1:=h x (by simp [ho,Op.operands]);show zD t x P o ev H=zD t x P o ev' H;simp only [zD,h1]
 |next x b=>
  have h1:=h x (by simp [ho,Op.operands]);show wn x b P o ev H=wn x b P o ev' H;simp only [wn,h1]
 |entry x=>
  have h1:=h x (by simp [ho,Op.operands]);show B0 x P o ev H=B0 x P o ev' H;simp only [B0,h1]
 |_=>rfl
def abM {t:Option TypeId} {v:af} (h:rP P t=false) (H:ai):B1 P t v H=none:=by
 unfold rP at h;unfold B1;cases t with
 |none=>rfl
 |some t=>
  simp only [Option.bind_some]at h ⊢;split
  .rename_i hu;rw [hu]at h;cases h
  .rfl
section
variable {args:Array Operand} {argTypes:Array TypeId}
def abN (hk:mo P (.call {callee:= .builtin .len,args,argTypes})= .p):rP P argTypes[0]? =false:=by
 have hk:cond (rP P argTypes[0]?) Kd.e Kd.p= .p:=hk;cases h:rP P argTypes[0]? with
 |true=>rw [h]at hk;cases hk
 |false=>rfl
def abO (hk:mo P (.call {callee:= .builtin .len,args,argTypes})= .r):False:=by
 have hk:cond (rP P argTypes[0]?) Kd.e Kd.p= .r:=hk;cases h:rP P argTypes[0]? <;>rw [h]at hk<;>cases hk
def abP (hk:(mo P (.call {callee:= .builtin .len,args,argTypes})).al=true):False:=by
 have hk:(cond (rP P argTypes[0]?) Kd.e Kd.p).al=true:=hk;cases h:rP P argTypes[0]? <;>rw [h]at hk<;>cases hk
end
def Cq {x:Option af} {v:af} {H1:ai} (h:ag H x= .ok v H1):x=some v/\H1=H:=by
 cases x with
 |none=>cases h
 |some y=>cases h;exact⟨rfl,rfl⟩
def kj {x:Option af} {v:af} {H1:ai} (h:ag H x= .ok v H1) (H2:ai):ag H2 x= .ok v H2:=by
 obtain⟨rfl,_⟩:=Cq h;rfl
def abQ {gH n:Nat} {x v:af} {H1:ai} (h:lr gH n x H= .ok v H1) (H2:ai):lr gH n x H2= .ok v H2:=by
 unfold lr at h ⊢;split at h
 .cases hb:Nat.ble 1 n<;>rw [hb]at h<;>cases h;rfl
 .cases hb:Nat.ble 1 n<;>rw [hb]at h<;>cases h;rfl
 .cases h
def abR {k n s:Nat} {x v:af} {H1:ai} (h:u6 k n s x H= .ok v H1) (H2:ai):u6 k n s x H2= .ok v H2:=by
 unfold u6 at h ⊢;split at h
 .cases hb:Nat.ble (k+1) n<;>rw [hb]at h<;>cases h;rfl
 .cases hb:Nat.ble (k+1) n<;>rw [hb]at h<;>cases h;rfl
 .cases h
def abS {k s:Nat} {x v:af} {H1:ai} (h:rC k s x H= .ok v H1) (H2:ai):rC k s x H2= .ok v H2:=by
 unfold rC at h ⊢;split at h
 .rename_i z t xs;cases hb:(Nat.beq t.size s&&Nat.ble (k+1) xs.length)<;>rw [hb]at h<;>cases h;rfl
 .rename_i e t i k0 len cap;cases hb:(Nat.beq t.size s&&Nat.ble (k+1) len)<;>rw [hb]at h<;>cases h;rfl
 .cases h
section
variable {s d:TypeId}
def abT (h:xJ P s d= .p):∃k,P.underlying s=some (.int k):=by
 unfold xJ at h;split at h
 .exact⟨_,by assumption⟩
 .cases h
def abU (h:xJ P s d= .r):False:=by
 unfold xJ at h;split at h<;>cases h
def abV (h:(xJ P s d).al=true):False:=by
 unfold xJ at h;split at h<;>cases h
def abW {k:IntKind} (hu:P.underlying s=some (.int k)) (x:af):∃y:Option af,∀H,qc P o ev s d x H=y.map fun v=>(v,H):=by
 cases x with
 |slice i off len c=>exact⟨none,fun H=>by simp only [qc,hu];rfl⟩
 |ptr i off=>exact⟨none,fun H=>by simp only [qc,hu];rfl⟩
 |raw v=>
  cases v with
  |string b=>exact⟨gen P o ev,fun H=>by simp only [qc,hu]⟩
  |_=>exact⟨gen P o ev,fun H=>rfl⟩
 |_=>exact⟨gen P o ev,fun H=>rfl⟩
end
def abX (hk:mo P o.op= .p) {v:af} {H1:ai} (h:e5 o.op P o ev H= .ok v H1) (H2:ai):e5 o.op P o ev H2= .ok v H2:=by
 cases ho:o.op with
 |move x=>rw [ho]at h;cases h;rfl
 |assign x=>rw [ho]at h;cases h;rfl
 |pick c a b=>
  rw [ho]at h;have h:nT c a b P o ev H= .ok v H1:=h;show nT c a b P o ev H2= .ok v H2;unfold nT at h ⊢;cases hb:gI (ev c)with
  |no=>rw [hb]at h;cases h
  |mk q=>rw [hb]at h;cases q<;>(cases h;rfl)
 |build t ps=>rw [ho]at h;exact kj h H2
 |nilCheck x=>
  rw [ho]at h;have h:tz x P o ev H= .ok v H1:=h;show tz x P o ev H2= .ok v H2;unfold tz at h ⊢;cases hb:iH (ev x)with
  |no=>rw [hb]at h;exact kj h H2
  |mk i off=>rw [hb]at h;cases h;rfl
 |binOp op t x y ah=>
  rw [ho]at h;have h:iU op t x y ah P o ev H= .ok v H1:=h;show iU op t x y ah P o ev H2= .ok v H2;unfold iU at h ⊢;cases hb:iG (ev x)with
  |no=>rw [hb]at h;exact kj h H2
  |int k a=>
   rw [hb]at h;simp only at h ⊢;cases kI:iG (ev y)with
   |no=>rw [kI]at h;exact kj h H2
   |int k' b=>
    rw [kI]at h;simp only at h ⊢;cases hf:jr op k k' a b with
    |none=>rw [hf]at h;exact kj h H2
    |some q=>rw [hf]at h;cases h;rfl
 |convert s d x=>
  rw [ho]at hk h;obtain⟨k,hu⟩:=abT hk;obtain⟨y,hy⟩:=abW (o:=o) (ev:=ev) (d:=d) hu (ev x);have h:eu (qc P o ev s d (ev x) H)= .ok v H1:=h;show eu (qc P o ev s d (ev x) H2)= .ok v H2;rw [hy]at h ⊢;cases y with
  |none=>cases h
  |some z=>cases h;rfl
 |unOp op t x=>rw [ho]at h;exact kj h H2
 |typeAssert a b c d=>rw [ho]at h;exact kj h H2
 |makeInterface t x=>rw [ho]at h;exact kj h H2
 |makeFunc fn f c=>rw [ho]at h;cases h;rfl
 |slice t x l hi m=>rw [ho]at h;exact kj h H2
 |fieldAddr s x f=>
  rw [ho]at h;have h:p9 s x f P o ev H= .ok v H1:=h;show p9 s x f P o ev H2= .ok v H2;unfold p9 at h ⊢;cases hf:fv P s f with
  |no=>rw [hf]at h;cases h
  |mk a n t=>
   rw [hf]at h;simp only at h ⊢;cases hb:iH (ev x)with
   |no=>rw [hb]at h;exact abQ h H2
   |mk i off=>
    rw [hb]at h;simp only at h ⊢;cases hn:Nat.ble 1 n with
    |false=>rw [hn]at h;cases h
    |true=>rw [hn]at h;cases h;rfl
 |field t x f=>
  rw [ho]at h;have h:qa t x f P o ev H= .ok v H1:=h;show qa t x f P o ev H2= .ok v H2;unfold qa at h ⊢;cases hb:rD (ev x)with
  |none=>rw [hb]at h;exact kj h H2
  |some cs=>
   rw [hb]at h;simp only at h ⊢;cases hf:fv P t f with
   |no=>rw [hf]at h;cases h
   |mk a n t=>rw [hf]at h;exact kj h H2
 |indexAddr t x i=>
  rw [ho]at h;have h:mV t x i P o ev H= .ok v H1:=h;show mV t x i P o ev H2= .ok v H2;unfold mV at h ⊢;cases hk2:nS (ev i)with
  |no=>rw [hk2]at h;cases h
  |mk k=>
   rw [hk2]at h;simp only at h ⊢;cases ht:nR P t with
   |no=>rw [ht]at h;cases h
   |arr n s=>
    rw [ht]at h;simp only at h ⊢;cases hb:iH (ev x)with
    |no=>rw [hb]at h;exact abR h H2
    |mk i off=>
     rw [hb]at h;simp only at h ⊢;cases hn:Nat.ble (Nat.succ k) n with
     |false=>rw [hn]at h;cases h
     |true=>rw [hn]at h;cases h;rfl
   |sl s=>
    rw [ht]at h;simp only at h ⊢;cases hb:xd (ev x)with
    |no=>rw [hb]at h;exact abS h H2
    |mk i off len cap=>
     rw [hb]at h;simp only at h ⊢;cases hn:Nat.ble (Nat.succ k) len with
     |false=>rw [hn]at h;cases h
     |true=>rw [hn]at h;cases h;rfl
 |index t x i=>
  rw [ho]at h;have h:l5 t x i P o ev H= .ok v H1:=h;show l5 t x i P o ev H2= .ok v H2;unfold l5 at h ⊢;cases hb:rD (ev x)with
  |none=>rw [hb]at h;exact kj h H2
  |some cs=>rw [hb]at h;exact kj h H2
 |extract x i=>
  rw [ho]at h;have h:qb x i P o ev H= .ok v H1:=h;show qb x i P o ev H2= .ok v H2;unfold qb at h ⊢;cases hb:zl (ev x)with
  |none=>rw [hb]at h;exact kj h H2
  |some cs=>rw [hb]at h;exact kj h H2
 |call c=>
  obtain⟨callee,args,argTypes⟩:=c;rw [ho]at h hk;cases callee with
  |value f=>cases hk
  |invoke r m=>cases hk
  |builtin b=>
   have h:dE P o ev b argTypes (args.toList.map ev) H= .ok v H1:=h;show dE P o ev b argTypes (args.toList.map ev) H2= .ok v H2;unfold dE at h ⊢;split at h
   .rw [abM (abN hk)]at h ⊢;simp only at h ⊢;split at h
    .cases h;rfl
    .exact kj h H2
   .split at h
    .cases h;rfl
    .exact kj h H2
   .cases hk
   .cases hk
   .cases hk
   .cases hk
   .cases hk
   .rename_i i off len cap _ _;have h: @Bool.rec (fun _=>aM) .no (.ok (.ptr i off) H) (Nat.ble 1 len)= .ok v H1:=h;show @Bool.rec (fun _=>aM) .no (.ok (.ptr i off) H2) (Nat.ble 1 len)= .ok v H2
    cases hn:Nat.ble 1 len with
    |false=>rw [hn]at h;cases h
    |true=>rw [hn]at h;cases h;rfl
   .rename_i e' u i k len cap _ _;have h: @Bool.rec (fun _=>aM) .no (.ok (.dA e' u i k 0) H) (Nat.ble 1 len)= .ok v H1:=h;show @Bool.rec (fun _=>aM) .no (.ok (.dA e' u i k 0) H2) (Nat.ble 1 len)= .ok v H2
    cases hn:Nat.ble 1 len with
    |false=>rw [hn]at h;cases h
    |true=>rw [hn]at h;cases h;rfl
   .exact kj h H2
 |_=>rw [ho]at hk;cases hk
def abY (hk:mo P o.op= .r) {v:af} {H1:ai} (h:e5 o.op P o ev H= .ok v H1):H1=H:=by
 cases ho:o.op with
 |load t x=>
  rw [ho]at h;have h:nU t x P o ev H= .ok v H1:=h;unfold nU at h;cases hb:iH (ev x)with
  |no=>
   rw [hb]at h;have h:tr P t (ev x) H= .ok v H1:=h;unfold tr at h;split at h
   .exact(Cq h).2
   .rename_i e' u i k off _;cases hc:bz e' u (H.get i) k with
    |false=>rw [hc]at h;cases h
    |true=>rw [hc]at h;exact(Cq h).2
   .cases h
  |mk i off=>
   rw [hb]at h;simp only at h;cases hc:s9 (H.get i)with
   |no=>rw [hc]at h;cases h
   |mk a b c d e=>rw [hc]at h;exact(Cq h).2
 |lookup t m k ok=>rw [ho]at h;exact(Cq h).2
 |call c=>
  obtain⟨callee,args,argTypes⟩:=c;rw [ho]at hk;cases callee with
  |value f=>cases hk
  |invoke r m=>cases hk
  |builtin b=>cases b<;>first |cases hk|exact(abO hk).elim
 |convert s d x=>rw [ho]at hk;exact(abU hk).elim
 |_=>rw [ho]at hk;cases hk
def Cr (hk:(mo P o.op).al=true) {v:af} {H1:ai} (h:e5 o.op P o ev H= .ok v H1):True/\∃blk,H1=H.new blk/\∀H2:ai,H2.next=H.next->e5 o.op P o ev H2= .ok v (H2.new blk):=by
 cases ho:o.op with
 |alloc t=>
  rw [ho]at h;have h:tu t P o ev H= .ok v H1:=h;unfold tu at h;cases hz:mT P t with
  |none=>rw [hz]at h;cases h
  |some z=>
   rw [hz]at h;cases h;refine⟨trivial,_,rfl,fun H2 h2=> ?_⟩;show tu t P o ev H2=_;unfold tu;rw [hz];simp only [h2]
 |box t x=>
  rw [ho]at h;have h:oU t x P o ev H= .ok v H1:=h;unfold oU at h;cases hb:(ev x).u5 with
  |true=>rw [hb]at h;cases h
  |false=>
   rw [hb]at h;cases h;refine⟨trivial,_,rfl,fun H2 h2=> ?_⟩;show oU t x P o ev H2=_;unfold oU;rw [hb];simp only [h2]
 |buildSlice t len parts=>
  rw [ho]at h;have h:eu (oV P ev t len parts H)= .ok v H1:=h;have key:∀H2:ai,oV P ev t len parts H2=(oV P ev t len parts {m:= .nil,next:=0}).bind fun _=>(ik P t).bind fun e=>(en P e).bind fun s=>(mT P e).bind fun z=>
    ((m8 (fun i=>some (i*s,s)) (List.replicate len (ig z.cells)).flatten (rI ev parts)).map fun cs=>(.slice H2.next 0 len (.known len),H2.new (.cells e cs true false false))):=by
   intro H2;unfold oV;cases h1:ik P t with
   |none=>rfl
   |some e=>
    simp only [Option.bind_some];cases h2:en P e with
    |none=>rfl
    |some s=>
     simp only [Option.bind_some];cases h3:mT P e with
     |none=>rfl
     |some z=>
      simp only [Option.bind_some];cases h4:(Nat.ble 1 s&&Nat.ble (len*s) 16777216&&Nat.beq z.cells.size s)with
      |false=>rfl
      |true=>
       simp only [cond_true];cases h5:m8 (fun i=>some (i*s,s)) (List.replicate len (ig z.cells)).flatten (rI ev parts)with
       |none=>rfl
       |some cs=>rfl
  obtain⟨r,hr⟩:∃r,oV P ev t len parts H=some r:=by
   cases hq:oV P ev t len parts H with
   |none=>rw [hq]at h;cases h
   |some r=>exact⟨r,rfl⟩
  rw [hr]at h;have hk2:=key H;rw [hr]at hk2;have hk2:=hk2.symm;simp only [dH,am]at hk2;obtain⟨ef,h0,e,h1,s,h2,z,h3,cs,h4,h5⟩:=hk2;subst h5;cases h;refine⟨trivial,_,rfl,fun H2 hn=> ?_⟩;show eu (oV P ev t len parts H2)=_;rw [key H2,h0];simp only [Option.bind_some,h1,h2,h3,h4,Option.map_some,hn,eu]
 |call c=>
  obtain⟨callee,args,argTypes⟩:=c;rw [ho]at hk;cases callee with
  |value f=>cases hk
  |invoke r m=>cases hk
  |builtin b=>cases b<;>first |cases hk|exact(abP hk).elim
 |makeMap t r=>
  rw [ho]at h;have h:eu (rJ P ev t r H)= .ok v H1:=h;have key:∀H2:ai,rJ P ev t r H2=(rJ P ev t r {m:= .nil,next:=0}).map fun _=>(.map H2.next,H2.new (.map #[] 0)):=by
   intro H2;unfold rJ;cases r with
   |none=>rfl
   |some x=>
    simp only;split<;>rfl
  rw [key H]at h;cases hq:rJ P ev t r {m:= .nil,next:=0}with
  |none=>rw [hq]at h;cases h
  |some q=>
   rw [hq]at h;cases h;refine⟨trivial,_,rfl,fun H2 h2=> ?_⟩;show eu (rJ P ev t r H2)=_;rw [key H2,hq];simp only [Option.map_some,eu,h2]
 |makeSlice t l c=>
  rw [ho]at h;have h:eu (qd P t (ev l) (ev c) H)= .ok v H1:=h;obtain⟨q,hq⟩:∃q,qd P t (ev l) (ev c) H=some q:=by
   cases hq:qd P t (ev l) (ev c) H with
   |none=>rw [hq]at h;cases h
   |some q=>exact⟨q,rfl⟩
  rw [hq]at h;have vF:=hq;unfold qd at vF;simp only [dH]at vF;obtain⟨e,h1,inf,h2,z,h3,n,h4,m,h5,h6⟩:=vF;cases hb:(Nat.ble n m&&Nat.ble 1 inf.size&&bounded m inf.bytes&&Nat.beq z.cells.size inf.size)with
  |false=>rw [hb]at h6;cases h6
  |true=>
   rw [hb]at h6;cases h6;cases h;refine⟨trivial,_,rfl,fun H2 hn=> ?_⟩;show eu (qd P t (ev l) (ev c) H2)=_;unfold qd;simp only [h1,h2,h3,h4,h5,Option.bind_some,hb,cond_true,eu,hn]
 |convert s d x=>rw [ho]at hk;exact(abV hk).elim
 |_=>rw [ho]at hk;cases hk
end
end
section
open Go.RowKit
def Rs {a b:Value} (h:Cp a b=true):a=b:=by
 unfold Cp at h;split at h
 .simp only [ae,bA]at h;rw [h.1,h.2]
 .simp only [fP]at h;rw [h]
 .simp only [bA]at h;rw [h]
 .rfl
 .simp only [ae]at h;rw [ac h.1,ac h.2]
 .rfl
 .rfl
 .rfl
 .simp only [bA]at h;rw [h]
 .cases h
def J4 {f:Value->Value->Bool} (hf:∀a b,f a b=true->a=b):∀{l m:List Value},zW f l m=true->l=m
 |[],[],_=>rfl
 |[],_::_,h=>by cases h
 |_::_,[],h=>by cases h
 |a::l,b::m,h=>by
  have e:zW f (a::l) (b::m)=cond (f a b) (zW f l m) false:=rfl;rw [e]at h;cases hc:f a b with
  |false=>rw [hc]at h;cases h
  |true=>rw [hc]at h;rw [hf a b hc,J4 hf h]
def J5:∀(n:Nat) {a b:Value},xM n a b=true->a=b
 |0,_,_,h=>Rs h
 |n+1,a,b,h=>by
  unfold xM at h;split at h
  .rw [J4 (fun _ _ h=>J5 n h) h]
  .rw [J4 (fun _ _ h=>J5 n h) h]
  .exact Rs h
def Rt {a b:aZ} (h:aZ.same a b=true):a=b:=by
 unfold aZ.same at h;split at h
 .rw [ac h]
 .rfl
 .rfl
 .cases h
def Ru {α:Type} {f:α->α->Bool} (hf:∀a b,f a b=true->a=b):∀{l m:List α},l.length=m.length->(l.zip m).all (fun p=>f p.1 p.2)=true->l=m
 |[],[],_,_=>rfl
 |[],_::_,h,_=>by simp at h
 |_::_,[],h,_=>by simp at h
 |a::l,b::m,h,k=>by
  simp only [List.zip_cons_cons,List.all_cons,ae]at k;rw [hf a b k.1,Ru hf (by simpa using h) k.2]
def av.zY:∀(t:av) {a b:t.den},t.beq a b=true->a=b
 | .int _,a,b,h=>ap h
 | .bool,a,b,h=>eq_of_beq h
 | .str,a,b,h=>ap h
 | .list _ t,a,b,h=>by
   have h:(Nat.beq a.length b.length&&(a.zip b).all fun p=>t.beq p.1 p.2)=true:=h;rw [ae]at h;exact Ru (fun a b h=>t.zY h) (ac h.1) h.2
 | .pair s t,a,b,h=>by
   have h:(s.beq a.1 b.1&&t.beq a.2 b.2)=true:=h;rw [ae]at h;exact Prod.ext (s.zY h.1) (t.zY h.2)
 | .ptr t,_,_,h=>t.zY h
 | .unit,_,_,_=>rfl
def Rv {t u:av} {xs:List t.den} {ys:List u.den} (h:zX t u xs ys=true):∃e:u=t,xs=e ▸ ys:=by
 unfold zX at h;split at h
 .rename_i e;exact⟨e,(av.zY (.list false t) h:(xs:List t.den)=_)⟩
 .cases h
def Rw {a b:af} (h:vE a b=true):a=b:=by
 unfold vE at h;split at h
 .simp only [ae]at h;obtain⟨e,h2⟩:=Rv h.2;subst e;subst h2;rw [eq_of_beq h.1]
 .simp only [ae]at h;obtain⟨e,h2⟩:=Rv h.1;subst e;subst h2;rw [ac h.2.1,ac h.2.2]
 .simp only [ae,bA]at h;obtain⟨h1,h2,h3,h4,h5,h6⟩:=h;subst h2;rw [ac h1,ac h3,ac h4,ac h5,Rt h6]
 .simp only [ae,bA]at h;obtain⟨h1,h2,h3,h4,h5⟩:=h;subst h2;rw [ac h1,ac h3,ac h4,ac h5]
 .rw [J5 3 h]
 .simp only [ae]at h;rw [ac h.1,ac h.2]
 .simp only [ae]at h;rw [ac h.1.1.1,ac h.1.1.2,ac h.1.2,Rt h.2]
 .rw [ac h]
 .simp only [bA]at h;rw [h]
 .rw [ac h]
 .cases h
def xO:∀{l m:List af},qw l m=true->l=m
 |[],[],_=>rfl
 |[],_::_,h=>by cases h
 |_::_,[],h=>by cases h
 |a::l,b::m,h=>by
  simp only [qw,ae]at h;rw [Rw h.1,xO h.2]
def abZ {a b:af} (h:af.same a b=true):a=b:=by
 unfold af.same at h;split at h
 .rw [xO h]
 .rw [xO h]
 .simp only [ae,bA]at h;rw [h.1,xO h.2.1,xO h.2.2]
 .simp only [ae,bA]at h;rw [h.1,xO h.2.1,xO h.2.2]
 .exact Rw h
def lO {i:Nat}:∀{l:List Nat},kM i l=true↔i∈l
 |[]=>by simp [kM]
 |a::l=>by
  have e:kM i (a::l)= @Bool.rec (fun _=>Bool) (kM i l) true (Nat.beq a i):=rfl;rw [e];cases hb:Nat.beq a i with
  |false=>have:=Nat.ne_of_beq_eq_false hb;simp only [lO,ek];exact⟨.inr,fun h=>h.resolve_left fun e=>this e.symm⟩
  |true=>simp [ac hb]
def Rx {l ds:List Nat} (h:tP l ds=true):∀i∈l,i∈ds:=fun i hi=>lO.1 (List.all_eq_true.1 h i hi)
def Ry {bR:au Nat} {e:Nat}:∀{ds:List Nat},(∀d∈ds,(bR.get d).getD 0<=e)->level bR ds<=e
 |[],_=>Nat.zero_le _
 |a::l,h=>by
  have e:level bR (a::l)=Nat.max ((bR.get a).getD 0) (level bR l):=rfl;rw [e];exact Nat.max_le.2 ⟨h a lW,Ry fun d hd=>h d (lV _ hd)⟩
def Rz {t k:Nat} {o:Oper}:∀{l:List Oper} {i:Nat},qv t l i=some (k,o)->i<=k/\l[k-i]? =some o/\o.dst=some t
 |[],_,h=>by cases h
 |a::l,i,h=>by
  have e:qv t (a::l) i=cond (xK t a) (some (i,a)) (qv t l (i+1)):=rfl;rw [e]at h;cases hd:xK t a with
  |true=>
   rw [hd]at h;cases h;refine⟨aJ _,by simp, ?_⟩;unfold xK at hd;split at hd
   .rename_i d he;rw [he,ac hd]
   .cases hd
  |false=>
   rw [hd]at h;obtain⟨h1,h2,h3⟩:=Rz (l:=l) h;refine⟨by omega, ?_,h3⟩;have:k-i=(k-(i+1))+1:=by omega
   rw [this];simpa using h2
def RA {t:Nat}:∀{l:List Oper} {i:Nat},qv t l i=none->∀o∈l,o.dst≠some t
 |[],_,_,o,ho=>by simp at ho
 |a::l,i,h,o,ho=>by
  have e:qv t (a::l) i=cond (xK t a) (some (i,a)) (qv t l (i+1)):=rfl;rw [e]at h;cases hd:xK t a with
  |true=>rw [hd]at h;cases h
  |false=>
   rw [hd]at h;rcases ek.1 ho with rfl |ho
   .intro hh;unfold xK at hd;rw [hh]at hd;have:Nat.beq t t=true:=Nat.beq_refl t;simp only at hd;rw [this]at hd;cases hd
   .exact RA (l:=l) h o ho
def RB {ops:List Oper}:∀{l:List Oper} {i:Nat},rQ ops l i=true->∀j o,l[j]? =some o->xL ops (i+j) o=true
 |[],i,h,j,o,hj=>by simp at hj
 |a::l,i,h,j,o,hj=>by
  have e:rQ ops (a::l) i=cond (xL ops i a) (rQ ops l (i+1)) false:=rfl;rw [e]at h;cases hc:xL ops i a with
  |false=>rw [hc]at h;cases h
  |true=>
   rw [hc]at h;cases j with
   |zero=>simp at hj;subst hj;exact hc
   |succ j=>
    have:=RB (l:=l) h j o (by simpa using hj);have e:i+1+j=i+(j+1):=by omega
    rwa [e]at this
structure ab0 (ops:Array Oper) (i:Nat) (o:Oper):Prop where
 lt:∀d∈bi o,d<i
 slot:∀t,Operand.tmp t∈o.op.operands.toList->(∀(j:Nat) (p:Oper),ops[j]? =some p->p.dst≠some t)\/∃(k:Nat) (p:Oper),ops[k]? =some p/\p.dst=some t/\(k∈bi o\/i∈bi p)
 dst:∀t,o.dst=some t->∀(j:Nat) (p:Oper),ops[j]? =some p->p.dst=some t->j=i
 guard:∀g,o.guard=some g->g.1∈bi o
def tR {ops:Array Oper} (h:rQ ops.toList ops.toList 0=true) {i:Nat} {o:Oper} (hi:ops[i]? =some o):ab0 ops i o:=by
 have at':∀{j:Nat} {p:Oper},ops[j]? =some p->xL ops.toList j p=true:=fun {j p} hj=>by
  have:=RB h j p (by simpa using hj);simpa using this
 have own:∀{j:Nat} {p:Oper} {t:Tmp},ops[j]? =some p->p.dst=some t->∃q,qv t ops.toList 0=some (j,q):=fun {j p t} hj ht=>by
  have hk:=at' hj;simp only [xL,ae,ht]at hk;have h3:=hk.1.2;split at h3
  .rename_i q hq;have:=ac h3;exact⟨q.2,by rw [hq];simp [<-this]⟩
  .cases h3
 have hk:=at' hi;simp only [xL,ae,List.all_eq_true]at hk;obtain⟨⟨⟨h1,h2⟩,h3⟩,h4⟩:=hk;refine⟨fun d hd=>bU (h1 d hd),fun t ht=> ?_,fun t ht j p hj hp=> ?_,fun g hg=> ?_⟩
 .have Cs:=h2 t (List.mem_filterMap.2 ⟨_,ht,rfl⟩);cases hw:qv t ops.toList 0 with
  |none=>exact .inl fun j p hj=>RA hw p (List.mem_of_getElem? (by simpa using hj))
  |some q=>
   obtain⟨k,p⟩:=q;rw [hw]at Cs;obtain⟨_,e2,e3⟩:=Rz hw;simp only [Bool.or_eq_true,lO]at Cs;exact .inr ⟨k,p,by simpa using e2,e3,Cs⟩
 .obtain⟨q,hq⟩:=own hi ht;obtain⟨q',RC⟩:=own hj hp;rw [hq]at RC;cases RC;rfl
 .rw [hg]at h4;exact lO.1 h4
section
variable {T aO:au af} {n:Nat} {dst:Option Tmp} {v:af}
def lP (h:iI T n dst v=some aO) (t:Nat):aO.get t=if dst=some t then some v else T.get t:=by
 cases dst with
 |none=>cases h;simp
 |some d=>
  have e:iI T n (some d) v= @Bool.rec (fun _=>Option (au af)) none (some (T.set d (some v))) (Nat.ble (Nat.succ d) n):=rfl;rw [e]at h;cases hb:Nat.ble (Nat.succ d) n with
  |false=>rw [hb]at h;cases h
  |true=>
   rw [hb]at h;cases h;rw [au.fY];by_cases hd:d=t<;>simp [hd]
def ab1 (h:iI T n dst v=some aO) (T2:au af):∃ab2,iI T2 n dst v=some ab2:=by
 cases dst with
 |none=>exact⟨_,rfl⟩
 |some d=>
  have e:∀T,iI T n (some d) v= @Bool.rec (fun _=>Option (au af)) none (some (T.set d (some v))) (Nat.ble (Nat.succ d) n):=fun _=>rfl
  rw [e]at h ⊢;cases hb:Nat.ble (Nat.succ d) n with
  |false=>rw [hb]at h;cases h
  |true=>exact⟨_,rfl⟩
end
inductive J6 (P:Program) (call:ew) (round:jQ) (ops:Array Oper) (o:Oper) (s:gb) (v:af) (s':gb):Prop
 |skip (h:gJ s.T ops o=some false) (hv:v= .raw undef) (hk:s'.k=s.k) (hc:s'.cur=s.cur) (hh:s'.hs=s.hs) (hl:s'.bR=s.bR.set s.i (some (level s.bR (bi o)))) (hp:s'.dB=s.dB) (ha:s'.c9=s.c9)
 |p (h:gJ s.T ops o=some true) (gv:mo P o.op= .p) (hop:∃H,e5 o.op P o (cm s.T) s.cur= .ok v H) (hk:s'.k=s.k) (hc:s'.cur=s.cur) (hh:s'.hs=s.hs) (hl:s'.bR=s.bR.set s.i (some (level s.bR (bi o)))) (hp:s'.dB=s.dB) (ha:s'.c9=s.c9)
 |r (h:gJ s.T ops o=some true) (gv:mo P o.op= .r) (hr:rR P o (cm s.T) v (s.hs.take (s.k+1-level s.bR (bi o)))=true) (hk:s'.k=s.k) (hc:s'.cur=s.cur) (hh:s'.hs=s.hs) (hl:s'.bR=s.bR.set s.i (some (level s.bR (bi o)))) (hp:s'.dB=⟨s.i,o,s.T,v⟩::s.dB) (ha:s'.c9=s.c9)
 |a (h:gJ s.T ops o=some true) (gv:(mo P o.op).al=true) (hop:e5 o.op P o (cm s.T) s.cur= .ok v s'.cur) (hk:s'.k=s.k) (hh:s'.hs=s.hs) (hl:s'.bR=s.bR.set s.i (some (level s.bR (bi o)))) (hp:s'.dB=s.dB) (ha:s'.c9=s.i::s.c9)
 |e (h:gJ s.T ops o=some true) (hlv:level s.bR (bi o)=s.k) (hs:∀j∈s.c9,j∈bi o) (hop:fm P call round o (cm s.T) s.cur= .ok v s'.cur) (gL:qx P s'.cur (jv (bi o) s.dB)=true)
    (hk:s'.k=s.k+1) (hh:s'.hs=s'.cur::s.hs) (hl:s'.bR=s.bR.set s.i (some (s.k+1))) (hp:s'.dB=jv (bi o) s.dB) (ha:s'.c9=[])
def J7 {P:Program} {call:ew} {round:jQ} {ops:Array Oper} {n:Nat} {o:Oper} {s s':gb} (h:tQ P call round ops n o s=some s'):∃v,iI s.T n o.dst v=some s'.T/\s'.i=s.i+1/\J6 P call round ops o s v s':=by
 unfold tQ at h;simp only [mq]at h;split at h
 .cases h
 .rename_i hw;simp only [am]at h;obtain⟨T,hT,rfl⟩:=h;exact⟨_,hT,rfl, .skip hw rfl rfl rfl rfl rfl rfl rfl⟩
 .rename_i hw;split at h
  .rename_i gv;split at h
   .rename_i v H hop;simp only [am]at h;obtain⟨T,hT,rfl⟩:=h;exact⟨v,hT,rfl, .p hw gv ⟨H,hop⟩ rfl rfl rfl rfl rfl rfl⟩
   .cases h
  .rename_i gv;split at h
   .split at h
    .rename_i H l at3 v H' hop;cases hr:rR P o (cm s.T) v (s.hs.take (s.k+1-level s.bR (bi o)))with
     |false=>rw [hr]at h;cases h
     |true=>
      rw [hr]at h;simp only [cond_true,am]at h;obtain⟨T,hT,rfl⟩:=h;exact⟨v,hT,rfl, .r hw gv hr rfl rfl rfl rfl rfl rfl⟩
    .cases h
   .cases h
  .rename_i gv;split at h
   .rename_i v H hop;simp only [am]at h;obtain⟨T,hT,rfl⟩:=h;exact⟨v,hT,rfl, .a hw (by rw [gv];rfl) hop rfl rfl rfl rfl rfl⟩
   .cases h
  .rename_i gv;cases hc:(Nat.beq (level s.bR (bi o)) s.k&&tP s.c9 (bi o))with
   |false=>rw [hc]at h;cases h
   |true=>
    rw [hc]at h;simp only [ae]at hc;simp only [cond_true]at h;split at h
    .rename_i v H hop;cases hp:qx P H (jv (bi o) s.dB)with
     |false=>rw [hp]at h;cases h
     |true=>
      rw [hp]at h;simp only [cond_true,am]at h;obtain⟨T,hT,rfl⟩:=h;exact⟨v,hT,rfl, .e hw (ac hc.1) (Rx hc.2) hop hp rfl rfl rfl rfl rfl⟩
    .cases h
  .rename_i gv;cases hc:(Nat.beq (level s.bR (bi o)) s.k&&tP s.c9 (bi o))with
   |false=>
    rw [hc]at h;simp only [cond_false]at h;split at h
    .rename_i v H hop;simp only [am]at h;obtain⟨T,hT,rfl⟩:=h;exact⟨v,hT,rfl, .a hw (by rw [gv];rfl) hop rfl rfl rfl rfl rfl⟩
    .cases h
   |true=>
    rw [hc]at h;simp only [ae]at hc;simp only [cond_true]at h;split at h
    .rename_i v H hop;cases hp:qx P H (jv (bi o) s.dB)with
     |false=>rw [hp]at h;cases h
     |true=>
      rw [hp]at h;simp only [cond_true,am]at h;obtain⟨T,hT,rfl⟩:=h;exact⟨v,hT,rfl, .e hw (ac hc.1) (Rx hc.2) hop hp rfl rfl rfl rfl rfl⟩
    .cases h
def RE {P:Program} {call:ew} {round:jQ} {ops:Array Oper} {n:Nat} {aO:au af} {H':ai}:∀{l:List Oper} {s:gb},xN P call round ops n l s= .mk aO H'->
  ∃S:Nat->gb,S 0=s/\(∀i o,l[i]? =some o->tQ P call round ops n o (S i)=some (S (i+1)))/\(S l.length).T=aO/\(S l.length).cur=H'
 |[],s,h=>by cases h;exact⟨fun _=>s,rfl,fun i o h=>by simp at h,rfl,rfl⟩
 |o::l,s,h=>by
  have e:xN P call round ops n (o::l) s=match tQ P call round ops n o s with
   |some s=>xN P call round ops n l s
   |none=> .no:=rfl
  rw [e]at h;cases hs:tQ P call round ops n o s with
  |none=>rw [hs]at h;cases h
  |some s1=>
   rw [hs]at h;obtain⟨S,h0,h1,h2,h3⟩:=RE (l:=l) h;refine⟨fun i=>match i with |0=>s|i+1=>S i,rfl,fun i o' hi=> ?_,h2,h3⟩;cases i with
   |zero=>simp at hi;subst hi;simp only [h0];exact hs
   |succ i=>exact h1 i o' (by simpa using hi)
structure c7 (P:Program) (call:ew) (round:jQ) (ops:Array Oper) (n:Nat) (S:Nat->gb) (V:Nat->af):Prop where
 ok:rQ ops.toList ops.toList 0=true
 Ct:∃T H,S 0={i:=0,k:=0,T:=T,cur:=H,hs:=[H],bR:= .nil,dB:=[],c9:=[]}
 put:∀i o,ops[i]? =some o->iI (S i).T n o.dst (V i)=some (S (i+1)).T
 kind:∀i o,ops[i]? =some o->J6 P call round ops o (S i) (V i) (S (i+1))
 i:∀i,i<=ops.size->(S i).i=i
def RF {P:Program} {call:ew} {round:jQ} {ops:Array Oper} {n:Nat} {T aO:au af} {H H':ai} (h:wv P call round ops n T H= .mk aO H'):
  ∃S V,c7 P call round ops n S V/\(S 0).T=T/\(S 0).cur=H/\(S ops.size).T=aO/\(S ops.size).cur=H':=by
 unfold wv at h;cases hk:rQ ops.toList ops.toList 0 with
 |false=>rw [hk]at h;cases h
 |true=>
  rw [hk]at h;obtain⟨S,h0,h1,h2,h3⟩:=RE (l:=ops.toList) h;have step:∀i o,ops[i]? =some o->tQ P call round ops n o (S i)=some (S (i+1)):=fun i o hi=>h1 i o (by simpa using hi)
  classical
  refine⟨S,fun i=>match ops[i]? with |some o=>if h:∃v,iI (S i).T n o.dst v=some (S (i+1)).T/\(S (i+1)).i=(S i).i+1/\J6 P call round ops o (S i) v (S (i+1))then h.choose else .raw undef|none=> .raw undef,⟨hk,⟨T,H,h0⟩,fun i o hi=> ?_,fun i o hi=> ?_,fun i=> ?_⟩,by rw [h0],by rw [h0],by simpa using h2,by simpa using h3⟩
  .have hx:=J7 (step i o hi);simp only [hi,dif_pos hx];exact hx.choose_spec.1
  .have hx:=J7 (step i o hi);simp only [hi,dif_pos hx];exact hx.choose_spec.2.2
  .induction i with
   |zero=>intro _;rw [h0]
   |succ i ih=>
    intro hi;have hlt:i<ops.size:=hi;obtain⟨v,_,e,_⟩:=J7 (step i ops[i] τ);rw [e,ih (Nat.le_of_lt hlt)]
variable [Ground]
def RG {bR E4:au Nat}:∀{ds:List Nat},(∀d∈ds,bR.get d=E4.get d)->level bR ds=level E4 ds
 |[],_=>rfl
 |a::l,h=>by
  show Nat.max ((bR.get a).getD 0) (level bR l)=Nat.max ((E4.get a).getD 0) (level E4 l);rw [h a lW,RG fun d hd=>h d (lV _ hd)]
def E5 {ds:List Nat} {q:o8} (hq:¬q.i∈ds):∀{l:List o8},q∈l->q∈jv ds l
 |[],h=>by cases h
 |a::l,h=>by
  show q∈cond (kM a.i ds) (jv ds l) (a::jv ds l);cases hm:kM a.i ds with
  |true=>
   rcases ek.1 h with rfl |h
   .exact absurd (lO.1 hm) hq
   .exact E5 hq h
  |false=>
   rcases ek.1 h with rfl |h
   .exact lW
   .exact lV _ (E5 hq h)
def RH {P:Program} {H:ai} {q:o8}:∀{l:List o8},qx P H l=true->q∈l->lc P q.o (cm q.T) q.v H=true
 |[],_,h=>by cases h
 |a::l,hp,h=>by
  have e:qx P H (a::l)=cond (lc P a.o (cm a.T) a.v H) (qx P H l) false:=rfl;rw [e]at hp;cases hr:lc P a.o (cm a.T) a.v H with
  |false=>rw [hr]at hp;cases hp
  |true=>
   rw [hr]at hp;rcases ek.1 h with rfl |h
   .exact hr
   .exact RH hp h
def RI {P:Program} {o:Oper} {ev:dJ} {v:af} {H:ai}:∀{l:List ai},rR P o ev v l=true->H∈l->lc P o ev v H=true
 |[],_,h=>by cases h
 |a::l,hp,h=>by
  have e:rR P o ev v (a::l)=cond (lc P o ev v a) (rR P o ev v l) false:=rfl;rw [e]at hp;cases hr:lc P o ev v a with
  |false=>rw [hr]at hp;cases hp
  |true=>
   rw [hr]at hp;rcases ek.1 h with rfl |h
   .exact hr
   .exact RI hp h
def ab3 {P:Program} {o:Oper} {ev:dJ} {v:af} {H:ai} (hk:mo P o.op= .r) (h:lc P o ev v H=true):e5 o.op P o ev H= .ok v H:=by
 unfold lc at h;split at h
 .rename_i v' H' hop;rw [hop,abZ h,abY hk hop]
 .cases h
section
variable {P:Program} {call:ew} {round:jQ} {ops:Array Oper} {n:Nat} {S:Nat->gb} {V:Nat->af}
def il {i:Nat} (h:i<ops.size):∃o,ops[i]? =some o:=⟨ops[i],by simp⟩
abbrev eX (S:Nat->gb) (m:Nat):Prop:=(S (m+1)).k=(S m).k+1
abbrev jX (S:Nat->gb) (j:Nat):Prop:=(S (j+1)).c9=j::(S j).c9
noncomputable abbrev lvl (S:Nat->gb) (N j:Nat):Nat:=((S N).bR.get j).getD 0
noncomputable abbrev hpf (S:Nat->gb) (N e:Nat):ai:=((S N).hs.reverse[e]?).getD {m:= .nil,next:=0}
variable (R:c7 P call round ops n S V)
include R
def c7.RJ {i:Nat} (hi:i<ops.size):(S (i+1)).k=(S i).k\/(S (i+1)).k=(S i).k+1:=by
 obtain⟨o,ho⟩:=il hi;cases R.kind i o ho with
 |skip _ _ hk=>exact .inl hk
 |p _ _ _ hk=>exact .inl hk
 |r _ _ _ hk=>exact .inl hk
 |a _ _ _ hk=>exact .inl hk
 |e _ _ _ _ _ hk=>exact .inr hk
def c7.rS {i:Nat}:∀{j:Nat},i<=j->j<=ops.size->(S i).k<=(S j).k
 |0,h,_=>by have:i=0:=by omega
            subst this;exact aJ _
 |j+1,h,hj=>by
  by_cases hi:i=j+1
  .subst hi;exact aJ _
  .have h1:=c7.rS (i:=i) (j:=j) ω ω;have h2:=R.RJ (i:=j) ω;omega
def c7.E6 {i e:Nat}:∀{j:Nat},i<=j->j<=ops.size->(S i).k<e->e<=(S j).k->∃m,i<=m/\m<j/\(S m).k+1=e/\eX S m
 |0,h,_,h1,h2=>by have:i=0:=by omega
                  subst this;omega
 |j+1,h,hj,h1,h2=>by
  by_cases hi:i=j+1
  .subst hi;omega
  .by_cases he:e<=(S j).k
   .obtain⟨m,a,b,c,d⟩:=c7.E6 (j:=j) ω ω h1 he;exact⟨m,a,by omega,c,d⟩
   .have h3:=R.RJ (i:=j) ω;exact⟨j,by omega,by omega,by omega,by unfold eX;omega⟩
def c7.k0:(S 0).k=0:=by obtain⟨T,H,h⟩:=R.Ct;rw [h]
def c7.RL (hC:bD P call) (hR:lG P round) {i:Nat} (hi:i<ops.size):(S i).cur.next<=(S (i+1)).cur.next:=by
 obtain⟨o,ho⟩:=il hi;cases R.kind i o ho with
 |skip _ _ _ hc=>exact Nat.le_of_eq (by rw [hc])
 |p _ _ _ _ hc=>exact Nat.le_of_eq (by rw [hc])
 |r _ _ _ _ hc=>exact Nat.le_of_eq (by rw [hc])
 |a _ gv hop=>
  obtain⟨_,blk,e,_⟩:=Cr gv hop;rw [e];exact Nat.le_succ _
 |e _ _ _ hop=>exact ub hC hR hop
def c7.o9 (hC:bD P call) (hR:lG P round) {i:Nat}:∀{j:Nat},i<=j->j<=ops.size->(S i).cur.next<=(S j).cur.next
 |0,h,_=>by have:i=0:=by omega
            subst this;exact aJ _
 |j+1,h,hj=>by
  by_cases hi:i=j+1
  .subst hi;exact aJ _
  .exact c6 (c7.o9 hC hR (i:=i) (j:=j) ω ω) (R.RL hC hR ω)
def c7.ab4 {i x:Nat} (hi:i<ops.size) (hx:x≠i):(S (i+1)).bR.get x=(S i).bR.get x:=by
 obtain⟨o,ho⟩:=il hi;have e:=R.i i (Nat.le_of_lt hi);have key:∀y,((S i).bR.set (S i).i (some y)).get x=(S i).bR.get x:=fun y=>by rw [au.fY,e,if_neg fun h=>hx h.symm]
 cases R.kind i o ho with
 |skip _ _ _ _ _ hl=>rw [hl,key]
 |p _ _ _ _ _ _ hl=>rw [hl,key]
 |r _ _ _ _ _ _ hl=>rw [hl,key]
 |a _ _ _ _ _ hl=>rw [hl,key]
 |e _ _ _ _ _ _ _ hl=>rw [hl,key]
def c7.J8 {i x:Nat} (hx:x<i):∀{j:Nat},i<=j->j<=ops.size->(S j).bR.get x=(S i).bR.get x
 |0,h,_=>by omega
 |j+1,h,hj=>by
  by_cases hi:i=j+1
  .subst hi;rfl
  .rw [R.ab4 ω ω,c7.J8 hx (j:=j) ω ω]
def c7.level {i:Nat} {o:Oper} (ho:ops[i]? =some o):level (S i).bR (bi o)=level (S ops.size).bR (bi o):=by
 have hi:i<ops.size:=(dz.1 ho).1;exact RG fun d hd=>(R.J8 ((tR R.ok ho).lt d hd) (Nat.le_of_lt hi) (aJ _)).symm
def c7.J9 {i:Nat} {o:Oper} (ho:ops[i]? =some o):(eX S i/\lvl S ops.size i=(S i).k+1)\/(¬eX S i/\lvl S ops.size i=Sv.level (S ops.size).bR (bi o)):=by
 have hi:i<ops.size:=(dz.1 ho).1;have e:=R.i i (Nat.le_of_lt hi);have h1:lvl S ops.size i=((S (i+1)).bR.get i).getD 0:=by unfold lvl;rw [R.J8 (fB i) hi (aJ _)]
 have key:∀y,(S (i+1)).bR=(S i).bR.set (S i).i (some y)->lvl S ops.size i=y:=fun y h=>by rw [h1,h,au.fY,e,if_pos rfl];rfl
 have hl:=R.level ho;cases R.kind i o ho with
 |skip _ _ hk _ _ hh=>exact .inr ⟨by unfold eX;omega,by rw [key _ hh,hl]⟩
 |p _ _ _ hk _ _ hh=>exact .inr ⟨by unfold eX;omega,by rw [key _ hh,hl]⟩
 |r _ _ _ hk _ _ hh=>exact .inr ⟨by unfold eX;omega,by rw [key _ hh,hl]⟩
 |a _ _ _ hk _ hh=>exact .inr ⟨by unfold eX;omega,by rw [key _ hh,hl]⟩
 |e _ _ _ _ _ hk _ hh=>exact .inl ⟨hk,by rw [key _ hh]⟩
def c7.E7 {i:Nat} (hi:i<ops.size):((S (i+1)).hs=(S i).hs/\(S (i+1)).k=(S i).k)\/((S (i+1)).hs=(S (i+1)).cur::(S i).hs/\(S (i+1)).k=(S i).k+1):=by
 obtain⟨o,ho⟩:=il hi;cases R.kind i o ho with
 |skip _ _ hk _ hh=>exact .inl ⟨hh,hk⟩
 |p _ _ _ hk _ hh=>exact .inl ⟨hh,hk⟩
 |r _ _ _ hk _ hh=>exact .inl ⟨hh,hk⟩
 |a _ _ _ hk hh=>exact .inl ⟨hh,hk⟩
 |e _ _ _ _ _ hk hh=>exact .inr ⟨hh,hk⟩
def c7.E8 {i:Nat} (hi:i<=ops.size):(S i).hs.length=(S i).k+1:=by
 induction i with
 |zero=>obtain⟨T,H,h⟩:=R.Ct;rw [h];rfl
 |succ i ih=>
  have ih:=ih (Nat.le_of_succ_le hi);rcases R.E7 (i:=i) hi with⟨a,b⟩|⟨a,b⟩
  .rw [a,b,ih]
  .rw [a,b,List.length_cons,ih]
def c7.RM {i e:Nat} (he:e<=(S i).k):∀{j:Nat},i<=j->j<=ops.size->(S j).hs.reverse[e]? =(S i).hs.reverse[e]?
 |0,h,_=>by have:i=0:=by omega
            subst this;rfl
 |j+1,h,hj=>by
  by_cases hi:i=j+1
  .subst hi;rfl
  .have ih:=c7.RM he (j:=j) ω ω;rcases R.E7 (i:=j) hj with⟨a,b⟩|⟨a,b⟩
   .rw [a,ih]
   .have hl:=R.E8 (i:=j) ω;have hm:=R.rS (i:=i) (j:=j) ω ω;rw [a,List.reverse_cons,List.getElem?_append_left (by simp;omega),ih]
def c7.J' {i e:Nat} (hi:i<=ops.size) (he:e<=(S i).k):(S i).hs.reverse[e]? =some (hpf S ops.size e):=by
 have h1:=R.RM he hi (aJ _);have hl:=R.E8 hi;have h2:∃x,(S i).hs.reverse[e]? =some x:=⟨_,BL (by simp;omega)⟩;obtain⟨x,hx⟩:=h2;unfold hpf;rw [h1,hx];rfl
def c7.E9 {i:Nat} (hi:i<ops.size) (he:eX S i):hpf S ops.size ((S i).k+1)=(S (i+1)).cur:=by
 have h1:=R.J' (i:=i+1) (e:=(S i).k+1) hi (by unfold eX at he;omega);have hl:=R.E8 (i:=i) ω;unfold eX at he;rcases R.E7 (i:=i) hi with⟨a,b⟩|⟨a,b⟩
 .omega
 .rw [a,List.reverse_cons,List.getElem?_append_right (by simp;omega)]at h1;simp [hl]at h1;exact h1.symm
def c7.Ka:hpf S ops.size 0=(S 0).cur:=by
 have h1:=R.J' (i:=0) (e:=0) (Nat.zero_le _) (Nat.zero_le _);obtain⟨T,H,h⟩:=R.Ct;rw [h]at h1 ⊢;simp at h1;exact h1.symm
def c7.ab5 {i e l:Nat} (hi:i<=ops.size) (he:e<=(S i).k) (hl:l<=e):hpf S ops.size e∈(S i).hs.take ((S i).k+1-l):=by
 have h1:=R.J' hi he;have hn:=R.E8 hi;rw [List.getElem?_reverse ω]at h1;refine List.mem_of_getElem? (i:=(S i).hs.length-1-e) ?_;rw [List.getElem?_take_of_lt ω];exact h1
def c7.Kb {i:Nat} (hi:i<=ops.size):∀j,j∈(S i).c9↔(j<i/\jX S j/\(S j).k=(S i).k):=by
 induction i with
 |zero=>intro j;obtain⟨T,H,h⟩:=R.Ct;rw [h];simp
 |succ i ih=>
  have ih:=ih (Nat.le_of_succ_le hi);obtain⟨o,ho⟩:=il (ops:=ops) (i:=i) hi;have e:=R.i i (Nat.le_of_lt hi);have same:(S (i+1)).c9=(S i).c9->(S (i+1)).k=(S i).k->∀j,j∈(S (i+1)).c9↔(j<i+1/\jX S j/\(S j).k=(S (i+1)).k):=fun ha hk j=>by
   rw [ha,hk,ih];constructor
   .rintro⟨a,b,c⟩;exact⟨by omega,b,c⟩
   .rintro⟨a,b,c⟩;refine⟨?_,b,c⟩;by_cases hj:j=i
    .subst hj;unfold jX at b;rw [ha]at b;have:=congrArg List.length b;simp at this
    .omega
  cases R.kind i o ho with
  |skip _ _ hk _ _ _ _ ha=>exact same ha hk
  |p _ _ _ hk _ _ _ _ ha=>exact same ha hk
  |r _ _ _ hk _ _ _ _ ha=>exact same ha hk
  |a _ _ _ hk _ _ _ ha=>
   intro j;rw [ha,hk,e,ek,ih];constructor
   .rintro(rfl |⟨a,b,c⟩)
    .exact⟨fB _,by unfold jX;rw [ha,e],rfl⟩
    .exact⟨by omega,b,c⟩
   .rintro⟨a,b,c⟩;by_cases hj:j=i
    .exact .inl hj
    .exact .inr ⟨by omega,b,c⟩
  |e _ _ _ _ _ hk _ _ _ ha=>
   intro j;rw [ha,hk];constructor
   .intro h;cases h
   .rintro⟨a,b,c⟩;have:=R.rS (i:=j) (j:=i) ω ω;omega
noncomputable abbrev vG (S:Nat->gb) (j:Nat):Option bq:=(S (j+1)).cur.get (S j).cur.next
def c7.RN {i:Nat} {o:Oper} (ho:ops[i]? =some o) (ha:jX S i):gJ (S i).T ops o=some true/\(mo P o.op).al=true/\e5 o.op P o (cm (S i).T) (S i).cur= .ok (V i) (S (i+1)).cur/\(S (i+1)).k=(S i).k:=by
 have hi:i<ops.size:=(dz.1 ho).1;have no:(S (i+1)).c9=(S i).c9->False:=fun h=>by
  unfold jX at ha;rw [h]at ha;have:=congrArg List.length ha;simp at this
 cases R.kind i o ho with
 |skip _ _ _ _ _ _ _ h=>exact(no h).elim
 |p _ _ _ _ _ _ _ _ h=>exact(no h).elim
 |r _ _ _ _ _ _ _ _ h=>exact(no h).elim
 |a h1 h2 h3 h4=>exact⟨h1,h2,h3,h4⟩
 |e _ _ _ _ _ _ _ _ _ h=>unfold jX at ha;rw [h]at ha;cases ha
def c7.RO {i:Nat} (hi:i<=ops.size):(∀x b,(S i).cur.get x=some b->(hpf S ops.size (S i).k).get x=some b\/∃j∈(S i).c9,x=(S j).cur.next/\vG S j=some b)/\
  (∀x,(hpf S ops.size (S i).k).get x≠none->(S i).cur.get x≠none)/\(∀j∈(S i).c9,(S i).cur.get (S j).cur.next≠none):=by
 induction i with
 |zero=>
  rw [R.k0,R.Ka];refine⟨fun x b h=> .inl h,fun x h=>h,fun j hj=> ?_⟩;obtain⟨T,H,h⟩:=R.Ct;rw [h]at hj;cases hj
 |succ i ih=>
  have ih:=ih (Nat.le_of_succ_le hi);obtain⟨o,ho⟩:=il (ops:=ops) (i:=i) hi;have e:=R.i i (Nat.le_of_lt hi);cases R.kind i o ho with
  |skip _ _ hk hc _ _ _ ha=>rw [hk,hc,ha];exact ih
  |p _ _ _ hk hc _ _ _ ha=>rw [hk,hc,ha];exact ih
  |r _ _ _ hk hc _ _ _ ha=>rw [hk,hc,ha];exact ih
  |a _ gv hop hk _ _ _ ha=>
   obtain⟨_,blk,nh,_⟩:=Cr gv hop;rw [hk,ha,e];refine⟨fun x b h=> ?_,fun x h=> ?_,fun j hj=> ?_⟩
   .rw [nh,ai.gA]at h;split at h
    .rename_i hx;refine .inr ⟨i,lW,hx.symm, ?_⟩;unfold vG;rw [nh,ai.gA,if_pos rfl,h]
    .rcases ih.1 x b h with h|⟨j,h1,h2⟩
     .exact .inl h
     .exact .inr ⟨j,lV _ h1,h2⟩
   .rw [nh,ai.gA];split
    .simp
    .exact ih.2.1 x h
   .rw [nh,ai.gA];split
    .simp
    .rename_i hne;rcases ek.1 hj with rfl |hj
     .exact absurd rfl hne
     .exact ih.2.2 j hj
  |e _ _ _ _ _ hk _ _ _ ha=>
   rw [hk,R.E9 hi hk,ha];exact⟨fun x b h=> .inl h,fun x h=>h,fun j hj=>by cases hj⟩
def c7.RP {i:Nat} {o:Oper} (ho:ops[i]? =some o) (hp:(S (i+1)).dB=⟨(S i).i,o,(S i).T,V i⟩::(S i).dB):∀{j:Nat},i<j->j<=ops.size->
  (∀m e8,i<m->m<j->eX S m->ops[m]? =some e8->¬i∈bi e8)->(⟨(S i).i,o,(S i).T,V i⟩:o8)∈(S j).dB
 |0,h,_,_=>by omega
 |j+1,h,hj,hm=>by
  by_cases hi:i=j
  .subst hi;rw [hp];exact lW
  .have ih:=c7.RP ho hp (j:=j) ω ω fun m e8 h1 h2=>hm m e8 h1 ω
   obtain⟨oj,zZ⟩:=il (ops:=ops) (i:=j) hj;have kN:=R.i i ω;cases R.kind j oj zZ with
   |skip _ _ _ _ _ _ hq=>rw [hq];exact ih
   |p _ _ _ _ _ _ _ hq=>rw [hq];exact ih
   |r _ _ _ _ _ _ _ hq=>rw [hq];exact lV _ ih
   |a _ _ _ _ _ _ hq=>rw [hq];exact ih
   |e _ _ _ _ _ hk _ _ hq=>rw [hq];exact E5 (by rw [kN];exact hm j oj ω (fB _) hk zZ) ih
def c7.read {i e:Nat} {o:Oper} (ho:ops[i]? =some o) (gv:mo P o.op= .r) (hr:rR P o (cm (S i).T) (V i) ((S i).hs.take ((S i).k+1-Sv.level (S i).bR (bi o)))=true)
  (hp:(S (i+1)).dB=⟨(S i).i,o,(S i).T,V i⟩::(S i).dB) (hl:Sv.level (S ops.size).bR (bi o)<=e) (he:e<=(S ops.size).k) (hm:∀m e8,m<ops.size->eX S m->(S m).k<e->ops[m]? =some e8->¬i∈bi e8):
  e5 o.op P o (cm (S i).T) (hpf S ops.size e)= .ok (V i) (hpf S ops.size e):=by
 have hi:i<ops.size:=(dz.1 ho).1;refine ab3 gv ?_;by_cases hk:e<=(S i).k
 .exact RI hr (R.ab5 (Nat.le_of_lt hi) hk (by rw [R.level ho];exact hl))
 .obtain⟨m,h1,h2,h3,h4⟩:=R.E6 (i:=i) (j:=ops.size) (Nat.le_of_lt hi) (aJ _) ω he;obtain⟨e8,tS⟩:=il h2;have him:i≠m:=fun hh=>by
   subst hh;rw [ho]at tS;cases tS;have hc:=R.kind i o ho;have:=R.E7 h2;cases hc with
   |skip _ _ hk=>unfold eX at h4;omega
   |p _ _ _ hk=>unfold eX at h4;omega
   |r _ _ _ hk=>unfold eX at h4;omega
   |a _ _ _ hk=>unfold eX at h4;omega
   |e _ _ _ _ _ _ _ _ hq=>
    have h1:=congrArg List.length (hp.symm.trans hq);have h2:∀(ds:List Nat) (l:List o8),(jv ds l).length<=l.length:=fun ds l=>by
     induction l with
     |nil=>exact aJ _
     |cons a l ih=>
      show(cond (kM a.i ds) (jv ds l) (a::jv ds l)).length<=_;cases kM a.i ds<;>simp<;>omega
    have:=h2 (bi o) (S i).dB;simp at h1;omega
  have hq:=R.RP ho hp (j:=m) ω (Nat.le_of_lt h2) fun m' ab6 a b c d=>hm m' ab6 ω c (by
   have:=R.rS (i:=m') (j:=m) ω ω;omega) d
  have kN:=R.i i (Nat.le_of_lt hi);cases R.kind m e8 tS with
  |skip _ _ hk=>unfold eX at h4;omega
  |p _ _ _ hk=>unfold eX at h4;omega
  |r _ _ _ hk=>unfold eX at h4;omega
  |a _ _ _ hk=>unfold eX at h4;omega
  |e _ _ _ _ gL=>
   have:=RH gL (E5 (by rw [kN];exact hm m e8 h2 h4 ω tS) hq);rw [<-R.E9 h2 h4,h3]at this;exact this
def c7.RQ {t:Nat} (h:∀(j:Nat) (p:Oper),ops[j]? =some p->p.dst≠some t) {i:Nat} (hi:i<=ops.size):(S i).T.get t=(S 0).T.get t:=by
 induction i with
 |zero=>rfl
 |succ i ih=>
  obtain⟨o,ho⟩:=il (ops:=ops) (i:=i) hi;rw [lP (R.put i o ho),if_neg (h i o ho),ih (Nat.le_of_succ_le hi)]
def c7.ab7 {t k:Nat} {p:Oper} (hk:ops[k]? =some p) (hp:p.dst=some t) {i:Nat} (hi:i<=k):(S i).T.get t=(S 0).T.get t:=by
 have ql:k<ops.size:=(dz.1 hk).1;induction i with
 |zero=>rfl
 |succ i ih=>
  obtain⟨o,ho⟩:=il (ops:=ops) (i:=i) ω;rw [lP (R.put i o ho),if_neg (fun hh=>by
   have:=(tR R.ok hk).dst t hp i o ho hh;omega),ih (Nat.le_of_succ_le hi)]
def c7.Fa {t k:Nat} {p:Oper} (hk:ops[k]? =some p) (hp:p.dst=some t):∀{i:Nat},k<i->i<=ops.size->(S i).T.get t=some (V k)
 |0,h,_=>by omega
 |i+1,h,hi=>by
  obtain⟨o,ho⟩:=il (ops:=ops) (i:=i) ω;rw [lP (R.put i o ho)];by_cases hik:i=k
  .subst hik;rw [hk]at ho;cases ho;rw [if_pos hp]
  .rw [if_neg (fun hh=>hik ((tR R.ok hk).dst t hp i o ho hh)),c7.Fa hk hp (i:=i) ω ω]
end
end
section
open Go.RowKit
variable [Ground]
structure rT (P:Program) (B:Nat) (eP:Env) (H0:ai) (w0:World) (top:Nat) (ρ:Env) (g:Nat->Option bq) (w:World):Prop where
 blk:∀i k,g i=some k->∃b c o,ρ i=some (b,c)/\w.heap[b]? =some o/\gK P ρ i k o/\(k.eO=false->B<=b)
 inj:∀i j eG eW b ci cl,g i=some eG->g j=some eW->ρ i=some (b,ci)->ρ j=some (b,cl)->i=j
 base:B<=w.heap.size
 le:cA eP ρ
 ext:∀i,i<H0.next\/top<=i->ρ i=eP i
 size:w0.heap.size<=w.heap.size
 os:w.os=w0.os
 tape:w.tape=w0.tape
 output:w.output=w0.output
 frame:∀b,b<w0.heap.size->¬Own eP H0 b->w.heap[b]? =w0.heap[b]?
 own:∀b,b<w0.heap.size->∀i k c,g i=some k->k.eO=false->ρ i=some (b,c)->Own eP H0 b
 l6:∀b,b<w0.heap.size->∀i k c,g i=some k->ρ i=some (b,c)->oZ eP H0 b
 fz:∀b A,ρ.fz b=some A->(∃e fr,w.heap[b]? =some (.cells A e fr))/\∀i k c,g i=some k->ρ i=some (b,c)->k.eO=true
 mX:∀b A,ρ.fz b=some A->eP.fz b=some A\/w0.heap.size<=b\/Own eP H0 b
noncomputable def mz (g:Nat->Option bq) (X X':ai):Nat->Option bq:=fun x=>match X'.get x with
 |some k=>some k
 |none=>match X.get x with
  |some _=>none
  |none=>g x
section
variable {g:Nat->Option bq} {X X':ai} {x:Nat}
def Fb {k:bq} (h:X'.get x=some k):mz g X X' x=some k:=by unfold mz;rw [h]
def Kc (h:X'.get x=none) (h2:X.get x=none):mz g X X' x=g x:=by unfold mz;rw [h,h2]
def vH {k:bq} (h:mz g X X' x=some k):X'.get x=some k\/(X'.get x=none/\X.get x=none/\g x=some k):=by
 unfold mz at h;split at h
 .rename_i h1;cases h;exact .inl h1
 .rename_i h1;split at h
  .cases h
  .rename_i h2;exact .inr ⟨h1,h2,h⟩
end
def ab8 {g:Nat->Option bq} {X:ai} (h:∀x k,X.get x=some k->g x=some k):mz g X X=g:=by
 funext x;cases hx:X.get x with
 |none=>exact Kc hx hx
 |some k=>rw [Fb hx,h x k hx]
section
variable {P:Program} {B:Nat} {eP:Env} {H0:ai} {w0:World} {top:Nat} {ρ:Env} {g:Nat->Option bq} {w:World}
def rT.at (h:rT P B eP H0 w0 top ρ g w) {i b c:Nat} {k:bq} (hi:g i=some k) (hr:ρ i=some (b,c)):∃o,w.heap[b]? =some o/\gK P ρ i k o/\(k.eO=false->B<=b):=by
 obtain⟨b',c',o,e1,e2,e3,bV⟩:=h.blk i k hi;rw [hr]at e1;cases e1;exact⟨o,e2,e3,bV⟩
def rT.lB (h:rT P B eP H0 w0 top ρ g w) {X:ai} (hX:∀x k,X.get x=some k->g x=some k) (hl:∀x k,X.get x=some k->x<X.next):bh P B ρ X w:=
 ⟨fun i k hi=>h.blk i k (hX i k hi),fun i j eG eW b ci cl hi hj=>h.inj i j eG eW b ci cl (hX i eG hi) (hX j eW hj),hl,h.base,fun b A hb=>⟨(h.fz b A hb).1,fun i k c hi hr=>(h.fz b A hb).2 i k c (hX i k hi) hr⟩⟩
def rT.step (h:rT P B eP H0 w0 top ρ g w) {X X':ai} {ρ':Env} {w':World} (hX:∀x k,X.get x=some k->g x=some k) (hH:bh P B ρ' X' w') (hs:bS ρ X w ρ' X' w')
  (hx:∀x,x<H0.next\/top<=x->ρ' x=ρ x):rT P B eP H0 w0 top ρ' (mz g X X') w':=by
 have keep:∀x k,g x=some k->X.get x=none->∃b c o,ρ x=some (b,c)/\ρ' x=some (b,c)/\w.heap[b]? =some o/\w'.heap[b]? =some o/\gK P ρ x k o/\(k.eO=false->B<=b)/\b<w.heap.size:=fun x k Cu nW=>by
  obtain⟨b,c,o,e1,e2,e3,bV⟩:=h.blk x k Cu;have hb:b<w.heap.size:=(dz.1 e2).1;refine⟨b,c,o,e1,hs.le _ _ e1,e2, ?_,e3,bV,hb⟩;rw [hs.frame b hb fun⟨i,k',c',h1,_,h3⟩=> ?_,e2];have:=h.inj i x k' k b c' c (hX i k' h1) Cu h3 e1;subst this;rw [nW]at h1;cases h1
 have Cv:∀x k b c,g x=some k->ρ' x=some (b,c)->ρ x=some (b,c):=fun x k b c Cu hr=>by
  obtain⟨b',c',o,e1,_⟩:=h.blk x k Cu;rw [hs.le _ _ e1]at hr;cases hr;exact e1
 refine⟨fun i k hi=> ?_,fun i j eG eW b ci cl hi hj js fD=> ?_,hH.base,h.le.trans hs.le,fun i hi=>by rw [hx i hi,h.ext i hi],c6 h.size hs.size,hs.os.trans h.os,hs.tape.trans h.tape,hs.output.trans h.output,fun b hb ho=> ?_,fun b hb i k c hi hk hr=> ?_,fun b hb i k c hi hr=> ?_,fun b A hb=>⟨(hH.fz b A hb).1,fun i k c hi hr=> ?_⟩,fun b A hb=> ?_⟩
 .rcases vH hi with hi|⟨_,h2,h3⟩
  .exact hH.blk i k hi
  .obtain⟨b,c,o,_,e1,_,e2,e3,bV,_⟩:=keep i k h3 h2;exact⟨b,c,o,e1,e2,e3.mono hs.le,bV⟩
 .have mixed:∀i j eG eW ci cl,X'.get i=some eG->X.get j=none->g j=some eW->ρ' i=some (b,ci)->ρ' j=some (b,cl)->False:=fun i j eG eW ci cl h1 h2 h3 r1 r2=>by
   obtain⟨b',c',o,e0,e1,e2,_,_,_,hb⟩:=keep j eW h3 h2;rw [e1]at r2;cases r2;obtain⟨x,kx,qs,q1,aQ⟩:=hs.l6 b hb ⟨i,eG,ci,h1,r1⟩;have:=h.inj x j kx eW b qs cl (hX x kx q1) h3 aQ e0;subst this;rw [h2]at q1;cases q1
  rcases vH hi with hi|⟨_,h2,h3⟩<;>rcases vH hj with hj|⟨_,k2,dG⟩
  .exact hH.inj i j eG eW b ci cl hi hj js fD
  .exact(mixed i j eG eW ci cl hi k2 dG js fD).elim
  .exact(mixed j i eW eG cl ci hj h2 h3 fD js).elim
  .exact h.inj i j eG eW b ci cl h3 dG (Cv _ _ _ _ h3 js) (Cv _ _ _ _ dG fD)
 .rw [hs.frame b (Nat.lt_of_lt_of_le hb h.size) fun⟨i,k',c',h1,h2,h3⟩=>ho (h.own b hb i k' c' (hX i k' h1) h2 h3),h.frame b hb ho]
 .rcases vH hi with hi|⟨_,h2,h3⟩
  .obtain⟨x,kx,qs,q1,aQ,b8⟩:=hs.own b (Nat.lt_of_lt_of_le hb h.size) ⟨i,k,c,hi,hk,hr⟩;exact h.own b hb x kx qs (hX x kx q1) aQ b8
  .exact h.own b hb i k c h3 hk (Cv _ _ _ _ h3 hr)
 .rcases vH hi with hi|⟨_,h2,h3⟩
  .obtain⟨x,kx,qs,q1,aQ⟩:=hs.l6 b (Nat.lt_of_lt_of_le hb h.size) ⟨i,k,c,hi,hr⟩;exact h.l6 b hb x kx qs (hX x kx q1) aQ
  .exact h.l6 b hb i k c h3 (Cv _ _ _ _ h3 hr)
 .rcases vH hi with hi|⟨_,h2,h3⟩
  .exact(hH.fz b A hb).2 i k c hi hr
  .have hr':=Cv _ _ _ _ h3 hr;rcases hs.mX b A hb with hb'|hb'
   .exact(h.fz b A hb').2 i k c h3 hr'
   .rcases hb' with hb'|⟨x,kx,qs,q1,_,b8⟩
    .obtain⟨b1,c1,o,e1,e2,_⟩:=h.blk i k h3;rw [hr']at e1;cases e1;have:=(dz.1 e2).1;omega
    .have:=h.inj x i kx k b qs c (hX x kx q1) h3 b8 hr';subst this;rw [h2]at q1;cases q1
 .rcases hs.mX b A hb with hb'|hb'
  .exact h.mX b A hb'
  .rcases hb' with hb'|⟨x,kx,qs,q1,aQ,b8⟩
   .exact .inr (.inl (c6 h.size hb'))
   .by_cases hl:b<w0.heap.size
    .exact .inr (.inr (h.own b hl x kx qs (hX x kx q1) aQ b8))
    .exact .inr (.inl ω)
def rT.final (h:rT P B eP H0 w0 top ρ g w) {X:ai} (hX:∀x k,X.get x=some k->g x=some k) (ht:X.next=top) (hn:H0.next<=top):bS eP H0 w0 ρ X w:=
 ⟨h.le,fun i hi=>h.ext i (by rw [ht]at hi;exact hi),by rw [ht];exact hn,h.size,h.os,h.tape,h.output,h.frame,fun b hb ⟨i,k,c,h1,h2,h3⟩=>h.own b hb i k c (hX i k h1) h2 h3,fun b hb ⟨i,k,c,h1,h3⟩=>h.l6 b hb i k c (hX i k h1) h3,h.mX⟩
end
section
variable {P:Program} {call:ew} {round:jQ} {ops:Array Oper} {n:Nat} {S:Nat->gb} {V:Nat->af}
def c7.RR (R:c7 P call round ops n S V) {i:Nat} (hi:i<=ops.size):(hpf S ops.size (S i).k).next<=(S i).cur.next:=by
 induction i with
 |zero=>rw [R.k0,R.Ka];exact aJ _
 |succ i ih=>
  have ih:=ih (Nat.le_of_succ_le hi);obtain⟨o,ho⟩:=il (ops:=ops) (i:=i) hi;cases R.kind i o ho with
  |skip _ _ hk hc=>rw [hk,hc];exact ih
  |p _ _ _ hk hc=>rw [hk,hc];exact ih
  |r _ _ _ hk hc=>rw [hk,hc];exact ih
  |a _ gv hop hk=>
   obtain⟨_,blk,nh,_⟩:=Cr gv hop;rw [hk,nh];exact Nat.le_succ_of_le ih
  |e _ _ _ _ _ hk=>rw [hk,R.E9 hi hk];exact aJ _
def c7.Fc (R:c7 P call round ops n S V) {i:Nat} (hi:i<ops.size) (ha:jX S i):(S (i+1)).cur.next=(S i).cur.next+1/\∃b,vG S i=some b:=by
 obtain⟨o,ho⟩:=il hi;obtain⟨_,gv,hop,_⟩:=R.RN ho ha;obtain⟨_,blk,nh,_⟩:=Cr gv hop;refine⟨by rw [nh];rfl,blk, ?_⟩;unfold vG;rw [nh,ai.gA,if_pos rfl]
structure jw (P:Program) (B:Nat) (eP:Env) (w0:World) (a0:Act) (ops:Array Oper) (n:Nat) (S:Nat->gb) (V:Nat->af) (L:Nat->Prop) (e:Nat) (ρ:Env) (g:Nat->Option bq) (T:au af) (a:Act) (w:World):Prop where
 closed:∀(j:Nat) (o:Oper),L j->ops[j]? =some o->∀d∈bi o,L d
 rU:∀m,m<ops.size->eX S m->(L m↔(S m).k<e)
 bR:∀j,j<ops.size->L j->lvl S ops.size j<=e
 le:e<=(S ops.size).k
 z1:jS ρ T n a.tmps
 z6:∀(j:Nat) (p:Oper) (t:Tmp),ops[j]? =some p->p.dst=some t->(L j->T.get t=some (V j))/\(¬L j->T.get t=(S 0).T.get t)
 Ke:∀t:Tmp,(∀(j:Nat) (p:Oper),ops[j]? =some p->p.dst≠some t)->T.get t=(S 0).T.get t
 G:nZ ρ
 xP:rT P B eP (S 0).cur w0 (S ops.size).cur.next ρ g w
 hp:∀x k,(hpf S ops.size e).get x=some k->g x=some k
 lt:∀x k,(hpf S ops.size e).get x=some k->x<(hpf S ops.size e).next
 dB:∀j,j<ops.size->L j->jX S j->e<=(S j).k->g (S j).cur.next=vG S j
 conv:∀x k,g x=some k->(hpf S ops.size e).get x=some k\/∃j,j<ops.size/\L j/\jX S j/\e<=(S j).k/\x=(S j).cur.next
 fresh:∀j,j<ops.size->¬L j->Fr ρ (S j).cur.next (S (j+1)).cur.next
 RS:a.defers=a0.defers
variable {B:Nat} {eP:Env} {w0:World} {a0:Act} {L:Nat->Prop} {e:Nat} {ρ:Env} {g:Nat->Option bq} {T:au af} {a:Act} {w:World} {i:Nat} {o:Oper}
def jw.slots (R:c7 P call round ops n S V) (I:jw P B eP w0 a0 ops n S V L e ρ g T a w) (ho:ops[i]? =some o) (hL:¬L i) (hd:∀d∈bi o,L d) {t:Tmp} (ht:Operand.tmp t∈o.op.operands.toList):T.get t=(S i).T.get t:=by
 have hi:i<ops.size:=(dz.1 ho).1;have F:=tR R.ok ho;rcases F.slot t ht with h|⟨k,p,h1,h2,h3|h3⟩
 .rw [I.Ke t h,R.RQ h (Nat.le_of_lt hi)]
 .rw [(I.z6 k p t h1 h2).1 (hd k h3),R.Fa h1 h2 (F.lt k h3) (Nat.le_of_lt hi)]
 .have hk:¬L k:=fun hk=>hL (I.closed k p hk h1 i h3)
  rw [(I.z6 k p t h1 h2).2 hk,R.ab7 h1 h2 (Nat.le_of_lt ((tR R.ok h1).lt i h3))]
def jw.ev (R:c7 P call round ops n S V) (I:jw P B eP w0 a0 ops n S V L e ρ g T a w) (ho:ops[i]? =some o) (hL:¬L i) (hd:∀d∈bi o,L d):∀x∈o.op.operands.toList,cm T x=cm (S i).T x:=fun x hx=>by
 cases x with
 |tmp t=>
  show @Option.rec af (fun _=>af) (.raw undef) (fun v=>v) (T.get t)= @Option.rec af (fun _=>af) (.raw undef) (fun v=>v) ((S i).T.get t)
  rw [I.slots R ho hL hd hx]
 |_=>rfl
def jw.wants (R:c7 P call round ops n S V) (I:jw P B eP w0 a0 ops n S V L e ρ g T a w) (ho:ops[i]? =some o) (hd:∀d∈bi o,L d):gJ T ops o=gJ (S i).T ops o:=by
 have hi:i<ops.size:=(dz.1 ho).1;have F:=tR R.ok ho;cases hg:o.guard with
 |none=>unfold gJ;rw [hg]
 |some q=>
  have e:∀T,gJ T ops o=xk T ops q:=fun T=>by unfold gJ;rw [hg]
  rw [e,e];unfold xk;cases hp:ops[q.1]? with
  |none=>rfl
  |some p=>
   cases gL:p.dst with
   |none=>simp [gL]
   |some d=>
    simp only [Option.bind_some,gL];have hq:=F.guard q hg;rw [(I.z6 q.1 p d hp gL).1 (hd _ hq),R.Fa hp gL (F.lt _ hq) (Nat.le_of_lt hi)]
def jw.level (R:c7 P call round ops n S V) (I:jw P B eP w0 a0 ops n S V L e ρ g T a w) (ho:ops[i]? =some o) (hd:∀d∈bi o,L d):Sv.level (S ops.size).bR (bi o)<=e:=
 Ry fun d hdd=>I.bR d (Nat.lt_trans ((tR R.ok ho).lt d hdd) (dz.1 ho).1) (hd d hdd)
def jw.after (R:c7 P call round ops n S V) (hC:bD P call) (hR:lG P round) (I:jw P B eP w0 a0 ops n S V L e ρ g T a w) (ho:ops[i]? =some o) (hL:¬L i) (hd:∀d∈bi o,L d)
  {X X':ai} {ρ':Env} {w':World} {x:Value} {T1:au af} {e':Nat} (hT:iI T n o.dst (V i)=some T1) (hx:Den ρ' (V i) x) (hX:∀x k,X.get x=some k->g x=some k) (hH:bh P B ρ' X' w') (hs:bS ρ X w ρ' X' w')
  (hρ:∀x,x<(S i).cur.next\/(S (i+1)).cur.next<=x->ρ' x=ρ x)
  (he:e<=e') (ab9:∀m,m<ops.size->eX S m->((m=i\/L m)↔(S m).k<e')) (acd:lvl S ops.size i<=e') (hle:e'<=(S ops.size).k)
  (ace:∀x k,(hpf S ops.size e').get x=some k->mz g X X' x=some k) (hlt:∀x k,(hpf S ops.size e').get x=some k->x<(hpf S ops.size e').next)
  (acf:∀j,j<ops.size->(j=i\/L j)->jX S j->e'<=(S j).k->mz g X X' (S j).cur.next=vG S j)
  (acg:∀x k,mz g X X' x=some k->(hpf S ops.size e').get x=some k\/∃j,j<ops.size/\(j=i\/L j)/\jX S j/\e'<=(S j).k/\x=(S j).cur.next):
  jw P B eP w0 a0 ops n S V (fun j=>j=i\/L j) e' ρ' (mz g X X') T1 (a.put o.dst x) w':=by
 have hi:i<ops.size:=(dz.1 ho).1;refine⟨fun j p hj hp d hdd=> ?_,ab9,fun j hj h=> ?_,hle,JN (I.z1.mono hs.le) hT hx,fun j p t hj hp=> ?_,fun t ht=> ?_,I.G.mono hs.le,I.xP.step hX hH hs fun x hx=>hρ x ?_,ace,hlt,acf,acg,fun j hj hn x h1 h2=> ?_,by rw [put_defers,I.RS]⟩
 .rcases hj with rfl |hj
  .rw [ho]at hp;cases hp;exact .inr (hd d hdd)
  .exact .inr (I.closed j p hj hp d hdd)
 .rcases h with rfl |h
  .exact acd
  .exact c6 (I.bR j hj h) he
 .rw [lP hT];by_cases hji:j=i
  .subst hji;rw [ho]at hj;cases hj;rw [if_pos hp];exact⟨fun _=>rfl,fun h=>(h (.inl rfl)).elim⟩
  .rw [if_neg fun hh=>hji ((tR R.ok ho).dst t hh j p hj hp)];exact⟨fun h=>(I.z6 j p t hj hp).1 (h.resolve_left hji),fun h=>(I.z6 j p t hj hp).2 fun hh=>h (.inr hh)⟩
 .rw [lP hT,if_neg (ht i o ho),I.Ke t ht]
 .rcases hx with hx|hx
  .exact .inl (Nat.lt_of_lt_of_le hx (R.o9 hC hR (Nat.zero_le _) (Nat.le_of_lt hi)))
  .exact .inr (c6 (R.o9 hC hR hi (aJ _)) hx)
 .have hj2:¬j=i/\¬L j:=⟨fun h=>hn (.inl h),fun h=>hn (.inr h)⟩;rw [hρ x ?_]
  .exact I.fresh j hj hj2.2 x h1 h2
  .rcases Nat.lt_or_gt_of_ne hj2.1 with hl|hl
   .exact .inl (Nat.lt_of_lt_of_le h2 (R.o9 hC hR hl (Nat.le_of_lt hi)))
   .exact .inr (c6 (R.o9 hC hR hl (Nat.le_of_lt hj)) h1)
end
end
section
open Go.RowKit
variable [Ground]
section
variable {P:Program} {call:ew} {round:jQ} {ops:Array Oper} {n:Nat} {S:Nat->gb} {V:Nat->af}
variable {B:Nat} {eP:Env} {w0:World} {a0:Act} {L:Nat->Prop} {e:Nat} {ρ:Env} {g:Nat->Option bq} {T:au af} {a:Act} {w:World} {i:Nat} {o:Oper}
def RT (h:eX S i) (R:c7 P call round ops n S V) (hi:i<ops.size):¬jX S i:=fun ha=>by
 obtain⟨o,ho⟩:=il hi;obtain⟨_,_,_,hk⟩:=R.RN ho ha;unfold eX at h;omega
def jw.quiet (R:c7 P call round ops n S V) (hC:bD P call) (hR:lG P round) (I:jw P B eP w0 a0 ops n S V L e ρ g T a w) (ho:ops[i]? =some o) (hL:¬L i) (hd:∀d∈bi o,L d)
  (hE:¬eX S i) (hA:¬jX S i) {X:ai} {ρ':Env} {w':World} {x:Value} {T1:au af} (hT:iI T n o.dst (V i)=some T1) (hx:Den ρ' (V i) x) (hX:∀x k,X.get x=some k->g x=some k) (hH:bh P B ρ' X w') (hs:bS ρ X w ρ' X w'):
  jw P B eP w0 a0 ops n S V (fun j=>j=i\/L j) e ρ' g T1 (a.put o.dst x) w':=by
 have hlv:lvl S ops.size i<=e:=by
  rcases R.J9 ho with⟨h,_⟩|⟨_,h⟩
  .exact absurd h hE
  .rw [h];exact I.level R ho hd
 have hu:=ab8 hX;have:=I.after R hC hR ho hL hd (X:=X) (X':=X) (e':=e) hT hx hX hH hs (fun x _=>hs.ext x ω) (aJ _)
  (fun m hm hem=>⟨fun h=>(I.rU m hm hem).1 (h.resolve_left fun hh=>hE (hh ▸ hem)),fun h=> .inr ((I.rU m hm hem).2 h)⟩) hlv I.le (by rw [hu];exact I.hp) I.lt
  (by rw [hu];exact fun j hj hjl ha=>I.dB j hj (hjl.resolve_left fun hh=>hA (hh ▸ ha)) ha)
  (by rw [hu];exact fun x k hk=>(I.conv x k hk).imp id fun⟨j,h1,h2,h3⟩=>⟨j,h1, .inr h2,h3⟩)
 rwa [hu]at this
def jw.step (hK:e7 P) (R:c7 P call round ops n S V) (hC:bD P call) (hR:lG P round) (I:jw P B eP w0 a0 ops n S V L e ρ g T a w) (ho:ops[i]? =some o) (hL:¬L i) (hd:∀d∈bi o,L d) (rd:Option Nat) (m:Nat) {K:Act->World->Prop} {Q:Exit->Act->World->Prop}
  (hK':∀e' ρ' g' aO a' w',jw P B eP w0 a0 ops n S V (fun j=>j=i\/L j) e' ρ' g' aO a' w'->K a' w'):wpOpIn (dO rd) m P ops Q i K a w:=by
 have hi:i<ops.size:=(dz.1 ho).1;have kN:=R.i i (Nat.le_of_lt hi);have RU:=I.ev R ho hL hd;have Kf:=I.wants R ho hd;obtain⟨T1,hT⟩:=ab1 (R.put i o ho) T;have Kg:(S (i+1)).c9=(S i).c9->¬jX S i:=fun h ha=>by
  unfold jX at ha;rw [h]at ha;have:=congrArg List.length ha;simp at this
 have Cw:(S (i+1)).k=(S i).k->¬eX S i:=fun h he=>by unfold eX at he;omega
 let Z:ai:={m:= .nil,next:=(S i).cur.next}
 have hZ:∀x,Z.get x=none:=fun x=>au.get_nil x
 have Fe:∀x k,Z.get x=some k->g x=some k:=fun x k h=>by rw [hZ]at h;cases h
 have Kh:bh P B ρ Z w:=I.xP.lB Fe fun x k h=>by rw [hZ]at h;cases h
 have run:∀(X X':ai),gJ (S i).T ops o=some true->bh P B ρ X w->fm P call round o (cm T) X= .ok (V i) X'->Fr ρ X.next X'.next->
   (∀x ρ' w',Den ρ' (V i) x->bh P B ρ' X' w'->bS ρ X w ρ' X' w'->K (a.put o.dst x) w')->wpOpIn (dO rd) m P ops Q i K a w:=fun X X' hw hX hop hf hn=>by
  unfold wpOpIn;rw [ho];simp only;rw [JO I.z1 (Kf.trans hw),if_pos rfl];exact Rg hK hC hR ⟨I.z1,hX,I.G⟩ hop hf rd m hn
 have Ki:∀{X:ai} {v:af} {X':ai},e5 o.op P o (cm (S i).T) X= .ok v X'->fm P call round o (cm T) X= .ok v X':=fun {X v X'} h=>by
  unfold fm;rw [ww RU,h]
 cases R.kind i o ho with
 |skip hw hv hk hc hh hl hp ha=>
  unfold wpOpIn;rw [ho];simp only;rw [JO I.z1 (Kf.trans hw)];simp only [Bool.false_eq_true,if_false];refine⟨fun _ _=>trivial,hK' e ρ g T1 _ w ?_⟩;exact I.quiet R hC hR ho hL hd (Cw hk) (Kg ha) hT (by rw [hv];exact .raw _) Fe Kh (bS.refl _ _ _)
 |p hw gv hop hk hc hh hl hp ha=>
  obtain⟨H1,hop⟩:=hop;refine run Z Z hw Kh (Ki (abX gv hop Z)) (fun x h1 h2=>absurd h2 ω) fun x ρ' w' h1 h2 h3=>hK' e ρ' g T1 _ w' ?_
  exact I.quiet R hC hR ho hL hd (Cw hk) (Kg ha) hT h1 Fe h2 h3
 |r hw gv hr hk hc hh hl hp ha=>
  have hop:=R.read ho gv hr hp (I.level R ho hd) I.le fun m e8 hm hem hkm tS hmem=>hL (I.closed m e8 ((I.rU m hm hem).2 hkm) tS i hmem)
  refine run _ _ hw (I.xP.lB I.hp I.lt) (Ki hop) (fun x h1 h2=>absurd h2 ω) fun x ρ' w' h1 h2 h3=>hK' e ρ' g T1 _ w' ?_
  exact I.quiet R hC hR ho hL hd (Cw hk) (Kg ha) hT h1 I.hp h2 h3
 |a hw gv hop hk hh hl hp ha=>
  have hA:jX S i:=by unfold jX;rw [ha,kN]
  obtain⟨_,blk,nh,ach⟩:=Cr gv hop;obtain⟨hnx,b0,hb0⟩:=R.Fc hi hA;have hblk:vG S i=some blk:=by unfold vG;rw [nh,ai.gA,if_pos rfl]
  have hfr:=I.fresh i hi hL;have hnone:ρ (S i).cur.next=none:=hfr _ (aJ _) ω;have aci:g (S i).cur.next=none:=by
   cases hg:g (S i).cur.next with
   |none=>rfl
   |some k=>
    obtain⟨b,c,o',e1,_⟩:=I.xP.blk _ _ hg;rw [hnone]at e1;cases e1
  have Kj:e5 o.op P o (cm (S i).T) Z= .ok (V i) (Z.new blk):=ach Z rfl;have Kk:∀x,(Z.new blk).get x=if(S i).cur.next=x then some blk else none:=fun x=>by rw [ai.gA,hZ]
  have xQ:e<=(S i).k:=by
   refine Nat.le_of_not_lt fun hlt=> ?_
   obtain⟨m,h1,h2,h3,h4⟩:=R.E6 (i:=i) (j:=ops.size) (e:=(S i).k+1) (Nat.le_of_lt hi) (aJ _) (fB _) (c6 hlt I.le);obtain⟨e8,tS⟩:=il h2;have hne:i≠m:=fun hh=>RT h4 R h2 (hh ▸ hA)
   have hmem:i∈(S m).c9:=(R.Kb (Nat.le_of_lt h2) i).2 ⟨by omega,hA,by omega⟩;have acj:L m:=(I.rU m h2 h4).2 ω;cases R.kind m e8 tS with
   |skip _ _ hk=>unfold eX at h4;omega
   |p _ _ _ hk=>unfold eX at h4;omega
   |r _ _ _ hk=>unfold eX at h4;omega
   |a _ _ _ hk=>unfold eX at h4;omega
   |e _ _ hsub=>exact hL (I.closed m e8 acj tS i (hsub i hmem))
  have hlv:lvl S ops.size i<=e:=by
   rcases R.J9 ho with⟨h,_⟩|⟨_,h⟩
   .exact absurd h (Cw hk)
   .rw [h];exact I.level R ho hd
  have old:∀x k,g x=some k->mz g Z (Z.new blk) x=some k:=fun x k hg=>by
   have hne:¬(S i).cur.next=x:=fun hh=>by rw [<-hh,aci]at hg;cases hg
   rw [Kc (by rw [Kk,if_neg hne]) (hZ x),hg]
  refine run Z (Z.new blk) hw Kh (Ki Kj) (fun x h1 h2=>hfr x h1 (by rw [hnx];exact h2)) fun x ρ' w' h1 h2 h3=>hK' e ρ' (mz g Z (Z.new blk)) T1 _ w' ?_
  refine I.after R hC hR ho hL hd hT h1 Fe h2 h3 (fun x hx=>h3.ext x (by rw [hnx]at hx;exact hx)) (aJ _)
   (fun m hm hem=>⟨fun h=>(I.rU m hm hem).1 (h.resolve_left fun hh=>Cw hk (hh ▸ hem)),fun h=> .inr ((I.rU m hm hem).2 h)⟩) hlv I.le (fun x k h=>old x k (I.hp x k h)) I.lt (fun j hj hjl haj Kl=> ?_) (fun x k h=> ?_)
  .by_cases hji:j=i
   .subst hji;rw [hblk];exact Fb (by rw [Kk,if_pos rfl])
   .have h4:=I.dB j hj (hjl.resolve_left hji) haj Kl;obtain⟨_,b,hb⟩:=R.Fc hj haj;rw [hb]at h4 ⊢;exact old _ _ h4
  .rcases vH h with h|⟨_,_,h⟩
   .rw [Kk]at h;split at h
    .rename_i hx;exact .inr ⟨i,hi, .inl rfl,hA,xQ,hx.symm⟩
    .cases h
   .exact(I.conv x k h).imp id fun⟨j,h1,h2,h3⟩=>⟨j,h1, .inr h2,h3⟩
 |e hw hlv hsub hop gL hk hh hl hp ha=>
  have hE:eX S i:=hk;have xQ:e=(S i).k:=by
   have h1:=I.level R ho hd;rw [<-R.level ho,hlv]at h1;have h2:¬(S i).k<e:=fun h=>hL ((I.rU i hi hE).2 h)
   omega
  obtain⟨c1,c2,c3⟩:=R.RO (Nat.le_of_lt hi);have z7:=R.Kb (Nat.le_of_lt hi);have hX:∀x k,(S i).cur.get x=some k->g x=some k:=fun x k h=>by
   rcases c1 x k h with h|⟨j,hj,rfl,hb⟩
   .rw [<-xQ]at h;exact I.hp x k h
   .obtain⟨q1,aQ,b8⟩:=(z7 j).1 hj;rw [I.dB j ω (hd j (hsub j hj)) aQ ω,hb]
  have hlt:∀x k,(S i).cur.get x=some k->x<(S i).cur.next:=fun x k h=>by
   rcases c1 x k h with h|⟨j,hj,rfl,hb⟩
   .have:=R.RR (Nat.le_of_lt hi);rw [<-xQ]at h this;exact Nat.lt_of_lt_of_le (I.lt x k h) this
   .obtain⟨q1,aQ,b8⟩:=(z7 j).1 hj;have h5:=(R.Fc (i:=j) ω aQ).1;have h6:=R.o9 hC hR (i:=j+1) (j:=i) q1 (Nat.le_of_lt hi);omega
  have Kj:fm P call round o (cm T) (S i).cur= .ok (V i) (S (i+1)).cur:=by
   unfold fm at hop ⊢;rw [ww RU];exact hop
  have ack:lvl S ops.size i=e+1:=by
   rcases R.J9 ho with⟨_,h⟩|⟨h,_⟩
   .rw [h,xQ]
   .exact absurd hE h
  have hle:e+1<=(S ops.size).k:=by
   have:=R.rS (i:=i+1) (j:=ops.size) hi (aJ _);omega
  have Km:hpf S ops.size (e+1)=(S (i+1)).cur:=by rw [xQ];exact R.E9 hi hE
  -- what is laid behind this effect lies beyond
  have later:∀j,j<ops.size->L j->jX S j->e<=(S j).k->(S i).cur.get (S j).cur.next=none->i<j:=fun j hj hjl haj Kl hnone=>by
   refine Nat.lt_of_not_le fun hji=> ?_
   have hne:j≠i:=fun hh=>hL (hh ▸ hjl)
   have hm:=R.rS (i:=j) (j:=i) hji (Nat.le_of_lt hi);exact c3 j ((z7 j).2 ⟨by omega,haj,by omega⟩) hnone
  refine run _ _ hw (I.xP.lB hX hlt) Kj (I.fresh i hi hL) fun x ρ' w' h1 h2 h3=>hK' (e+1) ρ' (mz g (S i).cur (S (i+1)).cur) T1 _ w' ?_
  have beyond:∀j,j<ops.size->i<j->(S i).cur.get (S j).cur.next=none/\(S (i+1)).cur.get (S j).cur.next=none:=fun j hj hij=>by
   have h6:=R.o9 hC hR (i:=i+1) (j:=j) hij (Nat.le_of_lt hj);have h7:=R.RL hC hR hi;constructor
   .cases hg:(S i).cur.get (S j).cur.next with
    |none=>rfl
    |some k=>have:=hlt _ _ hg;omega
   .cases hg:(S (i+1)).cur.get (S j).cur.next with
    |none=>rfl
    |some k=>have:=h2.lt _ _ hg;omega
  refine I.after R hC hR ho hL hd hT h1 hX h2 h3 (fun x hx=>h3.ext x hx) (Nat.le_succ _) (fun m hm hem=> ?_) (Nat.le_of_eq ack) hle (fun x k h=>by rw [Km]at h;exact Fb h) (fun x k h=>by rw [Km]at h ⊢;exact h2.lt x k h) (fun j hj hjl haj Kl=> ?_) (fun x k h=> ?_)
  .constructor
   .rintro(rfl |h)
    .omega
    .have:=(I.rU m hm hem).1 h;omega
   .intro h;by_cases hlt2:(S m).k<e
    .exact .inr ((I.rU m hm hem).2 hlt2)
    .left;have hme:(S m).k=(S i).k:=by omega
     rcases Nat.lt_trichotomy m i with hl|hl|hl
     .have:=R.rS (i:=m+1) (j:=i) hl (Nat.le_of_lt hi);unfold eX at hem;omega
     .exact hl
     .have:=R.rS (i:=i+1) (j:=m) hl (Nat.le_of_lt hm);omega
  .have hne:j≠i:=fun hh=>RT hE R hi (hh ▸ haj)
   have hij:i<j:=by
    refine Nat.lt_of_not_le fun hji=> ?_
    have:=R.rS (i:=j) (j:=i) hji (Nat.le_of_lt hi);omega
   obtain⟨q1,aQ⟩:=beyond j hj hij;rw [Kc aQ q1];exact I.dB j hj (hjl.resolve_left hne) haj ω
  .rcases vH h with h|⟨_,hn,h⟩
   .left;rw [Km];exact h
   .rcases I.conv x k h with h|⟨j,q1,aQ,b8,eo,rfl⟩
    .rw [xQ]at h;exact absurd hn (c2 x (by rw [h];simp))
    .have hij:=later j q1 aQ b8 eo hn;have:=R.rS (i:=i+1) (j:=j) hij (Nat.le_of_lt q1);exact .inr ⟨j,q1, .inr aQ,b8,by omega,rfl⟩
def acm {l:Array Bool} {i j:Nat} (hi:i<l.size):(l.setIfInBounds i true).getD j false=true↔(j=i\/l.getD j false=true):=by
 simp only [Array.getD_eq_getD_getElem?,Array.getElem?_setIfInBounds];by_cases h:i=j
 .subst h;simp [hi]
 .rw [if_neg h];exact⟨.inr,fun h2=>h2.resolve_left fun h3=>h h3.symm⟩
def wx:∀{l:List Bool} {i:Nat},l[i]? =some false->(l.set i true).countP (! ·)+1=l.countP (! ·)
 |[],i,h=>by simp at h
 |a::l,0,h=>by
  simp at h;subst h;simp
 |a::l,i+1,h=>by
  have:=wx (l:=l) (i:=i) (by simpa using h);simp only [List.set_cons_succ,List.countP_cons];omega
def acn (hK:e7 P) (R:c7 P call round ops n S V) (hC:bD P call) (hR:lG P round) (rd:Option Nat) (m:Nat) {Q:Exit->Act->World->Prop}
  (hQ:∀L e ρ g T a w,(∀j,j<ops.size->L j)->jw P B eP w0 a0 ops n S V L e ρ g T a w->Q .normal a w):∀(fuel:Nat) (listed:Array Bool) {e:Nat} {ρ:Env} {g:Nat->Option bq} {T:au af} {a:Act} {w:World},
  listed.size=ops.size->listed.toList.countP (! ·)<=fuel->jw P B eP w0 a0 ops n S V (fun j=>listed.getD j false=true) e ρ g T a w->wpAnyIn (dO rd) m P .any ops Q fuel listed a w:=by
 have last:∀(listed:Array Bool) {e:Nat} {ρ:Env} {g:Nat->Option bq} {T:au af} {a:Act} {w:World},listed.size=ops.size->jw P B eP w0 a0 ops n S V (fun j=>listed.getD j false=true) e ρ g T a w->Region.ready .any ops listed=[]->Q .normal a w:=fun listed e ρ g T a w hs I hr=>by
  refine hQ _ e ρ g T a w (fun j=> ?_) I;induction j using Nat.strongRecOn with
  |ind j ih=>
   intro hj;refine Classical.byContradiction fun hn=> ?_
   obtain⟨o,ho⟩:=il hj;have hmem:j∈Region.ready .any ops listed:=by
    refine mem_ready.2 ⟨?_,o,ho,fun e' he hb=> ?_⟩
    .have hlt:j<listed.size:=by omega
     simp only [Array.getD_eq_getD_getElem?,Array.getElem?_eq_getElem hlt,Option.getD_some]at hn ⊢;simpa using hn
    .have tT:e'.on∈bi o:=List.mem_map.2 ⟨e',List.mem_filter.2 ⟨by simpa using he,hb⟩,rfl⟩;have:=(tR R.ok ho).lt _ tT;exact ih _ this ω
   rw [hr]at hmem;cases hmem
 intro fuel;induction fuel with
 |zero=>
  intro listed e ρ g T a w hs hc I;have hr:Region.ready .any ops listed=[]:=by
   refine List.eq_nil_iff_forall_not_mem.2 fun j hj=> ?_
   obtain⟨h1,o,ho,_⟩:=mem_ready.1 hj;have hlt:j<listed.size:=by rw [hs];exact(dz.1 ho).1
   have h0:=List.countP_eq_zero.1 (Nat.le_zero.1 hc) listed[j] τ;simp only [Array.getD_eq_getD_getElem?,Array.getElem?_eq_getElem hlt,Option.getD_some]at h1;rw [h1]at h0;simp at h0
  exact⟨hr,last listed hs I hr⟩
 |succ fuel ih=>
  intro listed e ρ g T a w hs hc I;refine⟨last listed hs I,fun i hi=> ?_⟩;obtain⟨h1,o,ho,h2⟩:=mem_ready.1 hi;have hlt:i<listed.size:=by rw [hs];exact(dz.1 ho).1
  have hf:listed[i]=false:=by simpa [Array.getD_eq_getD_getElem?,hlt]using h1
  refine I.step hK R hC hR ho (by simp [Array.getD_eq_getD_getElem?,hlt,hf]) (fun d hd=> ?_) rd m fun e' ρ' g' aO a' w' I'=> ?_
  .obtain⟨x,hx,rfl⟩:=List.mem_map.1 hd;obtain⟨hx1,hx2⟩:=List.mem_filter.1 hx;exact h2 x (by simpa using hx1) hx2
  .refine ih _ (e:=e') (ρ:=ρ') (g:=g') (T:=aO) (by simpa using hs) ?_ ?_
   .have:=wx (l:=listed.toList) (i:=i) (by simp [hlt,hf]);simp only [Array.toList_setIfInBounds];omega
   .have he:(fun j=>(listed.setIfInBounds i true).getD j false=true)=fun j=>j=i\/listed.getD j false=true:=by
     funext j;exact propext (acm hlt)
    rw [he];exact I'
def RV (hK:e7 P) (hm:P.follows .mixedOrders=true):xG P true (wv P) where
 mono call round hC hR ops n T H aO H' h:=by
  obtain⟨S,V,R,e1,e2,e3,bV⟩:=RF h;rw [<-e2,<-bV];exact R.o9 hC hR (Nat.zero_le _) (aJ _)
 cw call round hC hR id ops n T H aO H' h B ρ a w rd k Q aR hf hQ:=by
  obtain⟨S,V,R,e1,e2,e3,bV⟩:=RF h;have hle:=R.o9 hC hR (Nat.zero_le _) (aJ _);refine wpIn_region_any hm ?_;refine acn (B:=B) (eP:=ρ) (w0:=w) (a0:=a) (e:=0) (ρ:=ρ) (g:=H.get) (T:=T) hK R hC hR rd k (fun L e ρ' g T2 a' w' hL I=> ?_) ops.size _ τ ?_ ?_
  .have nh:=R.RO (aJ _);have z7:=R.Kb (aJ _);have he:e=(S ops.size).k:=by
    refine Nat.le_antisymm I.le (Nat.le_of_not_lt fun hlt=> ?_);by_cases h0:(S ops.size).k=0
    .omega
    .obtain⟨m,h1,h2,h3,h4⟩:=R.E6 (i:=0) (j:=ops.size) (e:=(S ops.size).k) (Nat.zero_le _) (aJ _) (by rw [R.k0];omega) (aJ _);have:=(I.rU m h2 h4).1 (hL m h2);omega
   have hX:∀x b,(S ops.size).cur.get x=some b->g x=some b:=fun x b hx=>by
    rcases nh.1 x b hx with hx|⟨j,hj,rfl,hb⟩
    .rw [<-he]at hx;exact I.hp x b hx
    .obtain⟨q1,aQ,b8⟩:=(z7 j).1 hj;rw [I.dB j q1 (hL j q1) aQ ω,hb]
   have hlt:∀x b,(S ops.size).cur.get x=some b->x<(S ops.size).cur.next:=fun x b hx=>by
    rcases nh.1 x b hx with hx|⟨j,hj,rfl,hb⟩
    .have:=R.RR (aJ _);rw [<-he]at hx this;exact Nat.lt_of_lt_of_le (I.lt x b hx) this
    .obtain⟨q1,aQ,b8⟩:=(z7 j).1 hj;have h5:=(R.Fc (i:=j) q1 aQ).1;have h6:=R.o9 hC hR (i:=j+1) (j:=ops.size) q1 (aJ _);omega
   refine hQ ρ' a' w' ⟨⟨I.z1.size,fun t=> ?_⟩, ?_,I.G⟩ ?_ I.RS
   .have ht:aO.get t=T2.get t:=by
     rw [<-e3];by_cases hw:∃(j:Nat) (p:Oper),ops[j]? =some p/\p.dst=some t
     .obtain⟨j,p,hj,hp⟩:=hw;have hjl:j<ops.size:=(dz.1 hj).1;rw [R.Fa hj hp hjl (aJ _),(I.z6 j p t hj hp).1 (hL j hjl)]
     .have hw':∀(j:Nat) (p:Oper),ops[j]? =some p->p.dst≠some t:=fun j p hj hp=>hw ⟨j,p,hj,hp⟩
      rw [R.RQ hw' (aJ _),I.Ke t hw']
    rw [ht];exact I.z1.get t
   .rw [<-bV];exact I.xP.lB hX hlt
   .rw [<-e2,<-bV];exact I.xP.final hX rfl hle
  .have:∀n:Nat,(List.replicate n false).countP (! ·)<=n:=fun n=>by
    have:=List.countP_le_length (p:=(! ·)) (l:=List.replicate n false);simpa using this
   simpa using this ops.size
  .have hno:∀j,¬(Array.replicate ops.size false).getD j false=true:=fun j=>by
    simp [Array.getD_eq_getD_getElem?,Array.getElem?_replicate];split<;>simp
   have hH:=aR.H.drew;have h0:hpf S ops.size 0=H:=by rw [R.Ka,e2]
   refine⟨fun j o hj=>(hno j hj).elim,fun m hm hem=>⟨fun h=>(hno m h).elim,fun h=>absurd h (Nat.not_lt_zero _)⟩,fun j _ h=>(hno j h).elim,Nat.zero_le _,aR.T,fun j p t _ _=>⟨fun h=>(hno j h).elim,fun _=>by rw [e1]⟩,fun t _=>by rw [e1],aR.G, ?_,by rw [h0];exact fun x k h=>h,by rw [h0];exact hH.lt,fun j _ h=>(hno j h).elim,by rw [h0];exact fun x k h=> .inl h,fun j hj _ x h1 h2=>hf x ?_ ?_,rfl⟩
   .rw [e2];exact⟨hH.blk,hH.inj,hH.base,cA.refl _,fun _ _=>rfl,aJ _,rfl,rfl,rfl,fun _ _ _=>rfl,fun b _ i k c h1 h2 h3=>⟨i,k,c,h1,h2,h3⟩,fun b _ i k c h1 h3=>⟨i,k,c,h1,h3⟩,hH.fz,fun _ _ h=> .inl h⟩
   .have:=R.o9 hC hR (Nat.zero_le j) (Nat.le_of_lt hj);rw [e2]at this;exact c6 this h1
   .have:=R.o9 hC hR hj (aJ _);rw [bV]at this;exact Nat.lt_of_lt_of_le h2 this
def Ff {S call:ew} (hS:bD P S) (hC:bD P call):bD P (vh S call) where
 mono f args H v H' h:=by
  unfold vh at h;cases hs:S f args H with
  |no=>rw [hs]at h;exact hC.mono _ _ _ _ _ h
  |ok v1 H1=>rw [hs]at h;cases h;exact hS.mono _ _ _ _ _ hs
  |enter _ _ _=>rw [hs]at h;cases h
  |round _ _ _=>rw [hs]at h;cases h
 cw f args H v H' h:=by
  unfold vh at h;cases hs:S f args H with
  |no=>rw [hs]at h;exact hC.cw _ _ _ _ _ h
  |ok v1 H1=>rw [hs]at h;cases h;exact hS.cw _ _ _ _ _ hs
  |enter _ _ _=>rw [hs]at h;cases h
  |round _ _ _=>rw [hs]at h;cases h
def RW (hK:e7 P):xG P false (fun call round ops n T H=>CH P call round ops n ops.toList T H) where
 mono _ _ hC hR _ _ _ _ _ _ h:=qk hC hR _ h
 cw _ _ hC hR _ ops _ _ _ _ _ h _ _ _ _ rd k _ aR hf hQ:=wpIn_region (Ri hK hC hR rd k _ _ (abD ops) aR h hf hQ)
def Cx (hK:e7 P) (hm:P.follows .mixedOrders=true) {S:ew} (hS:bD P S):∀d,xG P d (n4 P S d)
 |false=>⟨fun _ _ hC hR=>(RW hK).mono _ _ (Ff hS hC) hR,fun _ _ hC hR=>(RW hK).cw _ _ (Ff hS hC) hR⟩
 |true=>⟨fun _ _ hC hR=>(RV hK hm).mono _ _ (Ff hS hC) hR,fun _ _ hC hR=>(RV hK hm).cw _ _ (Ff hS hC) hR⟩
end
end
end Go.Proofs.YtibikmmdbdlafaaGreatDoor.Sv
