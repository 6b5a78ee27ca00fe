import Derived.Test.YtibikmmdbdlafaaGreatDoorZnSvCode4
set_option linter.defProp false
set_option linter.unusedSectionVars false
set_option linter.unusedSimpArgs false
namespace Go.Proofs.YtibikmmdbdlafaaGreatDoor.Sv
noncomputable section
inductive Kd where
 |p|r|a|e|b
def Kd.al:Kd->Bool
 | .a| .b=>true
 |_=>false
def rN (P:Program) (t:Option TypeId):Bool:=match t.bind P.underlying with
 |some (.map _ _)=>true
 |_=>false
def abG (P:Program) (c:Call):Kd:=match c.callee with
 | .builtin .len=>cond (rN P c.argTypes[0]?) .e .p
 | .builtin .append=> .e
 | .builtin .copy=> .e
 | .builtin .unsafeString=> .e
 | .builtin .clear=> .e
 | .builtin _=> .p
 |_=> .e
def mG (P:Program):Op->Kd:=
 @Op.rec (fun _=>Kd) (fun _=> .p) (fun _=> .p) (fun _ _ _=> .p) (fun _=> .a) (fun _ _=> .b) (fun _ _=> .p) (fun _ _ _=> .b) (fun _ _ _ _=> .e) (fun _ _=> .r) (fun _ _ _=> .e) (fun _=> .e) (fun _=> .e) (fun _=> .p) (fun _ _ _ _ _=> .p) (fun _ _ _=> .p)
   (fun _ _ _=> .e) (fun _ _=> .e) (fun _ _=> .p) (fun _ _ _=> .p) (fun _ _=> .b) (fun _ _=> .e) (fun _ _ _=> .b) (fun _ _ _ _ _=> .p) (fun _ _ _=> .p) (fun _ _ _=> .p) (fun _ _ _=> .p) (fun _ _ _=> .p) (fun _ _ _ _=> .r) (fun _ _ _ _=> .e)
   (fun _ _ _=> .e) (fun _ _ _ _=> .e) (fun _ _=> .e) (fun _ _=> .e) (fun _=> .e) (fun _ _ _ _=> .p) (fun _ _=> .p) (abG P) (fun _=> .e) (fun _=> .e) (fun _=> .e) (fun _ _=> .e) (fun _ _ _=> .e) (fun _ _=> .e)
def cB (o:Oper):List Nat:=(o.after.toList.filter (Region.binds .any)).map Edge.on
def kV (i:Nat) (l:List Nat):Bool:= @List.rec Nat (fun _=>Bool) false (fun a _ ih=> @Bool.rec (fun _=>Bool) ih true (Nat.beq a i)) l
def abH (o:Oper):List Tmp:=o.op.operands.toList.filterMap fun x=>match x with | .tmp t=>some t|_=>none
def xI (t:Tmp) (o:Oper):Bool:=match o.dst with |some d=>Nat.beq d t|none=>false
def i8 (t:Tmp):List Oper->Nat->Option (Nat×Oper)
 |[],_=>none
 |o::l,i=>cond (xI t o) (some (i,o)) (i8 t l (i+1))
def xJ (ops:List Oper) (i:Nat) (o:Oper):Bool:=
 (cB o).all (fun d=>Nat.ble (d+1) i)&&
 (abH o).all (fun t=>match i8 t ops 0 with |none=>true|some q=>kV q.1 (cB o)||kV i (cB q.2))&&
 (match o.dst with |none=>true|some d=>match i8 d ops 0 with |some q=>Nat.beq q.1 i|none=>false)&&
 (match o.guard with |none=>true|some g=>kV g.1 (cB o))
def rO (ops:List Oper):List Oper->Nat->Bool
 |[],_=>true
 |o::l,i=>cond (xJ ops i o) (rO ops l (i+1)) false
def Cm:Value->Value->Bool
 | .int k a, .int k' b=>decide (k=k')&&decide (a=b)
 | .bool a, .bool b=>a==b
 | .string a, .string b=>decide (a=b)
 | .pointer none, .pointer none=>true
 | .slice none l c, .slice none l' c'=>Nat.beq l l'&&Nat.beq c c'
 | .map none, .map none=>true
 | .nilFunc, .nilFunc=>true
 | .nilIface, .nilIface=>true
 | .func f ⟨[]⟩ ⟨[]⟩, .func g ⟨[]⟩ ⟨[]⟩=>decide (f=g)
 |_,_=>false
def Ha (f:Value->Value->Bool):List Value->List Value->Bool
 |[],[]=>true
 |a::l,b::m=>cond (f a b) (Ha f l m) false
 |_,_=>false
def xK:Nat->Value->Value->Bool
 |0,a,b=>Cm a b
 |n+1,a,b=>match a,b with
  | .agg ⟨l⟩, .agg ⟨m⟩=>Ha (xK n) l m
  | .tuple ⟨l⟩, .tuple ⟨m⟩=>Ha (xK n) l m
  |a,b=>Cm a b
def bh.same:bh->bh->Bool
 | .known a, .known b=>Nat.beq a b
 | .full, .full=>true
 | .any, .any=>true
 |_,_=>false
def av.beq:(t:av)->t.den->t.den->Bool
 | .int _,a,b=>decide (a=b)
 | .bool,a,b=>a==b
 | .str,a,b=>decide (a=b)
 | .list _ t,a,b=>Nat.beq a.length b.length&&(a.zip b).all fun p=>t.beq p.1 p.2
 | .pair s t,a,b=>s.beq a.1 b.1&&t.beq a.2 b.2
 | .ptr t,a,b=>t.beq a b
 | .unit,_,_=>true
def Hb (t u:av) (xs:List t.den) (ys:List u.den):Bool:=if h:u=t then av.beq (.list false t) xs (h ▸ ys)else false
def vF:af->af->Bool
 | .bu z t xs, .bu z' u ys=>z==z'&&Hb t u xs ys
 | .fB t xs k off, .fB u ys k' off'=>Hb t u xs ys&&(Nat.beq k k'&&Nat.beq off off')
 | .bU e t i k n c, .bU e' u i' k' n' c'=>Nat.beq e e'&&(decide (t=u)&&(Nat.beq i i'&&(Nat.beq k k'&&(Nat.beq n n'&&c.same c'))))
 | .dH e t i k off, .dH e' u i' k' off'=>Nat.beq e e'&&(decide (t=u)&&(Nat.beq i i'&&(Nat.beq k k'&&Nat.beq off off')))
 | .raw a, .raw b=>xK 3 a b
 | .ptr i o, .ptr j q=>Nat.beq i j&&Nat.beq o q
 | .slice i o l c, .slice j q m d=>Nat.beq i j&&Nat.beq o q&&Nat.beq l m&&c.same d
 | .map i, .map j=>Nat.beq i j
 | .func f [] [], .func g [] []=>decide (f=g)
 | .yield i, .yield j=>Nat.beq i j
 |_,_=>false
def qv:List af->List af->Bool
 |[],[]=>true
 |a::l,b::m=>vF a b&&qv l m
 |_,_=>false
def af.same:af->af->Bool
 | .agg l, .agg m=>qv l m
 | .tuple l, .tuple m=>qv l m
 | .func f (x::a) b, .func g c d=>decide (f=g)&&(qv (x::a) c&&qv b d)
 | .func f [] (x::b), .func g c d=>decide (f=g)&&(qv [] c&&qv (x::b) d)
 |a,b=>vF a b
def ll (P:Program) (o:Oper) (ev:dO) (v:af) (H:ai):Bool:=match fc o.op P o ev H with | .ok v' _=>af.same v' v|_=>false
def rP (P:Program) (o:Oper) (ev:dO) (v:af):List ai->Bool
 |[]=>true
 |H::l=>cond (ll P o ev v H) (rP P o ev v l) false
structure pq where
 i:Nat
 o:Oper
 T:au af
 v:af
def jC (ds:List Nat):List pq->List pq
 |[]=>[]
 |q::l=>cond (kV q.i ds) (jC ds l) (q::jC ds l)
def qw (P:Program) (H:ai):List pq->Bool
 |[]=>true
 |q::l=>cond (ll P q.o (cq q.T) q.v H) (qw P H l) false
def level (bQ:au Nat):List Nat->Nat
 |[]=>0
 |d::l=>Nat.max ((bQ.get d).getD 0) (level bQ l)
def tR (l ds:List Nat):Bool:=l.all fun i=>kV i ds
structure gu where
 i:Nat
 k:Nat
 T:au af
 cur:ai
 hs:List ai
 bQ:au Nat
 dJ:List pq
 dm:List Nat
def mH (n:Nat) (o:Oper) (s:gu) (v:af) (f:au af->gu):Option gu:=(iP s.T n o.dst v).map f
def tS (P:Program) (call:eC) (round:jW) (ops:Array Oper) (n:Nat) (o:Oper) (s:gu):Option gu:=
 let ds:=cB o
 let lv:=level s.bQ ds
 match gS s.T ops o with
 |none=>none
 |some false=>mH n o s (.raw undef) fun T=>{s with i:=s.i+1,T:=T,bQ:=s.bQ.set s.i (some lv)}
 |some true=>match mG P o.op with
  | .p=>match fc o.op P o (cq s.T) s.cur with
    | .ok v _=>mH n o s v fun T=>{s with i:=s.i+1,T:=T,bQ:=s.bQ.set s.i (some lv)}
    |_=>none
  | .r=>match s.hs with
    |H::_=>match fc o.op P o (cq s.T) H with
     | .ok v _=>cond (rP P o (cq s.T) v (s.hs.take (s.k+1-lv)))
       (mH n o s v fun T=>{s with i:=s.i+1,T:=T,bQ:=s.bQ.set s.i (some lv),dJ:=⟨s.i,o,s.T,v⟩::s.dJ}) none
     |_=>none
    |[]=>none
  | .a=>match fc o.op P o (cq s.T) s.cur with
    | .ok v H=>mH n o s v fun T=>{s with i:=s.i+1,T:=T,cur:=H,bQ:=s.bQ.set s.i (some lv),dm:=s.i::s.dm}
    |_=>none
  | .e=>cond (Nat.beq lv s.k&&tR s.dm ds)
    (match fx P call round o (cq s.T) s.cur with
      | .ok v H=>cond (qw P H (jC ds s.dJ))
        (mH n o s v fun T=>{i:=s.i+1,k:=s.k+1,T:=T,cur:=H,hs:=H::s.hs,bQ:=s.bQ.set s.i (some (s.k+1)),dJ:=jC ds s.dJ,dm:=[]}) none
      |_=>none) none
  | .b=>cond (Nat.beq lv s.k&&tR s.dm ds)
    (match fx P call round o (cq s.T) s.cur with
      | .ok v H=>cond (qw P H (jC ds s.dJ))
        (mH n o s v fun T=>{i:=s.i+1,k:=s.k+1,T:=T,cur:=H,hs:=H::s.hs,bQ:=s.bQ.set s.i (some (s.k+1)),dJ:=jC ds s.dJ,dm:=[]}) none
      |_=>none)
    (match fc o.op P o (cq s.T) s.cur with
      | .ok v H=>mH n o s v fun T=>{s with i:=s.i+1,T:=T,cur:=H,bQ:=s.bQ.set s.i (some lv),dm:=s.i::s.dm}
      |_=>none)
def xL (P:Program) (call:eC) (round:jW) (ops:Array Oper) (n:Nat):List Oper->gu->e4
 |[],s=> .mk s.T s.cur
 |o::l,s=>match tS P call round ops n o s with
  |some s=>xL P call round ops n l s
  |none=> .no
def zW (P:Program):I7:=fun call round ops n T H=>
 cond (rO ops.toList ops.toList 0) (xL P call round ops n ops.toList {i:=0,k:=0,T:=T,cur:=H,hs:=[H],bQ:= .nil,dJ:=[],dm:=[]}) .no
def oa (P:Program) (S:eC):o6:=fun d call round ops n T H=> @Bool.rec (fun _=>e4) (xg P (vk S call) round ops n ops.toList T H) (zW P (vk S call) round ops n T H) d
end
section
open Go.RowKit
section
variable {P:Program} {B:Nat} {ρ:Env} {H:ai} {w:World} {o:Oper} {ev ev':dO}
def qx (hp:qm o.op=true) (h:∀x∈o.op.operands.toList,ev x=ev' x):gen P o ev=gen P o ev':=by
 unfold gen;have e1:(o.op.operands.toList.all fun x=>(ev x).fC.isSome)=o.op.operands.toList.all fun x=>(ev' x).fC.isSome:=by
  rw [Bool.eq_iff_iff,List.all_eq_true,List.all_eq_true];exact⟨fun hh x hx=>by rw [<-h x hx];exact hh x hx,fun hh x hx=>by rw [h x hx];exact hh x hx⟩
 have e2:execOp (np ev) o=execOp (np ev') o:=execOp_congr hp fun x hx=>by simp only [np,h x hx]
 rw [e1,e2]
def JY {l:List Operand} (h:∀x∈l,ev x=ev' x):l.map ev=l.map ev':=List.map_congr_left h
def Rh {ps:Array (Nat×Operand)} (h:∀p∈ps.toList,ev p.2=ev' p.2):rG ev ps=rG ev' ps:=List.map_congr_left fun p hp=>by rw [h p hp]
def Ri (h:∀x∈o.op.operands.toList,ev x=ev' x):fc o.op P o ev H=fc o.op P o ev' H:=by
 cases ho:o.op with
 |move x=>
  have h1:=h x (by simp [ho,Op.operands]);show nq x P o ev H=nq x P o ev' H;simp only [nq,h1]
 |assign x=>
  have h1:=h x (by simp [ho,Op.operands]);show nq x P o ev H=nq x P o ev' H;simp only [nq,h1]
 |pick c a b=>
  have h1:=h c (by simp [ho,Op.operands]);have h2:=h a (by simp [ho,Op.operands]);have h3:=h b (by simp [ho,Op.operands]);show nX c a b P o ev H=nX c a b P o ev' H;simp only [nX,h1,h2,h3]
 |box t x=>
  have h1:=h x (by simp [ho,Op.operands]);show oY t x P o ev H=oY t x P o ev' H;simp only [oY,h1]
 |build t ps=>
  have h1:=Rh (ev:=ev) (ev':=ev') (ps:=ps) fun p hp=>h p.2 (by simp only [ho,Op.operands];exact List.mem_map_of_mem hp)
  show BN t ps P o ev H=BN t ps P o ev' H;simp only [BN,IQ,h1]
 |buildSlice t l ps=>
  have h1:=Rh (ev:=ev) (ev':=ev') (ps:=ps) fun p hp=>h p.2 (by simp only [ho,Op.operands];exact List.mem_map_of_mem hp)
  show zy t l ps P o ev H=zy t l ps P o ev' H;simp only [zy,oZ,h1]
 |insert t m k v=>
  have h1:=h m (by simp [ho,Op.operands]);have h2:=h k (by simp [ho,Op.operands]);have h3:=h v (by simp [ho,Op.operands]);show o4 t m k v P o ev H=o4 t m k v P o ev' H;simp only [o4,h1,h2,h3]
 |mapUpdate t m k v=>
  have h1:=h m (by simp [ho,Op.operands]);have h2:=h k (by simp [ho,Op.operands]);have h3:=h v (by simp [ho,Op.operands]);show o4 t m k v P o ev H=o4 t m k v P o ev' H;simp only [o4,h1,h2,h3]
 |load t x=>
  have h1:=h x (by simp [ho,Op.operands]);show nY t x P o ev H=nY t x P o ev' H;simp only [nY,h1]
 |store t x y=>
  have h1:=h x (by simp [ho,Op.operands]);have h2:=h y (by simp [ho,Op.operands]);show qi t x y P o ev H=qi t x y P o ev' H;simp only [qi,h1,h2]
 |nilCheck x=>
  have h1:=h x (by simp [ho,Op.operands]);have hg:=qx (P:=P) (by rw [ho];rfl) h;show qd x P o ev H=qd x P o ev' H;simp only [qd,IU,h1,hg]
 |binOp op t x y ah=>
  have h1:=h x (by simp [ho,Op.operands]);have h2:=h y (by simp [ho,Op.operands]);have hg:=qx (P:=P) (by rw [ho];rfl) h;show je op t x y ah P o ev H=je op t x y ah P o ev' H;simp only [je,w8,oW,BO,h1,h2,hg]
 |unOp op t x=>
  have hg:=qx (P:=P) (by rw [ho];rfl) h;show vg P o ev H=vg P o ev' H;simp only [vg,hg]
 |typeAssert a b c d=>
  have hg:=qx (P:=P) (by rw [ho];rfl) h;show vg P o ev H=vg P o ev' H;simp only [vg,hg]
 |convert s d x=>
  have h1:=h x (by simp [ho,Op.operands]);have hg:=qx (P:=P) (by rw [ho];rfl) h;show zx s d x P o ev H=zx s d x P o ev' H;simp only [zx,BU,h1,hg]
 |makeInterface t x=>
  have h1:=h x (by simp [ho,Op.operands]);show BQ t x P o ev H=BQ t x P o ev' H;simp only [BQ,h1]
 |makeFunc fn f c=>
  have h1:=JY (ev:=ev) (ev':=ev') (l:=f.toList) fun x hx=>h x (by simp only [ho,Op.operands,Array.toList_append];exact List.mem_append_left _ hx)
  have h2:=JY (ev:=ev) (ev':=ev') (l:=c.toList) fun x hx=>h x (by simp only [ho,Op.operands,Array.toList_append];exact List.mem_append_right _ hx)
  show As fn f c P o ev H=As fn f c P o ev' H;simp only [As,h1,h2]
 |makeMap t r=>
  show zz t r P o ev H=zz t r P o ev' H;cases r with
  |none=>rfl
  |some x=>
   have h1:=h x (by simp [ho,Op.operands]);simp only [zz,rH,h1]
 |makeSlice t l c=>
  have h1:=h l (by simp [ho,Op.operands]);have h2:=h c (by simp [ho,Op.operands]);show d8 t l c P o ev H=d8 t l c P o ev' H;simp only [d8,h1,h2]
 |slice t x l hi m=>
  have h1:=h x (by simp [ho,Op.operands]);have h2:l.map ev=l.map ev':=by
   cases l with
   |none=>rfl
   |some y=>simp [h y (by simp [ho,Op.operands])]
  have h3:hi.map ev=hi.map ev':=by
   cases hi with
   |none=>rfl
   |some y=>simp [h y (by simp [ho,Op.operands])]
  have h4:m.map ev=m.map ev':=by
   cases m with
   |none=>rfl
   |some y=>simp [h y (by simp [ho,Op.operands])]
  have hg:=qx (P:=P) (by rw [ho];rfl) h;show oX t x l hi m P o ev H=oX t x l hi m P o ev' H;simp only [oX,BR,h1,h2,h3,h4,hg]
 |fieldAddr s x f=>
  have h1:=h x (by simp [ho,Op.operands]);show qf s x f P o ev H=qf s x f P o ev' H;simp only [qf,h1]
 |field t x f=>
  have h1:=h x (by simp [ho,Op.operands]);have hg:=qx (P:=P) (by rw [ho];rfl) h;show qg t x f P o ev H=qg t x f P o ev' H;simp only [qg,h1,hg]
 |indexAddr t x i=>
  have h1:=h x (by simp [ho,Op.operands]);have h2:=h i (by simp [ho,Op.operands]);show nj t x i P o ev H=nj t x i P o ev' H;simp only [nj,h1,h2]
 |index t x i=>
  have h1:=h x (by simp [ho,Op.operands]);have h2:=h i (by simp [ho,Op.operands]);have hg:=qx (P:=P) (by rw [ho];rfl) h;show mA t x i P o ev H=mA t x i P o ev' H;simp only [mA,h1,h2,hg]
 |lookup t m k ok=>
  have h1:=h m (by simp [ho,Op.operands]);have h2:=h k (by simp [ho,Op.operands]);have hg:=qx (P:=P) (by rw [ho];rfl) h;show BS t m k ok P o ev H=BS t m k ok P o ev' H;simp only [BS,w9,h1,h2,hg]
 |extract x i=>
  have h1:=h x (by simp [ho,Op.operands]);have hg:=qx (P:=P) (by rw [ho];rfl) h;show qh x i P o ev H=qh x i P o ev' H;simp only [qh,h1,hg]
 |call c=>
  obtain⟨callee,args,argTypes⟩:=c;have h1:=JY (ev:=ev) (ev':=ev') (l:=args.toList) fun x hx=>h x (by simp only [ho,Op.operands,Call.operands,Array.toList_append];exact List.mem_append_right _ hx)
  have hg:=qx (P:=P) (by rw [ho];rfl) h;show fw ⟨callee,args,argTypes⟩ P o ev H=fw ⟨callee,args,argTypes⟩ P o ev' H;cases callee with
  |value f=>
   have h2:=h f (by simp [ho,Op.operands,Call.operands]);simp only [fw,h1,h2]
  |builtin b=>simp only [fw,nZ,h1,hg]
  |invoke r m=>rfl
 |range t x=>
  have h1:=h x (by simp [ho,Op.operands]);show zB t x P o ev H=zB t x P o ev' H;simp only [zB,h1]
 |next x b=>
  have h1:=h x (by simp [ho,Op.operands]);show zC x b P o ev H=zC x b P o ev' H;simp only [zC,h1]
 |entry x=>
  have h1:=h x (by simp [ho,Op.operands]);show BX x P o ev H=BX x P o ev' H;simp only [BX,h1]
 |_=>rfl
def abI {t:Option TypeId} {v:af} (h:rN P t=false) (H:ai):BZ P t v H=none:=by
 unfold rN at h;unfold BZ;cases t with
 |none=>rfl
 |some t=>
  simp only [Option.bind_some]at h ⊢;split
  .rename_i hu;rw [hu]at h;cases h
  .rfl
section
variable {args:Array Operand} {argTypes:Array TypeId}
def abJ (hk:mG P (.call {callee:= .builtin .len,args,argTypes})= .p):rN P argTypes[0]? =false:=by
 have hk:cond (rN P argTypes[0]?) Kd.e Kd.p= .p:=hk;cases h:rN P argTypes[0]? with
 |true=>rw [h]at hk;cases hk
 |false=>rfl
def abK (hk:mG P (.call {callee:= .builtin .len,args,argTypes})= .r):False:=by
 have hk:cond (rN P argTypes[0]?) Kd.e Kd.p= .r:=hk;cases h:rN P argTypes[0]? <;>rw [h]at hk<;>cases hk
def abL (hk:(mG P (.call {callee:= .builtin .len,args,argTypes})).al=true):False:=by
 have hk:(cond (rN P argTypes[0]?) Kd.e Kd.p).al=true:=hk;cases h:rN P argTypes[0]? <;>rw [h]at hk<;>cases hk
end
def Cn {x:Option af} {v:af} {H1:ai} (h:ag H x= .ok v H1):x=some v/\H1=H:=by
 cases x with
 |none=>cases h
 |some y=>cases h;exact⟨rfl,rfl⟩
def ku {x:Option af} {v:af} {H1:ai} (h:ag H x= .ok v H1) (H2:ai):ag H2 x= .ok v H2:=by
 obtain⟨rfl,_⟩:=Cn h;rfl
def abM {gQ n:Nat} {x v:af} {H1:ai} (h:u7 gQ n x H= .ok v H1) (H2:ai):u7 gQ n x H2= .ok v H2:=by
 unfold u7 at h ⊢;split at h
 .cases hb:Nat.ble 1 n<;>rw [hb]at h<;>cases h;rfl
 .cases hb:Nat.ble 1 n<;>rw [hb]at h<;>cases h;rfl
 .cases h
def abN {k n s:Nat} {x v:af} {H1:ai} (h:u6 k n s x H= .ok v H1) (H2:ai):u6 k n s x H2= .ok v H2:=by
 unfold u6 at h ⊢;split at h
 .cases hb:Nat.ble (k+1) n<;>rw [hb]at h<;>cases h;rfl
 .cases hb:Nat.ble (k+1) n<;>rw [hb]at h<;>cases h;rfl
 .cases h
def abO {k s:Nat} {x v:af} {H1:ai} (h:rB k s x H= .ok v H1) (H2:ai):rB k s x H2= .ok v H2:=by
 unfold rB at h ⊢;split at h
 .rename_i z t xs;cases hb:(Nat.beq t.size s&&Nat.ble (k+1) xs.length)<;>rw [hb]at h<;>cases h;rfl
 .rename_i e t i k0 len cap;cases hb:(Nat.beq t.size s&&Nat.ble (k+1) len)<;>rw [hb]at h<;>cases h;rfl
 .cases h
def abP (hk:mG P o.op= .p) {v:af} {H1:ai} (h:fc o.op P o ev H= .ok v H1) (H2:ai):fc o.op P o ev H2= .ok v H2:=by
 cases ho:o.op with
 |move x=>rw [ho]at h;cases h;rfl
 |assign x=>rw [ho]at h;cases h;rfl
 |pick c a b=>
  rw [ho]at h;have h:nX c a b P o ev H= .ok v H1:=h;show nX c a b P o ev H2= .ok v H2;unfold nX at h ⊢;cases hb:gR (ev c)with
  |no=>rw [hb]at h;cases h
  |mk q=>rw [hb]at h;cases q<;>(cases h;rfl)
 |build t ps=>rw [ho]at h;exact ku h H2
 |nilCheck x=>
  rw [ho]at h;have h:qd x P o ev H= .ok v H1:=h;show qd x P o ev H2= .ok v H2;unfold qd at h ⊢;cases hb:iO (ev x)with
  |no=>rw [hb]at h;exact ku h H2
  |mk i off=>rw [hb]at h;cases h;rfl
 |binOp op t x y ah=>
  rw [ho]at h;have h:je op t x y ah P o ev H= .ok v H1:=h;show je op t x y ah P o ev H2= .ok v H2;unfold je at h ⊢;cases hb:iN (ev x)with
  |no=>rw [hb]at h;exact ku h H2
  |int k a=>
   rw [hb]at h;simp only at h ⊢;cases kS:iN (ev y)with
   |no=>rw [kS]at h;exact ku h H2
   |int k' b=>
    rw [kS]at h;simp only at h ⊢;cases hf:jx op k k' a b with
    |none=>rw [hf]at h;exact ku h H2
    |some q=>rw [hf]at h;cases h;rfl
 |unOp op t x=>rw [ho]at h;exact ku h H2
 |typeAssert a b c d=>rw [ho]at h;exact ku h H2
 |makeInterface t x=>rw [ho]at h;exact ku h H2
 |makeFunc fn f c=>rw [ho]at h;cases h;rfl
 |slice t x l hi m=>rw [ho]at h;exact ku h H2
 |fieldAddr s x f=>
  rw [ho]at h;have h:qf s x f P o ev H= .ok v H1:=h;show qf s x f P o ev H2= .ok v H2;unfold qf at h ⊢;cases hf:fv P s f with
  |no=>rw [hf]at h;cases h
  |mk a n t=>
   rw [hf]at h;simp only at h ⊢;cases hb:iO (ev x)with
   |no=>rw [hb]at h;exact abM h H2
   |mk i off=>
    rw [hb]at h;simp only at h ⊢;cases hn:Nat.ble 1 n with
    |false=>rw [hn]at h;cases h
    |true=>rw [hn]at h;cases h;rfl
 |field t x f=>
  rw [ho]at h;have h:qg t x f P o ev H= .ok v H1:=h;show qg t x f P o ev H2= .ok v H2;unfold qg at h ⊢;cases hb:rC (ev x)with
  |none=>rw [hb]at h;exact ku h H2
  |some cs=>
   rw [hb]at h;simp only at h ⊢;cases hf:fv P t f with
   |no=>rw [hf]at h;cases h
   |mk a n t=>rw [hf]at h;exact ku h H2
 |indexAddr t x i=>
  rw [ho]at h;have h:nj t x i P o ev H= .ok v H1:=h;show nj t x i P o ev H2= .ok v H2;unfold nj at h ⊢;cases hk2:nW (ev i)with
  |no=>rw [hk2]at h;cases h
  |mk k=>
   rw [hk2]at h;simp only at h ⊢;cases ht:nV P t with
   |no=>rw [ht]at h;cases h
   |arr n s=>
    rw [ht]at h;simp only at h ⊢;cases hb:iO (ev x)with
    |no=>rw [hb]at h;exact abN h H2
    |mk i off=>
     rw [hb]at h;simp only at h ⊢;cases hn:Nat.ble (Nat.succ k) n with
     |false=>rw [hn]at h;cases h
     |true=>rw [hn]at h;cases h;rfl
   |sl s=>
    rw [ht]at h;simp only at h ⊢;cases hb:wZ (ev x)with
    |no=>rw [hb]at h;exact abO h H2
    |mk i off len cap=>
     rw [hb]at h;simp only at h ⊢;cases hn:Nat.ble (Nat.succ k) len with
     |false=>rw [hn]at h;cases h
     |true=>rw [hn]at h;cases h;rfl
 |index t x i=>
  rw [ho]at h;have h:mA t x i P o ev H= .ok v H1:=h;show mA t x i P o ev H2= .ok v H2;unfold mA at h ⊢;cases hb:rC (ev x)with
  |none=>rw [hb]at h;exact ku h H2
  |some cs=>rw [hb]at h;exact ku h H2
 |extract x i=>
  rw [ho]at h;have h:qh x i P o ev H= .ok v H1:=h;show qh x i P o ev H2= .ok v H2;unfold qh at h ⊢;cases hb:zj (ev x)with
  |none=>rw [hb]at h;exact ku h H2
  |some cs=>rw [hb]at h;exact ku h H2
 |call c=>
  obtain⟨callee,args,argTypes⟩:=c;rw [ho]at h hk;cases callee with
  |value f=>cases hk
  |invoke r m=>cases hk
  |builtin b=>
   have h:nZ P o ev b argTypes (args.toList.map ev) H= .ok v H1:=h;show nZ P o ev b argTypes (args.toList.map ev) H2= .ok v H2;unfold nZ at h ⊢;split at h
   .rw [abI (abJ hk)]at h ⊢;simp only at h ⊢;split at h
    .cases h;rfl
    .exact ku h H2
   .split at h
    .cases h;rfl
    .exact ku h H2
   .cases hk
   .cases hk
   .cases hk
   .cases hk
   .cases hk
   .rename_i i off len cap _ _;have h: @Bool.rec (fun _=>aM) .no (.ok (.ptr i off) H) (Nat.ble 1 len)= .ok v H1:=h;show @Bool.rec (fun _=>aM) .no (.ok (.ptr i off) H2) (Nat.ble 1 len)= .ok v H2
    cases hn:Nat.ble 1 len with
    |false=>rw [hn]at h;cases h
    |true=>rw [hn]at h;cases h;rfl
   .rename_i e' u i k len cap _ _;have h: @Bool.rec (fun _=>aM) .no (.ok (.dH e' u i k 0) H) (Nat.ble 1 len)= .ok v H1:=h;show @Bool.rec (fun _=>aM) .no (.ok (.dH e' u i k 0) H2) (Nat.ble 1 len)= .ok v H2
    cases hn:Nat.ble 1 len with
    |false=>rw [hn]at h;cases h
    |true=>rw [hn]at h;cases h;rfl
   .exact ku h H2
 |_=>rw [ho]at hk;cases hk
def abQ (hk:mG P o.op= .r) {v:af} {H1:ai} (h:fc o.op P o ev H= .ok v H1):H1=H:=by
 cases ho:o.op with
 |load t x=>
  rw [ho]at h;have h:nY t x P o ev H= .ok v H1:=h;unfold nY at h;cases hb:iO (ev x)with
  |no=>
   rw [hb]at h;have h:tB P t (ev x) H= .ok v H1:=h;unfold tB at h;split at h
   .exact(Cn h).2
   .rename_i e' u i k off _;cases hc:bA e' u (H.get i) k with
    |false=>rw [hc]at h;cases h
    |true=>rw [hc]at h;exact(Cn h).2
   .cases h
  |mk i off=>
   rw [hb]at h;simp only at h;cases hc:tq (H.get i)with
   |no=>rw [hc]at h;cases h
   |mk a b c d e=>rw [hc]at h;exact(Cn h).2
 |lookup t m k ok=>rw [ho]at h;exact(Cn h).2
 |call c=>
  obtain⟨callee,args,argTypes⟩:=c;rw [ho]at hk;cases callee with
  |value f=>cases hk
  |invoke r m=>cases hk
  |builtin b=>cases b<;>first |cases hk|exact(abK hk).elim
 |_=>rw [ho]at hk;cases hk
def Co (hk:(mG P o.op).al=true) {v:af} {H1:ai} (h:fc o.op P o ev H= .ok v H1):True/\∃blk,H1=H.new blk/\∀H2:ai,H2.next=H.next->fc o.op P o ev H2= .ok v (H2.new blk):=by
 cases ho:o.op with
 |alloc t=>
  rw [ho]at h;have h:tC t P o ev H= .ok v H1:=h;unfold tC at h;cases hz:nh P t with
  |none=>rw [hz]at h;cases h
  |some z=>
   rw [hz]at h;cases h;refine⟨trivial,_,rfl,fun H2 h2=> ?_⟩;show tC t P o ev H2=_;unfold tC;rw [hz];simp only [h2]
 |box t x=>
  rw [ho]at h;have h:oY t x P o ev H= .ok v H1:=h;unfold oY at h;cases hb:(ev x).u5 with
  |true=>rw [hb]at h;cases h
  |false=>
   rw [hb]at h;cases h;refine⟨trivial,_,rfl,fun H2 h2=> ?_⟩;show oY t x P o ev H2=_;unfold oY;rw [hb];simp only [h2]
 |buildSlice t len parts=>
  rw [ho]at h;have h:eT (oZ P ev t len parts H)= .ok v H1:=h;have key:∀H2:ai,oZ P ev t len parts H2=(oZ P ev t len parts {m:= .nil,next:=0}).bind fun _=>(lG P t).bind fun e=>(ey P e).bind fun s=>(nh P e).bind fun z=>
    ((nn (fun i=>some (i*s,s)) (List.replicate len (iS z.cells)).flatten (rG ev parts)).map fun cs=>(.slice H2.next 0 len (.known len),H2.new (.cells e cs true false false))):=by
   intro H2;unfold oZ;cases h1:lG P t with
   |none=>rfl
   |some e=>
    simp only [Option.bind_some];cases h2:ey P e with
    |none=>rfl
    |some s=>
     simp only [Option.bind_some];cases h3:nh P e with
     |none=>rfl
     |some z=>
      simp only [Option.bind_some];cases h4:(Nat.ble 1 s&&Nat.ble (len*s) 16777216&&Nat.beq z.cells.size s)with
      |false=>rfl
      |true=>
       simp only [cond_true];cases h5:nn (fun i=>some (i*s,s)) (List.replicate len (iS z.cells)).flatten (rG ev parts)with
       |none=>rfl
       |some cs=>rfl
  obtain⟨r,hr⟩:∃r,oZ P ev t len parts H=some r:=by
   cases hq:oZ P ev t len parts H with
   |none=>rw [hq]at h;cases h
   |some r=>exact⟨r,rfl⟩
  rw [hr]at h;have hk2:=key H;rw [hr]at hk2;have hk2:=hk2.symm;simp only [dN,am]at hk2;obtain⟨eo,h0,e,h1,s,h2,z,h3,cs,h4,h5⟩:=hk2;subst h5;cases h;refine⟨trivial,_,rfl,fun H2 hn=> ?_⟩;show eT (oZ P ev t len parts H2)=_;rw [key H2,h0];simp only [Option.bind_some,h1,h2,h3,h4,Option.map_some,hn,eT]
 |call c=>
  obtain⟨callee,args,argTypes⟩:=c;rw [ho]at hk;cases callee with
  |value f=>cases hk
  |invoke r m=>cases hk
  |builtin b=>cases b<;>first |cases hk|exact(abL hk).elim
 |makeMap t r=>
  rw [ho]at h;have h:eT (rH P ev t r H)= .ok v H1:=h;have key:∀H2:ai,rH P ev t r H2=(rH P ev t r {m:= .nil,next:=0}).map fun _=>(.map H2.next,H2.new (.map #[] 0)):=by
   intro H2;unfold rH;cases r with
   |none=>rfl
   |some x=>
    simp only;split<;>rfl
  rw [key H]at h;cases hq:rH P ev t r {m:= .nil,next:=0}with
  |none=>rw [hq]at h;cases h
  |some q=>
   rw [hq]at h;cases h;refine⟨trivial,_,rfl,fun H2 h2=> ?_⟩;show eT (rH P ev t r H2)=_;rw [key H2,hq];simp only [Option.map_some,eT,h2]
 |makeSlice t l c=>
  rw [ho]at h;have h:eT (dj P t (ev l) (ev c) H)= .ok v H1:=h;obtain⟨q,hq⟩:∃q,dj P t (ev l) (ev c) H=some q:=by
   cases hq:dj P t (ev l) (ev c) H with
   |none=>rw [hq]at h;cases h
   |some q=>exact⟨q,rfl⟩
  rw [hq]at h;have vG:=hq;unfold dj at vG;simp only [dN]at vG;obtain⟨e,h1,inf,h2,z,h3,n,h4,m,h5,h6⟩:=vG;cases hb:(Nat.ble n m&&Nat.ble 1 inf.size&&bounded m inf.bytes&&Nat.beq z.cells.size inf.size)with
  |false=>rw [hb]at h6;cases h6
  |true=>
   rw [hb]at h6;cases h6;cases h;refine⟨trivial,_,rfl,fun H2 hn=> ?_⟩;show eT (dj P t (ev l) (ev c) H2)=_;unfold dj;simp only [h1,h2,h3,h4,h5,Option.bind_some,hb,cond_true,eT,hn]
 |_=>rw [ho]at hk;cases hk
end
end
section
open Go.RowKit
def AS {a b:Value} (h:Cm a b=true):a=b:=by
 unfold Cm at h;split at h
 .simp only [ae,bE]at h;rw [h.1,h.2]
 .simp only [fW]at h;rw [h]
 .simp only [bE]at h;rw [h]
 .rfl
 .simp only [ae]at h;rw [ac h.1,ac h.2]
 .rfl
 .rfl
 .rfl
 .simp only [bE]at h;rw [h]
 .cases h
def JZ {f:Value->Value->Bool} (hf:∀a b,f a b=true->a=b):∀{l m:List Value},Ha f l m=true->l=m
 |[],[],_=>rfl
 |[],_::_,h=>by cases h
 |_::_,[],h=>by cases h
 |a::l,b::m,h=>by
  have e:Ha f (a::l) (b::m)=cond (f a b) (Ha f l m) false:=rfl;rw [e]at h;cases hc:f a b with
  |false=>rw [hc]at h;cases h
  |true=>rw [hc]at h;rw [hf a b hc,JZ hf h]
def J0:∀(n:Nat) {a b:Value},xK n a b=true->a=b
 |0,_,_,h=>AS h
 |n+1,a,b,h=>by
  unfold xK at h;split at h
  .rw [JZ (fun _ _ h=>J0 n h) h]
  .rw [JZ (fun _ _ h=>J0 n h) h]
  .exact AS h
def ul {a b:bh} (h:bh.same a b=true):a=b:=by
 unfold bh.same at h;split at h
 .rw [ac h]
 .rfl
 .rfl
 .cases h
def Rj {α:Type} {f:α->α->Bool} (hf:∀a b,f a b=true->a=b):∀{l m:List α},l.length=m.length->(l.zip m).all (fun p=>f p.1 p.2)=true->l=m
 |[],[],_,_=>rfl
 |[],_::_,h,_=>by simp at h
 |_::_,[],h,_=>by simp at h
 |a::l,b::m,h,k=>by
  simp only [List.zip_cons_cons,List.all_cons,ae]at k;rw [hf a b k.1,Rj hf (by simpa using h) k.2]
def av.zX:∀(t:av) {a b:t.den},t.beq a b=true->a=b
 | .int _,a,b,h=>ap h
 | .bool,a,b,h=>eq_of_beq h
 | .str,a,b,h=>ap h
 | .list _ t,a,b,h=>by
   have h:(Nat.beq a.length b.length&&(a.zip b).all fun p=>t.beq p.1 p.2)=true:=h;rw [ae]at h;exact Rj (fun a b h=>t.zX h) (ac h.1) h.2
 | .pair s t,a,b,h=>by
   have h:(s.beq a.1 b.1&&t.beq a.2 b.2)=true:=h;rw [ae]at h;exact Prod.ext (s.zX h.1) (t.zX h.2)
 | .ptr t,_,_,h=>t.zX h
 | .unit,_,_,_=>rfl
def Rk {t u:av} {xs:List t.den} {ys:List u.den} (h:Hb t u xs ys=true):∃e:u=t,xs=e ▸ ys:=by
 unfold Hb at h;split at h
 .rename_i e;exact⟨e,(av.zX (.list false t) h:(xs:List t.den)=_)⟩
 .cases h
def Rl {a b:af} (h:vF a b=true):a=b:=by
 unfold vF at h;split at h
 .simp only [ae]at h;obtain⟨e,h2⟩:=Rk h.2;subst e;subst h2;rw [eq_of_beq h.1]
 .simp only [ae]at h;obtain⟨e,h2⟩:=Rk h.1;subst e;subst h2;rw [ac h.2.1,ac h.2.2]
 .simp only [ae,bE]at h;obtain⟨h1,h2,h3,h4,h5,h6⟩:=h;subst h2;rw [ac h1,ac h3,ac h4,ac h5,ul h6]
 .simp only [ae,bE]at h;obtain⟨h1,h2,h3,h4,h5⟩:=h;subst h2;rw [ac h1,ac h3,ac h4,ac h5]
 .rw [J0 3 h]
 .simp only [ae]at h;rw [ac h.1,ac h.2]
 .simp only [ae]at h;rw [ac h.1.1.1,ac h.1.1.2,ac h.1.2,ul h.2]
 .rw [ac h]
 .simp only [bE]at h;rw [h]
 .rw [ac h]
 .cases h
def xM:∀{l m:List af},qv l m=true->l=m
 |[],[],_=>rfl
 |[],_::_,h=>by cases h
 |_::_,[],h=>by cases h
 |a::l,b::m,h=>by
  simp only [qv,ae]at h;rw [Rl h.1,xM h.2]
def abR {a b:af} (h:af.same a b=true):a=b:=by
 unfold af.same at h;split at h
 .rw [xM h]
 .rw [xM h]
 .simp only [ae,bE]at h;rw [h.1,xM h.2.1,xM h.2.2]
 .simp only [ae,bE]at h;rw [h.1,xM h.2.1,xM h.2.2]
 .exact Rl h
def Cp {i:Nat}:∀{l:List Nat},kV i l=true↔i∈l
 |[]=>by simp [kV]
 |a::l=>by
  have e:kV i (a::l)= @Bool.rec (fun _=>Bool) (kV i l) true (Nat.beq a i):=rfl;rw [e];cases hb:Nat.beq a i with
  |false=>have:=Nat.ne_of_beq_eq_false hb;simp only [Cp,ew];exact⟨.inr,fun h=>h.resolve_left fun e=>this e.symm⟩
  |true=>simp [ac hb]
def Rm {l ds:List Nat} (h:tR l ds=true):∀i∈l,i∈ds:=fun i hi=>Cp.1 (List.all_eq_true.1 h i hi)
def Rn {bQ:au Nat} {e:Nat}:∀{ds:List Nat},(∀d∈ds,(bQ.get d).getD 0<=e)->level bQ ds<=e
 |[],_=>Nat.zero_le _
 |a::l,h=>by
  have e:level bQ (a::l)=Nat.max ((bQ.get a).getD 0) (level bQ l):=rfl;rw [e];exact Nat.max_le.2 ⟨h a mj,Rn fun d hd=>h d (mh _ hd)⟩
def Ro {t k:Nat} {o:Oper}:∀{l:List Oper} {i:Nat},i8 t l i=some (k,o)->i<=k/\l[k-i]? =some o/\o.dst=some t
 |[],_,h=>by cases h
 |a::l,i,h=>by
  have e:i8 t (a::l) i=cond (xI t a) (some (i,a)) (i8 t l (i+1)):=rfl;rw [e]at h;cases hd:xI t a with
  |true=>
   rw [hd]at h;cases h;refine⟨aK _,by simp, ?_⟩;unfold xI at hd;split at hd
   .rename_i d he;rw [he,ac hd]
   .cases hd
  |false=>
   rw [hd]at h;obtain⟨h1,h2,h3⟩:=Ro (l:=l) h;refine⟨by omega, ?_,h3⟩;have:k-i=(k-(i+1))+1:=by omega
   rw [this];simpa using h2
def Rp {t:Nat}:∀{l:List Oper} {i:Nat},i8 t l i=none->∀o∈l,o.dst≠some t
 |[],_,_,o,ho=>by simp at ho
 |a::l,i,h,o,ho=>by
  have e:i8 t (a::l) i=cond (xI t a) (some (i,a)) (i8 t l (i+1)):=rfl;rw [e]at h;cases hd:xI t a with
  |true=>rw [hd]at h;cases h
  |false=>
   rw [hd]at h;rcases ew.1 ho with rfl |ho
   .intro hh;unfold xI at hd;rw [hh]at hd;have:Nat.beq t t=true:=Nat.beq_refl t;simp only at hd;rw [this]at hd;cases hd
   .exact Rp (l:=l) h o ho
def Rq {ops:List Oper}:∀{l:List Oper} {i:Nat},rO ops l i=true->∀j o,l[j]? =some o->xJ ops (i+j) o=true
 |[],i,h,j,o,hj=>by simp at hj
 |a::l,i,h,j,o,hj=>by
  have e:rO ops (a::l) i=cond (xJ ops i a) (rO ops l (i+1)) false:=rfl;rw [e]at h;cases hc:xJ ops i a with
  |false=>rw [hc]at h;cases h
  |true=>
   rw [hc]at h;cases j with
   |zero=>simp at hj;subst hj;exact hc
   |succ j=>
    have:=Rq (l:=l) h j o (by simpa using hj);have e:i+1+j=i+(j+1):=by omega
    rwa [e]at this
structure abS (ops:Array Oper) (i:Nat) (o:Oper):Prop where
 lt:∀d∈cB o,d<i
 slot:∀t,Operand.tmp t∈o.op.operands.toList->(∀(j:Nat) (p:Oper),ops[j]? =some p->p.dst≠some t)\/∃(k:Nat) (p:Oper),ops[k]? =some p/\p.dst=some t/\(k∈cB o\/i∈cB p)
 dst:∀t,o.dst=some t->∀(j:Nat) (p:Oper),ops[j]? =some p->p.dst=some t->j=i
 guard:∀g,o.guard=some g->g.1∈cB o
def tT {ops:Array Oper} (h:rO ops.toList ops.toList 0=true) {i:Nat} {o:Oper} (hi:ops[i]? =some o):abS ops i o:=by
 have at':∀{j:Nat} {p:Oper},ops[j]? =some p->xJ ops.toList j p=true:=fun {j p} hj=>by
  have:=Rq h j p (by simpa using hj);simpa using this
 have own:∀{j:Nat} {p:Oper} {t:Tmp},ops[j]? =some p->p.dst=some t->∃q,i8 t ops.toList 0=some (j,q):=fun {j p t} hj ht=>by
  have hk:=at' hj;simp only [xJ,ae,ht]at hk;have h3:=hk.1.2;split at h3
  .rename_i q hq;have:=ac h3;exact⟨q.2,by rw [hq];simp [<-this]⟩
  .cases h3
 have hk:=at' hi;simp only [xJ,ae,List.all_eq_true]at hk;obtain⟨⟨⟨h1,h2⟩,h3⟩,h4⟩:=hk;refine⟨fun d hd=>bV (h1 d hd),fun t ht=> ?_,fun t ht j p hj hp=> ?_,fun g hg=> ?_⟩
 .have Cq:=h2 t (List.mem_filterMap.2 ⟨_,ht,rfl⟩);cases hw:i8 t ops.toList 0 with
  |none=>exact .inl fun j p hj=>Rp hw p (List.mem_of_getElem? (by simpa using hj))
  |some q=>
   obtain⟨k,p⟩:=q;rw [hw]at Cq;obtain⟨_,e2,e3⟩:=Ro hw;simp only [Bool.or_eq_true,Cp]at Cq;exact .inr ⟨k,p,by simpa using e2,e3,Cq⟩
 .obtain⟨q,hq⟩:=own hi ht;obtain⟨q',Rr⟩:=own hj hp;rw [hq]at Rr;cases Rr;rfl
 .rw [hg]at h4;exact Cp.1 h4
section
variable {T aO:au af} {n:Nat} {dst:Option Tmp} {v:af}
def Cr (h:iP T n dst v=some aO) (t:Nat):aO.get t=if dst=some t then some v else T.get t:=by
 cases dst with
 |none=>cases h;simp
 |some d=>
  have e:iP T n (some d) v= @Bool.rec (fun _=>Option (au af)) none (some (T.set d (some v))) (Nat.ble (Nat.succ d) n):=rfl;rw [e]at h;cases hb:Nat.ble (Nat.succ d) n with
  |false=>rw [hb]at h;cases h
  |true=>
   rw [hb]at h;cases h;rw [au.gp];by_cases hd:d=t<;>simp [hd]
def abT (h:iP T n dst v=some aO) (T2:au af):∃abU,iP T2 n dst v=some abU:=by
 cases dst with
 |none=>exact⟨_,rfl⟩
 |some d=>
  have e:∀T,iP T n (some d) v= @Bool.rec (fun _=>Option (au af)) none (some (T.set d (some v))) (Nat.ble (Nat.succ d) n):=fun _=>rfl
  rw [e]at h ⊢;cases hb:Nat.ble (Nat.succ d) n with
  |false=>rw [hb]at h;cases h
  |true=>exact⟨_,rfl⟩
end
inductive J1 (P:Program) (call:eC) (round:jW) (ops:Array Oper) (o:Oper) (s:gu) (v:af) (s':gu):Prop
 |skip (h:gS s.T ops o=some false) (hv:v= .raw undef) (hk:s'.k=s.k) (hc:s'.cur=s.cur) (hh:s'.hs=s.hs) (hl:s'.bQ=s.bQ.set s.i (some (level s.bQ (cB o)))) (hp:s'.dJ=s.dJ) (ha:s'.dm=s.dm)
 |p (h:gS s.T ops o=some true) (gG:mG P o.op= .p) (hop:∃H,fc o.op P o (cq s.T) s.cur= .ok v H) (hk:s'.k=s.k) (hc:s'.cur=s.cur) (hh:s'.hs=s.hs) (hl:s'.bQ=s.bQ.set s.i (some (level s.bQ (cB o)))) (hp:s'.dJ=s.dJ) (ha:s'.dm=s.dm)
 |r (h:gS s.T ops o=some true) (gG:mG P o.op= .r) (hr:rP P o (cq s.T) v (s.hs.take (s.k+1-level s.bQ (cB o)))=true) (hk:s'.k=s.k) (hc:s'.cur=s.cur) (hh:s'.hs=s.hs) (hl:s'.bQ=s.bQ.set s.i (some (level s.bQ (cB o)))) (hp:s'.dJ=⟨s.i,o,s.T,v⟩::s.dJ) (ha:s'.dm=s.dm)
 |a (h:gS s.T ops o=some true) (gG:(mG P o.op).al=true) (hop:fc o.op P o (cq s.T) s.cur= .ok v s'.cur) (hk:s'.k=s.k) (hh:s'.hs=s.hs) (hl:s'.bQ=s.bQ.set s.i (some (level s.bQ (cB o)))) (hp:s'.dJ=s.dJ) (ha:s'.dm=s.i::s.dm)
 |e (h:gS s.T ops o=some true) (hlv:level s.bQ (cB o)=s.k) (hs:∀j∈s.dm,j∈cB o) (hop:fx P call round o (cq s.T) s.cur= .ok v s'.cur) (gU:qw P s'.cur (jC (cB o) s.dJ)=true)
    (hk:s'.k=s.k+1) (hh:s'.hs=s'.cur::s.hs) (hl:s'.bQ=s.bQ.set s.i (some (s.k+1))) (hp:s'.dJ=jC (cB o) s.dJ) (ha:s'.dm=[])
def J2 {P:Program} {call:eC} {round:jW} {ops:Array Oper} {n:Nat} {o:Oper} {s s':gu} (h:tS P call round ops n o s=some s'):∃v,iP s.T n o.dst v=some s'.T/\s'.i=s.i+1/\J1 P call round ops o s v s':=by
 unfold tS at h;simp only [mH]at h;split at h
 .cases h
 .rename_i hw;simp only [am]at h;obtain⟨T,hT,rfl⟩:=h;exact⟨_,hT,rfl, .skip hw rfl rfl rfl rfl rfl rfl rfl⟩
 .rename_i hw;split at h
  .rename_i gG;split at h
   .rename_i v H hop;simp only [am]at h;obtain⟨T,hT,rfl⟩:=h;exact⟨v,hT,rfl, .p hw gG ⟨H,hop⟩ rfl rfl rfl rfl rfl rfl⟩
   .cases h
  .rename_i gG;split at h
   .split at h
    .rename_i H l Rs v H' hop;cases hr:rP P o (cq s.T) v (s.hs.take (s.k+1-level s.bQ (cB o)))with
     |false=>rw [hr]at h;cases h
     |true=>
      rw [hr]at h;simp only [cond_true,am]at h;obtain⟨T,hT,rfl⟩:=h;exact⟨v,hT,rfl, .r hw gG hr rfl rfl rfl rfl rfl rfl⟩
    .cases h
   .cases h
  .rename_i gG;split at h
   .rename_i v H hop;simp only [am]at h;obtain⟨T,hT,rfl⟩:=h;exact⟨v,hT,rfl, .a hw (by rw [gG];rfl) hop rfl rfl rfl rfl rfl⟩
   .cases h
  .rename_i gG;cases hc:(Nat.beq (level s.bQ (cB o)) s.k&&tR s.dm (cB o))with
   |false=>rw [hc]at h;cases h
   |true=>
    rw [hc]at h;simp only [ae]at hc;simp only [cond_true]at h;split at h
    .rename_i v H hop;cases hp:qw P H (jC (cB o) s.dJ)with
     |false=>rw [hp]at h;cases h
     |true=>
      rw [hp]at h;simp only [cond_true,am]at h;obtain⟨T,hT,rfl⟩:=h;exact⟨v,hT,rfl, .e hw (ac hc.1) (Rm hc.2) hop hp rfl rfl rfl rfl rfl⟩
    .cases h
  .rename_i gG;cases hc:(Nat.beq (level s.bQ (cB o)) s.k&&tR s.dm (cB o))with
   |false=>
    rw [hc]at h;simp only [cond_false]at h;split at h
    .rename_i v H hop;simp only [am]at h;obtain⟨T,hT,rfl⟩:=h;exact⟨v,hT,rfl, .a hw (by rw [gG];rfl) hop rfl rfl rfl rfl rfl⟩
    .cases h
   |true=>
    rw [hc]at h;simp only [ae]at hc;simp only [cond_true]at h;split at h
    .rename_i v H hop;cases hp:qw P H (jC (cB o) s.dJ)with
     |false=>rw [hp]at h;cases h
     |true=>
      rw [hp]at h;simp only [cond_true,am]at h;obtain⟨T,hT,rfl⟩:=h;exact⟨v,hT,rfl, .e hw (ac hc.1) (Rm hc.2) hop hp rfl rfl rfl rfl rfl⟩
    .cases h
def Fd {P:Program} {call:eC} {round:jW} {ops:Array Oper} {n:Nat} {aO:au af} {H':ai}:∀{l:List Oper} {s:gu},xL P call round ops n l s= .mk aO H'->
  ∃S:Nat->gu,S 0=s/\(∀i o,l[i]? =some o->tS P call round ops n o (S i)=some (S (i+1)))/\(S l.length).T=aO/\(S l.length).cur=H'
 |[],s,h=>by cases h;exact⟨fun _=>s,rfl,fun i o h=>by simp at h,rfl,rfl⟩
 |o::l,s,h=>by
  have e:xL P call round ops n (o::l) s=match tS P call round ops n o s with
   |some s=>xL P call round ops n l s
   |none=> .no:=rfl
  rw [e]at h;cases hs:tS P call round ops n o s with
  |none=>rw [hs]at h;cases h
  |some s1=>
   rw [hs]at h;obtain⟨S,h0,h1,h2,h3⟩:=Fd (l:=l) h;refine⟨fun i=>match i with |0=>s|i+1=>S i,rfl,fun i o' hi=> ?_,h2,h3⟩;cases i with
   |zero=>simp at hi;subst hi;simp only [h0];exact hs
   |succ i=>exact h1 i o' (by simpa using hi)
structure dh (P:Program) (call:eC) (round:jW) (ops:Array Oper) (n:Nat) (S:Nat->gu) (V:Nat->af):Prop where
 ok:rO ops.toList ops.toList 0=true
 Cs:∃T H,S 0={i:=0,k:=0,T:=T,cur:=H,hs:=[H],bQ:= .nil,dJ:=[],dm:=[]}
 put:∀i o,ops[i]? =some o->iP (S i).T n o.dst (V i)=some (S (i+1)).T
 kind:∀i o,ops[i]? =some o->J1 P call round ops o (S i) (V i) (S (i+1))
 i:∀i,i<=ops.size->(S i).i=i
def Rt {P:Program} {call:eC} {round:jW} {ops:Array Oper} {n:Nat} {T aO:au af} {H H':ai} (h:zW P call round ops n T H= .mk aO H'):
  ∃S V,dh P call round ops n S V/\(S 0).T=T/\(S 0).cur=H/\(S ops.size).T=aO/\(S ops.size).cur=H':=by
 unfold zW at h;cases hk:rO ops.toList ops.toList 0 with
 |false=>rw [hk]at h;cases h
 |true=>
  rw [hk]at h;obtain⟨S,h0,h1,h2,h3⟩:=Fd (l:=ops.toList) h;have step:∀i o,ops[i]? =some o->tS P call round ops n o (S i)=some (S (i+1)):=fun i o hi=>h1 i o (by simpa using hi)
  classical
  refine⟨S,fun i=>match ops[i]? with |some o=>if h:∃v,iP (S i).T n o.dst v=some (S (i+1)).T/\(S (i+1)).i=(S i).i+1/\J1 P call round ops o (S i) v (S (i+1))then h.choose else .raw undef|none=> .raw undef,⟨hk,⟨T,H,h0⟩,fun i o hi=> ?_,fun i o hi=> ?_,fun i=> ?_⟩,by rw [h0],by rw [h0],by simpa using h2,by simpa using h3⟩
  .have hx:=J2 (step i o hi);simp only [hi,dif_pos hx];exact hx.choose_spec.1
  .have hx:=J2 (step i o hi);simp only [hi,dif_pos hx];exact hx.choose_spec.2.2
  .induction i with
   |zero=>intro _;rw [h0]
   |succ i ih=>
    intro hi;have hlt:i<ops.size:=hi;obtain⟨v,_,e,_⟩:=J2 (step i ops[i] (by simp));rw [e,ih (Nat.le_of_lt hlt)]
variable [Ground]
def Ru {bQ E3:au Nat}:∀{ds:List Nat},(∀d∈ds,bQ.get d=E3.get d)->level bQ ds=level E3 ds
 |[],_=>rfl
 |a::l,h=>by
  show Nat.max ((bQ.get a).getD 0) (level bQ l)=Nat.max ((E3.get a).getD 0) (level E3 l);rw [h a mj,Ru fun d hd=>h d (mh _ hd)]
def E4 {ds:List Nat} {q:pq} (hq:¬q.i∈ds):∀{l:List pq},q∈l->q∈jC ds l
 |[],h=>by cases h
 |a::l,h=>by
  show q∈cond (kV a.i ds) (jC ds l) (a::jC ds l);cases hm:kV a.i ds with
  |true=>
   rcases ew.1 h with rfl |h
   .exact absurd (Cp.1 hm) hq
   .exact E4 hq h
  |false=>
   rcases ew.1 h with rfl |h
   .exact mj
   .exact mh _ (E4 hq h)
def Rv {P:Program} {H:ai} {q:pq}:∀{l:List pq},qw P H l=true->q∈l->ll P q.o (cq q.T) q.v H=true
 |[],_,h=>by cases h
 |a::l,hp,h=>by
  have e:qw P H (a::l)=cond (ll P a.o (cq a.T) a.v H) (qw P H l) false:=rfl;rw [e]at hp;cases hr:ll P a.o (cq a.T) a.v H with
  |false=>rw [hr]at hp;cases hp
  |true=>
   rw [hr]at hp;rcases ew.1 h with rfl |h
   .exact hr
   .exact Rv hp h
def Rw {P:Program} {o:Oper} {ev:dO} {v:af} {H:ai}:∀{l:List ai},rP P o ev v l=true->H∈l->ll P o ev v H=true
 |[],_,h=>by cases h
 |a::l,hp,h=>by
  have e:rP P o ev v (a::l)=cond (ll P o ev v a) (rP P o ev v l) false:=rfl;rw [e]at hp;cases hr:ll P o ev v a with
  |false=>rw [hr]at hp;cases hp
  |true=>
   rw [hr]at hp;rcases ew.1 h with rfl |h
   .exact hr
   .exact Rw hp h
def abV {P:Program} {o:Oper} {ev:dO} {v:af} {H:ai} (hk:mG P o.op= .r) (h:ll P o ev v H=true):fc o.op P o ev H= .ok v H:=by
 unfold ll at h;split at h
 .rename_i v' H' hop;rw [hop,abR h,abQ hk hop]
 .cases h
section
variable {P:Program} {call:eC} {round:jW} {ops:Array Oper} {n:Nat} {S:Nat->gu} {V:Nat->af}
def lR {i:Nat} (h:i<ops.size):∃o,ops[i]? =some o:=⟨ops[i],by simp⟩
abbrev e6 (S:Nat->gu) (m:Nat):Prop:=(S (m+1)).k=(S m).k+1
abbrev j3 (S:Nat->gu) (j:Nat):Prop:=(S (j+1)).dm=j::(S j).dm
noncomputable abbrev lvl (S:Nat->gu) (N j:Nat):Nat:=((S N).bQ.get j).getD 0
noncomputable abbrev hpf (S:Nat->gu) (N e:Nat):ai:=((S N).hs.reverse[e]?).getD {m:= .nil,next:=0}
variable (R:dh P call round ops n S V)
include R
def dh.Rx {i:Nat} (hi:i<ops.size):(S (i+1)).k=(S i).k\/(S (i+1)).k=(S i).k+1:=by
 obtain⟨o,ho⟩:=lR hi;cases R.kind i o ho with
 |skip _ _ hk=>exact .inl hk
 |p _ _ _ hk=>exact .inl hk
 |r _ _ _ hk=>exact .inl hk
 |a _ _ _ hk=>exact .inl hk
 |e _ _ _ _ _ hk=>exact .inr hk
def dh.rQ {i:Nat}:∀{j:Nat},i<=j->j<=ops.size->(S i).k<=(S j).k
 |0,h,_=>by have:i=0:=by omega
            subst this;exact aK _
 |j+1,h,hj=>by
  by_cases hi:i=j+1
  .subst hi;exact aK _
  .have h1:=dh.rQ (i:=i) (j:=j) (by omega) (by omega);have h2:=R.Rx (i:=j) (by omega);omega
def dh.E5 {i e:Nat}:∀{j:Nat},i<=j->j<=ops.size->(S i).k<e->e<=(S j).k->∃m,i<=m/\m<j/\(S m).k+1=e/\e6 S m
 |0,h,_,h1,h2=>by have:i=0:=by omega
                  subst this;omega
 |j+1,h,hj,h1,h2=>by
  by_cases hi:i=j+1
  .subst hi;omega
  .by_cases he:e<=(S j).k
   .obtain⟨m,a,b,c,d⟩:=dh.E5 (j:=j) (by omega) (by omega) h1 he;exact⟨m,a,by omega,c,d⟩
   .have h3:=R.Rx (i:=j) (by omega);exact⟨j,by omega,by omega,by omega,by unfold e6;omega⟩
def dh.k0:(S 0).k=0:=by obtain⟨T,H,h⟩:=R.Cs;rw [h]
def dh.Ry (hC:bD P call) (hR:lN P round) {i:Nat} (hi:i<ops.size):(S i).cur.next<=(S (i+1)).cur.next:=by
 obtain⟨o,ho⟩:=lR hi;cases R.kind i o ho with
 |skip _ _ _ hc=>exact Nat.le_of_eq (by rw [hc])
 |p _ _ _ _ hc=>exact Nat.le_of_eq (by rw [hc])
 |r _ _ _ _ hc=>exact Nat.le_of_eq (by rw [hc])
 |a _ gG hop=>
  obtain⟨_,blk,e,_⟩:=Co gG hop;rw [e];exact Nat.le_succ _
 |e _ _ _ hop=>exact ui hC hR hop
def dh.pz (hC:bD P call) (hR:lN P round) {i:Nat}:∀{j:Nat},i<=j->j<=ops.size->(S i).cur.next<=(S j).cur.next
 |0,h,_=>by have:i=0:=by omega
            subst this;exact aK _
 |j+1,h,hj=>by
  by_cases hi:i=j+1
  .subst hi;exact aK _
  .exact dc (dh.pz hC hR (i:=i) (j:=j) (by omega) (by omega)) (R.Ry hC hR (by omega))
def dh.abW {i x:Nat} (hi:i<ops.size) (hx:x≠i):(S (i+1)).bQ.get x=(S i).bQ.get x:=by
 obtain⟨o,ho⟩:=lR hi;have e:=R.i i (Nat.le_of_lt hi);have key:∀y,((S i).bQ.set (S i).i (some y)).get x=(S i).bQ.get x:=fun y=>by rw [au.gp,e,if_neg fun h=>hx h.symm]
 cases R.kind i o ho with
 |skip _ _ _ _ _ hl=>rw [hl,key]
 |p _ _ _ _ _ _ hl=>rw [hl,key]
 |r _ _ _ _ _ _ hl=>rw [hl,key]
 |a _ _ _ _ _ hl=>rw [hl,key]
 |e _ _ _ _ _ _ _ hl=>rw [hl,key]
def dh.J3 {i x:Nat} (hx:x<i):∀{j:Nat},i<=j->j<=ops.size->(S j).bQ.get x=(S i).bQ.get x
 |0,h,_=>by omega
 |j+1,h,hj=>by
  by_cases hi:i=j+1
  .subst hi;rfl
  .rw [R.abW (by omega) (by omega),dh.J3 hx (j:=j) (by omega) (by omega)]
def dh.level {i:Nat} {o:Oper} (ho:ops[i]? =some o):level (S i).bQ (cB o)=level (S ops.size).bQ (cB o):=by
 have hi:i<ops.size:=(dG.1 ho).1;exact Ru fun d hd=>(R.J3 ((tT R.ok ho).lt d hd) (Nat.le_of_lt hi) (aK _)).symm
def dh.J4 {i:Nat} {o:Oper} (ho:ops[i]? =some o):(e6 S i/\lvl S ops.size i=(S i).k+1)\/(¬e6 S i/\lvl S ops.size i=Sv.level (S ops.size).bQ (cB o)):=by
 have hi:i<ops.size:=(dG.1 ho).1;have e:=R.i i (Nat.le_of_lt hi);have h1:lvl S ops.size i=((S (i+1)).bQ.get i).getD 0:=by unfold lvl;rw [R.J3 (fL i) hi (aK _)]
 have key:∀y,(S (i+1)).bQ=(S i).bQ.set (S i).i (some y)->lvl S ops.size i=y:=fun y h=>by rw [h1,h,au.gp,e,if_pos rfl];rfl
 have hl:=R.level ho;cases R.kind i o ho with
 |skip _ _ hk _ _ hh=>exact .inr ⟨by unfold e6;omega,by rw [key _ hh,hl]⟩
 |p _ _ _ hk _ _ hh=>exact .inr ⟨by unfold e6;omega,by rw [key _ hh,hl]⟩
 |r _ _ _ hk _ _ hh=>exact .inr ⟨by unfold e6;omega,by rw [key _ hh,hl]⟩
 |a _ _ _ hk _ hh=>exact .inr ⟨by unfold e6;omega,by rw [key _ hh,hl]⟩
 |e _ _ _ _ _ hk _ hh=>exact .inl ⟨hk,by rw [key _ hh]⟩
def dh.E6 {i:Nat} (hi:i<ops.size):((S (i+1)).hs=(S i).hs/\(S (i+1)).k=(S i).k)\/((S (i+1)).hs=(S (i+1)).cur::(S i).hs/\(S (i+1)).k=(S i).k+1):=by
 obtain⟨o,ho⟩:=lR hi;cases R.kind i o ho with
 |skip _ _ hk _ hh=>exact .inl ⟨hh,hk⟩
 |p _ _ _ hk _ hh=>exact .inl ⟨hh,hk⟩
 |r _ _ _ hk _ hh=>exact .inl ⟨hh,hk⟩
 |a _ _ _ hk hh=>exact .inl ⟨hh,hk⟩
 |e _ _ _ _ _ hk hh=>exact .inr ⟨hh,hk⟩
def dh.E7 {i:Nat} (hi:i<=ops.size):(S i).hs.length=(S i).k+1:=by
 induction i with
 |zero=>obtain⟨T,H,h⟩:=R.Cs;rw [h];rfl
 |succ i ih=>
  have ih:=ih (Nat.le_of_succ_le hi);rcases R.E6 (i:=i) hi with⟨a,b⟩|⟨a,b⟩
  .rw [a,b,ih]
  .rw [a,b,List.length_cons,ih]
def dh.Rz {i e:Nat} (he:e<=(S i).k):∀{j:Nat},i<=j->j<=ops.size->(S j).hs.reverse[e]? =(S i).hs.reverse[e]?
 |0,h,_=>by have:i=0:=by omega
            subst this;rfl
 |j+1,h,hj=>by
  by_cases hi:i=j+1
  .subst hi;rfl
  .have ih:=dh.Rz he (j:=j) (by omega) (by omega);rcases R.E6 (i:=j) hj with⟨a,b⟩|⟨a,b⟩
   .rw [a,ih]
   .have hl:=R.E7 (i:=j) (by omega);have hm:=R.rQ (i:=i) (j:=j) (by omega) (by omega);rw [a,List.reverse_cons,List.getElem?_append_left (by simp;omega),ih]
def dh.J5 {i e:Nat} (hi:i<=ops.size) (he:e<=(S i).k):(S i).hs.reverse[e]? =some (hpf S ops.size e):=by
 have h1:=R.Rz he hi (aK _);have hl:=R.E7 hi;have h2:∃x,(S i).hs.reverse[e]? =some x:=⟨_,BH (by simp;omega)⟩;obtain⟨x,hx⟩:=h2;unfold hpf;rw [h1,hx];rfl
def dh.E8 {i:Nat} (hi:i<ops.size) (he:e6 S i):hpf S ops.size ((S i).k+1)=(S (i+1)).cur:=by
 have h1:=R.J5 (i:=i+1) (e:=(S i).k+1) hi (by unfold e6 at he;omega);have hl:=R.E7 (i:=i) (by omega);unfold e6 at he;rcases R.E6 (i:=i) hi with⟨a,b⟩|⟨a,b⟩
 .omega
 .rw [a,List.reverse_cons,List.getElem?_append_right (by simp;omega)]at h1;simp [hl]at h1;exact h1.symm
def dh.J6:hpf S ops.size 0=(S 0).cur:=by
 have h1:=R.J5 (i:=0) (e:=0) (Nat.zero_le _) (Nat.zero_le _);obtain⟨T,H,h⟩:=R.Cs;rw [h]at h1 ⊢;simp at h1;exact h1.symm
def dh.abX {i e l:Nat} (hi:i<=ops.size) (he:e<=(S i).k) (hl:l<=e):hpf S ops.size e∈(S i).hs.take ((S i).k+1-l):=by
 have h1:=R.J5 hi he;have hn:=R.E7 hi;rw [List.getElem?_reverse (by omega)]at h1;refine List.mem_of_getElem? (i:=(S i).hs.length-1-e) ?_;rw [List.getElem?_take_of_lt (by omega)];exact h1
def dh.J7 {i:Nat} (hi:i<=ops.size):∀j,j∈(S i).dm↔(j<i/\j3 S j/\(S j).k=(S i).k):=by
 induction i with
 |zero=>intro j;obtain⟨T,H,h⟩:=R.Cs;rw [h];simp
 |succ i ih=>
  have ih:=ih (Nat.le_of_succ_le hi);obtain⟨o,ho⟩:=lR (ops:=ops) (i:=i) hi;have e:=R.i i (Nat.le_of_lt hi);have same:(S (i+1)).dm=(S i).dm->(S (i+1)).k=(S i).k->∀j,j∈(S (i+1)).dm↔(j<i+1/\j3 S j/\(S j).k=(S (i+1)).k):=fun ha hk j=>by
   rw [ha,hk,ih];constructor
   .rintro⟨a,b,c⟩;exact⟨by omega,b,c⟩
   .rintro⟨a,b,c⟩;refine⟨?_,b,c⟩;by_cases hj:j=i
    .subst hj;unfold j3 at b;rw [ha]at b;have:=congrArg List.length b;simp at this
    .omega
  cases R.kind i o ho with
  |skip _ _ hk _ _ _ _ ha=>exact same ha hk
  |p _ _ _ hk _ _ _ _ ha=>exact same ha hk
  |r _ _ _ hk _ _ _ _ ha=>exact same ha hk
  |a _ _ _ hk _ _ _ ha=>
   intro j;rw [ha,hk,e,ew,ih];constructor
   .rintro(rfl |⟨a,b,c⟩)
    .exact⟨fL _,by unfold j3;rw [ha,e],rfl⟩
    .exact⟨by omega,b,c⟩
   .rintro⟨a,b,c⟩;by_cases hj:j=i
    .exact .inl hj
    .exact .inr ⟨by omega,b,c⟩
  |e _ _ _ _ _ hk _ _ _ ha=>
   intro j;rw [ha,hk];constructor
   .intro h;cases h
   .rintro⟨a,b,c⟩;have:=R.rQ (i:=j) (j:=i) (by omega) (by omega);omega
noncomputable abbrev vH (S:Nat->gu) (j:Nat):Option bq:=(S (j+1)).cur.get (S j).cur.next
def dh.RA {i:Nat} {o:Oper} (ho:ops[i]? =some o) (ha:j3 S i):gS (S i).T ops o=some true/\(mG P o.op).al=true/\fc o.op P o (cq (S i).T) (S i).cur= .ok (V i) (S (i+1)).cur/\(S (i+1)).k=(S i).k:=by
 have hi:i<ops.size:=(dG.1 ho).1;have no:(S (i+1)).dm=(S i).dm->False:=fun h=>by
  unfold j3 at ha;rw [h]at ha;have:=congrArg List.length ha;simp at this
 cases R.kind i o ho with
 |skip _ _ _ _ _ _ _ h=>exact(no h).elim
 |p _ _ _ _ _ _ _ _ h=>exact(no h).elim
 |r _ _ _ _ _ _ _ _ h=>exact(no h).elim
 |a h1 h2 h3 h4=>exact⟨h1,h2,h3,h4⟩
 |e _ _ _ _ _ _ _ _ _ h=>unfold j3 at ha;rw [h]at ha;cases ha
def dh.RB {i:Nat} (hi:i<=ops.size):(∀x b,(S i).cur.get x=some b->(hpf S ops.size (S i).k).get x=some b\/∃j∈(S i).dm,x=(S j).cur.next/\vH S j=some b)/\
  (∀x,(hpf S ops.size (S i).k).get x≠none->(S i).cur.get x≠none)/\(∀j∈(S i).dm,(S i).cur.get (S j).cur.next≠none):=by
 induction i with
 |zero=>
  rw [R.k0,R.J6];refine⟨fun x b h=> .inl h,fun x h=>h,fun j hj=> ?_⟩;obtain⟨T,H,h⟩:=R.Cs;rw [h]at hj;cases hj
 |succ i ih=>
  have ih:=ih (Nat.le_of_succ_le hi);obtain⟨o,ho⟩:=lR (ops:=ops) (i:=i) hi;have e:=R.i i (Nat.le_of_lt hi);cases R.kind i o ho with
  |skip _ _ hk hc _ _ _ ha=>rw [hk,hc,ha];exact ih
  |p _ _ _ hk hc _ _ _ ha=>rw [hk,hc,ha];exact ih
  |r _ _ _ hk hc _ _ _ ha=>rw [hk,hc,ha];exact ih
  |a _ gG hop hk _ _ _ ha=>
   obtain⟨_,blk,ny,_⟩:=Co gG hop;rw [hk,ha,e];refine⟨fun x b h=> ?_,fun x h=> ?_,fun j hj=> ?_⟩
   .rw [ny,ai.gK]at h;split at h
    .rename_i hx;refine .inr ⟨i,mj,hx.symm, ?_⟩;unfold vH;rw [ny,ai.gK,if_pos rfl,h]
    .rcases ih.1 x b h with h|⟨j,h1,h2⟩
     .exact .inl h
     .exact .inr ⟨j,mh _ h1,h2⟩
   .rw [ny,ai.gK];split
    .simp
    .exact ih.2.1 x h
   .rw [ny,ai.gK];split
    .simp
    .rename_i hne;rcases ew.1 hj with rfl |hj
     .exact absurd rfl hne
     .exact ih.2.2 j hj
  |e _ _ _ _ _ hk _ _ _ ha=>
   rw [hk,R.E8 hi hk,ha];exact⟨fun x b h=> .inl h,fun x h=>h,fun j hj=>by cases hj⟩
def dh.RC {i:Nat} {o:Oper} (ho:ops[i]? =some o) (hp:(S (i+1)).dJ=⟨(S i).i,o,(S i).T,V i⟩::(S i).dJ):∀{j:Nat},i<j->j<=ops.size->
  (∀m fh,i<m->m<j->e6 S m->ops[m]? =some fh->¬i∈cB fh)->(⟨(S i).i,o,(S i).T,V i⟩:pq)∈(S j).dJ
 |0,h,_,_=>by omega
 |j+1,h,hj,hm=>by
  by_cases hi:i=j
  .subst hi;rw [hp];exact mj
  .have ih:=dh.RC ho hp (j:=j) (by omega) (by omega) fun m fh h1 h2=>hm m fh h1 (by omega)
   obtain⟨oj,zY⟩:=lR (ops:=ops) (i:=j) hj;have kW:=R.i i (by omega);cases R.kind j oj zY with
   |skip _ _ _ _ _ _ hq=>rw [hq];exact ih
   |p _ _ _ _ _ _ _ hq=>rw [hq];exact ih
   |r _ _ _ _ _ _ _ hq=>rw [hq];exact mh _ ih
   |a _ _ _ _ _ _ hq=>rw [hq];exact ih
   |e _ _ _ _ _ hk _ _ hq=>rw [hq];exact E4 (by rw [kW];exact hm j oj (by omega) (fL _) hk zY) ih
def dh.read {i e:Nat} {o:Oper} (ho:ops[i]? =some o) (gG:mG P o.op= .r) (hr:rP P o (cq (S i).T) (V i) ((S i).hs.take ((S i).k+1-Sv.level (S i).bQ (cB o)))=true)
  (hp:(S (i+1)).dJ=⟨(S i).i,o,(S i).T,V i⟩::(S i).dJ) (hl:Sv.level (S ops.size).bQ (cB o)<=e) (he:e<=(S ops.size).k) (hm:∀m fh,m<ops.size->e6 S m->(S m).k<e->ops[m]? =some fh->¬i∈cB fh):
  fc o.op P o (cq (S i).T) (hpf S ops.size e)= .ok (V i) (hpf S ops.size e):=by
 have hi:i<ops.size:=(dG.1 ho).1;refine abV gG ?_;by_cases hk:e<=(S i).k
 .exact Rw hr (R.abX (Nat.le_of_lt hi) hk (by rw [R.level ho];exact hl))
 .obtain⟨m,h1,h2,h3,h4⟩:=R.E5 (i:=i) (j:=ops.size) (Nat.le_of_lt hi) (aK _) (by omega) he;obtain⟨fh,tU⟩:=lR h2;have him:i≠m:=fun hh=>by
   subst hh;rw [ho]at tU;cases tU;have hc:=R.kind i o ho;have:=R.E6 h2;cases hc with
   |skip _ _ hk=>unfold e6 at h4;omega
   |p _ _ _ hk=>unfold e6 at h4;omega
   |r _ _ _ hk=>unfold e6 at h4;omega
   |a _ _ _ hk=>unfold e6 at h4;omega
   |e _ _ _ _ _ _ _ _ hq=>
    have h1:=congrArg List.length (hp.symm.trans hq);have h2:∀(ds:List Nat) (l:List pq),(jC ds l).length<=l.length:=fun ds l=>by
     induction l with
     |nil=>exact aK _
     |cons a l ih=>
      show(cond (kV a.i ds) (jC ds l) (a::jC ds l)).length<=_;cases kV a.i ds<;>simp<;>omega
    have:=h2 (cB o) (S i).dJ;simp at h1;omega
  have hq:=R.RC ho hp (j:=m) (by omega) (Nat.le_of_lt h2) fun m' abY a b c d=>hm m' abY (by omega) c (by
   have:=R.rQ (i:=m') (j:=m) (by omega) (by omega);omega) d
  have kW:=R.i i (Nat.le_of_lt hi);cases R.kind m fh tU with
  |skip _ _ hk=>unfold e6 at h4;omega
  |p _ _ _ hk=>unfold e6 at h4;omega
  |r _ _ _ hk=>unfold e6 at h4;omega
  |a _ _ _ hk=>unfold e6 at h4;omega
  |e _ _ _ _ gU=>
   have:=Rv gU (E4 (by rw [kW];exact hm m fh h2 h4 (by omega) tU) hq);rw [<-R.E8 h2 h4,h3]at this;exact this
def dh.RD {t:Nat} (h:∀(j:Nat) (p:Oper),ops[j]? =some p->p.dst≠some t) {i:Nat} (hi:i<=ops.size):(S i).T.get t=(S 0).T.get t:=by
 induction i with
 |zero=>rfl
 |succ i ih=>
  obtain⟨o,ho⟩:=lR (ops:=ops) (i:=i) hi;rw [Cr (R.put i o ho),if_neg (h i o ho),ih (Nat.le_of_succ_le hi)]
def dh.abZ {t k:Nat} {p:Oper} (hk:ops[k]? =some p) (hp:p.dst=some t) {i:Nat} (hi:i<=k):(S i).T.get t=(S 0).T.get t:=by
 have qo:k<ops.size:=(dG.1 hk).1;induction i with
 |zero=>rfl
 |succ i ih=>
  obtain⟨o,ho⟩:=lR (ops:=ops) (i:=i) (by omega);rw [Cr (R.put i o ho),if_neg (fun hh=>by
   have:=(tT R.ok hk).dst t hp i o ho hh;omega),ih (Nat.le_of_succ_le hi)]
def dh.E9 {t k:Nat} {p:Oper} (hk:ops[k]? =some p) (hp:p.dst=some t):∀{i:Nat},k<i->i<=ops.size->(S i).T.get t=some (V k)
 |0,h,_=>by omega
 |i+1,h,hi=>by
  obtain⟨o,ho⟩:=lR (ops:=ops) (i:=i) (by omega);rw [Cr (R.put i o ho)];by_cases hik:i=k
  .subst hik;rw [hk]at ho;cases ho;rw [if_pos hp]
  .rw [if_neg (fun hh=>hik ((tT R.ok hk).dst t hp i o ho hh)),dh.E9 hk hp (i:=i) (by omega) (by omega)]
end
end
section
open Go.RowKit
variable [Ground]
structure rR (P:Program) (B:Nat) (eV:Env) (H0:ai) (w0:World) (top:Nat) (ρ:Env) (g:Nat->Option bq) (w:World):Prop where
 blk:∀i k,g i=some k->∃b c o,ρ i=some (b,c)/\w.heap[b]? =some o/\gT P ρ i k o/\(k.eU=false->B<=b)
 inj:∀i j eN e5 b ci cn,g i=some eN->g j=some e5->ρ i=some (b,ci)->ρ j=some (b,cn)->i=j
 base:B<=w.heap.size
 le:cD eV ρ
 ext:∀i,i<H0.next\/top<=i->ρ i=eV i
 size:w0.heap.size<=w.heap.size
 os:w.os=w0.os
 tape:w.tape=w0.tape
 output:w.output=w0.output
 frame:∀b,b<w0.heap.size->¬Own eV H0 b->w.heap[b]? =w0.heap[b]?
 own:∀b,b<w0.heap.size->∀i k c,g i=some k->k.eU=false->ρ i=some (b,c)->Own eV H0 b
 mB:∀b,b<w0.heap.size->∀i k c,g i=some k->ρ i=some (b,c)->o7 eV H0 b
 fz:∀b A,ρ.fz b=some A->(∃e fr,w.heap[b]? =some (.cells A e fr))/\∀i k c,g i=some k->ρ i=some (b,c)->k.eU=true
 nr:∀b A,ρ.fz b=some A->eV.fz b=some A\/w0.heap.size<=b\/Own eV H0 b
noncomputable def mI (g:Nat->Option bq) (X X':ai):Nat->Option bq:=fun x=>match X'.get x with
 |some k=>some k
 |none=>match X.get x with
  |some _=>none
  |none=>g x
section
variable {g:Nat->Option bq} {X X':ai} {x:Nat}
def Fa {k:bq} (h:X'.get x=some k):mI g X X' x=some k:=by unfold mI;rw [h]
def J8 (h:X'.get x=none) (h2:X.get x=none):mI g X X' x=g x:=by unfold mI;rw [h,h2]
def vI {k:bq} (h:mI g X X' x=some k):X'.get x=some k\/(X'.get x=none/\X.get x=none/\g x=some k):=by
 unfold mI at h;split at h
 .rename_i h1;cases h;exact .inl h1
 .rename_i h1;split at h
  .cases h
  .rename_i h2;exact .inr ⟨h1,h2,h⟩
end
def ab0 {g:Nat->Option bq} {X:ai} (h:∀x k,X.get x=some k->g x=some k):mI g X X=g:=by
 funext x;cases hx:X.get x with
 |none=>exact J8 hx hx
 |some k=>rw [Fa hx,h x k hx]
section
variable {P:Program} {B:Nat} {eV:Env} {H0:ai} {w0:World} {top:Nat} {ρ:Env} {g:Nat->Option bq} {w:World}
def rR.at (h:rR P B eV H0 w0 top ρ g w) {i b c:Nat} {k:bq} (hi:g i=some k) (hr:ρ i=some (b,c)):∃o,w.heap[b]? =some o/\gT P ρ i k o/\(k.eU=false->B<=b):=by
 obtain⟨b',c',o,e1,e2,e3,bW⟩:=h.blk i k hi;rw [hr]at e1;cases e1;exact⟨o,e2,e3,bW⟩
def rR.lI (h:rR P B eV H0 w0 top ρ g w) {X:ai} (hX:∀x k,X.get x=some k->g x=some k) (hl:∀x k,X.get x=some k->x<X.next):bk P B ρ X w:=
 ⟨fun i k hi=>h.blk i k (hX i k hi),fun i j eN e5 b ci cn hi hj=>h.inj i j eN e5 b ci cn (hX i eN hi) (hX j e5 hj),hl,h.base,fun b A hb=>⟨(h.fz b A hb).1,fun i k c hi hr=>(h.fz b A hb).2 i k c (hX i k hi) hr⟩⟩
def rR.step (h:rR P B eV H0 w0 top ρ g w) {X X':ai} {ρ':Env} {w':World} (hX:∀x k,X.get x=some k->g x=some k) (hH:bk P B ρ' X' w') (hs:bR ρ X w ρ' X' w')
  (hx:∀x,x<H0.next\/top<=x->ρ' x=ρ x):rR P B eV H0 w0 top ρ' (mI g X X') w':=by
 have keep:∀x k,g x=some k->X.get x=none->∃b c o,ρ x=some (b,c)/\ρ' x=some (b,c)/\w.heap[b]? =some o/\w'.heap[b]? =some o/\gT P ρ x k o/\(k.eU=false->B<=b)/\b<w.heap.size:=fun x k Ct n6=>by
  obtain⟨b,c,o,e1,e2,e3,bW⟩:=h.blk x k Ct;have hb:b<w.heap.size:=(dG.1 e2).1;refine⟨b,c,o,e1,hs.le _ _ e1,e2, ?_,e3,bW,hb⟩;rw [hs.frame b hb fun⟨i,k',c',h1,_,h3⟩=> ?_,e2];have:=h.inj i x k' k b c' c (hX i k' h1) Ct h3 e1;subst this;rw [n6]at h1;cases h1
 have Cu:∀x k b c,g x=some k->ρ' x=some (b,c)->ρ x=some (b,c):=fun x k b c Ct hr=>by
  obtain⟨b',c',o,e1,_⟩:=h.blk x k Ct;rw [hs.le _ _ e1]at hr;cases hr;exact e1
 refine⟨fun i k hi=> ?_,fun i j eN e5 b ci cn hi hj jz fN=> ?_,hH.base,h.le.trans hs.le,fun i hi=>by rw [hx i hi,h.ext i hi],dc h.size hs.size,hs.os.trans h.os,hs.tape.trans h.tape,hs.output.trans h.output,fun b hb ho=> ?_,fun b hb i k c hi hk hr=> ?_,fun b hb i k c hi hr=> ?_,fun b A hb=>⟨(hH.fz b A hb).1,fun i k c hi hr=> ?_⟩,fun b A hb=> ?_⟩
 .rcases vI hi with hi|⟨_,h2,h3⟩
  .exact hH.blk i k hi
  .obtain⟨b,c,o,_,e1,_,e2,e3,bW,_⟩:=keep i k h3 h2;exact⟨b,c,o,e1,e2,e3.mono hs.le,bW⟩
 .have mixed:∀i j eN e5 ci cn,X'.get i=some eN->X.get j=none->g j=some e5->ρ' i=some (b,ci)->ρ' j=some (b,cn)->False:=fun i j eN e5 ci cn h1 h2 h3 r1 r2=>by
   obtain⟨b',c',o,e0,e1,e2,_,_,_,hb⟩:=keep j e5 h3 h2;rw [e1]at r2;cases r2;obtain⟨x,kx,qs,q1,aP⟩:=hs.mB b hb ⟨i,eN,ci,h1,r1⟩;have:=h.inj x j kx e5 b qs cn (hX x kx q1) h3 aP e0;subst this;rw [h2]at q1;cases q1
  rcases vI hi with hi|⟨_,h2,h3⟩<;>rcases vI hj with hj|⟨_,k2,c8⟩
  .exact hH.inj i j eN e5 b ci cn hi hj jz fN
  .exact(mixed i j eN e5 ci cn hi k2 c8 jz fN).elim
  .exact(mixed j i e5 eN cn ci hj h2 h3 fN jz).elim
  .exact h.inj i j eN e5 b ci cn h3 c8 (Cu _ _ _ _ h3 jz) (Cu _ _ _ _ c8 fN)
 .rw [hs.frame b (Nat.lt_of_lt_of_le hb h.size) fun⟨i,k',c',h1,h2,h3⟩=>ho (h.own b hb i k' c' (hX i k' h1) h2 h3),h.frame b hb ho]
 .rcases vI hi with hi|⟨_,h2,h3⟩
  .obtain⟨x,kx,qs,q1,aP,b8⟩:=hs.own b (Nat.lt_of_lt_of_le hb h.size) ⟨i,k,c,hi,hk,hr⟩;exact h.own b hb x kx qs (hX x kx q1) aP b8
  .exact h.own b hb i k c h3 hk (Cu _ _ _ _ h3 hr)
 .rcases vI hi with hi|⟨_,h2,h3⟩
  .obtain⟨x,kx,qs,q1,aP⟩:=hs.mB b (Nat.lt_of_lt_of_le hb h.size) ⟨i,k,c,hi,hr⟩;exact h.mB b hb x kx qs (hX x kx q1) aP
  .exact h.mB b hb i k c h3 (Cu _ _ _ _ h3 hr)
 .rcases vI hi with hi|⟨_,h2,h3⟩
  .exact(hH.fz b A hb).2 i k c hi hr
  .have hr':=Cu _ _ _ _ h3 hr;rcases hs.nr b A hb with hb'|hb'
   .exact(h.fz b A hb').2 i k c h3 hr'
   .rcases hb' with hb'|⟨x,kx,qs,q1,_,b8⟩
    .obtain⟨b1,c1,o,e1,e2,_⟩:=h.blk i k h3;rw [hr']at e1;cases e1;have:=(dG.1 e2).1;omega
    .have:=h.inj x i kx k b qs c (hX x kx q1) h3 b8 hr';subst this;rw [h2]at q1;cases q1
 .rcases hs.nr b A hb with hb'|hb'
  .exact h.nr b A hb'
  .rcases hb' with hb'|⟨x,kx,qs,q1,aP,b8⟩
   .exact .inr (.inl (dc h.size hb'))
   .by_cases hl:b<w0.heap.size
    .exact .inr (.inr (h.own b hl x kx qs (hX x kx q1) aP b8))
    .exact .inr (.inl (by omega))
def rR.final (h:rR P B eV H0 w0 top ρ g w) {X:ai} (hX:∀x k,X.get x=some k->g x=some k) (ht:X.next=top) (hn:H0.next<=top):bR eV H0 w0 ρ X w:=
 ⟨h.le,fun i hi=>h.ext i (by rw [ht]at hi;exact hi),by rw [ht];exact hn,h.size,h.os,h.tape,h.output,h.frame,fun b hb ⟨i,k,c,h1,h2,h3⟩=>h.own b hb i k c (hX i k h1) h2 h3,fun b hb ⟨i,k,c,h1,h3⟩=>h.mB b hb i k c (hX i k h1) h3,h.nr⟩
end
section
variable {P:Program} {call:eC} {round:jW} {ops:Array Oper} {n:Nat} {S:Nat->gu} {V:Nat->af}
def dh.RE (R:dh P call round ops n S V) {i:Nat} (hi:i<=ops.size):(hpf S ops.size (S i).k).next<=(S i).cur.next:=by
 induction i with
 |zero=>rw [R.k0,R.J6];exact aK _
 |succ i ih=>
  have ih:=ih (Nat.le_of_succ_le hi);obtain⟨o,ho⟩:=lR (ops:=ops) (i:=i) hi;cases R.kind i o ho with
  |skip _ _ hk hc=>rw [hk,hc];exact ih
  |p _ _ _ hk hc=>rw [hk,hc];exact ih
  |r _ _ _ hk hc=>rw [hk,hc];exact ih
  |a _ gG hop hk=>
   obtain⟨_,blk,ny,_⟩:=Co gG hop;rw [hk,ny];exact Nat.le_succ_of_le ih
  |e _ _ _ _ _ hk=>rw [hk,R.E8 hi hk];exact aK _
def dh.Fb (R:dh P call round ops n S V) {i:Nat} (hi:i<ops.size) (ha:j3 S i):(S (i+1)).cur.next=(S i).cur.next+1/\∃b,vH S i=some b:=by
 obtain⟨o,ho⟩:=lR hi;obtain⟨_,gG,hop,_⟩:=R.RA ho ha;obtain⟨_,blk,ny,_⟩:=Co gG hop;refine⟨by rw [ny];rfl,blk, ?_⟩;unfold vH;rw [ny,ai.gK,if_pos rfl]
structure jD (P:Program) (B:Nat) (eV:Env) (w0:World) (a0:Act) (ops:Array Oper) (n:Nat) (S:Nat->gu) (V:Nat->af) (L:Nat->Prop) (e:Nat) (ρ:Env) (g:Nat->Option bq) (T:au af) (a:Act) (w:World):Prop where
 closed:∀(j:Nat) (o:Oper),L j->ops[j]? =some o->∀d∈cB o,L d
 rS:∀m,m<ops.size->e6 S m->(L m↔(S m).k<e)
 bQ:∀j,j<ops.size->L j->lvl S ops.size j<=e
 le:e<=(S ops.size).k
 zZ:jY ρ T n a.tmps
 z1:∀(j:Nat) (p:Oper) (t:Tmp),ops[j]? =some p->p.dst=some t->(L j->T.get t=some (V j))/\(¬L j->T.get t=(S 0).T.get t)
 J9:∀t:Tmp,(∀(j:Nat) (p:Oper),ops[j]? =some p->p.dst≠some t)->T.get t=(S 0).T.get t
 G:n9 ρ
 xN:rR P B eV (S 0).cur w0 (S ops.size).cur.next ρ g w
 hp:∀x k,(hpf S ops.size e).get x=some k->g x=some k
 lt:∀x k,(hpf S ops.size e).get x=some k->x<(hpf S ops.size e).next
 dJ:∀j,j<ops.size->L j->j3 S j->e<=(S j).k->g (S j).cur.next=vH S j
 conv:∀x k,g x=some k->(hpf S ops.size e).get x=some k\/∃j,j<ops.size/\L j/\j3 S j/\e<=(S j).k/\x=(S j).cur.next
 fresh:∀j,j<ops.size->¬L j->Fr ρ (S j).cur.next (S (j+1)).cur.next
 RF:a.defers=a0.defers
variable {B:Nat} {eV:Env} {w0:World} {a0:Act} {L:Nat->Prop} {e:Nat} {ρ:Env} {g:Nat->Option bq} {T:au af} {a:Act} {w:World} {i:Nat} {o:Oper}
def jD.slots (R:dh P call round ops n S V) (I:jD P B eV w0 a0 ops n S V L e ρ g T a w) (ho:ops[i]? =some o) (hL:¬L i) (hd:∀d∈cB o,L d) {t:Tmp} (ht:Operand.tmp t∈o.op.operands.toList):T.get t=(S i).T.get t:=by
 have hi:i<ops.size:=(dG.1 ho).1;have F:=tT R.ok ho;rcases F.slot t ht with h|⟨k,p,h1,h2,h3|h3⟩
 .rw [I.J9 t h,R.RD h (Nat.le_of_lt hi)]
 .rw [(I.z1 k p t h1 h2).1 (hd k h3),R.E9 h1 h2 (F.lt k h3) (Nat.le_of_lt hi)]
 .have hk:¬L k:=fun hk=>hL (I.closed k p hk h1 i h3)
  rw [(I.z1 k p t h1 h2).2 hk,R.abZ h1 h2 (Nat.le_of_lt ((tT R.ok h1).lt i h3))]
def jD.ev (R:dh P call round ops n S V) (I:jD P B eV w0 a0 ops n S V L e ρ g T a w) (ho:ops[i]? =some o) (hL:¬L i) (hd:∀d∈cB o,L d):∀x∈o.op.operands.toList,cq T x=cq (S i).T x:=fun x hx=>by
 cases x with
 |tmp t=>
  show @Option.rec af (fun _=>af) (.raw undef) (fun v=>v) (T.get t)= @Option.rec af (fun _=>af) (.raw undef) (fun v=>v) ((S i).T.get t)
  rw [I.slots R ho hL hd hx]
 |_=>rfl
def jD.wants (R:dh P call round ops n S V) (I:jD P B eV w0 a0 ops n S V L e ρ g T a w) (ho:ops[i]? =some o) (hd:∀d∈cB o,L d):gS T ops o=gS (S i).T ops o:=by
 have hi:i<ops.size:=(dG.1 ho).1;have F:=tT R.ok ho;cases hg:o.guard with
 |none=>unfold gS;rw [hg]
 |some q=>
  have e:∀T,gS T ops o=xd T ops q:=fun T=>by unfold gS;rw [hg]
  rw [e,e];unfold xd;cases hp:ops[q.1]? with
  |none=>rfl
  |some p=>
   cases gU:p.dst with
   |none=>simp [gU]
   |some d=>
    simp only [Option.bind_some,gU];have hq:=F.guard q hg;rw [(I.z1 q.1 p d hp gU).1 (hd _ hq),R.E9 hp gU (F.lt _ hq) (Nat.le_of_lt hi)]
def jD.level (R:dh P call round ops n S V) (I:jD P B eV w0 a0 ops n S V L e ρ g T a w) (ho:ops[i]? =some o) (hd:∀d∈cB o,L d):Sv.level (S ops.size).bQ (cB o)<=e:=
 Rn fun d hdd=>I.bQ d (Nat.lt_trans ((tT R.ok ho).lt d hdd) (dG.1 ho).1) (hd d hdd)
def jD.after (R:dh P call round ops n S V) (hC:bD P call) (hR:lN P round) (I:jD P B eV w0 a0 ops n S V L e ρ g T a w) (ho:ops[i]? =some o) (hL:¬L i) (hd:∀d∈cB o,L d)
  {X X':ai} {ρ':Env} {w':World} {x:Value} {T1:au af} {e':Nat} (hT:iP T n o.dst (V i)=some T1) (hx:Den ρ' (V i) x) (hX:∀x k,X.get x=some k->g x=some k) (hH:bk P B ρ' X' w') (hs:bR ρ X w ρ' X' w')
  (hρ:∀x,x<(S i).cur.next\/(S (i+1)).cur.next<=x->ρ' x=ρ x)
  (he:e<=e') (ab1:∀m,m<ops.size->e6 S m->((m=i\/L m)↔(S m).k<e')) (ab2:lvl S ops.size i<=e') (hle:e'<=(S ops.size).k)
  (ab3:∀x k,(hpf S ops.size e').get x=some k->mI g X X' x=some k) (hlt:∀x k,(hpf S ops.size e').get x=some k->x<(hpf S ops.size e').next)
  (ab4:∀j,j<ops.size->(j=i\/L j)->j3 S j->e'<=(S j).k->mI g X X' (S j).cur.next=vH S j)
  (ab5:∀x k,mI g X X' x=some k->(hpf S ops.size e').get x=some k\/∃j,j<ops.size/\(j=i\/L j)/\j3 S j/\e'<=(S j).k/\x=(S j).cur.next):
  jD P B eV w0 a0 ops n S V (fun j=>j=i\/L j) e' ρ' (mI g X X') T1 (a.put o.dst x) w':=by
 have hi:i<ops.size:=(dG.1 ho).1;refine⟨fun j p hj hp d hdd=> ?_,ab1,fun j hj h=> ?_,hle,JH (I.zZ.mono hs.le) hT hx,fun j p t hj hp=> ?_,fun t ht=> ?_,I.G.mono hs.le,I.xN.step hX hH hs fun x hx=>hρ x ?_,ab3,hlt,ab4,ab5,fun j hj hn x h1 h2=> ?_,by rw [put_defers,I.RF]⟩
 .rcases hj with rfl |hj
  .rw [ho]at hp;cases hp;exact .inr (hd d hdd)
  .exact .inr (I.closed j p hj hp d hdd)
 .rcases h with rfl |h
  .exact ab2
  .exact dc (I.bQ j hj h) he
 .rw [Cr hT];by_cases hji:j=i
  .subst hji;rw [ho]at hj;cases hj;rw [if_pos hp];exact⟨fun _=>rfl,fun h=>(h (.inl rfl)).elim⟩
  .rw [if_neg fun hh=>hji ((tT R.ok ho).dst t hh j p hj hp)];exact⟨fun h=>(I.z1 j p t hj hp).1 (h.resolve_left hji),fun h=>(I.z1 j p t hj hp).2 fun hh=>h (.inr hh)⟩
 .rw [Cr hT,if_neg (ht i o ho),I.J9 t ht]
 .rcases hx with hx|hx
  .exact .inl (Nat.lt_of_lt_of_le hx (R.pz hC hR (Nat.zero_le _) (Nat.le_of_lt hi)))
  .exact .inr (dc (R.pz hC hR hi (aK _)) hx)
 .have hj2:¬j=i/\¬L j:=⟨fun h=>hn (.inl h),fun h=>hn (.inr h)⟩;rw [hρ x ?_]
  .exact I.fresh j hj hj2.2 x h1 h2
  .rcases Nat.lt_or_gt_of_ne hj2.1 with hl|hl
   .exact .inl (Nat.lt_of_lt_of_le h2 (R.pz hC hR hl (Nat.le_of_lt hi)))
   .exact .inr (dc (R.pz hC hR hl (Nat.le_of_lt hj)) h1)
end
end
section
open Go.RowKit
variable [Ground]
section
variable {P:Program} {call:eC} {round:jW} {ops:Array Oper} {n:Nat} {S:Nat->gu} {V:Nat->af}
variable {B:Nat} {eV:Env} {w0:World} {a0:Act} {L:Nat->Prop} {e:Nat} {ρ:Env} {g:Nat->Option bq} {T:au af} {a:Act} {w:World} {i:Nat} {o:Oper}
def RG (h:e6 S i) (R:dh P call round ops n S V) (hi:i<ops.size):¬j3 S i:=fun ha=>by
 obtain⟨o,ho⟩:=lR hi;obtain⟨_,_,_,hk⟩:=R.RA ho ha;unfold e6 at h;omega
def jD.quiet (R:dh P call round ops n S V) (hC:bD P call) (hR:lN P round) (I:jD P B eV w0 a0 ops n S V L e ρ g T a w) (ho:ops[i]? =some o) (hL:¬L i) (hd:∀d∈cB o,L d)
  (hE:¬e6 S i) (hA:¬j3 S i) {X:ai} {ρ':Env} {w':World} {x:Value} {T1:au af} (hT:iP T n o.dst (V i)=some T1) (hx:Den ρ' (V i) x) (hX:∀x k,X.get x=some k->g x=some k) (hH:bk P B ρ' X w') (hs:bR ρ X w ρ' X w'):
  jD P B eV w0 a0 ops n S V (fun j=>j=i\/L j) e ρ' g T1 (a.put o.dst x) w':=by
 have hlv:lvl S ops.size i<=e:=by
  rcases R.J4 ho with⟨h,_⟩|⟨_,h⟩
  .exact absurd h hE
  .rw [h];exact I.level R ho hd
 have hu:=ab0 hX;have:=I.after R hC hR ho hL hd (X:=X) (X':=X) (e':=e) hT hx hX hH hs (fun x _=>hs.ext x (by omega)) (aK _)
  (fun m hm hem=>⟨fun h=>(I.rS m hm hem).1 (h.resolve_left fun hh=>hE (hh ▸ hem)),fun h=> .inr ((I.rS m hm hem).2 h)⟩) hlv I.le (by rw [hu];exact I.hp) I.lt
  (by rw [hu];exact fun j hj hjl ha=>I.dJ j hj (hjl.resolve_left fun hh=>hA (hh ▸ ha)) ha)
  (by rw [hu];exact fun x k hk=>(I.conv x k hk).imp id fun⟨j,h1,h2,h3⟩=>⟨j,h1, .inr h2,h3⟩)
 rwa [hu]at this
def jD.step (hK:ff P) (R:dh P call round ops n S V) (hC:bD P call) (hR:lN P round) (I:jD P B eV w0 a0 ops n S V L e ρ g T a w) (ho:ops[i]? =some o) (hL:¬L i) (hd:∀d∈cB o,L d) (rd:Option Nat) (m:Nat) {K:Act->World->Prop} {Q:Exit->Act->World->Prop}
  (hK':∀e' ρ' g' aO a' w',jD P B eV w0 a0 ops n S V (fun j=>j=i\/L j) e' ρ' g' aO a' w'->K a' w'):wpOpIn (dU rd) m P ops Q i K a w:=by
 have hi:i<ops.size:=(dG.1 ho).1;have kW:=R.i i (Nat.le_of_lt hi);have RH:=I.ev R ho hL hd;have J':=I.wants R ho hd;obtain⟨T1,hT⟩:=abT (R.put i o ho) T;have Ka:(S (i+1)).dm=(S i).dm->¬j3 S i:=fun h ha=>by
  unfold j3 at ha;rw [h]at ha;have:=congrArg List.length ha;simp at this
 have Cv:(S (i+1)).k=(S i).k->¬e6 S i:=fun h he=>by unfold e6 at he;omega
 let Z:ai:={m:= .nil,next:=(S i).cur.next}
 have hZ:∀x,Z.get x=none:=fun x=>au.get_nil x
 have Fc:∀x k,Z.get x=some k->g x=some k:=fun x k h=>by rw [hZ]at h;cases h
 have Kb:bk P B ρ Z w:=I.xN.lI Fc fun x k h=>by rw [hZ]at h;cases h
 have run:∀(X X':ai),gS (S i).T ops o=some true->bk P B ρ X w->fx P call round o (cq T) X= .ok (V i) X'->Fr ρ X.next X'.next->
   (∀x ρ' w',Den ρ' (V i) x->bk P B ρ' X' w'->bR ρ X w ρ' X' w'->K (a.put o.dst x) w')->wpOpIn (dU rd) m P ops Q i K a w:=fun X X' hw hX hop hf hn=>by
  unfold wpOpIn;rw [ho];simp only;rw [JI I.zZ (J'.trans hw),if_pos rfl];exact Q2 hK hC hR ⟨I.zZ,hX,I.G⟩ hop hf rd m hn
 have Kc:∀{X:ai} {v:af} {X':ai},fc o.op P o (cq (S i).T) X= .ok v X'->fx P call round o (cq T) X= .ok v X':=fun {X v X'} h=>by
  unfold fx;rw [Ri RH,h]
 cases R.kind i o ho with
 |skip hw hv hk hc hh hl hp ha=>
  unfold wpOpIn;rw [ho];simp only;rw [JI I.zZ (J'.trans hw)];simp only [Bool.false_eq_true,if_false];refine⟨fun _ _=>trivial,hK' e ρ g T1 _ w ?_⟩;exact I.quiet R hC hR ho hL hd (Cv hk) (Ka ha) hT (by rw [hv];exact .raw _) Fc Kb (bR.refl _ _ _)
 |p hw gG hop hk hc hh hl hp ha=>
  obtain⟨H1,hop⟩:=hop;refine run Z Z hw Kb (Kc (abP gG hop Z)) (fun x h1 h2=>absurd h2 (by omega)) fun x ρ' w' h1 h2 h3=>hK' e ρ' g T1 _ w' ?_
  exact I.quiet R hC hR ho hL hd (Cv hk) (Ka ha) hT h1 Fc h2 h3
 |r hw gG hr hk hc hh hl hp ha=>
  have hop:=R.read ho gG hr hp (I.level R ho hd) I.le fun m fh hm hem hkm tU hmem=>hL (I.closed m fh ((I.rS m hm hem).2 hkm) tU i hmem)
  refine run _ _ hw (I.xN.lI I.hp I.lt) (Kc hop) (fun x h1 h2=>absurd h2 (by omega)) fun x ρ' w' h1 h2 h3=>hK' e ρ' g T1 _ w' ?_
  exact I.quiet R hC hR ho hL hd (Cv hk) (Ka ha) hT h1 I.hp h2 h3
 |a hw gG hop hk hh hl hp ha=>
  have hA:j3 S i:=by unfold j3;rw [ha,kW]
  obtain⟨_,blk,ny,ab6⟩:=Co gG hop;obtain⟨hnx,b0,hb0⟩:=R.Fb hi hA;have hblk:vH S i=some blk:=by unfold vH;rw [ny,ai.gK,if_pos rfl]
  have hfr:=I.fresh i hi hL;have hnone:ρ (S i).cur.next=none:=hfr _ (aK _) (by omega);have ab7:g (S i).cur.next=none:=by
   cases hg:g (S i).cur.next with
   |none=>rfl
   |some k=>
    obtain⟨b,c,o',e1,_⟩:=I.xN.blk _ _ hg;rw [hnone]at e1;cases e1
  have Ke:fc o.op P o (cq (S i).T) Z= .ok (V i) (Z.new blk):=ab6 Z rfl;have Kf:∀x,(Z.new blk).get x=if(S i).cur.next=x then some blk else none:=fun x=>by rw [ai.gK,hZ]
  have xO:e<=(S i).k:=by
   refine Nat.le_of_not_lt fun hlt=> ?_
   obtain⟨m,h1,h2,h3,h4⟩:=R.E5 (i:=i) (j:=ops.size) (e:=(S i).k+1) (Nat.le_of_lt hi) (aK _) (fL _) (dc hlt I.le);obtain⟨fh,tU⟩:=lR h2;have hne:i≠m:=fun hh=>RG h4 R h2 (hh ▸ hA)
   have hmem:i∈(S m).dm:=(R.J7 (Nat.le_of_lt h2) i).2 ⟨by omega,hA,by omega⟩;have ab8:L m:=(I.rS m h2 h4).2 (by omega);cases R.kind m fh tU with
   |skip _ _ hk=>unfold e6 at h4;omega
   |p _ _ _ hk=>unfold e6 at h4;omega
   |r _ _ _ hk=>unfold e6 at h4;omega
   |a _ _ _ hk=>unfold e6 at h4;omega
   |e _ _ hsub=>exact hL (I.closed m fh ab8 tU i (hsub i hmem))
  have hlv:lvl S ops.size i<=e:=by
   rcases R.J4 ho with⟨h,_⟩|⟨_,h⟩
   .exact absurd h (Cv hk)
   .rw [h];exact I.level R ho hd
  have old:∀x k,g x=some k->mI g Z (Z.new blk) x=some k:=fun x k hg=>by
   have hne:¬(S i).cur.next=x:=fun hh=>by rw [<-hh,ab7]at hg;cases hg
   rw [J8 (by rw [Kf,if_neg hne]) (hZ x),hg]
  refine run Z (Z.new blk) hw Kb (Kc Ke) (fun x h1 h2=>hfr x h1 (by rw [hnx];exact h2)) fun x ρ' w' h1 h2 h3=>hK' e ρ' (mI g Z (Z.new blk)) T1 _ w' ?_
  refine I.after R hC hR ho hL hd hT h1 Fc h2 h3 (fun x hx=>h3.ext x (by rw [hnx]at hx;exact hx)) (aK _)
   (fun m hm hem=>⟨fun h=>(I.rS m hm hem).1 (h.resolve_left fun hh=>Cv hk (hh ▸ hem)),fun h=> .inr ((I.rS m hm hem).2 h)⟩) hlv I.le (fun x k h=>old x k (I.hp x k h)) I.lt (fun j hj hjl haj Kg=> ?_) (fun x k h=> ?_)
  .by_cases hji:j=i
   .subst hji;rw [hblk];exact Fa (by rw [Kf,if_pos rfl])
   .have h4:=I.dJ j hj (hjl.resolve_left hji) haj Kg;obtain⟨_,b,hb⟩:=R.Fb hj haj;rw [hb]at h4 ⊢;exact old _ _ h4
  .rcases vI h with h|⟨_,_,h⟩
   .rw [Kf]at h;split at h
    .rename_i hx;exact .inr ⟨i,hi, .inl rfl,hA,xO,hx.symm⟩
    .cases h
   .exact(I.conv x k h).imp id fun⟨j,h1,h2,h3⟩=>⟨j,h1, .inr h2,h3⟩
 |e hw hlv hsub hop gU hk hh hl hp ha=>
  have hE:e6 S i:=hk;have xO:e=(S i).k:=by
   have h1:=I.level R ho hd;rw [<-R.level ho,hlv]at h1;have h2:¬(S i).k<e:=fun h=>hL ((I.rS i hi hE).2 h)
   omega
  obtain⟨c1,c2,c3⟩:=R.RB (Nat.le_of_lt hi);have z6:=R.J7 (Nat.le_of_lt hi);have hX:∀x k,(S i).cur.get x=some k->g x=some k:=fun x k h=>by
   rcases c1 x k h with h|⟨j,hj,rfl,hb⟩
   .rw [<-xO]at h;exact I.hp x k h
   .obtain⟨q1,aP,b8⟩:=(z6 j).1 hj;rw [I.dJ j (by omega) (hd j (hsub j hj)) aP (by omega),hb]
  have hlt:∀x k,(S i).cur.get x=some k->x<(S i).cur.next:=fun x k h=>by
   rcases c1 x k h with h|⟨j,hj,rfl,hb⟩
   .have:=R.RE (Nat.le_of_lt hi);rw [<-xO]at h this;exact Nat.lt_of_lt_of_le (I.lt x k h) this
   .obtain⟨q1,aP,b8⟩:=(z6 j).1 hj;have h5:=(R.Fb (i:=j) (by omega) aP).1;have h6:=R.pz hC hR (i:=j+1) (j:=i) q1 (Nat.le_of_lt hi);omega
  have Ke:fx P call round o (cq T) (S i).cur= .ok (V i) (S (i+1)).cur:=by
   unfold fx at hop ⊢;rw [Ri RH];exact hop
  have ab9:lvl S ops.size i=e+1:=by
   rcases R.J4 ho with⟨_,h⟩|⟨h,_⟩
   .rw [h,xO]
   .exact absurd hE h
  have hle:e+1<=(S ops.size).k:=by
   have:=R.rQ (i:=i+1) (j:=ops.size) hi (aK _);omega
  have Kh:hpf S ops.size (e+1)=(S (i+1)).cur:=by rw [xO];exact R.E8 hi hE
  -- what is laid behind this effect lies beyond
  have later:∀j,j<ops.size->L j->j3 S j->e<=(S j).k->(S i).cur.get (S j).cur.next=none->i<j:=fun j hj hjl haj Kg hnone=>by
   refine Nat.lt_of_not_le fun hji=> ?_
   have hne:j≠i:=fun hh=>hL (hh ▸ hjl)
   have hm:=R.rQ (i:=j) (j:=i) hji (Nat.le_of_lt hi);exact c3 j ((z6 j).2 ⟨by omega,haj,by omega⟩) hnone
  refine run _ _ hw (I.xN.lI hX hlt) Ke (I.fresh i hi hL) fun x ρ' w' h1 h2 h3=>hK' (e+1) ρ' (mI g (S i).cur (S (i+1)).cur) T1 _ w' ?_
  have beyond:∀j,j<ops.size->i<j->(S i).cur.get (S j).cur.next=none/\(S (i+1)).cur.get (S j).cur.next=none:=fun j hj hij=>by
   have h6:=R.pz hC hR (i:=i+1) (j:=j) hij (Nat.le_of_lt hj);have h7:=R.Ry hC hR hi;constructor
   .cases hg:(S i).cur.get (S j).cur.next with
    |none=>rfl
    |some k=>have:=hlt _ _ hg;omega
   .cases hg:(S (i+1)).cur.get (S j).cur.next with
    |none=>rfl
    |some k=>have:=h2.lt _ _ hg;omega
  refine I.after R hC hR ho hL hd hT h1 hX h2 h3 (fun x hx=>h3.ext x hx) (Nat.le_succ _) (fun m hm hem=> ?_) (Nat.le_of_eq ab9) hle (fun x k h=>by rw [Kh]at h;exact Fa h) (fun x k h=>by rw [Kh]at h ⊢;exact h2.lt x k h) (fun j hj hjl haj Kg=> ?_) (fun x k h=> ?_)
  .constructor
   .rintro(rfl |h)
    .omega
    .have:=(I.rS m hm hem).1 h;omega
   .intro h;by_cases hlt2:(S m).k<e
    .exact .inr ((I.rS m hm hem).2 hlt2)
    .left;have hme:(S m).k=(S i).k:=by omega
     rcases Nat.lt_trichotomy m i with hl|hl|hl
     .have:=R.rQ (i:=m+1) (j:=i) hl (Nat.le_of_lt hi);unfold e6 at hem;omega
     .exact hl
     .have:=R.rQ (i:=i+1) (j:=m) hl (Nat.le_of_lt hm);omega
  .have hne:j≠i:=fun hh=>RG hE R hi (hh ▸ haj)
   have hij:i<j:=by
    refine Nat.lt_of_not_le fun hji=> ?_
    have:=R.rQ (i:=j) (j:=i) hji (Nat.le_of_lt hi);omega
   obtain⟨q1,aP⟩:=beyond j hj hij;rw [J8 aP q1];exact I.dJ j hj (hjl.resolve_left hne) haj (by omega)
  .rcases vI h with h|⟨_,hn,h⟩
   .left;rw [Kh];exact h
   .rcases I.conv x k h with h|⟨j,q1,aP,b8,ez,rfl⟩
    .rw [xO]at h;exact absurd hn (c2 x (by rw [h];simp))
    .have hij:=later j q1 aP b8 ez hn;have:=R.rQ (i:=i+1) (j:=j) hij (Nat.le_of_lt q1);exact .inr ⟨j,q1, .inr aP,b8,by omega,rfl⟩
def acd {l:Array Bool} {i j:Nat} (hi:i<l.size):(l.setIfInBounds i true).getD j false=true↔(j=i\/l.getD j false=true):=by
 simp only [Array.getD_eq_getD_getElem?,Array.getElem?_setIfInBounds];by_cases h:i=j
 .subst h;simp [hi]
 .rw [if_neg h];exact⟨.inr,fun h2=>h2.resolve_left fun h3=>h h3.symm⟩
def RI:∀{l:List Bool} {i:Nat},l[i]? =some false->(l.set i true).countP (! ·)+1=l.countP (! ·)
 |[],i,h=>by simp at h
 |a::l,0,h=>by
  simp at h;subst h;simp
 |a::l,i+1,h=>by
  have:=RI (l:=l) (i:=i) (by simpa using h);simp only [List.set_cons_succ,List.countP_cons];omega
def ace (hK:ff P) (R:dh P call round ops n S V) (hC:bD P call) (hR:lN P round) (rd:Option Nat) (m:Nat) {Q:Exit->Act->World->Prop}
  (hQ:∀L e ρ g T a w,(∀j,j<ops.size->L j)->jD P B eV w0 a0 ops n S V L e ρ g T a w->Q .normal a w):∀(fuel:Nat) (listed:Array Bool) {e:Nat} {ρ:Env} {g:Nat->Option bq} {T:au af} {a:Act} {w:World},
  listed.size=ops.size->listed.toList.countP (! ·)<=fuel->jD P B eV w0 a0 ops n S V (fun j=>listed.getD j false=true) e ρ g T a w->wpAnyIn (dU rd) m P .any ops Q fuel listed a w:=by
 have last:∀(listed:Array Bool) {e:Nat} {ρ:Env} {g:Nat->Option bq} {T:au af} {a:Act} {w:World},listed.size=ops.size->jD P B eV w0 a0 ops n S V (fun j=>listed.getD j false=true) e ρ g T a w->Region.ready .any ops listed=[]->Q .normal a w:=fun listed e ρ g T a w hs I hr=>by
  refine hQ _ e ρ g T a w (fun j=> ?_) I;induction j using Nat.strongRecOn with
  |ind j ih=>
   intro hj;refine Classical.byContradiction fun hn=> ?_
   obtain⟨o,ho⟩:=lR hj;have hmem:j∈Region.ready .any ops listed:=by
    refine mem_ready.2 ⟨?_,o,ho,fun e' he hb=> ?_⟩
    .have hlt:j<listed.size:=by omega
     simp only [Array.getD_eq_getD_getElem?,Array.getElem?_eq_getElem hlt,Option.getD_some]at hn ⊢;simpa using hn
    .have tV:e'.on∈cB o:=List.mem_map.2 ⟨e',List.mem_filter.2 ⟨by simpa using he,hb⟩,rfl⟩;have:=(tT R.ok ho).lt _ tV;exact ih _ this (by omega)
   rw [hr]at hmem;cases hmem
 intro fuel;induction fuel with
 |zero=>
  intro listed e ρ g T a w hs hc I;have hr:Region.ready .any ops listed=[]:=by
   refine List.eq_nil_iff_forall_not_mem.2 fun j hj=> ?_
   obtain⟨h1,o,ho,_⟩:=mem_ready.1 hj;have hlt:j<listed.size:=by rw [hs];exact(dG.1 ho).1
   have h0:=List.countP_eq_zero.1 (Nat.le_zero.1 hc) listed[j] (by simp);simp only [Array.getD_eq_getD_getElem?,Array.getElem?_eq_getElem hlt,Option.getD_some]at h1;rw [h1]at h0;simp at h0
  exact⟨hr,last listed hs I hr⟩
 |succ fuel ih=>
  intro listed e ρ g T a w hs hc I;refine⟨last listed hs I,fun i hi=> ?_⟩;obtain⟨h1,o,ho,h2⟩:=mem_ready.1 hi;have hlt:i<listed.size:=by rw [hs];exact(dG.1 ho).1
  have hf:listed[i]=false:=by simpa [Array.getD_eq_getD_getElem?,hlt]using h1
  refine I.step hK R hC hR ho (by simp [Array.getD_eq_getD_getElem?,hlt,hf]) (fun d hd=> ?_) rd m fun e' ρ' g' aO a' w' I'=> ?_
  .obtain⟨x,hx,rfl⟩:=List.mem_map.1 hd;obtain⟨hx1,hx2⟩:=List.mem_filter.1 hx;exact h2 x (by simpa using hx1) hx2
  .refine ih _ (e:=e') (ρ:=ρ') (g:=g') (T:=aO) (by simpa using hs) ?_ ?_
   .have:=RI (l:=listed.toList) (i:=i) (by simp [hlt,hf]);simp only [Array.toList_setIfInBounds];omega
   .have he:(fun j=>(listed.setIfInBounds i true).getD j false=true)=fun j=>j=i\/listed.getD j false=true:=by
     funext j;exact propext (acd hlt)
    rw [he];exact I'
def RL (hK:ff P) (hm:P.follows .mixedOrders=true):xF P true (zW P) where
 mono call round hC hR ops n T H aO H' h:=by
  obtain⟨S,V,R,e1,e2,e3,bW⟩:=Rt h;rw [<-e2,<-bW];exact R.pz hC hR (Nat.zero_le _) (aK _)
 cz call round hC hR id ops n T H aO H' h B ρ a w rd k Q aR hf hQ:=by
  obtain⟨S,V,R,e1,e2,e3,bW⟩:=Rt h;have hle:=R.pz hC hR (Nat.zero_le _) (aK _);refine wpIn_region_any hm ?_;refine ace (B:=B) (eV:=ρ) (w0:=w) (a0:=a) (e:=0) (ρ:=ρ) (g:=H.get) (T:=T) hK R hC hR rd k (fun L e ρ' g T2 a' w' hL I=> ?_) ops.size _ (by simp) ?_ ?_
  .have ny:=R.RB (aK _);have z6:=R.J7 (aK _);have he:e=(S ops.size).k:=by
    refine Nat.le_antisymm I.le (Nat.le_of_not_lt fun hlt=> ?_);by_cases h0:(S ops.size).k=0
    .omega
    .obtain⟨m,h1,h2,h3,h4⟩:=R.E5 (i:=0) (j:=ops.size) (e:=(S ops.size).k) (Nat.zero_le _) (aK _) (by rw [R.k0];omega) (aK _);have:=(I.rS m h2 h4).1 (hL m h2);omega
   have hX:∀x b,(S ops.size).cur.get x=some b->g x=some b:=fun x b hx=>by
    rcases ny.1 x b hx with hx|⟨j,hj,rfl,hb⟩
    .rw [<-he]at hx;exact I.hp x b hx
    .obtain⟨q1,aP,b8⟩:=(z6 j).1 hj;rw [I.dJ j q1 (hL j q1) aP (by omega),hb]
   have hlt:∀x b,(S ops.size).cur.get x=some b->x<(S ops.size).cur.next:=fun x b hx=>by
    rcases ny.1 x b hx with hx|⟨j,hj,rfl,hb⟩
    .have:=R.RE (aK _);rw [<-he]at hx this;exact Nat.lt_of_lt_of_le (I.lt x b hx) this
    .obtain⟨q1,aP,b8⟩:=(z6 j).1 hj;have h5:=(R.Fb (i:=j) q1 aP).1;have h6:=R.pz hC hR (i:=j+1) (j:=ops.size) q1 (aK _);omega
   refine hQ ρ' a' w' ⟨⟨I.zZ.size,fun t=> ?_⟩, ?_,I.G⟩ ?_ I.RF
   .have ht:aO.get t=T2.get t:=by
     rw [<-e3];by_cases hw:∃(j:Nat) (p:Oper),ops[j]? =some p/\p.dst=some t
     .obtain⟨j,p,hj,hp⟩:=hw;have hjl:j<ops.size:=(dG.1 hj).1;rw [R.E9 hj hp hjl (aK _),(I.z1 j p t hj hp).1 (hL j hjl)]
     .have hw':∀(j:Nat) (p:Oper),ops[j]? =some p->p.dst≠some t:=fun j p hj hp=>hw ⟨j,p,hj,hp⟩
      rw [R.RD hw' (aK _),I.J9 t hw']
    rw [ht];exact I.zZ.get t
   .rw [<-bW];exact I.xN.lI hX hlt
   .rw [<-e2,<-bW];exact I.xN.final hX rfl hle
  .have:∀n:Nat,(List.replicate n false).countP (! ·)<=n:=fun n=>by
    have:=List.countP_le_length (p:=(! ·)) (l:=List.replicate n false);simpa using this
   simpa using this ops.size
  .have hno:∀j,¬(Array.replicate ops.size false).getD j false=true:=fun j=>by
    simp [Array.getD_eq_getD_getElem?,Array.getElem?_replicate];split<;>simp
   have hH:=aR.H.drew;have h0:hpf S ops.size 0=H:=by rw [R.J6,e2]
   refine⟨fun j o hj=>(hno j hj).elim,fun m hm hem=>⟨fun h=>(hno m h).elim,fun h=>absurd h (Nat.not_lt_zero _)⟩,fun j _ h=>(hno j h).elim,Nat.zero_le _,aR.T,fun j p t _ _=>⟨fun h=>(hno j h).elim,fun _=>by rw [e1]⟩,fun t _=>by rw [e1],aR.G, ?_,by rw [h0];exact fun x k h=>h,by rw [h0];exact hH.lt,fun j _ h=>(hno j h).elim,by rw [h0];exact fun x k h=> .inl h,fun j hj _ x h1 h2=>hf x ?_ ?_,rfl⟩
   .rw [e2];exact⟨hH.blk,hH.inj,hH.base,cD.refl _,fun _ _=>rfl,aK _,rfl,rfl,rfl,fun _ _ _=>rfl,fun b _ i k c h1 h2 h3=>⟨i,k,c,h1,h2,h3⟩,fun b _ i k c h1 h3=>⟨i,k,c,h1,h3⟩,hH.fz,fun _ _ h=> .inl h⟩
   .have:=R.pz hC hR (Nat.zero_le j) (Nat.le_of_lt hj);rw [e2]at this;exact dc this h1
   .have:=R.pz hC hR hj (aK _);rw [bW]at this;exact Nat.lt_of_lt_of_le h2 this
def Fe {S call:eC} (hS:bD P S) (hC:bD P call):bD P (vk S call) where
 mono f args H v H' h:=by
  unfold vk at h;cases hs:S f args H with
  |no=>rw [hs]at h;exact hC.mono _ _ _ _ _ h
  |ok v1 H1=>rw [hs]at h;cases h;exact hS.mono _ _ _ _ _ hs
  |enter _ _ _=>rw [hs]at h;cases h
  |round _ _ _=>rw [hs]at h;cases h
 cz f args H v H' h:=by
  unfold vk at h;cases hs:S f args H with
  |no=>rw [hs]at h;exact hC.cz _ _ _ _ _ h
  |ok v1 H1=>rw [hs]at h;cases h;exact hS.cz _ _ _ _ _ hs
  |enter _ _ _=>rw [hs]at h;cases h
  |round _ _ _=>rw [hs]at h;cases h
def RM (hK:ff P):xF P false (fun call round ops n T H=>xg P call round ops n ops.toList T H) where
 mono _ _ hC hR _ _ _ _ _ _ h:=JJ hC hR _ h
 cz _ _ hC hR _ ops _ _ _ _ _ h _ _ _ _ rd k _ aR hf hQ:=wpIn_region (Q4 hK hC hR rd k _ _ (abA ops) aR h hf hQ)
def Cw (hK:ff P) (hm:P.follows .mixedOrders=true) {S:eC} (hS:bD P S):∀d,xF P d (oa P S d)
 |false=>⟨fun _ _ hC hR=>(RM hK).mono _ _ (Fe hS hC) hR,fun _ _ hC hR=>(RM hK).cz _ _ (Fe hS hC) hR⟩
 |true=>⟨fun _ _ hC hR=>(RL hK hm).mono _ _ (Fe hS hC) hR,fun _ _ hC hR=>(RL hK hm).cz _ _ (Fe hS hC) hR⟩
end
end
end Go.Proofs.YtibikmmdbdlafaaGreatDoor.Sv
