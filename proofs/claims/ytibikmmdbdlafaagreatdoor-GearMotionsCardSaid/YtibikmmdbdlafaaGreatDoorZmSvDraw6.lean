import Derived.Test.YtibikmmdbdlafaaGreatDoorZmSvCode4
set_option linter.unusedSectionVars false
set_option linter.unusedSimpArgs false
namespace Go.Proofs.YtibikmmdbdlafaaGreatDoor.Sv
noncomputable section
inductive Kd where
 |p|r|a|e|b
def Kd.al:Kd->Bool
 | .a| .b=>true
 |_=>false
def rD (P:Program) (t:Option TypeId):Bool:=match t.bind P.underlying with
 |some (.map _ _)=>true
 |_=>false
def Z7 (P:Program) (c:Call):Kd:=match c.callee with
 | .builtin .len=>cond (rD P c.argTypes[0]?) .e .p
 | .builtin .append=> .e
 | .builtin .copy=> .e
 | .builtin .unsafeString=> .e
 | .builtin .clear=> .e
 | .builtin _=> .p
 |_=> .e
def m0 (P:Program):Op->Kd:=
 @Op.rec (fun _=>Kd) (fun _=> .p) (fun _=> .p) (fun _ _ _=> .p) (fun _=> .a) (fun _ _=> .b) (fun _ _=> .p) (fun _ _ _=> .b) (fun _ _ _ _=> .e) (fun _ _=> .r) (fun _ _ _=> .e) (fun _=> .e) (fun _=> .e) (fun _=> .p) (fun _ _ _ _ _=> .p) (fun _ _ _=> .p)
   (fun _ _ _=> .e) (fun _ _=> .e) (fun _ _=> .p) (fun _ _ _=> .p) (fun _ _=> .b) (fun _ _=> .e) (fun _ _ _=> .b) (fun _ _ _ _ _=> .p) (fun _ _ _=> .p) (fun _ _ _=> .p) (fun _ _ _=> .p) (fun _ _ _=> .p) (fun _ _ _ _=> .r) (fun _ _ _ _=> .e)
   (fun _ _ _=> .e) (fun _ _ _ _=> .e) (fun _ _=> .e) (fun _ _=> .e) (fun _=> .e) (fun _ _ _ _=> .p) (fun _ _=> .p) (Z7 P) (fun _=> .e) (fun _=> .e) (fun _=> .e) (fun _ _=> .e) (fun _ _ _=> .e) (fun _ _=> .e)
def cA (o:Oper):List Nat:=(o.after.toList.filter (Region.binds .any)).map Edge.on
def kR (i:Nat) (l:List Nat):Bool:= @List.rec Nat (fun _=>Bool) false (fun a _ ih=> @Bool.rec (fun _=>Bool) ih true (Nat.beq a i)) l
def Z8 (o:Oper):List Tmp:=o.op.operands.toList.filterMap fun x=>match x with | .tmp t=>some t|_=>none
def xL (t:Tmp) (o:Oper):Bool:=match o.dst with |some d=>Nat.beq d t|none=>false
def qj (t:Tmp):List Oper->Nat->Option (Nat×Oper)
 |[],_=>none
 |o::l,i=>cond (xL t o) (some (i,o)) (qj t l (i+1))
def xM (ops:List Oper) (i:Nat) (o:Oper):Bool:=
 (cA o).all (fun d=>Nat.ble (d+1) i)&&
 (Z8 o).all (fun t=>match qj t ops 0 with |none=>true|some q=>kR q.1 (cA o)||kR i (cA q.2))&&
 (match o.dst with |none=>true|some d=>match qj d ops 0 with |some q=>Nat.beq q.1 i|none=>false)&&
 (match o.guard with |none=>true|some g=>kR g.1 (cA o))
def rE (ops:List Oper):List Oper->Nat->Bool
 |[],_=>true
 |o::l,i=>cond (xM ops i o) (rE ops l (i+1)) false
def BW:Value->Value->Bool
 | .int k a, .int k' b=>decide (k=k')&&decide (a=b)
 | .bool a, .bool b=>a==b
 | .string a, .string b=>decide (a=b)
 | .pointer none, .pointer none=>true
 | .slice none l c, .slice none l' c'=>Nat.beq l l'&&Nat.beq c c'
 | .map none, .map none=>true
 | .nilFunc, .nilFunc=>true
 | .nilIface, .nilIface=>true
 | .func f ⟨[]⟩ ⟨[]⟩, .func g ⟨[]⟩ ⟨[]⟩=>decide (f=g)
 |_,_=>false
def zG (f:Value->Value->Bool):List Value->List Value->Bool
 |[],[]=>true
 |a::l,b::m=>cond (f a b) (zG f l m) false
 |_,_=>false
def m4:Nat->Value->Value->Bool
 |0,a,b=>BW a b
 |n+1,a,b=>match a,b with
  | .agg ⟨l⟩, .agg ⟨m⟩=>zG (m4 n) l m
  | .tuple ⟨l⟩, .tuple ⟨m⟩=>zG (m4 n) l m
  |a,b=>BW a b
def aZ.same:aZ->aZ->Bool
 | .known a, .known b=>Nat.beq a b
 | .full, .full=>true
 | .any, .any=>true
 |_,_=>false
def av.beq:(t:av)->t.den->t.den->Bool
 | .int _,a,b=>decide (a=b)
 | .bool,a,b=>a==b
 | .str,a,b=>decide (a=b)
 | .list _ t,a,b=>Nat.beq a.length b.length&&(a.zip b).all fun p=>t.beq p.1 p.2
 | .pair s t,a,b=>s.beq a.1 b.1&&t.beq a.2 b.2
 | .ptr t,a,b=>t.beq a b
 | .unit,_,_=>true
def zH (t u:av) (xs:List t.den) (ys:List u.den):Bool:=if h:u=t then av.beq (.list false t) xs (h ▸ ys)else false
def vE:aa->aa->Bool
 | .bh z t xs, .bh z' u ys=>z==z'&&zH t u xs ys
 | .e9 t xs k off, .e9 u ys k' off'=>zH t u xs ys&&(Nat.beq k k'&&Nat.beq off off')
 | .bR e t i k n c, .bR e' u i' k' n' c'=>Nat.beq e e'&&(decide (t=u)&&(Nat.beq i i'&&(Nat.beq k k'&&(Nat.beq n n'&&c.same c'))))
 | .dA e t i k off, .dA e' u i' k' off'=>Nat.beq e e'&&(decide (t=u)&&(Nat.beq i i'&&(Nat.beq k k'&&Nat.beq off off')))
 | .raw a, .raw b=>m4 3 a b
 | .ptr i o, .ptr j q=>Nat.beq i j&&Nat.beq o q
 | .slice i o l c, .slice j q m d=>Nat.beq i j&&Nat.beq o q&&Nat.beq l m&&c.same d
 | .map i, .map j=>Nat.beq i j
 | .func f [] [], .func g [] []=>decide (f=g)
 | .yield i, .yield j=>Nat.beq i j
 |_,_=>false
def ql:List aa->List aa->Bool
 |[],[]=>true
 |a::l,b::m=>vE a b&&ql l m
 |_,_=>false
def aa.same:aa->aa->Bool
 | .agg l, .agg m=>ql l m
 | .tuple l, .tuple m=>ql l m
 | .func f (x::a) b, .func g c d=>decide (f=g)&&(ql (x::a) c&&ql b d)
 | .func f [] (x::b), .func g c d=>decide (f=g)&&(ql [] c&&ql (x::b) d)
 |a,b=>vE a b
def oT (P:Program) (o:Oper) (ev:dJ) (v:aa) (H:ai):Bool:=match eV o.op P o ev H with | .ok v' _=>aa.same v' v|_=>false
def rF (P:Program) (o:Oper) (ev:dJ) (v:aa):List ai->Bool
 |[]=>true
 |H::l=>cond (oT P o ev v H) (rF P o ev v l) false
structure oU where
 i:Nat
 o:Oper
 T:aq aa
 v:aa
def jx (ds:List Nat):List oU->List oU
 |[]=>[]
 |q::l=>cond (kR q.i ds) (jx ds l) (q::jx ds l)
def qm (P:Program) (H:ai):List oU->Bool
 |[]=>true
 |q::l=>cond (oT P q.o (ck q.T) q.v H) (qm P H l) false
def level (bN:aq Nat):List Nat->Nat
 |[]=>0
 |d::l=>Nat.max ((bN.get d).getD 0) (level bN l)
def xi (l ds:List Nat):Bool:=l.all fun i=>kR i ds
structure fV where
 i:Nat
 k:Nat
 T:aq aa
 cur:ai
 hs:List ai
 bN:aq Nat
 dB:List oU
 dh:List Nat
def m5 (n:Nat) (o:Oper) (s:fV) (v:aa) (f:aq aa->fV):Option fV:=(iJ s.T n o.dst v).map f
def tE (P:Program) (call:er) (round:jR) (ops:Array Oper) (n:Nat) (o:Oper) (s:fV):Option fV:=
 let ds:=cA o
 let lv:=level s.bN ds
 match cf s.T ops o with
 |none=>none
 |some false=>m5 n o s (.raw undef) fun T=>{s with i:=s.i+1,T:=T,bN:=s.bN.set s.i (some lv)}
 |some true=>match m0 P o.op with
  | .p=>match eV o.op P o (ck s.T) s.cur with
    | .ok v _=>m5 n o s v fun T=>{s with i:=s.i+1,T:=T,bN:=s.bN.set s.i (some lv)}
    |_=>none
  | .r=>match s.hs with
    |H::_=>match eV o.op P o (ck s.T) H with
     | .ok v _=>cond (rF P o (ck s.T) v (s.hs.take (s.k+1-lv)))
       (m5 n o s v fun T=>{s with i:=s.i+1,T:=T,bN:=s.bN.set s.i (some lv),dB:=⟨s.i,o,s.T,v⟩::s.dB}) none
     |_=>none
    |[]=>none
  | .a=>match eV o.op P o (ck s.T) s.cur with
    | .ok v H=>m5 n o s v fun T=>{s with i:=s.i+1,T:=T,cur:=H,bN:=s.bN.set s.i (some lv),dh:=s.i::s.dh}
    |_=>none
  | .e=>cond (Nat.beq lv s.k&&xi s.dh ds)
    (match iZ P call round o (ck s.T) s.cur with
      | .ok v H=>cond (qm P H (jx ds s.dB))
        (m5 n o s v fun T=>{i:=s.i+1,k:=s.k+1,T:=T,cur:=H,hs:=H::s.hs,bN:=s.bN.set s.i (some (s.k+1)),dB:=jx ds s.dB,dh:=[]}) none
      |_=>none) none
  | .b=>cond (Nat.beq lv s.k&&xi s.dh ds)
    (match iZ P call round o (ck s.T) s.cur with
      | .ok v H=>cond (qm P H (jx ds s.dB))
        (m5 n o s v fun T=>{i:=s.i+1,k:=s.k+1,T:=T,cur:=H,hs:=H::s.hs,bN:=s.bN.set s.i (some (s.k+1)),dB:=jx ds s.dB,dh:=[]}) none
      |_=>none)
    (match eV o.op P o (ck s.T) s.cur with
      | .ok v H=>m5 n o s v fun T=>{s with i:=s.i+1,T:=T,cur:=H,bN:=s.bN.set s.i (some lv),dh:=s.i::s.dh}
      |_=>none)
def xN (P:Program) (call:er) (round:jR) (ops:Array Oper) (n:Nat):List Oper->fV->eP
 |[],s=> .mk s.T s.cur
 |o::l,s=>match tE P call round ops n o s with
  |some s=>xN P call round ops n l s
  |none=> .no
def zI (P:Program):Il:=fun call round ops n T H=>
 cond (rE ops.toList ops.toList 0) (xN P call round ops n ops.toList {i:=0,k:=0,T:=T,cur:=H,hs:=[H],bN:= .nil,dB:=[],dh:=[]}) .no
def n8 (P:Program) (S:er):oN:=fun d call round ops n T H=> @Bool.rec (fun _=>eP) (xk P (vh S call) round ops n ops.toList T H) (zI P (vh S call) round ops n T H) d
end
section
open Go.RowKit
section
variable {P:Program} {B:Nat} {ρ:Env} {H:ai} {w:World} {o:Oper} {ev ev':dJ}
theorem dC (hp:qa o.op=true) (h:∀x∈o.op.operands.toList,ev x=ev' x):gen P o ev=gen P o ev':=by
 unfold gen;have e1:(o.op.operands.toList.all fun x=>(ev x).fc.isSome)=o.op.operands.toList.all fun x=>(ev' x).fc.isSome:=by
  rw [Bool.eq_iff_iff,List.all_eq_true,List.all_eq_true];exact⟨fun hh x hx=>by rw [<-h x hx];exact hh x hx,fun hh x hx=>by rw [h x hx];exact hh x hx⟩
 have e2:execOp (ri ev) o=execOp (ri ev') o:=execOp_congr hp fun x hx=>by simp only [ri,h x hx]
 rw [e1,e2]
theorem m6 {l:List Operand} (h:∀x∈l,ev x=ev' x):l.map ev=l.map ev':=List.map_congr_left h
theorem P4 {ps:Array (Nat×Operand)} (h:∀p∈ps.toList,ev p.2=ev' p.2):gk ev ps=gk ev' ps:=List.map_congr_left fun p hp=>by rw [h p hp]
theorem P5 (h:∀x∈o.op.operands.toList,ev x=ev' x):eV o.op P o ev H=eV o.op P o ev' H:=by
 cases ho:o.op with
 |move x=>
  have h1:=h x (by simp [ho,Op.operands]);show ru x P o ev H=ru x P o ev' H;simp only [ru,h1]
 |assign x=>
  have h1:=h x (by simp [ho,Op.operands]);show ru x P o ev H=ru x P o ev' H;simp only [ru,h1]
 |pick c a b=>
  have h1:=h c (by simp [ho,Op.operands]);have h2:=h a (by simp [ho,Op.operands]);have h3:=h b (by simp [ho,Op.operands]);show jn c a b P o ev H=jn c a b P o ev' H;simp only [jn,h1,h2,h3]
 |box t x=>
  have h1:=h x (by simp [ho,Op.operands]);show oJ t x P o ev H=oJ t x P o ev' H;simp only [oJ,h1]
 |build t ps=>
  have h1:=P4 (ev:=ev) (ev':=ev') (ps:=ps) fun p hp=>h p.2 (by simp only [ho,Op.operands];exact List.mem_map_of_mem hp)
  show so t ps P o ev H=so t ps P o ev' H;simp only [so,HZ,h1]
 |buildSlice t l ps=>
  have h1:=P4 (ev:=ev) (ev':=ev') (ps:=ps) fun p hp=>h p.2 (by simp only [ho,Op.operands];exact List.mem_map_of_mem hp)
  show zj t l ps P o ev H=zj t l ps P o ev' H;simp only [zj,oK,h1]
 |insert t m k v=>
  have h1:=h m (by simp [ho,Op.operands]);have h2:=h k (by simp [ho,Op.operands]);have h3:=h v (by simp [ho,Op.operands]);show oL t m k v P o ev H=oL t m k v P o ev' H;simp only [oL,h1,h2,h3]
 |mapUpdate t m k v=>
  have h1:=h m (by simp [ho,Op.operands]);have h2:=h k (by simp [ho,Op.operands]);have h3:=h v (by simp [ho,Op.operands]);show oL t m k v P o ev H=oL t m k v P o ev' H;simp only [oL,h1,h2,h3]
 |load t x=>
  have h1:=h x (by simp [ho,Op.operands]);show nV t x P o ev H=nV t x P o ev' H;simp only [nV,h1]
 |store t x y=>
  have h1:=h x (by simp [ho,Op.operands]);have h2:=h y (by simp [ho,Op.operands]);show p6 t x y P o ev H=p6 t x y P o ev' H;simp only [p6,h1,h2]
 |nilCheck x=>
  have h1:=h x (by simp [ho,Op.operands]);have hg:=dC (P:=P) (by rw [ho];rfl) h;show pY x P o ev H=pY x P o ev' H;simp only [pY,H6,h1,hg]
 |binOp op t x y ah=>
  have h1:=h x (by simp [ho,Op.operands]);have h2:=h y (by simp [ho,Op.operands]);have hg:=dC (P:=P) (by rw [ho];rfl) h;show i7 op t x y ah P o ev H=i7 op t x y ah P o ev' H;simp only [i7,xe,rx,Bo,h1,h2,hg]
 |unOp op t x=>
  have hg:=dC (P:=P) (by rw [ho];rfl) h;show ve P o ev H=ve P o ev' H;simp only [ve,hg]
 |typeAssert a b c d=>
  have hg:=dC (P:=P) (by rw [ho];rfl) h;show ve P o ev H=ve P o ev' H;simp only [ve,hg]
 |convert s d x=>
  have h1:=h x (by simp [ho,Op.operands]);have hg:=dC (P:=P) (by rw [ho];rfl) h;show zi s d x P o ev H=zi s d x P o ev' H;simp only [zi,Bu,h1,hg]
 |makeInterface t x=>
  have h1:=h x (by simp [ho,Op.operands]);show Bq t x P o ev H=Bq t x P o ev' H;simp only [Bq,h1]
 |makeFunc fn f c=>
  have h1:=m6 (ev:=ev) (ev':=ev') (l:=f.toList) fun x hx=>h x (by simp only [ho,Op.operands,Array.toList_append];exact List.mem_append_left _ hx)
  have h2:=m6 (ev:=ev) (ev':=ev') (l:=c.toList) fun x hx=>h x (by simp only [ho,Op.operands,Array.toList_append];exact List.mem_append_right _ hx)
  show Br fn f c P o ev H=Br fn f c P o ev' H;simp only [Br,h1,h2]
 |makeMap t r=>
  show zk t r P o ev H=zk t r P o ev' H;cases r with
  |none=>rfl
  |some x=>
   have h1:=h x (by simp [ho,Op.operands]);simp only [zk,ry,h1]
 |makeSlice t l c=>
  have h1:=h l (by simp [ho,Op.operands]);have h2:=h c (by simp [ho,Op.operands]);show s7 t l c P o ev H=s7 t l c P o ev' H;simp only [s7,h1,h2]
 |slice t x l hi m=>
  have h1:=h x (by simp [ho,Op.operands]);have h2:l.map ev=l.map ev':=by
   cases l with
   |none=>rfl
   |some y=>simp [h y (by simp [ho,Op.operands])]
  have h3:hi.map ev=hi.map ev':=by
   cases hi with
   |none=>rfl
   |some y=>simp [h y (by simp [ho,Op.operands])]
  have h4:m.map ev=m.map ev':=by
   cases m with
   |none=>rfl
   |some y=>simp [h y (by simp [ho,Op.operands])]
  have hg:=dC (P:=P) (by rw [ho];rfl) h;show oI t x l hi m P o ev H=oI t x l hi m P o ev' H;simp only [oI,Bs,h1,h2,h3,h4,hg]
 |fieldAddr s x f=>
  have h1:=h x (by simp [ho,Op.operands]);show pZ s x f P o ev H=pZ s x f P o ev' H;simp only [pZ,h1]
 |field t x f=>
  have h1:=h x (by simp [ho,Op.operands]);have hg:=dC (P:=P) (by rw [ho];rfl) h;show p0 t x f P o ev H=p0 t x f P o ev' H;simp only [p0,h1,hg]
 |indexAddr t x i=>
  have h1:=h x (by simp [ho,Op.operands]);have h2:=h i (by simp [ho,Op.operands]);show mZ t x i P o ev H=mZ t x i P o ev' H;simp only [mZ,h1,h2]
 |index t x i=>
  have h1:=h x (by simp [ho,Op.operands]);have h2:=h i (by simp [ho,Op.operands]);have hg:=dC (P:=P) (by rw [ho];rfl) h;show mh t x i P o ev H=mh t x i P o ev' H;simp only [mh,h1,h2,hg]
 |lookup t m k ok=>
  have h1:=h m (by simp [ho,Op.operands]);have h2:=h k (by simp [ho,Op.operands]);have hg:=dC (P:=P) (by rw [ho];rfl) h;show Bt t m k ok P o ev H=Bt t m k ok P o ev' H;simp only [Bt,Ib,h1,h2,hg]
 |extract x i=>
  have h1:=h x (by simp [ho,Op.operands]);have hg:=dC (P:=P) (by rw [ho];rfl) h;show p4 x i P o ev H=p4 x i P o ev' H;simp only [p4,h1,hg]
 |call c=>
  obtain⟨callee,args,argTypes⟩:=c;have h1:=m6 (ev:=ev) (ev':=ev') (l:=args.toList) fun x hx=>h x (by simp only [ho,Op.operands,Call.operands,Array.toList_append];exact List.mem_append_right _ hx)
  have hg:=dC (P:=P) (by rw [ho];rfl) h;show iY ⟨callee,args,argTypes⟩ P o ev H=iY ⟨callee,args,argTypes⟩ P o ev' H;cases callee with
  |value f=>
   have h2:=h f (by simp [ho,Op.operands,Call.operands]);simp only [iY,h1,h2]
  |builtin b=>simp only [iY,nW,h1,hg]
  |invoke r m=>rfl
 |range t x=>
  have h1:=h x (by simp [ho,Op.operands]);show pc t x P o ev H=pc t x P o ev' H;simp only [pc,h1]
 |next x b=>
  have h1:=h x (by simp [ho,Op.operands]);show zl x b P o ev H=zl x b P o ev' H;simp only [zl,h1]
 |entry x=>
  have h1:=h x (by simp [ho,Op.operands]);show Bx x P o ev H=Bx x P o ev' H;simp only [Bx,h1]
 |_=>rfl
theorem Z9 {t:Option TypeId} {v:aa} (h:rD P t=false) (H:ai):By P t v H=none:=by
 unfold rD at h;unfold By;cases t with
 |none=>rfl
 |some t=>
  simp only [Option.bind_some]at h ⊢;split
  .rename_i hu;rw [hu]at h;cases h
  .rfl
theorem aaa {args:Array Operand} {argTypes:Array TypeId} (hk:m0 P (.call {callee:= .builtin .len,args,argTypes})= .p):rD P argTypes[0]? =false:=by
 have hk:cond (rD P argTypes[0]?) Kd.e Kd.p= .p:=hk;cases h:rD P argTypes[0]? with
 |true=>rw [h]at hk;cases hk
 |false=>rfl
theorem aab {args:Array Operand} {argTypes:Array TypeId} (hk:m0 P (.call {callee:= .builtin .len,args,argTypes})= .r):False:=by
 have hk:cond (rD P argTypes[0]?) Kd.e Kd.p= .r:=hk;cases h:rD P argTypes[0]? <;>rw [h]at hk<;>cases hk
theorem aac {args:Array Operand} {argTypes:Array TypeId} (hk:(m0 P (.call {callee:= .builtin .len,args,argTypes})).al=true):False:=by
 have hk:(cond (rD P argTypes[0]?) Kd.e Kd.p).al=true:=hk;cases h:rD P argTypes[0]? <;>rw [h]at hk<;>cases hk
theorem BX {x:Option aa} {v:aa} {H1:ai} (h:ag H x= .ok v H1):x=some v/\H1=H:=by
 cases x with
 |none=>cases h
 |some y=>cases h;exact⟨rfl,rfl⟩
theorem kf {x:Option aa} {v:aa} {H1:ai} (h:ag H x= .ok v H1) (H2:ai):ag H2 x= .ok v H2:=by
 obtain⟨rfl,_⟩:=BX h;rfl
theorem aad {gC n:Nat} {x v:aa} {H1:ai} (h:u6 gC n x H= .ok v H1) (H2:ai):u6 gC n x H2= .ok v H2:=by
 unfold u6 at h ⊢;split at h
 .cases hb:Nat.ble 1 n<;>rw [hb]at h<;>cases h;rfl
 .cases hb:Nat.ble 1 n<;>rw [hb]at h<;>cases h;rfl
 .cases h
theorem aae {k n s:Nat} {x v:aa} {H1:ai} (h:u5 k n s x H= .ok v H1) (H2:ai):u5 k n s x H2= .ok v H2:=by
 unfold u5 at h ⊢;split at h
 .cases hb:Nat.ble (k+1) n<;>rw [hb]at h<;>cases h;rfl
 .cases hb:Nat.ble (k+1) n<;>rw [hb]at h<;>cases h;rfl
 .cases h
theorem aaf {k s:Nat} {x v:aa} {H1:ai} (h:q6 k s x H= .ok v H1) (H2:ai):q6 k s x H2= .ok v H2:=by
 unfold q6 at h ⊢;split at h
 .rename_i z t xs;cases hb:(Nat.beq t.size s&&Nat.ble (k+1) xs.length)<;>rw [hb]at h<;>cases h;rfl
 .rename_i e t i k0 len cap;cases hb:(Nat.beq t.size s&&Nat.ble (k+1) len)<;>rw [hb]at h<;>cases h;rfl
 .cases h
theorem aag (hk:m0 P o.op= .p) {v:aa} {H1:ai} (h:eV o.op P o ev H= .ok v H1) (H2:ai):eV o.op P o ev H2= .ok v H2:=by
 cases ho:o.op with
 |move x=>rw [ho]at h;cases h;rfl
 |assign x=>rw [ho]at h;cases h;rfl
 |pick c a b=>
  rw [ho]at h;have h:jn c a b P o ev H= .ok v H1:=h;show jn c a b P o ev H2= .ok v H2;unfold jn at h ⊢;cases hb:gD (ev c)with
  |no=>rw [hb]at h;cases h
  |mk q=>rw [hb]at h;cases q<;>(cases h;rfl)
 |build t ps=>rw [ho]at h;exact kf h H2
 |nilCheck x=>
  rw [ho]at h;have h:pY x P o ev H= .ok v H1:=h;show pY x P o ev H2= .ok v H2;unfold pY at h ⊢;cases hb:iI (ev x)with
  |no=>rw [hb]at h;exact kf h H2
  |mk i off=>rw [hb]at h;cases h;rfl
 |binOp op t x y ah=>
  rw [ho]at h;have h:i7 op t x y ah P o ev H= .ok v H1:=h;show i7 op t x y ah P o ev H2= .ok v H2;unfold i7 at h ⊢;cases hb:iH (ev x)with
  |no=>rw [hb]at h;exact kf h H2
  |int k a=>
   rw [hb]at h;simp only at h ⊢;cases kO:iH (ev y)with
   |no=>rw [kO]at h;exact kf h H2
   |int k' b=>
    rw [kO]at h;simp only at h ⊢;cases hf:ju op k k' a b with
    |none=>rw [hf]at h;exact kf h H2
    |some q=>rw [hf]at h;cases h;rfl
 |unOp op t x=>rw [ho]at h;exact kf h H2
 |typeAssert a b c d=>rw [ho]at h;exact kf h H2
 |makeInterface t x=>rw [ho]at h;exact kf h H2
 |makeFunc fn f c=>rw [ho]at h;cases h;rfl
 |slice t x l hi m=>rw [ho]at h;exact kf h H2
 |fieldAddr s x f=>
  rw [ho]at h;have h:pZ s x f P o ev H= .ok v H1:=h;show pZ s x f P o ev H2= .ok v H2;unfold pZ at h ⊢;cases hf:fv P s f with
  |no=>rw [hf]at h;cases h
  |mk a n t=>
   rw [hf]at h;simp only at h ⊢;cases hb:iI (ev x)with
   |no=>rw [hb]at h;exact aad h H2
   |mk i off=>
    rw [hb]at h;simp only at h ⊢;cases hn:Nat.ble 1 n with
    |false=>rw [hn]at h;cases h
    |true=>rw [hn]at h;cases h;rfl
 |field t x f=>
  rw [ho]at h;have h:p0 t x f P o ev H= .ok v H1:=h;show p0 t x f P o ev H2= .ok v H2;unfold p0 at h ⊢;cases hb:q7 (ev x)with
  |none=>rw [hb]at h;exact kf h H2
  |some cs=>
   rw [hb]at h;simp only at h ⊢;cases hf:fv P t f with
   |no=>rw [hf]at h;cases h
   |mk a n t=>rw [hf]at h;exact kf h H2
 |indexAddr t x i=>
  rw [ho]at h;have h:mZ t x i P o ev H= .ok v H1:=h;show mZ t x i P o ev H2= .ok v H2;unfold mZ at h ⊢;cases hk2:nU (ev i)with
  |no=>rw [hk2]at h;cases h
  |mk k=>
   rw [hk2]at h;simp only at h ⊢;cases ht:nT P t with
   |no=>rw [ht]at h;cases h
   |arr n s=>
    rw [ht]at h;simp only at h ⊢;cases hb:iI (ev x)with
    |no=>rw [hb]at h;exact aae h H2
    |mk i off=>
     rw [hb]at h;simp only at h ⊢;cases hn:Nat.ble (Nat.succ k) n with
     |false=>rw [hn]at h;cases h
     |true=>rw [hn]at h;cases h;rfl
   |sl s=>
    rw [ht]at h;simp only at h ⊢;cases hb:w9 (ev x)with
    |no=>rw [hb]at h;exact aaf h H2
    |mk i off len cap=>
     rw [hb]at h;simp only at h ⊢;cases hn:Nat.ble (Nat.succ k) len with
     |false=>rw [hn]at h;cases h
     |true=>rw [hn]at h;cases h;rfl
 |index t x i=>
  rw [ho]at h;have h:mh t x i P o ev H= .ok v H1:=h;show mh t x i P o ev H2= .ok v H2;unfold mh at h ⊢;cases hb:q7 (ev x)with
  |none=>rw [hb]at h;exact kf h H2
  |some cs=>rw [hb]at h;exact kf h H2
 |extract x i=>
  rw [ho]at h;have h:p4 x i P o ev H= .ok v H1:=h;show p4 x i P o ev H2= .ok v H2;unfold p4 at h ⊢;cases hb:y7 (ev x)with
  |none=>rw [hb]at h;exact kf h H2
  |some cs=>rw [hb]at h;exact kf h H2
 |call c=>
  obtain⟨callee,args,argTypes⟩:=c;rw [ho]at h hk;cases callee with
  |value f=>cases hk
  |invoke r m=>cases hk
  |builtin b=>
   have h:nW P o ev b argTypes (args.toList.map ev) H= .ok v H1:=h;show nW P o ev b argTypes (args.toList.map ev) H2= .ok v H2;unfold nW at h ⊢;split at h
   .rw [Z9 (aaa hk)]at h ⊢;simp only at h ⊢;split at h
    .cases h;rfl
    .exact kf h H2
   .split at h
    .cases h;rfl
    .exact kf h H2
   .cases hk
   .cases hk
   .cases hk
   .cases hk
   .cases hk
   .rename_i i off len cap _ _;have h: @Bool.rec (fun _=>aK) .no (.ok (.ptr i off) H) (Nat.ble 1 len)= .ok v H1:=h;show @Bool.rec (fun _=>aK) .no (.ok (.ptr i off) H2) (Nat.ble 1 len)= .ok v H2
    cases hn:Nat.ble 1 len with
    |false=>rw [hn]at h;cases h
    |true=>rw [hn]at h;cases h;rfl
   .rename_i e' u i k len cap _ _;have h: @Bool.rec (fun _=>aK) .no (.ok (.dA e' u i k 0) H) (Nat.ble 1 len)= .ok v H1:=h;show @Bool.rec (fun _=>aK) .no (.ok (.dA e' u i k 0) H2) (Nat.ble 1 len)= .ok v H2
    cases hn:Nat.ble 1 len with
    |false=>rw [hn]at h;cases h
    |true=>rw [hn]at h;cases h;rfl
   .exact kf h H2
 |_=>rw [ho]at hk;cases hk
theorem aah (hk:m0 P o.op= .r) {v:aa} {H1:ai} (h:eV o.op P o ev H= .ok v H1):H1=H:=by
 cases ho:o.op with
 |load t x=>
  rw [ho]at h;have h:nV t x P o ev H= .ok v H1:=h;unfold nV at h;cases hb:iI (ev x)with
  |no=>
   rw [hb]at h;have h:s5 P t (ev x) H= .ok v H1:=h;unfold s5 at h;split at h
   .exact(BX h).2
   .rename_i e' u i k off _;cases hc:bz e' u (H.get i) k with
    |false=>rw [hc]at h;cases h
    |true=>rw [hc]at h;exact(BX h).2
   .cases h
  |mk i off=>
   rw [hb]at h;simp only at h;cases hc:sW (H.get i)with
   |no=>rw [hc]at h;cases h
   |mk a b c d e=>rw [hc]at h;exact(BX h).2
 |lookup t m k ok=>rw [ho]at h;exact(BX h).2
 |call c=>
  obtain⟨callee,args,argTypes⟩:=c;rw [ho]at hk;cases callee with
  |value f=>cases hk
  |invoke r m=>cases hk
  |builtin b=>cases b<;>first |cases hk|exact(aab hk).elim
 |_=>rw [ho]at hk;cases hk
theorem BZ (hk:(m0 P o.op).al=true) {v:aa} {H1:ai} (h:eV o.op P o ev H= .ok v H1):True/\∃blk,H1=H.new blk/\∀H2:ai,H2.next=H.next->eV o.op P o ev H2= .ok v (H2.new blk):=by
 cases ho:o.op with
 |alloc t=>
  rw [ho]at h;have h:s6 t P o ev H= .ok v H1:=h;unfold s6 at h;cases hz:mX P t with
  |none=>rw [hz]at h;cases h
  |some z=>
   rw [hz]at h;cases h;refine⟨trivial,_,rfl,fun H2 h2=> ?_⟩;show s6 t P o ev H2=_;unfold s6;rw [hz];simp only [h2]
 |box t x=>
  rw [ho]at h;have h:oJ t x P o ev H= .ok v H1:=h;unfold oJ at h;cases hb:(ev x).u0 with
  |true=>rw [hb]at h;cases h
  |false=>
   rw [hb]at h;cases h;refine⟨trivial,_,rfl,fun H2 h2=> ?_⟩;show oJ t x P o ev H2=_;unfold oJ;rw [hb];simp only [h2]
 |buildSlice t len parts=>
  rw [ho]at h;have h:eH (oK P ev t len parts H)= .ok v H1:=h;have key:∀H2:ai,oK P ev t len parts H2=(oK P ev t len parts {m:= .nil,next:=0}).bind fun _=>(lz P t).bind fun e=>(ek P e).bind fun s=>(mX P e).bind fun z=>
    ((q9 (fun i=>some (i*s,s)) (List.replicate len (io z.cells)).flatten (gk ev parts)).map fun cs=>(.slice H2.next 0 len (.known len),H2.new (.cells e cs true false false))):=by
   intro H2;unfold oK;cases h1:lz P t with
   |none=>rfl
   |some e=>
    simp only [Option.bind_some];cases h2:ek P e with
    |none=>rfl
    |some s=>
     simp only [Option.bind_some];cases h3:mX P e with
     |none=>rfl
     |some z=>
      simp only [Option.bind_some];cases h4:(Nat.ble 1 s&&Nat.ble (len*s) 16777216&&Nat.beq z.cells.size s)with
      |false=>rfl
      |true=>
       simp only [cond_true];cases h5:q9 (fun i=>some (i*s,s)) (List.replicate len (io z.cells)).flatten (gk ev parts)with
       |none=>rfl
       |some cs=>rfl
  obtain⟨r,hr⟩:∃r,oK P ev t len parts H=some r:=by
   cases hq:oK P ev t len parts H with
   |none=>rw [hq]at h;cases h
   |some r=>exact⟨r,rfl⟩
  rw [hr]at h;have hk2:=key H;rw [hr]at hk2;have hk2:=hk2.symm;simp only [dz,am]at hk2;obtain⟨gH,h0,e,h1,s,h2,z,h3,cs,h4,h5⟩:=hk2;subst h5;cases h;refine⟨trivial,_,rfl,fun H2 hn=> ?_⟩;show eH (oK P ev t len parts H2)=_;rw [key H2,h0];simp only [Option.bind_some,h1,h2,h3,h4,Option.map_some,hn,eH]
 |call c=>
  obtain⟨callee,args,argTypes⟩:=c;rw [ho]at hk;cases callee with
  |value f=>cases hk
  |invoke r m=>cases hk
  |builtin b=>cases b<;>first |cases hk|exact(aac hk).elim
 |makeMap t r=>
  rw [ho]at h;have h:eH (ry P ev t r H)= .ok v H1:=h;have key:∀H2:ai,ry P ev t r H2=(ry P ev t r {m:= .nil,next:=0}).map fun _=>(.map H2.next,H2.new (.map #[] 0)):=by
   intro H2;unfold ry;cases r with
   |none=>rfl
   |some x=>
    simp only;split<;>rfl
  rw [key H]at h;cases hq:ry P ev t r {m:= .nil,next:=0}with
  |none=>rw [hq]at h;cases h
  |some q=>
   rw [hq]at h;cases h;refine⟨trivial,_,rfl,fun H2 h2=> ?_⟩;show eH (ry P ev t r H2)=_;rw [key H2,hq];simp only [Option.map_some,eH,h2]
 |makeSlice t l c=>
  rw [ho]at h;have h:eH (p5 P t (ev l) (ev c) H)= .ok v H1:=h;obtain⟨q,hq⟩:∃q,p5 P t (ev l) (ev c) H=some q:=by
   cases hq:p5 P t (ev l) (ev c) H with
   |none=>rw [hq]at h;cases h
   |some q=>exact⟨q,rfl⟩
  rw [hq]at h;have vF:=hq;unfold p5 at vF;simp only [dz]at vF;obtain⟨e,h1,inf,h2,z,h3,n,h4,m,h5,h6⟩:=vF;cases hb:(Nat.ble n m&&Nat.ble 1 inf.size&&bounded m inf.bytes&&Nat.beq z.cells.size inf.size)with
  |false=>rw [hb]at h6;cases h6
  |true=>
   rw [hb]at h6;cases h6;cases h;refine⟨trivial,_,rfl,fun H2 hn=> ?_⟩;show eH (p5 P t (ev l) (ev c) H2)=_;unfold p5;simp only [h1,h2,h3,h4,h5,Option.bind_some,hb,cond_true,eH,hn]
 |_=>rw [ho]at hk;cases hk
end
end
section
open Go.RowKit
theorem P6 {a b:Value} (h:BW a b=true):a=b:=by
 unfold BW at h;split at h
 .simp only [ae,bB]at h;rw [h.1,h.2]
 .simp only [gT]at h;rw [h]
 .simp only [bB]at h;rw [h]
 .rfl
 .simp only [ae]at h;rw [ac h.1,ac h.2]
 .rfl
 .rfl
 .rfl
 .simp only [bB]at h;rw [h]
 .cases h
theorem Jg {f:Value->Value->Bool} (hf:∀a b,f a b=true->a=b):∀{l m:List Value},zG f l m=true->l=m
 |[],[],_=>rfl
 |[],_::_,h=>by cases h
 |_::_,[],h=>by cases h
 |a::l,b::m,h=>by
  have e:zG f (a::l) (b::m)=cond (f a b) (zG f l m) false:=rfl;rw [e]at h;cases hc:f a b with
  |false=>rw [hc]at h;cases h
  |true=>rw [hc]at h;rw [hf a b hc,Jg hf h]
theorem Jh:∀(n:Nat) {a b:Value},m4 n a b=true->a=b
 |0,_,_,h=>P6 h
 |n+1,a,b,h=>by
  unfold m4 at h;split at h
  .rw [Jg (fun _ _ h=>Jh n h) h]
  .rw [Jg (fun _ _ h=>Jh n h) h]
  .exact P6 h
theorem P7 {a b:aZ} (h:aZ.same a b=true):a=b:=by
 unfold aZ.same at h;split at h
 .rw [ac h]
 .rfl
 .rfl
 .cases h
theorem P8 {α:Type} {f:α->α->Bool} (hf:∀a b,f a b=true->a=b):∀{l m:List α},l.length=m.length->(l.zip m).all (fun p=>f p.1 p.2)=true->l=m
 |[],[],_,_=>rfl
 |[],_::_,h,_=>by simp at h
 |_::_,[],h,_=>by simp at h
 |a::l,b::m,h,k=>by
  simp only [List.zip_cons_cons,List.all_cons,ae]at k;rw [hf a b k.1,P8 hf (by simpa using h) k.2]
theorem av.zJ:∀(t:av) {a b:t.den},t.beq a b=true->a=b
 | .int _,a,b,h=>ap h
 | .bool,a,b,h=>eq_of_beq h
 | .str,a,b,h=>ap h
 | .list _ t,a,b,h=>by
   have h:(Nat.beq a.length b.length&&(a.zip b).all fun p=>t.beq p.1 p.2)=true:=h;rw [ae]at h;exact P8 (fun a b h=>t.zJ h) (ac h.1) h.2
 | .pair s t,a,b,h=>by
   have h:(s.beq a.1 b.1&&t.beq a.2 b.2)=true:=h;rw [ae]at h;exact Prod.ext (s.zJ h.1) (t.zJ h.2)
 | .ptr t,_,_,h=>t.zJ h
 | .unit,_,_,_=>rfl
theorem P9 {t u:av} {xs:List t.den} {ys:List u.den} (h:zH t u xs ys=true):∃e:u=t,xs=e ▸ ys:=by
 unfold zH at h;split at h
 .rename_i e;exact⟨e,(av.zJ (.list false t) h:(xs:List t.den)=_)⟩
 .cases h
theorem Qa {a b:aa} (h:vE a b=true):a=b:=by
 unfold vE at h;split at h
 .simp only [ae]at h;obtain⟨e,h2⟩:=P9 h.2;subst e;subst h2;rw [eq_of_beq h.1]
 .simp only [ae]at h;obtain⟨e,h2⟩:=P9 h.1;subst e;subst h2;rw [ac h.2.1,ac h.2.2]
 .simp only [ae,bB]at h;obtain⟨h1,h2,h3,h4,h5,h6⟩:=h;subst h2;rw [ac h1,ac h3,ac h4,ac h5,P7 h6]
 .simp only [ae,bB]at h;obtain⟨h1,h2,h3,h4,h5⟩:=h;subst h2;rw [ac h1,ac h3,ac h4,ac h5]
 .rw [Jh 3 h]
 .simp only [ae]at h;rw [ac h.1,ac h.2]
 .simp only [ae]at h;rw [ac h.1.1.1,ac h.1.1.2,ac h.1.2,P7 h.2]
 .rw [ac h]
 .simp only [bB]at h;rw [h]
 .rw [ac h]
 .cases h
theorem xO:∀{l m:List aa},ql l m=true->l=m
 |[],[],_=>rfl
 |[],_::_,h=>by cases h
 |_::_,[],h=>by cases h
 |a::l,b::m,h=>by
  simp only [ql,ae]at h;rw [Qa h.1,xO h.2]
theorem aai {a b:aa} (h:aa.same a b=true):a=b:=by
 unfold aa.same at h;split at h
 .rw [xO h]
 .rw [xO h]
 .simp only [ae,bB]at h;rw [h.1,xO h.2.1,xO h.2.2]
 .simp only [ae,bB]at h;rw [h.1,xO h.2.1,xO h.2.2]
 .exact Qa h
theorem lc {i:Nat}:∀{l:List Nat},kR i l=true↔i∈l
 |[]=>by simp [kR]
 |a::l=>by
  have e:kR i (a::l)= @Bool.rec (fun _=>Bool) (kR i l) true (Nat.beq a i):=rfl;rw [e];cases hb:Nat.beq a i with
  |false=>have:=Nat.ne_of_beq_eq_false hb;simp only [lc,ep];exact⟨.inr,fun h=>h.resolve_left fun e=>this e.symm⟩
  |true=>simp [ac hb]
theorem Qb {l ds:List Nat} (h:xi l ds=true):∀i∈l,i∈ds:=fun i hi=>lc.1 (List.all_eq_true.1 h i hi)
theorem Qc {bN:aq Nat} {e:Nat}:∀{ds:List Nat},(∀d∈ds,(bN.get d).getD 0<=e)->level bN ds<=e
 |[],_=>Nat.zero_le _
 |a::l,h=>by
  have e:level bN (a::l)=Nat.max ((bN.get a).getD 0) (level bN l):=rfl;rw [e];exact Nat.max_le.2 ⟨h a kK,Qc fun d hd=>h d (j8 _ hd)⟩
theorem Qd {t k:Nat} {o:Oper}:∀{l:List Oper} {i:Nat},qj t l i=some (k,o)->i<=k/\l[k-i]? =some o/\o.dst=some t
 |[],_,h=>by cases h
 |a::l,i,h=>by
  have e:qj t (a::l) i=cond (xL t a) (some (i,a)) (qj t l (i+1)):=rfl;rw [e]at h;cases hd:xL t a with
  |true=>
   rw [hd]at h;cases h;refine⟨aG _,by simp, ?_⟩;unfold xL at hd;split at hd
   .rename_i d he;rw [he,ac hd]
   .cases hd
  |false=>
   rw [hd]at h;obtain⟨h1,h2,h3⟩:=Qd (l:=l) h;refine⟨by omega, ?_,h3⟩;have:k-i=(k-(i+1))+1:=by omega
   rw [this];simpa using h2
theorem Qe {t:Nat}:∀{l:List Oper} {i:Nat},qj t l i=none->∀o∈l,o.dst≠some t
 |[],_,_,o,ho=>by simp at ho
 |a::l,i,h,o,ho=>by
  have e:qj t (a::l) i=cond (xL t a) (some (i,a)) (qj t l (i+1)):=rfl;rw [e]at h;cases hd:xL t a with
  |true=>rw [hd]at h;cases h
  |false=>
   rw [hd]at h;rcases ep.1 ho with rfl |ho
   .intro hh;unfold xL at hd;rw [hh]at hd;have:Nat.beq t t=true:=Nat.beq_refl t;simp only at hd;rw [this]at hd;cases hd
   .exact Qe (l:=l) h o ho
theorem Qf {ops:List Oper}:∀{l:List Oper} {i:Nat},rE ops l i=true->∀j o,l[j]? =some o->xM ops (i+j) o=true
 |[],i,h,j,o,hj=>by simp at hj
 |a::l,i,h,j,o,hj=>by
  have e:rE ops (a::l) i=cond (xM ops i a) (rE ops l (i+1)) false:=rfl;rw [e]at h;cases hc:xM ops i a with
  |false=>rw [hc]at h;cases h
  |true=>
   rw [hc]at h;cases j with
   |zero=>simp at hj;subst hj;exact hc
   |succ j=>
    have:=Qf (l:=l) h j o (by simpa using hj);have e:i+1+j=i+(j+1):=by omega
    rwa [e]at this
structure aaj (ops:Array Oper) (i:Nat) (o:Oper):Prop where
 lt:∀d∈cA o,d<i
 slot:∀t,Operand.tmp t∈o.op.operands.toList->(∀(j:Nat) (p:Oper),ops[j]? =some p->p.dst≠some t)\/∃(k:Nat) (p:Oper),ops[k]? =some p/\p.dst=some t/\(k∈cA o\/i∈cA p)
 dst:∀t,o.dst=some t->∀(j:Nat) (p:Oper),ops[j]? =some p->p.dst=some t->j=i
 guard:∀g,o.guard=some g->g.1∈cA o
theorem tF {ops:Array Oper} (h:rE ops.toList ops.toList 0=true) {i:Nat} {o:Oper} (hi:ops[i]? =some o):aaj ops i o:=by
 have at':∀{j:Nat} {p:Oper},ops[j]? =some p->xM ops.toList j p=true:=fun {j p} hj=>by
  have:=Qf h j p (by simpa using hj);simpa using this
 have own:∀{j:Nat} {p:Oper} {t:Tmp},ops[j]? =some p->p.dst=some t->∃q,qj t ops.toList 0=some (j,q):=fun {j p t} hj ht=>by
  have hk:=at' hj;simp only [xM,ae,ht]at hk;have h3:=hk.1.2;split at h3
  .rename_i q hq;have:=ac h3;exact⟨q.2,by rw [hq];simp [<-this]⟩
  .cases h3
 have hk:=at' hi;simp only [xM,ae,List.all_eq_true]at hk;obtain⟨⟨⟨h1,h2⟩,h3⟩,h4⟩:=hk;refine⟨fun d hd=>bS (h1 d hd),fun t ht=> ?_,fun t ht j p hj hp=> ?_,fun g hg=> ?_⟩
 .have B0:=h2 t (List.mem_filterMap.2 ⟨_,ht,rfl⟩);cases hw:qj t ops.toList 0 with
  |none=>exact .inl fun j p hj=>Qe hw p (List.mem_of_getElem? (by simpa using hj))
  |some q=>
   obtain⟨k,p⟩:=q;rw [hw]at B0;obtain⟨_,e2,e3⟩:=Qd hw;simp only [Bool.or_eq_true,lc]at B0;exact .inr ⟨k,p,by simpa using e2,e3,B0⟩
 .obtain⟨q,hq⟩:=own hi ht;obtain⟨q',Qg⟩:=own hj hp;rw [hq]at Qg;cases Qg;rfl
 .rw [hg]at h4;exact lc.1 h4
theorem B1 {T aM:aq aa} {n:Nat} {dst:Option Tmp} {v:aa} (h:iJ T n dst v=some aM) (t:Nat):aM.get t=if dst=some t then some v else T.get t:=by
 cases dst with
 |none=>cases h;simp
 |some d=>
  have e:iJ T n (some d) v= @Bool.rec (fun _=>Option (aq aa)) none (some (T.set d (some v))) (Nat.ble (Nat.succ d) n):=rfl;rw [e]at h;cases hb:Nat.ble (Nat.succ d) n with
  |false=>rw [hb]at h;cases h
  |true=>
   rw [hb]at h;cases h;rw [aq.fU];by_cases hd:d=t<;>simp [hd]
theorem aak {T aM:aq aa} {n:Nat} {dst:Option Tmp} {v:aa} (h:iJ T n dst v=some aM) (T2:aq aa):∃aal,iJ T2 n dst v=some aal:=by
 cases dst with
 |none=>exact⟨_,rfl⟩
 |some d=>
  have e:∀T,iJ T n (some d) v= @Bool.rec (fun _=>Option (aq aa)) none (some (T.set d (some v))) (Nat.ble (Nat.succ d) n):=fun _=>rfl
  rw [e]at h ⊢;cases hb:Nat.ble (Nat.succ d) n with
  |false=>rw [hb]at h;cases h
  |true=>exact⟨_,rfl⟩
inductive Ji (P:Program) (call:er) (round:jR) (ops:Array Oper) (o:Oper) (s:fV) (v:aa) (s':fV):Prop
 |skip (h:cf s.T ops o=some false) (hv:v= .raw undef) (hk:s'.k=s.k) (hc:s'.cur=s.cur) (hh:s'.hs=s.hs) (hl:s'.bN=s.bN.set s.i (some (level s.bN (cA o)))) (hp:s'.dB=s.dB) (ha:s'.dh=s.dh)
 |p (h:cf s.T ops o=some true) (gj:m0 P o.op= .p) (hop:∃H,eV o.op P o (ck s.T) s.cur= .ok v H) (hk:s'.k=s.k) (hc:s'.cur=s.cur) (hh:s'.hs=s.hs) (hl:s'.bN=s.bN.set s.i (some (level s.bN (cA o)))) (hp:s'.dB=s.dB) (ha:s'.dh=s.dh)
 |r (h:cf s.T ops o=some true) (gj:m0 P o.op= .r) (hr:rF P o (ck s.T) v (s.hs.take (s.k+1-level s.bN (cA o)))=true) (hk:s'.k=s.k) (hc:s'.cur=s.cur) (hh:s'.hs=s.hs) (hl:s'.bN=s.bN.set s.i (some (level s.bN (cA o)))) (hp:s'.dB=⟨s.i,o,s.T,v⟩::s.dB) (ha:s'.dh=s.dh)
 |a (h:cf s.T ops o=some true) (gj:(m0 P o.op).al=true) (hop:eV o.op P o (ck s.T) s.cur= .ok v s'.cur) (hk:s'.k=s.k) (hh:s'.hs=s.hs) (hl:s'.bN=s.bN.set s.i (some (level s.bN (cA o)))) (hp:s'.dB=s.dB) (ha:s'.dh=s.i::s.dh)
 |e (h:cf s.T ops o=some true) (hlv:level s.bN (cA o)=s.k) (hs:∀j∈s.dh,j∈cA o) (hop:iZ P call round o (ck s.T) s.cur= .ok v s'.cur) (gG:qm P s'.cur (jx (cA o) s.dB)=true)
    (hk:s'.k=s.k+1) (hh:s'.hs=s'.cur::s.hs) (hl:s'.bN=s.bN.set s.i (some (s.k+1))) (hp:s'.dB=jx (cA o) s.dB) (ha:s'.dh=[])
theorem pr {P:Program} {call:er} {round:jR} {ops:Array Oper} {n:Nat} {o:Oper} {s s':fV} (h:tE P call round ops n o s=some s'):∃v,iJ s.T n o.dst v=some s'.T/\s'.i=s.i+1/\Ji P call round ops o s v s':=by
 unfold tE at h;simp only [m5]at h;split at h
 .cases h
 .rename_i hw;simp only [am]at h;obtain⟨T,hT,rfl⟩:=h;exact⟨_,hT,rfl, .skip hw rfl rfl rfl rfl rfl rfl rfl⟩
 .rename_i hw;split at h
  .rename_i gj;split at h
   .rename_i v H hop;simp only [am]at h;obtain⟨T,hT,rfl⟩:=h;exact⟨v,hT,rfl, .p hw gj ⟨H,hop⟩ rfl rfl rfl rfl rfl rfl⟩
   .cases h
  .rename_i gj;split at h
   .split at h
    .rename_i H l asf v H' hop;cases hr:rF P o (ck s.T) v (s.hs.take (s.k+1-level s.bN (cA o)))with
     |false=>rw [hr]at h;cases h
     |true=>
      rw [hr]at h;simp only [cond_true,am]at h;obtain⟨T,hT,rfl⟩:=h;exact⟨v,hT,rfl, .r hw gj hr rfl rfl rfl rfl rfl rfl⟩
    .cases h
   .cases h
  .rename_i gj;split at h
   .rename_i v H hop;simp only [am]at h;obtain⟨T,hT,rfl⟩:=h;exact⟨v,hT,rfl, .a hw (by rw [gj];rfl) hop rfl rfl rfl rfl rfl⟩
   .cases h
  .rename_i gj;cases hc:(Nat.beq (level s.bN (cA o)) s.k&&xi s.dh (cA o))with
   |false=>rw [hc]at h;cases h
   |true=>
    rw [hc]at h;simp only [ae]at hc;simp only [cond_true]at h;split at h
    .rename_i v H hop;cases hp:qm P H (jx (cA o) s.dB)with
     |false=>rw [hp]at h;cases h
     |true=>
      rw [hp]at h;simp only [cond_true,am]at h;obtain⟨T,hT,rfl⟩:=h;exact⟨v,hT,rfl, .e hw (ac hc.1) (Qb hc.2) hop hp rfl rfl rfl rfl rfl⟩
    .cases h
  .rename_i gj;cases hc:(Nat.beq (level s.bN (cA o)) s.k&&xi s.dh (cA o))with
   |false=>
    rw [hc]at h;simp only [cond_false]at h;split at h
    .rename_i v H hop;simp only [am]at h;obtain⟨T,hT,rfl⟩:=h;exact⟨v,hT,rfl, .a hw (by rw [gj];rfl) hop rfl rfl rfl rfl rfl⟩
    .cases h
   |true=>
    rw [hc]at h;simp only [ae]at hc;simp only [cond_true]at h;split at h
    .rename_i v H hop;cases hp:qm P H (jx (cA o) s.dB)with
     |false=>rw [hp]at h;cases h
     |true=>
      rw [hp]at h;simp only [cond_true,am]at h;obtain⟨T,hT,rfl⟩:=h;exact⟨v,hT,rfl, .e hw (ac hc.1) (Qb hc.2) hop hp rfl rfl rfl rfl rfl⟩
    .cases h
theorem Qi {P:Program} {call:er} {round:jR} {ops:Array Oper} {n:Nat} {aM:aq aa} {H':ai}:∀{l:List Oper} {s:fV},xN P call round ops n l s= .mk aM H'->
  ∃S:Nat->fV,S 0=s/\(∀i o,l[i]? =some o->tE P call round ops n o (S i)=some (S (i+1)))/\(S l.length).T=aM/\(S l.length).cur=H'
 |[],s,h=>by cases h;exact⟨fun _=>s,rfl,fun i o h=>by simp at h,rfl,rfl⟩
 |o::l,s,h=>by
  have e:xN P call round ops n (o::l) s=match tE P call round ops n o s with
   |some s=>xN P call round ops n l s
   |none=> .no:=rfl
  rw [e]at h;cases hs:tE P call round ops n o s with
  |none=>rw [hs]at h;cases h
  |some s1=>
   rw [hs]at h;obtain⟨S,h0,h1,h2,h3⟩:=Qi (l:=l) h;refine⟨fun i=>match i with |0=>s|i+1=>S i,rfl,fun i o' hi=> ?_,h2,h3⟩;cases i with
   |zero=>simp at hi;subst hi;simp only [h0];exact hs
   |succ i=>exact h1 i o' (by simpa using hi)
structure c7 (P:Program) (call:er) (round:jR) (ops:Array Oper) (n:Nat) (S:Nat->fV) (V:Nat->aa):Prop where
 ok:rE ops.toList ops.toList 0=true
 B2:∃T H,S 0={i:=0,k:=0,T:=T,cur:=H,hs:=[H],bN:= .nil,dB:=[],dh:=[]}
 put:∀i o,ops[i]? =some o->iJ (S i).T n o.dst (V i)=some (S (i+1)).T
 kind:∀i o,ops[i]? =some o->Ji P call round ops o (S i) (V i) (S (i+1))
 i:∀i,i<=ops.size->(S i).i=i
theorem Qj {P:Program} {call:er} {round:jR} {ops:Array Oper} {n:Nat} {T aM:aq aa} {H H':ai} (h:zI P call round ops n T H= .mk aM H'):
  ∃S V,c7 P call round ops n S V/\(S 0).T=T/\(S 0).cur=H/\(S ops.size).T=aM/\(S ops.size).cur=H':=by
 unfold zI at h;cases hk:rE ops.toList ops.toList 0 with
 |false=>rw [hk]at h;cases h
 |true=>
  rw [hk]at h;obtain⟨S,h0,h1,h2,h3⟩:=Qi (l:=ops.toList) h;have step:∀i o,ops[i]? =some o->tE P call round ops n o (S i)=some (S (i+1)):=fun i o hi=>h1 i o (by simpa using hi)
  classical
  refine⟨S,fun i=>match ops[i]? with |some o=>if h:∃v,iJ (S i).T n o.dst v=some (S (i+1)).T/\(S (i+1)).i=(S i).i+1/\Ji P call round ops o (S i) v (S (i+1))then h.choose else .raw undef|none=> .raw undef,⟨hk,⟨T,H,h0⟩,fun i o hi=> ?_,fun i o hi=> ?_,fun i=> ?_⟩,by rw [h0],by rw [h0],by simpa using h2,by simpa using h3⟩
  .have hx:=pr (step i o hi);simp only [hi,dif_pos hx];exact hx.choose_spec.1
  .have hx:=pr (step i o hi);simp only [hi,dif_pos hx];exact hx.choose_spec.2.2
  .induction i with
   |zero=>intro _;rw [h0]
   |succ i ih=>
    intro hi;have hlt:i<ops.size:=hi;obtain⟨v,_,e,_⟩:=pr (step i ops[i] (by simp));rw [e,ih (Nat.le_of_lt hlt)]
variable [Ground]
theorem Qk {bN EA:aq Nat}:∀{ds:List Nat},(∀d∈ds,bN.get d=EA.get d)->level bN ds=level EA ds
 |[],_=>rfl
 |a::l,h=>by
  show Nat.max ((bN.get a).getD 0) (level bN l)=Nat.max ((EA.get a).getD 0) (level EA l);rw [h a kK,Qk fun d hd=>h d (j8 _ hd)]
theorem ma {ds:List Nat} {q:oU} (hq:¬q.i∈ds):∀{l:List oU},q∈l->q∈jx ds l
 |[],h=>by cases h
 |a::l,h=>by
  show q∈cond (kR a.i ds) (jx ds l) (a::jx ds l);cases hm:kR a.i ds with
  |true=>
   rcases ep.1 h with rfl |h
   .exact absurd (lc.1 hm) hq
   .exact ma hq h
  |false=>
   rcases ep.1 h with rfl |h
   .exact kK
   .exact j8 _ (ma hq h)
theorem Ql {P:Program} {H:ai} {q:oU}:∀{l:List oU},qm P H l=true->q∈l->oT P q.o (ck q.T) q.v H=true
 |[],_,h=>by cases h
 |a::l,hp,h=>by
  have e:qm P H (a::l)=cond (oT P a.o (ck a.T) a.v H) (qm P H l) false:=rfl;rw [e]at hp;cases hr:oT P a.o (ck a.T) a.v H with
  |false=>rw [hr]at hp;cases hp
  |true=>
   rw [hr]at hp;rcases ep.1 h with rfl |h
   .exact hr
   .exact Ql hp h
theorem Qm {P:Program} {o:Oper} {ev:dJ} {v:aa} {H:ai}:∀{l:List ai},rF P o ev v l=true->H∈l->oT P o ev v H=true
 |[],_,h=>by cases h
 |a::l,hp,h=>by
  have e:rF P o ev v (a::l)=cond (oT P o ev v a) (rF P o ev v l) false:=rfl;rw [e]at hp;cases hr:oT P o ev v a with
  |false=>rw [hr]at hp;cases hp
  |true=>
   rw [hr]at hp;rcases ep.1 h with rfl |h
   .exact hr
   .exact Qm hp h
theorem aam {P:Program} {o:Oper} {ev:dJ} {v:aa} {H:ai} (hk:m0 P o.op= .r) (h:oT P o ev v H=true):eV o.op P o ev H= .ok v H:=by
 unfold oT at h;split at h
 .rename_i v' H' hop;rw [hop,aai h,aah hk hop]
 .cases h
section
variable {P:Program} {call:er} {round:jR} {ops:Array Oper} {n:Nat} {S:Nat->fV} {V:Nat->aa}
theorem lJ {i:Nat} (h:i<ops.size):∃o,ops[i]? =some o:=⟨ops[i],by simp⟩
abbrev eS (S:Nat->fV) (m:Nat):Prop:=(S (m+1)).k=(S m).k+1
abbrev jW (S:Nat->fV) (j:Nat):Prop:=(S (j+1)).dh=j::(S j).dh
noncomputable abbrev lvl (S:Nat->fV) (N j:Nat):Nat:=((S N).bN.get j).getD 0
noncomputable abbrev hpf (S:Nat->fV) (N e:Nat):ai:=((S N).hs.reverse[e]?).getD {m:= .nil,next:=0}
variable (R:c7 P call round ops n S V)
include R
theorem c7.Qn {i:Nat} (hi:i<ops.size):(S (i+1)).k=(S i).k\/(S (i+1)).k=(S i).k+1:=by
 obtain⟨o,ho⟩:=lJ hi;cases R.kind i o ho with
 |skip _ _ hk=>exact .inl hk
 |p _ _ _ hk=>exact .inl hk
 |r _ _ _ hk=>exact .inl hk
 |a _ _ _ hk=>exact .inl hk
 |e _ _ _ _ _ hk=>exact .inr hk
theorem c7.rG {i:Nat}:∀{j:Nat},i<=j->j<=ops.size->(S i).k<=(S j).k
 |0,h,_=>by have:i=0:=by omega
            subst this;exact aG _
 |j+1,h,hj=>by
  by_cases hi:i=j+1
  .subst hi;exact aG _
  .have h1:=c7.rG (i:=i) (j:=j) (by omega) (by omega);have h2:=R.Qn (i:=j) (by omega);omega
theorem c7.EB {i e:Nat}:∀{j:Nat},i<=j->j<=ops.size->(S i).k<e->e<=(S j).k->∃m,i<=m/\m<j/\(S m).k+1=e/\eS S m
 |0,h,_,h1,h2=>by have:i=0:=by omega
                  subst this;omega
 |j+1,h,hj,h1,h2=>by
  by_cases hi:i=j+1
  .subst hi;omega
  .by_cases he:e<=(S j).k
   .obtain⟨m,a,b,c,d⟩:=c7.EB (j:=j) (by omega) (by omega) h1 he;exact⟨m,a,by omega,c,d⟩
   .have h3:=R.Qn (i:=j) (by omega);exact⟨j,by omega,by omega,by omega,by unfold eS;omega⟩
theorem c7.k0:(S 0).k=0:=by obtain⟨T,H,h⟩:=R.B2;rw [h]
theorem c7.Qo (hC:bD P call) (hR:lH P round) {i:Nat} (hi:i<ops.size):(S i).cur.next<=(S (i+1)).cur.next:=by
 obtain⟨o,ho⟩:=lJ hi;cases R.kind i o ho with
 |skip _ _ _ hc=>exact Nat.le_of_eq (by rw [hc])
 |p _ _ _ _ hc=>exact Nat.le_of_eq (by rw [hc])
 |r _ _ _ _ hc=>exact Nat.le_of_eq (by rw [hc])
 |a _ gj hop=>
  obtain⟨_,blk,e,_⟩:=BZ gj hop;rw [e];exact Nat.le_succ _
 |e _ _ _ hop=>exact PM hC hR hop
theorem c7.oV (hC:bD P call) (hR:lH P round) {i:Nat}:∀{j:Nat},i<=j->j<=ops.size->(S i).cur.next<=(S j).cur.next
 |0,h,_=>by have:i=0:=by omega
            subst this;exact aG _
 |j+1,h,hj=>by
  by_cases hi:i=j+1
  .subst hi;exact aG _
  .exact cX (c7.oV hC hR (i:=i) (j:=j) (by omega) (by omega)) (R.Qo hC hR (by omega))
theorem c7.aan {i x:Nat} (hi:i<ops.size) (hx:x≠i):(S (i+1)).bN.get x=(S i).bN.get x:=by
 obtain⟨o,ho⟩:=lJ hi;have e:=R.i i (Nat.le_of_lt hi);have key:∀y,((S i).bN.set (S i).i (some y)).get x=(S i).bN.get x:=fun y=>by rw [aq.fU,e,if_neg fun h=>hx h.symm]
 cases R.kind i o ho with
 |skip _ _ _ _ _ hl=>rw [hl,key]
 |p _ _ _ _ _ _ hl=>rw [hl,key]
 |r _ _ _ _ _ _ hl=>rw [hl,key]
 |a _ _ _ _ _ hl=>rw [hl,key]
 |e _ _ _ _ _ _ _ hl=>rw [hl,key]
theorem c7.Jj {i x:Nat} (hx:x<i):∀{j:Nat},i<=j->j<=ops.size->(S j).bN.get x=(S i).bN.get x
 |0,h,_=>by omega
 |j+1,h,hj=>by
  by_cases hi:i=j+1
  .subst hi;rfl
  .rw [R.aan (by omega) (by omega),c7.Jj hx (j:=j) (by omega) (by omega)]
theorem c7.level {i:Nat} {o:Oper} (ho:ops[i]? =some o):level (S i).bN (cA o)=level (S ops.size).bN (cA o):=by
 have hi:i<ops.size:=(cV.1 ho).1;exact Qk fun d hd=>(R.Jj ((tF R.ok ho).lt d hd) (Nat.le_of_lt hi) (aG _)).symm
theorem c7.Jk {i:Nat} {o:Oper} (ho:ops[i]? =some o):(eS S i/\lvl S ops.size i=(S i).k+1)\/(¬eS S i/\lvl S ops.size i=Sv.level (S ops.size).bN (cA o)):=by
 have hi:i<ops.size:=(cV.1 ho).1;have e:=R.i i (Nat.le_of_lt hi);have h1:lvl S ops.size i=((S (i+1)).bN.get i).getD 0:=by unfold lvl;rw [R.Jj (e8 i) hi (aG _)]
 have key:∀y,(S (i+1)).bN=(S i).bN.set (S i).i (some y)->lvl S ops.size i=y:=fun y h=>by rw [h1,h,aq.fU,e,if_pos rfl];rfl
 have hl:=R.level ho;cases R.kind i o ho with
 |skip _ _ hk _ _ hh=>exact .inr ⟨by unfold eS;omega,by rw [key _ hh,hl]⟩
 |p _ _ _ hk _ _ hh=>exact .inr ⟨by unfold eS;omega,by rw [key _ hh,hl]⟩
 |r _ _ _ hk _ _ hh=>exact .inr ⟨by unfold eS;omega,by rw [key _ hh,hl]⟩
 |a _ _ _ hk _ hh=>exact .inr ⟨by unfold eS;omega,by rw [key _ hh,hl]⟩
 |e _ _ _ _ _ hk _ hh=>exact .inl ⟨hk,by rw [key _ hh]⟩
theorem c7.EC {i:Nat} (hi:i<ops.size):((S (i+1)).hs=(S i).hs/\(S (i+1)).k=(S i).k)\/((S (i+1)).hs=(S (i+1)).cur::(S i).hs/\(S (i+1)).k=(S i).k+1):=by
 obtain⟨o,ho⟩:=lJ hi;cases R.kind i o ho with
 |skip _ _ hk _ hh=>exact .inl ⟨hh,hk⟩
 |p _ _ _ hk _ hh=>exact .inl ⟨hh,hk⟩
 |r _ _ _ hk _ hh=>exact .inl ⟨hh,hk⟩
 |a _ _ _ hk hh=>exact .inl ⟨hh,hk⟩
 |e _ _ _ _ _ hk hh=>exact .inr ⟨hh,hk⟩
theorem c7.ED {i:Nat} (hi:i<=ops.size):(S i).hs.length=(S i).k+1:=by
 induction i with
 |zero=>obtain⟨T,H,h⟩:=R.B2;rw [h];rfl
 |succ i ih=>
  have ih:=ih (Nat.le_of_succ_le hi);rcases R.EC (i:=i) hi with⟨a,b⟩|⟨a,b⟩
  .rw [a,b,ih]
  .rw [a,b,List.length_cons,ih]
theorem c7.Qp {i e:Nat} (he:e<=(S i).k):∀{j:Nat},i<=j->j<=ops.size->(S j).hs.reverse[e]? =(S i).hs.reverse[e]?
 |0,h,_=>by have:i=0:=by omega
            subst this;rfl
 |j+1,h,hj=>by
  by_cases hi:i=j+1
  .subst hi;rfl
  .have ih:=c7.Qp he (j:=j) (by omega) (by omega);rcases R.EC (i:=j) hj with⟨a,b⟩|⟨a,b⟩
   .rw [a,ih]
   .have hl:=R.ED (i:=j) (by omega);have hm:=R.rG (i:=i) (j:=j) (by omega) (by omega);rw [a,List.reverse_cons,List.getElem?_append_left (by simp;omega),ih]
theorem c7.Jl {i e:Nat} (hi:i<=ops.size) (he:e<=(S i).k):(S i).hs.reverse[e]? =some (hpf S ops.size e):=by
 have h1:=R.Qp he hi (aG _);have hl:=R.ED hi;have h2:∃x,(S i).hs.reverse[e]? =some x:=⟨_,mV (by simp;omega)⟩;obtain⟨x,hx⟩:=h2;unfold hpf;rw [h1,hx];rfl
theorem c7.EE {i:Nat} (hi:i<ops.size) (he:eS S i):hpf S ops.size ((S i).k+1)=(S (i+1)).cur:=by
 have h1:=R.Jl (i:=i+1) (e:=(S i).k+1) hi (by unfold eS at he;omega);have hl:=R.ED (i:=i) (by omega);unfold eS at he;rcases R.EC (i:=i) hi with⟨a,b⟩|⟨a,b⟩
 .omega
 .rw [a,List.reverse_cons,List.getElem?_append_right (by simp;omega)]at h1;simp [hl]at h1;exact h1.symm
theorem c7.Jm:hpf S ops.size 0=(S 0).cur:=by
 have h1:=R.Jl (i:=0) (e:=0) (Nat.zero_le _) (Nat.zero_le _);obtain⟨T,H,h⟩:=R.B2;rw [h]at h1 ⊢;simp at h1;exact h1.symm
theorem c7.aao {i e l:Nat} (hi:i<=ops.size) (he:e<=(S i).k) (hl:l<=e):hpf S ops.size e∈(S i).hs.take ((S i).k+1-l):=by
 have h1:=R.Jl hi he;have hn:=R.ED hi;rw [List.getElem?_reverse (by omega)]at h1;refine List.mem_of_getElem? (i:=(S i).hs.length-1-e) ?_;rw [List.getElem?_take_of_lt (by omega)];exact h1
theorem c7.Jn {i:Nat} (hi:i<=ops.size):∀j,j∈(S i).dh↔(j<i/\jW S j/\(S j).k=(S i).k):=by
 induction i with
 |zero=>intro j;obtain⟨T,H,h⟩:=R.B2;rw [h];simp
 |succ i ih=>
  have ih:=ih (Nat.le_of_succ_le hi);obtain⟨o,ho⟩:=lJ (ops:=ops) (i:=i) hi;have e:=R.i i (Nat.le_of_lt hi);have same:(S (i+1)).dh=(S i).dh->(S (i+1)).k=(S i).k->∀j,j∈(S (i+1)).dh↔(j<i+1/\jW S j/\(S j).k=(S (i+1)).k):=fun ha hk j=>by
   rw [ha,hk,ih];constructor
   .rintro⟨a,b,c⟩;exact⟨by omega,b,c⟩
   .rintro⟨a,b,c⟩;refine⟨?_,b,c⟩;by_cases hj:j=i
    .subst hj;unfold jW at b;rw [ha]at b;have:=congrArg List.length b;simp at this
    .omega
  cases R.kind i o ho with
  |skip _ _ hk _ _ _ _ ha=>exact same ha hk
  |p _ _ _ hk _ _ _ _ ha=>exact same ha hk
  |r _ _ _ hk _ _ _ _ ha=>exact same ha hk
  |a _ _ _ hk _ _ _ ha=>
   intro j;rw [ha,hk,e,ep,ih];constructor
   .rintro(rfl |⟨a,b,c⟩)
    .exact⟨e8 _,by unfold jW;rw [ha,e],rfl⟩
    .exact⟨by omega,b,c⟩
   .rintro⟨a,b,c⟩;by_cases hj:j=i
    .exact .inl hj
    .exact .inr ⟨by omega,b,c⟩
  |e _ _ _ _ _ hk _ _ _ ha=>
   intro j;rw [ha,hk];constructor
   .intro h;cases h
   .rintro⟨a,b,c⟩;have:=R.rG (i:=j) (j:=i) (by omega) (by omega);omega
noncomputable abbrev vG (S:Nat->fV) (j:Nat):Option bq:=(S (j+1)).cur.get (S j).cur.next
theorem c7.Qq {i:Nat} {o:Oper} (ho:ops[i]? =some o) (ha:jW S i):cf (S i).T ops o=some true/\(m0 P o.op).al=true/\eV o.op P o (ck (S i).T) (S i).cur= .ok (V i) (S (i+1)).cur/\(S (i+1)).k=(S i).k:=by
 have hi:i<ops.size:=(cV.1 ho).1;have no:(S (i+1)).dh=(S i).dh->False:=fun h=>by
  unfold jW at ha;rw [h]at ha;have:=congrArg List.length ha;simp at this
 cases R.kind i o ho with
 |skip _ _ _ _ _ _ _ h=>exact(no h).elim
 |p _ _ _ _ _ _ _ _ h=>exact(no h).elim
 |r _ _ _ _ _ _ _ _ h=>exact(no h).elim
 |a h1 h2 h3 h4=>exact⟨h1,h2,h3,h4⟩
 |e _ _ _ _ _ _ _ _ _ h=>unfold jW at ha;rw [h]at ha;cases ha
theorem c7.Qr {i:Nat} (hi:i<=ops.size):(∀x b,(S i).cur.get x=some b->(hpf S ops.size (S i).k).get x=some b\/∃j∈(S i).dh,x=(S j).cur.next/\vG S j=some b)/\
  (∀x,(hpf S ops.size (S i).k).get x≠none->(S i).cur.get x≠none)/\(∀j∈(S i).dh,(S i).cur.get (S j).cur.next≠none):=by
 induction i with
 |zero=>
  rw [R.k0,R.Jm];refine⟨fun x b h=> .inl h,fun x h=>h,fun j hj=> ?_⟩;obtain⟨T,H,h⟩:=R.B2;rw [h]at hj;cases hj
 |succ i ih=>
  have ih:=ih (Nat.le_of_succ_le hi);obtain⟨o,ho⟩:=lJ (ops:=ops) (i:=i) hi;have e:=R.i i (Nat.le_of_lt hi);cases R.kind i o ho with
  |skip _ _ hk hc _ _ _ ha=>rw [hk,hc,ha];exact ih
  |p _ _ _ hk hc _ _ _ ha=>rw [hk,hc,ha];exact ih
  |r _ _ _ hk hc _ _ _ ha=>rw [hk,hc,ha];exact ih
  |a _ gj hop hk _ _ _ ha=>
   obtain⟨_,blk,nu,_⟩:=BZ gj hop;rw [hk,ha,e];refine⟨fun x b h=> ?_,fun x h=> ?_,fun j hj=> ?_⟩
   .rw [nu,ai.gv]at h;split at h
    .rename_i hx;refine .inr ⟨i,kK,hx.symm, ?_⟩;unfold vG;rw [nu,ai.gv,if_pos rfl,h]
    .rcases ih.1 x b h with h|⟨j,h1,h2⟩
     .exact .inl h
     .exact .inr ⟨j,j8 _ h1,h2⟩
   .rw [nu,ai.gv];split
    .simp
    .exact ih.2.1 x h
   .rw [nu,ai.gv];split
    .simp
    .rename_i hne;rcases ep.1 hj with rfl |hj
     .exact absurd rfl hne
     .exact ih.2.2 j hj
  |e _ _ _ _ _ hk _ _ _ ha=>
   rw [hk,R.EE hi hk,ha];exact⟨fun x b h=> .inl h,fun x h=>h,fun j hj=>by cases hj⟩
theorem c7.Qs {i:Nat} {o:Oper} (ho:ops[i]? =some o) (hp:(S (i+1)).dB=⟨(S i).i,o,(S i).T,V i⟩::(S i).dB):∀{j:Nat},i<j->j<=ops.size->
  (∀m mD,i<m->m<j->eS S m->ops[m]? =some mD->¬i∈cA mD)->(⟨(S i).i,o,(S i).T,V i⟩:oU)∈(S j).dB
 |0,h,_,_=>by omega
 |j+1,h,hj,hm=>by
  by_cases hi:i=j
  .subst hi;rw [hp];exact kK
  .have ih:=c7.Qs ho hp (j:=j) (by omega) (by omega) fun m mD h1 h2=>hm m mD h1 (by omega)
   obtain⟨oj,zK⟩:=lJ (ops:=ops) (i:=j) hj;have kS:=R.i i (by omega);cases R.kind j oj zK with
   |skip _ _ _ _ _ _ hq=>rw [hq];exact ih
   |p _ _ _ _ _ _ _ hq=>rw [hq];exact ih
   |r _ _ _ _ _ _ _ hq=>rw [hq];exact j8 _ ih
   |a _ _ _ _ _ _ hq=>rw [hq];exact ih
   |e _ _ _ _ _ hk _ _ hq=>rw [hq];exact ma (by rw [kS];exact hm j oj (by omega) (e8 _) hk zK) ih
theorem c7.read {i e:Nat} {o:Oper} (ho:ops[i]? =some o) (gj:m0 P o.op= .r) (hr:rF P o (ck (S i).T) (V i) ((S i).hs.take ((S i).k+1-Sv.level (S i).bN (cA o)))=true)
  (hp:(S (i+1)).dB=⟨(S i).i,o,(S i).T,V i⟩::(S i).dB) (hl:Sv.level (S ops.size).bN (cA o)<=e) (he:e<=(S ops.size).k) (hm:∀m mD,m<ops.size->eS S m->(S m).k<e->ops[m]? =some mD->¬i∈cA mD):
  eV o.op P o (ck (S i).T) (hpf S ops.size e)= .ok (V i) (hpf S ops.size e):=by
 have hi:i<ops.size:=(cV.1 ho).1;refine aam gj ?_;by_cases hk:e<=(S i).k
 .exact Qm hr (R.aao (Nat.le_of_lt hi) hk (by rw [R.level ho];exact hl))
 .obtain⟨m,h1,h2,h3,h4⟩:=R.EB (i:=i) (j:=ops.size) (Nat.le_of_lt hi) (aG _) (by omega) he;obtain⟨mD,tG⟩:=lJ h2;have him:i≠m:=fun hh=>by
   subst hh;rw [ho]at tG;cases tG;have hc:=R.kind i o ho;have:=R.EC h2;cases hc with
   |skip _ _ hk=>unfold eS at h4;omega
   |p _ _ _ hk=>unfold eS at h4;omega
   |r _ _ _ hk=>unfold eS at h4;omega
   |a _ _ _ hk=>unfold eS at h4;omega
   |e _ _ _ _ _ _ _ _ hq=>
    have h1:=congrArg List.length (hp.symm.trans hq);have h2:∀(ds:List Nat) (l:List oU),(jx ds l).length<=l.length:=fun ds l=>by
     induction l with
     |nil=>exact aG _
     |cons a l ih=>
      show(cond (kR a.i ds) (jx ds l) (a::jx ds l)).length<=_;cases kR a.i ds<;>simp<;>omega
    have:=h2 (cA o) (S i).dB;simp at h1;omega
  have hq:=R.Qs ho hp (j:=m) (by omega) (Nat.le_of_lt h2) fun m' aap a b c d=>hm m' aap (by omega) c (by
   have:=R.rG (i:=m') (j:=m) (by omega) (by omega);omega) d
  have kS:=R.i i (Nat.le_of_lt hi);cases R.kind m mD tG with
  |skip _ _ hk=>unfold eS at h4;omega
  |p _ _ _ hk=>unfold eS at h4;omega
  |r _ _ _ hk=>unfold eS at h4;omega
  |a _ _ _ hk=>unfold eS at h4;omega
  |e _ _ _ _ gG=>
   have:=Ql gG (ma (by rw [kS];exact hm m mD h2 h4 (by omega) tG) hq);rw [<-R.EE h2 h4,h3]at this;exact this
theorem c7.Qt {t:Nat} (h:∀(j:Nat) (p:Oper),ops[j]? =some p->p.dst≠some t) {i:Nat} (hi:i<=ops.size):(S i).T.get t=(S 0).T.get t:=by
 induction i with
 |zero=>rfl
 |succ i ih=>
  obtain⟨o,ho⟩:=lJ (ops:=ops) (i:=i) hi;rw [B1 (R.put i o ho),if_neg (h i o ho),ih (Nat.le_of_succ_le hi)]
theorem c7.aaq {t k:Nat} {p:Oper} (hk:ops[k]? =some p) (hp:p.dst=some t) {i:Nat} (hi:i<=k):(S i).T.get t=(S 0).T.get t:=by
 have nZ:k<ops.size:=(cV.1 hk).1;induction i with
 |zero=>rfl
 |succ i ih=>
  obtain⟨o,ho⟩:=lJ (ops:=ops) (i:=i) (by omega);rw [B1 (R.put i o ho),if_neg (fun hh=>by
   have:=(tF R.ok hk).dst t hp i o ho hh;omega),ih (Nat.le_of_succ_le hi)]
theorem c7.EF {t k:Nat} {p:Oper} (hk:ops[k]? =some p) (hp:p.dst=some t):∀{i:Nat},k<i->i<=ops.size->(S i).T.get t=some (V k)
 |0,h,_=>by omega
 |i+1,h,hi=>by
  obtain⟨o,ho⟩:=lJ (ops:=ops) (i:=i) (by omega);rw [B1 (R.put i o ho)];by_cases hik:i=k
  .subst hik;rw [hk]at ho;cases ho;rw [if_pos hp]
  .rw [if_neg (fun hh=>hik ((tF R.ok hk).dst t hp i o ho hh)),c7.EF hk hp (i:=i) (by omega) (by omega)]
end
end
section
open Go.RowKit
variable [Ground]
structure rH (P:Program) (B:Nat) (eM:Env) (H0:ai) (w0:World) (top:Nat) (ρ:Env) (g:Nat->Option bq) (w:World):Prop where
 blk:∀i k,g i=some k->∃b c o,ρ i=some (b,c)/\w.heap[b]? =some o/\gF P ρ i k o/\(k.eL=false->B<=b)
 inj:∀i j eC eR b ci cj,g i=some eC->g j=some eR->ρ i=some (b,ci)->ρ j=some (b,cj)->i=j
 base:B<=w.heap.size
 le:cB eM ρ
 ext:∀i,i<H0.next\/top<=i->ρ i=eM i
 size:w0.heap.size<=w.heap.size
 os:w.os=w0.os
 tape:w.tape=w0.tape
 output:w.output=w0.output
 frame:∀b,b<w0.heap.size->¬Own eM H0 b->w.heap[b]? =w0.heap[b]?
 own:∀b,b<w0.heap.size->∀i k c,g i=some k->k.eL=false->ρ i=some (b,c)->Own eM H0 b
 mj:∀b,b<w0.heap.size->∀i k c,g i=some k->ρ i=some (b,c)->oO eM H0 b
 fz:∀b A,ρ.fz b=some A->(∃e fr,w.heap[b]? =some (.cells A e fr))/\∀i k c,g i=some k->ρ i=some (b,c)->k.eL=true
 ng:∀b A,ρ.fz b=some A->eM.fz b=some A\/w0.heap.size<=b\/Own eM H0 b
noncomputable def mE (g:Nat->Option bq) (X X':ai):Nat->Option bq:=fun x=>match X'.get x with
 |some k=>some k
 |none=>match X.get x with
  |some _=>none
  |none=>g x
theorem EG {g:Nat->Option bq} {X X':ai} {x:Nat} {k:bq} (h:X'.get x=some k):mE g X X' x=some k:=by unfold mE;rw [h]
theorem Jo {g:Nat->Option bq} {X X':ai} {x:Nat} (h:X'.get x=none) (h2:X.get x=none):mE g X X' x=g x:=by unfold mE;rw [h,h2]
theorem vH {g:Nat->Option bq} {X X':ai} {x:Nat} {k:bq} (h:mE g X X' x=some k):X'.get x=some k\/(X'.get x=none/\X.get x=none/\g x=some k):=by
 unfold mE at h;split at h
 .rename_i h1;cases h;exact .inl h1
 .rename_i h1;split at h
  .cases h
  .rename_i h2;exact .inr ⟨h1,h2,h⟩
theorem aar {g:Nat->Option bq} {X:ai} (h:∀x k,X.get x=some k->g x=some k):mE g X X=g:=by
 funext x;cases hx:X.get x with
 |none=>exact Jo hx hx
 |some k=>rw [EG hx,h x k hx]
section
variable {P:Program} {B:Nat} {eM:Env} {H0:ai} {w0:World} {top:Nat} {ρ:Env} {g:Nat->Option bq} {w:World}
theorem rH.at (h:rH P B eM H0 w0 top ρ g w) {i b c:Nat} {k:bq} (hi:g i=some k) (hr:ρ i=some (b,c)):∃o,w.heap[b]? =some o/\gF P ρ i k o/\(k.eL=false->B<=b):=by
 obtain⟨b',c',o,e1,e2,e3,bU⟩:=h.blk i k hi;rw [hr]at e1;cases e1;exact⟨o,e2,e3,bU⟩
theorem rH.lC (h:rH P B eM H0 w0 top ρ g w) {X:ai} (hX:∀x k,X.get x=some k->g x=some k) (hl:∀x k,X.get x=some k->x<X.next):bf P B ρ X w:=
 ⟨fun i k hi=>h.blk i k (hX i k hi),fun i j eC eR b ci cj hi hj=>h.inj i j eC eR b ci cj (hX i eC hi) (hX j eR hj),hl,h.base,fun b A hb=>⟨(h.fz b A hb).1,fun i k c hi hr=>(h.fz b A hb).2 i k c (hX i k hi) hr⟩⟩
theorem rH.step (h:rH P B eM H0 w0 top ρ g w) {X X':ai} {ρ':Env} {w':World} (hX:∀x k,X.get x=some k->g x=some k) (hH:bf P B ρ' X' w') (hs:bO ρ X w ρ' X' w')
  (hx:∀x,x<H0.next\/top<=x->ρ' x=ρ x):rH P B eM H0 w0 top ρ' (mE g X X') w':=by
 have keep:∀x k,g x=some k->X.get x=none->∃b c o,ρ x=some (b,c)/\ρ' x=some (b,c)/\w.heap[b]? =some o/\w'.heap[b]? =some o/\gF P ρ x k o/\(k.eL=false->B<=b)/\b<w.heap.size:=fun x k B3 nY=>by
  obtain⟨b,c,o,e1,e2,e3,bU⟩:=h.blk x k B3;have hb:b<w.heap.size:=(cV.1 e2).1;refine⟨b,c,o,e1,hs.le _ _ e1,e2, ?_,e3,bU,hb⟩;rw [hs.frame b hb fun⟨i,k',c',h1,_,h3⟩=> ?_,e2];have:=h.inj i x k' k b c' c (hX i k' h1) B3 h3 e1;subst this;rw [nY]at h1;cases h1
 have B4:∀x k b c,g x=some k->ρ' x=some (b,c)->ρ x=some (b,c):=fun x k b c B3 hr=>by
  obtain⟨b',c',o,e1,_⟩:=h.blk x k B3;rw [hs.le _ _ e1]at hr;cases hr;exact e1
 refine⟨fun i k hi=> ?_,fun i j eC eR b ci cj hi hj iK fu=> ?_,hH.base,h.le.trans hs.le,fun i hi=>by rw [hx i hi,h.ext i hi],cX h.size hs.size,hs.os.trans h.os,hs.tape.trans h.tape,hs.output.trans h.output,fun b hb ho=> ?_,fun b hb i k c hi hk hr=> ?_,fun b hb i k c hi hr=> ?_,fun b A hb=>⟨(hH.fz b A hb).1,fun i k c hi hr=> ?_⟩,fun b A hb=> ?_⟩
 .rcases vH hi with hi|⟨_,h2,h3⟩
  .exact hH.blk i k hi
  .obtain⟨b,c,o,_,e1,_,e2,e3,bU,_⟩:=keep i k h3 h2;exact⟨b,c,o,e1,e2,e3.mono hs.le,bU⟩
 .have mixed:∀i j eC eR ci cj,X'.get i=some eC->X.get j=none->g j=some eR->ρ' i=some (b,ci)->ρ' j=some (b,cj)->False:=fun i j eC eR ci cj h1 h2 h3 r1 r2=>by
   obtain⟨b',c',o,e0,e1,e2,_,_,_,hb⟩:=keep j eR h3 h2;rw [e1]at r2;cases r2;obtain⟨x,kx,qg,q1,aO⟩:=hs.mj b hb ⟨i,eC,ci,h1,r1⟩;have:=h.inj x j kx eR b qg cj (hX x kx q1) h3 aO e0;subst this;rw [h2]at q1;cases q1
  rcases vH hi with hi|⟨_,h2,h3⟩<;>rcases vH hj with hj|⟨_,k2,dF⟩
  .exact hH.inj i j eC eR b ci cj hi hj iK fu
  .exact(mixed i j eC eR ci cj hi k2 dF iK fu).elim
  .exact(mixed j i eR eC cj ci hj h2 h3 fu iK).elim
  .exact h.inj i j eC eR b ci cj h3 dF (B4 _ _ _ _ h3 iK) (B4 _ _ _ _ dF fu)
 .rw [hs.frame b (Nat.lt_of_lt_of_le hb h.size) fun⟨i,k',c',h1,h2,h3⟩=>ho (h.own b hb i k' c' (hX i k' h1) h2 h3),h.frame b hb ho]
 .rcases vH hi with hi|⟨_,h2,h3⟩
  .obtain⟨x,kx,qg,q1,aO,bV⟩:=hs.own b (Nat.lt_of_lt_of_le hb h.size) ⟨i,k,c,hi,hk,hr⟩;exact h.own b hb x kx qg (hX x kx q1) aO bV
  .exact h.own b hb i k c h3 hk (B4 _ _ _ _ h3 hr)
 .rcases vH hi with hi|⟨_,h2,h3⟩
  .obtain⟨x,kx,qg,q1,aO⟩:=hs.mj b (Nat.lt_of_lt_of_le hb h.size) ⟨i,k,c,hi,hr⟩;exact h.mj b hb x kx qg (hX x kx q1) aO
  .exact h.mj b hb i k c h3 (B4 _ _ _ _ h3 hr)
 .rcases vH hi with hi|⟨_,h2,h3⟩
  .exact(hH.fz b A hb).2 i k c hi hr
  .have hr':=B4 _ _ _ _ h3 hr;rcases hs.ng b A hb with hb'|hb'
   .exact(h.fz b A hb').2 i k c h3 hr'
   .rcases hb' with hb'|⟨x,kx,qg,q1,_,bV⟩
    .obtain⟨b1,c1,o,e1,e2,_⟩:=h.blk i k h3;rw [hr']at e1;cases e1;have:=(cV.1 e2).1;omega
    .have:=h.inj x i kx k b qg c (hX x kx q1) h3 bV hr';subst this;rw [h2]at q1;cases q1
 .rcases hs.ng b A hb with hb'|hb'
  .exact h.ng b A hb'
  .rcases hb' with hb'|⟨x,kx,qg,q1,aO,bV⟩
   .exact .inr (.inl (cX h.size hb'))
   .by_cases hl:b<w0.heap.size
    .exact .inr (.inr (h.own b hl x kx qg (hX x kx q1) aO bV))
    .exact .inr (.inl (by omega))
theorem rH.final (h:rH P B eM H0 w0 top ρ g w) {X:ai} (hX:∀x k,X.get x=some k->g x=some k) (ht:X.next=top) (hn:H0.next<=top):bO eM H0 w0 ρ X w:=
 ⟨h.le,fun i hi=>h.ext i (by rw [ht]at hi;exact hi),by rw [ht];exact hn,h.size,h.os,h.tape,h.output,h.frame,fun b hb ⟨i,k,c,h1,h2,h3⟩=>h.own b hb i k c (hX i k h1) h2 h3,fun b hb ⟨i,k,c,h1,h3⟩=>h.mj b hb i k c (hX i k h1) h3,h.ng⟩
end
section
variable {P:Program} {call:er} {round:jR} {ops:Array Oper} {n:Nat} {S:Nat->fV} {V:Nat->aa}
theorem c7.Qu (R:c7 P call round ops n S V) {i:Nat} (hi:i<=ops.size):(hpf S ops.size (S i).k).next<=(S i).cur.next:=by
 induction i with
 |zero=>rw [R.k0,R.Jm];exact aG _
 |succ i ih=>
  have ih:=ih (Nat.le_of_succ_le hi);obtain⟨o,ho⟩:=lJ (ops:=ops) (i:=i) hi;cases R.kind i o ho with
  |skip _ _ hk hc=>rw [hk,hc];exact ih
  |p _ _ _ hk hc=>rw [hk,hc];exact ih
  |r _ _ _ hk hc=>rw [hk,hc];exact ih
  |a _ gj hop hk=>
   obtain⟨_,blk,nu,_⟩:=BZ gj hop;rw [hk,nu];exact Nat.le_succ_of_le ih
  |e _ _ _ _ _ hk=>rw [hk,R.EE hi hk];exact aG _
theorem c7.EH (R:c7 P call round ops n S V) {i:Nat} (hi:i<ops.size) (ha:jW S i):(S (i+1)).cur.next=(S i).cur.next+1/\∃b,vG S i=some b:=by
 obtain⟨o,ho⟩:=lJ hi;obtain⟨_,gj,hop,_⟩:=R.Qq ho ha;obtain⟨_,blk,nu,_⟩:=BZ gj hop;refine⟨by rw [nu];rfl,blk, ?_⟩;unfold vG;rw [nu,ai.gv,if_pos rfl]
structure jy (P:Program) (B:Nat) (eM:Env) (w0:World) (a0:Act) (ops:Array Oper) (n:Nat) (S:Nat->fV) (V:Nat->aa) (L:Nat->Prop) (e:Nat) (ρ:Env) (g:Nat->Option bq) (T:aq aa) (a:Act) (w:World):Prop where
 closed:∀(j:Nat) (o:Oper),L j->ops[j]? =some o->∀d∈cA o,L d
 rI:∀m,m<ops.size->eS S m->(L m↔(S m).k<e)
 bN:∀j,j<ops.size->L j->lvl S ops.size j<=e
 le:e<=(S ops.size).k
 zL:jT ρ T n a.tmps
 zM:∀(j:Nat) (p:Oper) (t:Tmp),ops[j]? =some p->p.dst=some t->(L j->T.get t=some (V j))/\(¬L j->T.get t=(S 0).T.get t)
 Jp:∀t:Tmp,(∀(j:Nat) (p:Oper),ops[j]? =some p->p.dst≠some t)->T.get t=(S 0).T.get t
 G:n7 ρ
 rJ:rH P B eM (S 0).cur w0 (S ops.size).cur.next ρ g w
 hp:∀x k,(hpf S ops.size e).get x=some k->g x=some k
 lt:∀x k,(hpf S ops.size e).get x=some k->x<(hpf S ops.size e).next
 dB:∀j,j<ops.size->L j->jW S j->e<=(S j).k->g (S j).cur.next=vG S j
 conv:∀x k,g x=some k->(hpf S ops.size e).get x=some k\/∃j,j<ops.size/\L j/\jW S j/\e<=(S j).k/\x=(S j).cur.next
 fresh:∀j,j<ops.size->¬L j->Fr ρ (S j).cur.next (S (j+1)).cur.next
 Qv:a.defers=a0.defers
variable {B:Nat} {eM:Env} {w0:World} {a0:Act} {L:Nat->Prop} {e:Nat} {ρ:Env} {g:Nat->Option bq} {T:aq aa} {a:Act} {w:World} {i:Nat} {o:Oper}
theorem jy.slots (R:c7 P call round ops n S V) (I:jy P B eM w0 a0 ops n S V L e ρ g T a w) (ho:ops[i]? =some o) (hL:¬L i) (hd:∀d∈cA o,L d) {t:Tmp} (ht:Operand.tmp t∈o.op.operands.toList):T.get t=(S i).T.get t:=by
 have hi:i<ops.size:=(cV.1 ho).1;have F:=tF R.ok ho;rcases F.slot t ht with h|⟨k,p,h1,h2,h3|h3⟩
 .rw [I.Jp t h,R.Qt h (Nat.le_of_lt hi)]
 .rw [(I.zM k p t h1 h2).1 (hd k h3),R.EF h1 h2 (F.lt k h3) (Nat.le_of_lt hi)]
 .have hk:¬L k:=fun hk=>hL (I.closed k p hk h1 i h3)
  rw [(I.zM k p t h1 h2).2 hk,R.aaq h1 h2 (Nat.le_of_lt ((tF R.ok h1).lt i h3))]
theorem jy.ev (R:c7 P call round ops n S V) (I:jy P B eM w0 a0 ops n S V L e ρ g T a w) (ho:ops[i]? =some o) (hL:¬L i) (hd:∀d∈cA o,L d):∀x∈o.op.operands.toList,ck T x=ck (S i).T x:=fun x hx=>by
 cases x with
 |tmp t=>
  show @Option.rec aa (fun _=>aa) (.raw undef) (fun v=>v) (T.get t)= @Option.rec aa (fun _=>aa) (.raw undef) (fun v=>v) ((S i).T.get t)
  rw [I.slots R ho hL hd hx]
 |_=>rfl
theorem jy.wants (R:c7 P call round ops n S V) (I:jy P B eM w0 a0 ops n S V L e ρ g T a w) (ho:ops[i]? =some o) (hd:∀d∈cA o,L d):cf T ops o=cf (S i).T ops o:=by
 have hi:i<ops.size:=(cV.1 ho).1;have F:=tF R.ok ho;cases hg:o.guard with
 |none=>unfold cf;rw [hg]
 |some q=>
  have e:∀T,cf T ops o=xh T ops q:=fun T=>by unfold cf;rw [hg]
  rw [e,e];unfold xh;cases hp:ops[q.1]? with
  |none=>rfl
  |some p=>
   cases gG:p.dst with
   |none=>simp [gG]
   |some d=>
    simp only [Option.bind_some,gG];have hq:=F.guard q hg;rw [(I.zM q.1 p d hp gG).1 (hd _ hq),R.EF hp gG (F.lt _ hq) (Nat.le_of_lt hi)]
theorem jy.level (R:c7 P call round ops n S V) (I:jy P B eM w0 a0 ops n S V L e ρ g T a w) (ho:ops[i]? =some o) (hd:∀d∈cA o,L d):Sv.level (S ops.size).bN (cA o)<=e:=
 Qc fun d hdd=>I.bN d (Nat.lt_trans ((tF R.ok ho).lt d hdd) (cV.1 ho).1) (hd d hdd)
theorem jy.after (R:c7 P call round ops n S V) (hC:bD P call) (hR:lH P round) (I:jy P B eM w0 a0 ops n S V L e ρ g T a w) (ho:ops[i]? =some o) (hL:¬L i) (hd:∀d∈cA o,L d)
  {X X':ai} {ρ':Env} {w':World} {x:Value} {T1:aq aa} {e':Nat} (hT:iJ T n o.dst (V i)=some T1) (hx:Den ρ' (V i) x) (hX:∀x k,X.get x=some k->g x=some k) (hH:bf P B ρ' X' w') (hs:bO ρ X w ρ' X' w')
  (hρ:∀x,x<(S i).cur.next\/(S (i+1)).cur.next<=x->ρ' x=ρ x)
  (he:e<=e') (aas:∀m,m<ops.size->eS S m->((m=i\/L m)↔(S m).k<e')) (aat:lvl S ops.size i<=e') (hle:e'<=(S ops.size).k)
  (aau:∀x k,(hpf S ops.size e').get x=some k->mE g X X' x=some k) (hlt:∀x k,(hpf S ops.size e').get x=some k->x<(hpf S ops.size e').next)
  (aav:∀j,j<ops.size->(j=i\/L j)->jW S j->e'<=(S j).k->mE g X X' (S j).cur.next=vG S j)
  (aaw:∀x k,mE g X X' x=some k->(hpf S ops.size e').get x=some k\/∃j,j<ops.size/\(j=i\/L j)/\jW S j/\e'<=(S j).k/\x=(S j).cur.next):
  jy P B eM w0 a0 ops n S V (fun j=>j=i\/L j) e' ρ' (mE g X X') T1 (a.put o.dst x) w':=by
 have hi:i<ops.size:=(cV.1 ho).1;refine⟨fun j p hj hp d hdd=> ?_,aas,fun j hj h=> ?_,hle,I0 (I.zL.mono hs.le) hT hx,fun j p t hj hp=> ?_,fun t ht=> ?_,I.G.mono hs.le,I.rJ.step hX hH hs fun x hx=>hρ x ?_,aau,hlt,aav,aaw,fun j hj hn x h1 h2=> ?_,by rw [put_defers,I.Qv]⟩
 .rcases hj with rfl |hj
  .rw [ho]at hp;cases hp;exact .inr (hd d hdd)
  .exact .inr (I.closed j p hj hp d hdd)
 .rcases h with rfl |h
  .exact aat
  .exact cX (I.bN j hj h) he
 .rw [B1 hT];by_cases hji:j=i
  .subst hji;rw [ho]at hj;cases hj;rw [if_pos hp];exact⟨fun _=>rfl,fun h=>(h (.inl rfl)).elim⟩
  .rw [if_neg fun hh=>hji ((tF R.ok ho).dst t hh j p hj hp)];exact⟨fun h=>(I.zM j p t hj hp).1 (h.resolve_left hji),fun h=>(I.zM j p t hj hp).2 fun hh=>h (.inr hh)⟩
 .rw [B1 hT,if_neg (ht i o ho),I.Jp t ht]
 .rcases hx with hx|hx
  .exact .inl (Nat.lt_of_lt_of_le hx (R.oV hC hR (Nat.zero_le _) (Nat.le_of_lt hi)))
  .exact .inr (cX (R.oV hC hR hi (aG _)) hx)
 .have hj2:¬j=i/\¬L j:=⟨fun h=>hn (.inl h),fun h=>hn (.inr h)⟩;rw [hρ x ?_]
  .exact I.fresh j hj hj2.2 x h1 h2
  .rcases Nat.lt_or_gt_of_ne hj2.1 with hl|hl
   .exact .inl (Nat.lt_of_lt_of_le h2 (R.oV hC hR hl (Nat.le_of_lt hi)))
   .exact .inr (cX (R.oV hC hR hl (Nat.le_of_lt hj)) h1)
end
end
section
open Go.RowKit
variable [Ground]
section
variable {P:Program} {call:er} {round:jR} {ops:Array Oper} {n:Nat} {S:Nat->fV} {V:Nat->aa}
variable {B:Nat} {eM:Env} {w0:World} {a0:Act} {L:Nat->Prop} {e:Nat} {ρ:Env} {g:Nat->Option bq} {T:aq aa} {a:Act} {w:World} {i:Nat} {o:Oper}
theorem Qw (h:eS S i) (R:c7 P call round ops n S V) (hi:i<ops.size):¬jW S i:=fun ha=>by
 obtain⟨o,ho⟩:=lJ hi;obtain⟨_,_,_,hk⟩:=R.Qq ho ha;unfold eS at h;omega
theorem jy.quiet (R:c7 P call round ops n S V) (hC:bD P call) (hR:lH P round) (I:jy P B eM w0 a0 ops n S V L e ρ g T a w) (ho:ops[i]? =some o) (hL:¬L i) (hd:∀d∈cA o,L d)
  (hE:¬eS S i) (hA:¬jW S i) {X:ai} {ρ':Env} {w':World} {x:Value} {T1:aq aa} (hT:iJ T n o.dst (V i)=some T1) (hx:Den ρ' (V i) x) (hX:∀x k,X.get x=some k->g x=some k) (hH:bf P B ρ' X w') (hs:bO ρ X w ρ' X w'):
  jy P B eM w0 a0 ops n S V (fun j=>j=i\/L j) e ρ' g T1 (a.put o.dst x) w':=by
 have hlv:lvl S ops.size i<=e:=by
  rcases R.Jk ho with⟨h,_⟩|⟨_,h⟩
  .exact absurd h hE
  .rw [h];exact I.level R ho hd
 have hu:=aar hX;have:=I.after R hC hR ho hL hd (X:=X) (X':=X) (e':=e) hT hx hX hH hs (fun x _=>hs.ext x (by omega)) (aG _)
  (fun m hm hem=>⟨fun h=>(I.rI m hm hem).1 (h.resolve_left fun hh=>hE (hh ▸ hem)),fun h=> .inr ((I.rI m hm hem).2 h)⟩) hlv I.le (by rw [hu];exact I.hp) I.lt
  (by rw [hu];exact fun j hj hjl ha=>I.dB j hj (hjl.resolve_left fun hh=>hA (hh ▸ ha)) ha)
  (by rw [hu];exact fun x k hk=>(I.conv x k hk).imp id fun⟨j,h1,h2,h3⟩=>⟨j,h1, .inr h2,h3⟩)
 rwa [hu]at this
theorem jy.step (hK:eW P) (R:c7 P call round ops n S V) (hC:bD P call) (hR:lH P round) (I:jy P B eM w0 a0 ops n S V L e ρ g T a w) (ho:ops[i]? =some o) (hL:¬L i) (hd:∀d∈cA o,L d) (rd:Option Nat) (m:Nat) {K:Act->World->Prop} {Q:Exit->Act->World->Prop}
  (hK':∀e' ρ' g' aM a' w',jy P B eM w0 a0 ops n S V (fun j=>j=i\/L j) e' ρ' g' aM a' w'->K a' w'):wpOpIn (dO rd) m P ops Q i K a w:=by
 have hi:i<ops.size:=(cV.1 ho).1;have kS:=R.i i (Nat.le_of_lt hi);have Qx:=I.ev R ho hL hd;have Jq:=I.wants R ho hd;obtain⟨T1,hT⟩:=aak (R.put i o ho) T;have Jr:(S (i+1)).dh=(S i).dh->¬jW S i:=fun h ha=>by
  unfold jW at ha;rw [h]at ha;have:=congrArg List.length ha;simp at this
 have B5:(S (i+1)).k=(S i).k->¬eS S i:=fun h he=>by unfold eS at he;omega
 let Z:ai:={m:= .nil,next:=(S i).cur.next}
 have hZ:∀x,Z.get x=none:=fun x=>aq.get_nil x
 have EI:∀x k,Z.get x=some k->g x=some k:=fun x k h=>by rw [hZ]at h;cases h
 have Js:bf P B ρ Z w:=I.rJ.lC EI fun x k h=>by rw [hZ]at h;cases h
 have run:∀(X X':ai),cf (S i).T ops o=some true->bf P B ρ X w->iZ P call round o (ck T) X= .ok (V i) X'->Fr ρ X.next X'.next->
   (∀x ρ' w',Den ρ' (V i) x->bf P B ρ' X' w'->bO ρ X w ρ' X' w'->K (a.put o.dst x) w')->wpOpIn (dO rd) m P ops Q i K a w:=fun X X' hw hX hop hf hn=>by
  unfold wpOpIn;rw [ho];simp only;rw [I1 I.zL (Jq.trans hw),if_pos rfl];exact PN hK hC hR ⟨I.zL,hX,I.G⟩ hop hf rd m hn
 have Jt:∀{X:ai} {v:aa} {X':ai},eV o.op P o (ck (S i).T) X= .ok v X'->iZ P call round o (ck T) X= .ok v X':=fun {X v X'} h=>by
  unfold iZ;rw [P5 Qx,h]
 cases R.kind i o ho with
 |skip hw hv hk hc hh hl hp ha=>
  unfold wpOpIn;rw [ho];simp only;rw [I1 I.zL (Jq.trans hw)];simp only [Bool.false_eq_true,if_false];refine⟨fun _ _=>trivial,hK' e ρ g T1 _ w ?_⟩;exact I.quiet R hC hR ho hL hd (B5 hk) (Jr ha) hT (by rw [hv];exact .raw _) EI Js (bO.refl _ _ _)
 |p hw gj hop hk hc hh hl hp ha=>
  obtain⟨H1,hop⟩:=hop;refine run Z Z hw Js (Jt (aag gj hop Z)) (fun x h1 h2=>absurd h2 (by omega)) fun x ρ' w' h1 h2 h3=>hK' e ρ' g T1 _ w' ?_
  exact I.quiet R hC hR ho hL hd (B5 hk) (Jr ha) hT h1 EI h2 h3
 |r hw gj hr hk hc hh hl hp ha=>
  have hop:=R.read ho gj hr hp (I.level R ho hd) I.le fun m mD hm hem hkm tG hmem=>hL (I.closed m mD ((I.rI m hm hem).2 hkm) tG i hmem)
  refine run _ _ hw (I.rJ.lC I.hp I.lt) (Jt hop) (fun x h1 h2=>absurd h2 (by omega)) fun x ρ' w' h1 h2 h3=>hK' e ρ' g T1 _ w' ?_
  exact I.quiet R hC hR ho hL hd (B5 hk) (Jr ha) hT h1 I.hp h2 h3
 |a hw gj hop hk hh hl hp ha=>
  have hA:jW S i:=by unfold jW;rw [ha,kS]
  obtain⟨_,blk,nu,aax⟩:=BZ gj hop;obtain⟨hnx,b0,hb0⟩:=R.EH hi hA;have hblk:vG S i=some blk:=by unfold vG;rw [nu,ai.gv,if_pos rfl]
  have hfr:=I.fresh i hi hL;have hnone:ρ (S i).cur.next=none:=hfr _ (aG _) (by omega);have aay:g (S i).cur.next=none:=by
   cases hg:g (S i).cur.next with
   |none=>rfl
   |some k=>
    obtain⟨b,c,o',e1,_⟩:=I.rJ.blk _ _ hg;rw [hnone]at e1;cases e1
  have Ju:eV o.op P o (ck (S i).T) Z= .ok (V i) (Z.new blk):=aax Z rfl;have Jv:∀x,(Z.new blk).get x=if(S i).cur.next=x then some blk else none:=fun x=>by rw [ai.gv,hZ]
  have xP:e<=(S i).k:=by
   refine Nat.le_of_not_lt fun hlt=> ?_
   obtain⟨m,h1,h2,h3,h4⟩:=R.EB (i:=i) (j:=ops.size) (e:=(S i).k+1) (Nat.le_of_lt hi) (aG _) (e8 _) (cX hlt I.le);obtain⟨mD,tG⟩:=lJ h2;have hne:i≠m:=fun hh=>Qw h4 R h2 (hh ▸ hA)
   have hmem:i∈(S m).dh:=(R.Jn (Nat.le_of_lt h2) i).2 ⟨by omega,hA,by omega⟩;have aaz:L m:=(I.rI m h2 h4).2 (by omega);cases R.kind m mD tG with
   |skip _ _ hk=>unfold eS at h4;omega
   |p _ _ _ hk=>unfold eS at h4;omega
   |r _ _ _ hk=>unfold eS at h4;omega
   |a _ _ _ hk=>unfold eS at h4;omega
   |e _ _ hsub=>exact hL (I.closed m mD aaz tG i (hsub i hmem))
  have hlv:lvl S ops.size i<=e:=by
   rcases R.Jk ho with⟨h,_⟩|⟨_,h⟩
   .exact absurd h (B5 hk)
   .rw [h];exact I.level R ho hd
  have old:∀x k,g x=some k->mE g Z (Z.new blk) x=some k:=fun x k hg=>by
   have hne:¬(S i).cur.next=x:=fun hh=>by rw [<-hh,aay]at hg;cases hg
   rw [Jo (by rw [Jv,if_neg hne]) (hZ x),hg]
  refine run Z (Z.new blk) hw Js (Jt Ju) (fun x h1 h2=>hfr x h1 (by rw [hnx];exact h2)) fun x ρ' w' h1 h2 h3=>hK' e ρ' (mE g Z (Z.new blk)) T1 _ w' ?_
  refine I.after R hC hR ho hL hd hT h1 EI h2 h3 (fun x hx=>h3.ext x (by rw [hnx]at hx;exact hx)) (aG _)
   (fun m hm hem=>⟨fun h=>(I.rI m hm hem).1 (h.resolve_left fun hh=>B5 hk (hh ▸ hem)),fun h=> .inr ((I.rI m hm hem).2 h)⟩) hlv I.le (fun x k h=>old x k (I.hp x k h)) I.lt (fun j hj hjl haj Jw=> ?_) (fun x k h=> ?_)
  .by_cases hji:j=i
   .subst hji;rw [hblk];exact EG (by rw [Jv,if_pos rfl])
   .have h4:=I.dB j hj (hjl.resolve_left hji) haj Jw;obtain⟨_,b,hb⟩:=R.EH hj haj;rw [hb]at h4 ⊢;exact old _ _ h4
  .rcases vH h with h|⟨_,_,h⟩
   .rw [Jv]at h;split at h
    .rename_i hx;exact .inr ⟨i,hi, .inl rfl,hA,xP,hx.symm⟩
    .cases h
   .exact(I.conv x k h).imp id fun⟨j,h1,h2,h3⟩=>⟨j,h1, .inr h2,h3⟩
 |e hw hlv hsub hop gG hk hh hl hp ha=>
  have hE:eS S i:=hk;have xP:e=(S i).k:=by
   have h1:=I.level R ho hd;rw [<-R.level ho,hlv]at h1;have h2:¬(S i).k<e:=fun h=>hL ((I.rI i hi hE).2 h)
   omega
  obtain⟨c1,c2,c3⟩:=R.Qr (Nat.le_of_lt hi);have zN:=R.Jn (Nat.le_of_lt hi);have hX:∀x k,(S i).cur.get x=some k->g x=some k:=fun x k h=>by
   rcases c1 x k h with h|⟨j,hj,rfl,hb⟩
   .rw [<-xP]at h;exact I.hp x k h
   .obtain⟨q1,aO,bV⟩:=(zN j).1 hj;rw [I.dB j (by omega) (hd j (hsub j hj)) aO (by omega),hb]
  have hlt:∀x k,(S i).cur.get x=some k->x<(S i).cur.next:=fun x k h=>by
   rcases c1 x k h with h|⟨j,hj,rfl,hb⟩
   .have:=R.Qu (Nat.le_of_lt hi);rw [<-xP]at h this;exact Nat.lt_of_lt_of_le (I.lt x k h) this
   .obtain⟨q1,aO,bV⟩:=(zN j).1 hj;have h5:=(R.EH (i:=j) (by omega) aO).1;have h6:=R.oV hC hR (i:=j+1) (j:=i) q1 (Nat.le_of_lt hi);omega
  have Ju:iZ P call round o (ck T) (S i).cur= .ok (V i) (S (i+1)).cur:=by
   unfold iZ at hop ⊢;rw [P5 Qx];exact hop
  have aaA:lvl S ops.size i=e+1:=by
   rcases R.Jk ho with⟨_,h⟩|⟨h,_⟩
   .rw [h,xP]
   .exact absurd hE h
  have hle:e+1<=(S ops.size).k:=by
   have:=R.rG (i:=i+1) (j:=ops.size) hi (aG _);omega
  have Jx:hpf S ops.size (e+1)=(S (i+1)).cur:=by rw [xP];exact R.EE hi hE
  -- what is laid behind this effect lies beyond
  have later:∀j,j<ops.size->L j->jW S j->e<=(S j).k->(S i).cur.get (S j).cur.next=none->i<j:=fun j hj hjl haj Jw hnone=>by
   refine Nat.lt_of_not_le fun hji=> ?_
   have hne:j≠i:=fun hh=>hL (hh ▸ hjl)
   have hm:=R.rG (i:=j) (j:=i) hji (Nat.le_of_lt hi);exact c3 j ((zN j).2 ⟨by omega,haj,by omega⟩) hnone
  refine run _ _ hw (I.rJ.lC hX hlt) Ju (I.fresh i hi hL) fun x ρ' w' h1 h2 h3=>hK' (e+1) ρ' (mE g (S i).cur (S (i+1)).cur) T1 _ w' ?_
  have beyond:∀j,j<ops.size->i<j->(S i).cur.get (S j).cur.next=none/\(S (i+1)).cur.get (S j).cur.next=none:=fun j hj hij=>by
   have h6:=R.oV hC hR (i:=i+1) (j:=j) hij (Nat.le_of_lt hj);have h7:=R.Qo hC hR hi;constructor
   .cases hg:(S i).cur.get (S j).cur.next with
    |none=>rfl
    |some k=>have:=hlt _ _ hg;omega
   .cases hg:(S (i+1)).cur.get (S j).cur.next with
    |none=>rfl
    |some k=>have:=h2.lt _ _ hg;omega
  refine I.after R hC hR ho hL hd hT h1 hX h2 h3 (fun x hx=>h3.ext x hx) (Nat.le_succ _) (fun m hm hem=> ?_) (Nat.le_of_eq aaA) hle (fun x k h=>by rw [Jx]at h;exact EG h) (fun x k h=>by rw [Jx]at h ⊢;exact h2.lt x k h) (fun j hj hjl haj Jw=> ?_) (fun x k h=> ?_)
  .constructor
   .rintro(rfl |h)
    .omega
    .have:=(I.rI m hm hem).1 h;omega
   .intro h;by_cases hlt2:(S m).k<e
    .exact .inr ((I.rI m hm hem).2 hlt2)
    .left;have hme:(S m).k=(S i).k:=by omega
     rcases Nat.lt_trichotomy m i with hl|hl|hl
     .have:=R.rG (i:=m+1) (j:=i) hl (Nat.le_of_lt hi);unfold eS at hem;omega
     .exact hl
     .have:=R.rG (i:=i+1) (j:=m) hl (Nat.le_of_lt hm);omega
  .have hne:j≠i:=fun hh=>Qw hE R hi (hh ▸ haj)
   have hij:i<j:=by
    refine Nat.lt_of_not_le fun hji=> ?_
    have:=R.rG (i:=j) (j:=i) hji (Nat.le_of_lt hi);omega
   obtain⟨q1,aO⟩:=beyond j hj hij;rw [Jo aO q1];exact I.dB j hj (hjl.resolve_left hne) haj (by omega)
  .rcases vH h with h|⟨_,hn,h⟩
   .left;rw [Jx];exact h
   .rcases I.conv x k h with h|⟨j,q1,aO,bV,en,rfl⟩
    .rw [xP]at h;exact absurd hn (c2 x (by rw [h];simp))
    .have hij:=later j q1 aO bV en hn;have:=R.rG (i:=i+1) (j:=j) hij (Nat.le_of_lt q1);exact .inr ⟨j,q1, .inr aO,bV,by omega,rfl⟩
theorem aaB {l:Array Bool} {i j:Nat} (hi:i<l.size):(l.setIfInBounds i true).getD j false=true↔(j=i\/l.getD j false=true):=by
 simp only [Array.getD_eq_getD_getElem?,Array.getElem?_setIfInBounds];by_cases h:i=j
 .subst h;simp [hi]
 .rw [if_neg h];exact⟨.inr,fun h2=>h2.resolve_left fun h3=>h h3.symm⟩
theorem Qy:∀{l:List Bool} {i:Nat},l[i]? =some false->(l.set i true).countP (! ·)+1=l.countP (! ·)
 |[],i,h=>by simp at h
 |a::l,0,h=>by
  simp at h;subst h;simp
 |a::l,i+1,h=>by
  have:=Qy (l:=l) (i:=i) (by simpa using h);simp only [List.set_cons_succ,List.countP_cons];omega
theorem aaC (hK:eW P) (R:c7 P call round ops n S V) (hC:bD P call) (hR:lH P round) (rd:Option Nat) (m:Nat) {Q:Exit->Act->World->Prop}
  (hQ:∀L e ρ g T a w,(∀j,j<ops.size->L j)->jy P B eM w0 a0 ops n S V L e ρ g T a w->Q .normal a w):∀(fuel:Nat) (listed:Array Bool) {e:Nat} {ρ:Env} {g:Nat->Option bq} {T:aq aa} {a:Act} {w:World},
  listed.size=ops.size->listed.toList.countP (! ·)<=fuel->jy P B eM w0 a0 ops n S V (fun j=>listed.getD j false=true) e ρ g T a w->wpAnyIn (dO rd) m P .any ops Q fuel listed a w:=by
 have last:∀(listed:Array Bool) {e:Nat} {ρ:Env} {g:Nat->Option bq} {T:aq aa} {a:Act} {w:World},listed.size=ops.size->jy P B eM w0 a0 ops n S V (fun j=>listed.getD j false=true) e ρ g T a w->Region.ready .any ops listed=[]->Q .normal a w:=fun listed e ρ g T a w hs I hr=>by
  refine hQ _ e ρ g T a w (fun j=> ?_) I;induction j using Nat.strongRecOn with
  |ind j ih=>
   intro hj;refine Classical.byContradiction fun hn=> ?_
   obtain⟨o,ho⟩:=lJ hj;have hmem:j∈Region.ready .any ops listed:=by
    refine mem_ready.2 ⟨?_,o,ho,fun e' he hb=> ?_⟩
    .have hlt:j<listed.size:=by omega
     simp only [Array.getD_eq_getD_getElem?,Array.getElem?_eq_getElem hlt,Option.getD_some]at hn ⊢;simpa using hn
    .have tH:e'.on∈cA o:=List.mem_map.2 ⟨e',List.mem_filter.2 ⟨by simpa using he,hb⟩,rfl⟩;have:=(tF R.ok ho).lt _ tH;exact ih _ this (by omega)
   rw [hr]at hmem;cases hmem
 intro fuel;induction fuel with
 |zero=>
  intro listed e ρ g T a w hs hc I;have hr:Region.ready .any ops listed=[]:=by
   refine List.eq_nil_iff_forall_not_mem.2 fun j hj=> ?_
   obtain⟨h1,o,ho,_⟩:=mem_ready.1 hj;have hlt:j<listed.size:=by rw [hs];exact(cV.1 ho).1
   have h0:=List.countP_eq_zero.1 (Nat.le_zero.1 hc) listed[j] (by simp);simp only [Array.getD_eq_getD_getElem?,Array.getElem?_eq_getElem hlt,Option.getD_some]at h1;rw [h1]at h0;simp at h0
  exact⟨hr,last listed hs I hr⟩
 |succ fuel ih=>
  intro listed e ρ g T a w hs hc I;refine⟨last listed hs I,fun i hi=> ?_⟩;obtain⟨h1,o,ho,h2⟩:=mem_ready.1 hi;have hlt:i<listed.size:=by rw [hs];exact(cV.1 ho).1
  have hf:listed[i]=false:=by simpa [Array.getD_eq_getD_getElem?,hlt]using h1
  refine I.step hK R hC hR ho (by simp [Array.getD_eq_getD_getElem?,hlt,hf]) (fun d hd=> ?_) rd m fun e' ρ' g' aM a' w' I'=> ?_
  .obtain⟨x,hx,rfl⟩:=List.mem_map.1 hd;obtain⟨hx1,hx2⟩:=List.mem_filter.1 hx;exact h2 x (by simpa using hx1) hx2
  .refine ih _ (e:=e') (ρ:=ρ') (g:=g') (T:=aM) (by simpa using hs) ?_ ?_
   .have:=Qy (l:=listed.toList) (i:=i) (by simp [hlt,hf]);simp only [Array.toList_setIfInBounds];omega
   .have he:(fun j=>(listed.setIfInBounds i true).getD j false=true)=fun j=>j=i\/listed.getD j false=true:=by
     funext j;exact propext (aaB hlt)
    rw [he];exact I'
theorem Qz (hK:eW P) (hm:P.follows .mixedOrders=true):xH P true (zI P) where
 mono call round hC hR ops n T H aM H' h:=by
  obtain⟨S,V,R,e1,e2,e3,bU⟩:=Qj h;rw [<-e2,<-bU];exact R.oV hC hR (Nat.zero_le _) (aG _)
 cy call round hC hR id ops n T H aM H' h B ρ a w rd k Q aQ hf hQ:=by
  obtain⟨S,V,R,e1,e2,e3,bU⟩:=Qj h;have hle:=R.oV hC hR (Nat.zero_le _) (aG _);refine wpIn_region_any hm ?_;refine aaC (B:=B) (eM:=ρ) (w0:=w) (a0:=a) (e:=0) (ρ:=ρ) (g:=H.get) (T:=T) hK R hC hR rd k (fun L e ρ' g T2 a' w' hL I=> ?_) ops.size _ (by simp) ?_ ?_
  .have nu:=R.Qr (aG _);have zN:=R.Jn (aG _);have he:e=(S ops.size).k:=by
    refine Nat.le_antisymm I.le (Nat.le_of_not_lt fun hlt=> ?_);by_cases h0:(S ops.size).k=0
    .omega
    .obtain⟨m,h1,h2,h3,h4⟩:=R.EB (i:=0) (j:=ops.size) (e:=(S ops.size).k) (Nat.zero_le _) (aG _) (by rw [R.k0];omega) (aG _);have:=(I.rI m h2 h4).1 (hL m h2);omega
   have hX:∀x b,(S ops.size).cur.get x=some b->g x=some b:=fun x b hx=>by
    rcases nu.1 x b hx with hx|⟨j,hj,rfl,hb⟩
    .rw [<-he]at hx;exact I.hp x b hx
    .obtain⟨q1,aO,bV⟩:=(zN j).1 hj;rw [I.dB j q1 (hL j q1) aO (by omega),hb]
   have hlt:∀x b,(S ops.size).cur.get x=some b->x<(S ops.size).cur.next:=fun x b hx=>by
    rcases nu.1 x b hx with hx|⟨j,hj,rfl,hb⟩
    .have:=R.Qu (aG _);rw [<-he]at hx this;exact Nat.lt_of_lt_of_le (I.lt x b hx) this
    .obtain⟨q1,aO,bV⟩:=(zN j).1 hj;have h5:=(R.EH (i:=j) q1 aO).1;have h6:=R.oV hC hR (i:=j+1) (j:=ops.size) q1 (aG _);omega
   refine hQ ρ' a' w' ⟨⟨I.zL.size,fun t=> ?_⟩, ?_,I.G⟩ ?_ I.Qv
   .have ht:aM.get t=T2.get t:=by
     rw [<-e3];by_cases hw:∃(j:Nat) (p:Oper),ops[j]? =some p/\p.dst=some t
     .obtain⟨j,p,hj,hp⟩:=hw;have hjl:j<ops.size:=(cV.1 hj).1;rw [R.EF hj hp hjl (aG _),(I.zM j p t hj hp).1 (hL j hjl)]
     .have hw':∀(j:Nat) (p:Oper),ops[j]? =some p->p.dst≠some t:=fun j p hj hp=>hw ⟨j,p,hj,hp⟩
      rw [R.Qt hw' (aG _),I.Jp t hw']
    rw [ht];exact I.zL.get t
   .rw [<-bU];exact I.rJ.lC hX hlt
   .rw [<-e2,<-bU];exact I.rJ.final hX rfl hle
  .have:∀n:Nat,(List.replicate n false).countP (! ·)<=n:=fun n=>by
    have:=List.countP_le_length (p:=(! ·)) (l:=List.replicate n false);simpa using this
   simpa using this ops.size
  .have hno:∀j,¬(Array.replicate ops.size false).getD j false=true:=fun j=>by
    simp [Array.getD_eq_getD_getElem?,Array.getElem?_replicate];split<;>simp
   have hH:=aQ.H.drew;have h0:hpf S ops.size 0=H:=by rw [R.Jm,e2]
   refine⟨fun j o hj=>(hno j hj).elim,fun m hm hem=>⟨fun h=>(hno m h).elim,fun h=>absurd h (Nat.not_lt_zero _)⟩,fun j _ h=>(hno j h).elim,Nat.zero_le _,aQ.T,fun j p t _ _=>⟨fun h=>(hno j h).elim,fun _=>by rw [e1]⟩,fun t _=>by rw [e1],aQ.G, ?_,by rw [h0];exact fun x k h=>h,by rw [h0];exact hH.lt,fun j _ h=>(hno j h).elim,by rw [h0];exact fun x k h=> .inl h,fun j hj _ x h1 h2=>hf x ?_ ?_,rfl⟩
   .rw [e2];exact⟨hH.blk,hH.inj,hH.base,cB.refl _,fun _ _=>rfl,aG _,rfl,rfl,rfl,fun _ _ _=>rfl,fun b _ i k c h1 h2 h3=>⟨i,k,c,h1,h2,h3⟩,fun b _ i k c h1 h3=>⟨i,k,c,h1,h3⟩,hH.fz,fun _ _ h=> .inl h⟩
   .have:=R.oV hC hR (Nat.zero_le j) (Nat.le_of_lt hj);rw [e2]at this;exact cX this h1
   .have:=R.oV hC hR hj (aG _);rw [bU]at this;exact Nat.lt_of_lt_of_le h2 this
theorem xl {S call:er} (hS:bD P S) (hC:bD P call):bD P (vh S call) where
 mono f args H v H' h:=by
  unfold vh at h;cases hs:S f args H with
  |no=>rw [hs]at h;exact hC.mono _ _ _ _ _ h
  |ok v1 H1=>rw [hs]at h;cases h;exact hS.mono _ _ _ _ _ hs
  |enter _ _ _=>rw [hs]at h;cases h
  |round _ _ _=>rw [hs]at h;cases h
 cy f args H v H' h:=by
  unfold vh at h;cases hs:S f args H with
  |no=>rw [hs]at h;exact hC.cy _ _ _ _ _ h
  |ok v1 H1=>rw [hs]at h;cases h;exact hS.cy _ _ _ _ _ hs
  |enter _ _ _=>rw [hs]at h;cases h
  |round _ _ _=>rw [hs]at h;cases h
theorem QA (hK:eW P):xH P false (fun call round ops n T H=>xk P call round ops n ops.toList T H) where
 mono _ _ hC hR _ _ _ _ _ _ h:=pk hC hR _ h
 cy _ _ hC hR _ ops _ _ _ _ _ h _ _ _ _ rd k _ aQ hf hQ:=wpIn_region (PR hK hC hR rd k _ _ (ZZ ops) aQ h hf hQ)
theorem B6 (hK:eW P) (hm:P.follows .mixedOrders=true) {S:er} (hS:bD P S):∀d,xH P d (n8 P S d)
 |false=>⟨fun _ _ hC hR=>(QA hK).mono _ _ (xl hS hC) hR,fun _ _ hC hR=>(QA hK).cy _ _ (xl hS hC) hR⟩
 |true=>⟨fun _ _ hC hR=>(Qz hK hm).mono _ _ (xl hS hC) hR,fun _ _ hC hR=>(Qz hK hm).cy _ _ (xl hS hC) hR⟩
end
end
end Go.Proofs.YtibikmmdbdlafaaGreatDoor.Sv
