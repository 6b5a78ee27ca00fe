import Derived.Test.YtibikmmdbdlafaaGreatDoorZcSvCode4
set_option linter.defProp false
set_option linter.unusedSectionVars false
set_option linter.unusedSimpArgs false
namespace Go.Proofs.YtibikmmdbdlafaaGreatDoor.Sv
noncomputable section
inductive Kd where
 |p|r|a|e|b
def Kd.al:Kd->Bool
 | .a| .b=>true
 |_=>false
def rX (P:Program) (t:Option TypeId):Bool:=match t.bind P.underlying with
 |some (.map _ _)=>true
 |_=>false
def abX (P:Program) (c:Call):Kd:=match c.callee with
 | .builtin .len=>cond (rX P c.argTypes[0]?) .e .p
 | .builtin .append=> .e
 | .builtin .copy=> .e
 | .builtin .unsafeString=> .e
 | .builtin .clear=> .e
 | .builtin _=> .p
 |_=> .e
def nF (P:Program):Op->Kd:=
 @Op.rec (fun _=>Kd) (fun _=> .p) (fun _=> .p) (fun _ _ _=> .p) (fun _=> .a) (fun _ _=> .b) (fun _ _=> .p) (fun _ _ _=> .b) (fun _ _ _ _=> .e) (fun _ _=> .r) (fun _ _ _=> .e) (fun _=> .e) (fun _=> .e) (fun _=> .p) (fun _ _ _ _ _=> .p) (fun _ _ _=> .p)
   (fun _ _ _=> .e) (fun _ _=> .e) (fun _ _=> .p) (fun _ _ _=> .p) (fun _ _=> .b) (fun _ _=> .e) (fun _ _ _=> .b) (fun _ _ _ _ _=> .p) (fun _ _ _=> .p) (fun _ _ _=> .p) (fun _ _ _=> .p) (fun _ _ _=> .p) (fun _ _ _ _=> .r) (fun _ _ _ _=> .e)
   (fun _ _ _=> .e) (fun _ _ _ _=> .e) (fun _ _=> .e) (fun _ _=> .e) (fun _=> .e) (fun _ _ _ _=> .p) (fun _ _=> .p) (abX P) (fun _=> .e) (fun _=> .e) (fun _=> .e) (fun _ _=> .e) (fun _ _ _=> .e) (fun _ _=> .e)
def bi (o:Oper):List Nat:=(o.after.toList.filter (Region.binds .any)).map Edge.on
def kT (i:Nat) (l:List Nat):Bool:= @List.rec Nat (fun _=>Bool) false (fun a _ ih=> @Bool.rec (fun _=>Bool) ih true (Nat.beq a i)) l
def abY (o:Oper):List Tmp:=o.op.operands.toList.filterMap fun x=>match x with | .tmp t=>some t|_=>none
def yf (t:Tmp) (o:Oper):Bool:=match o.dst with |some d=>Nat.beq d t|none=>false
def qF (t:Tmp):List Oper->Nat->Option (Nat×Oper)
 |[],_=>none
 |o::l,i=>cond (yf t o) (some (i,o)) (qF t l (i+1))
def yg (ops:List Oper) (i:Nat) (o:Oper):Bool:=
 (bi o).all (fun d=>Nat.ble (d+1) i)&&
 (abY o).all (fun t=>match qF t ops 0 with |none=>true|some q=>kT q.1 (bi o)||kT i (bi q.2))&&
 (match o.dst with |none=>true|some d=>match qF d ops 0 with |some q=>Nat.beq q.1 i|none=>false)&&
 (match o.guard with |none=>true|some g=>kT g.1 (bi o))
def rY (ops:List Oper):List Oper->Nat->Bool
 |[],_=>true
 |o::l,i=>cond (yg ops i o) (rY ops l (i+1)) false
def CL:Value->Value->Bool
 | .int k a, .int k' b=>decide (k=k')&&decide (a=b)
 | .bool a, .bool b=>a==b
 | .string a, .string b=>decide (a=b)
 | .pointer none, .pointer none=>true
 | .slice none l c, .slice none l' c'=>Nat.beq l l'&&Nat.beq c c'
 | .map none, .map none=>true
 | .nilFunc, .nilFunc=>true
 | .nilIface, .nilIface=>true
 | .func f ⟨[]⟩ ⟨[]⟩, .func g ⟨[]⟩ ⟨[]⟩=>decide (f=g)
 |_,_=>false
def Hk (f:Value->Value->Bool):List Value->List Value->Bool
 |[],[]=>true
 |a::l,b::m=>cond (f a b) (Hk f l m) false
 |_,_=>false
def yh:Nat->Value->Value->Bool
 |0,a,b=>CL a b
 |n+1,a,b=>match a,b with
  | .agg ⟨l⟩, .agg ⟨m⟩=>Hk (yh n) l m
  | .tuple ⟨l⟩, .tuple ⟨m⟩=>Hk (yh n) l m
  |a,b=>CL a b
def aX.same:aX->aX->Bool
 | .known a, .known b=>Nat.beq a b
 | .full, .full=>true
 | .any, .any=>true
 |_,_=>false
def av.beq:(t:av)->t.den->t.den->Bool
 | .int _,a,b=>decide (a=b)
 | .bool,a,b=>a==b
 | .str,a,b=>decide (a=b)
 | .list _ t,a,b=>Nat.beq a.length b.length&&(a.zip b).all fun p=>t.beq p.1 p.2
 | .pair s t,a,b=>s.beq a.1 b.1&&t.beq a.2 b.2
 | .ptr t,a,b=>t.beq a b
 | .unit,_,_=>true
def Aq (t u:av) (xs:List t.den) (ys:List u.den):Bool:=if h:u=t then av.beq (.list false t) xs (h ▸ ys)else false
def we:aa->aa->Bool
 | .bn z t xs, .bn z' u ys=>z==z'&&Aq t u xs ys
 | .fy t xs k off, .fy u ys k' off'=>Aq t u xs ys&&(Nat.beq k k'&&Nat.beq off off')
 | .bR e t i k n c, .bR e' u i' k' n' c'=>Nat.beq e e'&&(decide (t=u)&&(Nat.beq i i'&&(Nat.beq k k'&&(Nat.beq n n'&&c.same c'))))
 | .dL e t i k off, .dL e' u i' k' off'=>Nat.beq e e'&&(decide (t=u)&&(Nat.beq i i'&&(Nat.beq k k'&&Nat.beq off off')))
 | .raw a, .raw b=>yh 3 a b
 | .ptr i o, .ptr j q=>Nat.beq i j&&Nat.beq o q
 | .slice i o l c, .slice j q m d=>Nat.beq i j&&Nat.beq o q&&Nat.beq l m&&c.same d
 | .map i, .map j=>Nat.beq i j
 | .func f [] [], .func g [] []=>decide (f=g)
 | .yield i, .yield j=>Nat.beq i j
 |_,_=>false
def qG:List aa->List aa->Bool
 |[],[]=>true
 |a::l,b::m=>we a b&&qG l m
 |_,_=>false
def aa.same:aa->aa->Bool
 | .agg l, .agg m=>qG l m
 | .tuple l, .tuple m=>qG l m
 | .func f (x::a) b, .func g c d=>decide (f=g)&&(qG (x::a) c&&qG b d)
 | .func f [] (x::b), .func g c d=>decide (f=g)&&(qG [] c&&qG (x::b) d)
 |a,b=>we a b
def o8 (P:Program) (o:Oper) (ev:dP) (v:aa) (H:ai):Bool:=match e9 o.op P o ev H with | .ok v' _=>aa.same v' v|_=>false
def wa (P:Program) (o:Oper) (ev:dP) (v:aa):List ai->Bool
 |[]=>true
 |H::l=>cond (o8 P o ev v H) (wa P o ev v l) false
structure o9 where
 i:Nat
 o:Oper
 T:au aa
 v:aa
def jA (ds:List Nat):List o9->List o9
 |[]=>[]
 |q::l=>cond (kT q.i ds) (jA ds l) (q::jA ds l)
def iS (P:Program) (H:ai):List o9->Bool
 |[]=>true
 |q::l=>cond (o8 P q.o (cl q.T) q.v H) (iS P H l) false
def level (bP:au Nat):List Nat->Nat
 |[]=>0
 |d::l=>Nat.max ((bP.get d).getD 0) (level bP l)
def ua (l ds:List Nat):Bool:=l.all fun i=>kT i ds
structure gp where
 i:Nat
 k:Nat
 T:au aa
 cur:ai
 hs:List ai
 bP:au Nat
 dM:List o9
 dw:List Nat
def mG (n:Nat) (o:Oper) (s:gp) (v:aa) (f:au aa->gp):Option gp:=(iK s.T n o.dst v).map f
def ud (P:Program) (call:eC) (round:jW) (ops:Array Oper) (n:Nat) (o:Oper) (s:gp):Option gp:=
 let ds:=bi o
 let lv:=level s.bP ds
 match gL s.T ops o with
 |none=>none
 |some false=>mG n o s (.raw undef) fun T=>{s with i:=s.i+1,T:=T,bP:=s.bP.set s.i (some lv)}
 |some true=>match nF P o.op with
  | .p=>match e9 o.op P o (cl s.T) s.cur with
    | .ok v _=>mG n o s v fun T=>{s with i:=s.i+1,T:=T,bP:=s.bP.set s.i (some lv)}
    |_=>none
  | .r=>match s.hs with
    |H::_=>match e9 o.op P o (cl s.T) H with
     | .ok v _=>cond (wa P o (cl s.T) v (s.hs.take (s.k+1-lv)))
       (mG n o s v fun T=>{s with i:=s.i+1,T:=T,bP:=s.bP.set s.i (some lv),dM:=⟨s.i,o,s.T,v⟩::s.dM}) none
     |_=>none
    |[]=>none
  | .a=>match e9 o.op P o (cl s.T) s.cur with
    | .ok v H=>mG n o s v fun T=>{s with i:=s.i+1,T:=T,cur:=H,bP:=s.bP.set s.i (some lv),dw:=s.i::s.dw}
    |_=>none
  | .e=>cond (Nat.beq lv s.k&&ua s.dw ds)
    (match ja P call round o (cl s.T) s.cur with
      | .ok v H=>cond (iS P H (jA ds s.dM))
        (mG n o s v fun T=>{i:=s.i+1,k:=s.k+1,T:=T,cur:=H,hs:=H::s.hs,bP:=s.bP.set s.i (some (s.k+1)),dM:=jA ds s.dM,dw:=[]}) none
      |_=>none) none
  | .b=>cond (Nat.beq lv s.k&&ua s.dw ds)
    (match ja P call round o (cl s.T) s.cur with
      | .ok v H=>cond (iS P H (jA ds s.dM))
        (mG n o s v fun T=>{i:=s.i+1,k:=s.k+1,T:=T,cur:=H,hs:=H::s.hs,bP:=s.bP.set s.i (some (s.k+1)),dM:=jA ds s.dM,dw:=[]}) none
      |_=>none)
    (match e9 o.op P o (cl s.T) s.cur with
      | .ok v H=>mG n o s v fun T=>{s with i:=s.i+1,T:=T,cur:=H,bP:=s.bP.set s.i (some lv),dw:=s.i::s.dw}
      |_=>none)
def yj (P:Program) (call:eC) (round:jW) (ops:Array Oper) (n:Nat):List Oper->gp->eX
 |[],s=> .mk s.T s.cur
 |o::l,s=>match ud P call round ops n o s with
  |some s=>yj P call round ops n l s
  |none=> .no
def Ar (P:Program):Cr:=fun call round ops n T H=>
 cond (rY ops.toList ops.toList 0) (yj P call round ops n ops.toList {i:=0,k:=0,T:=T,cur:=H,hs:=[H],bP:= .nil,dM:=[],dw:=[]}) .no
def n9 (P:Program) (S:eC):oY:=fun d call round ops n T H=> @Bool.rec (fun _=>eX) (xQ P (vJ S call) round ops n ops.toList T H) (Ar P (vJ S call) round ops n T H) d
end
section
open Go.RowKit
section
variable {P:Program} {B:Nat} {ρ:Env} {H:ai} {w:World} {o:Oper} {ev ev':dP}
def qH (hp:qu o.op=true) (h:∀x∈o.op.operands.toList,ev x=ev' x):gen P o ev=gen P o ev':=by
 unfold gen;have e1:(o.op.operands.toList.all fun x=>(ev x).fA.isSome)=o.op.operands.toList.all fun x=>(ev' x).fA.isSome:=by
  rw [Bool.eq_iff_iff,List.all_eq_true,List.all_eq_true];exact⟨fun hh x hx=>by rw [<-h x hx];exact hh x hx,fun hh x hx=>by rw [h x hx];exact hh x hx⟩
 have e2:execOp (m6 ev) o=execOp (m6 ev') o:=execOp_congr hp fun x hx=>by simp only [m6,h x hx]
 rw [e1,e2]
def J5 {l:List Operand} (h:∀x∈l,ev x=ev' x):l.map ev=l.map ev':=List.map_congr_left h
def RC {ps:Array (Nat×Operand)} (h:∀p∈ps.toList,ev p.2=ev' p.2):rQ ev ps=rQ ev' ps:=List.map_congr_left fun p hp=>by rw [h p hp]
def RD (h:∀x∈o.op.operands.toList,ev x=ev' x):e9 o.op P o ev H=e9 o.op P o ev' H:=by
 cases ho:o.op with
 |move x=>
  have h1:=h x (by simp [ho,Op.operands]);show m7 x P o ev H=m7 x P o ev' H;simp only [m7,h1]
 |assign x=>
  have h1:=h x (by simp [ho,Op.operands]);show m7 x P o ev H=m7 x P o ev' H;simp only [m7,h1]
 |pick c a b=>
  have h1:=h c (by simp [ho,Op.operands]);have h2:=h a (by simp [ho,Op.operands]);have h3:=h b (by simp [ho,Op.operands]);show nX c a b P o ev H=nX c a b P o ev' H;simp only [nX,h1,h2,h3]
 |box t x=>
  have h1:=h x (by simp [ho,Op.operands]);show oU t x P o ev H=oU t x P o ev' H;simp only [oU,h1]
 |build t ps=>
  have h1:=RC (ev:=ev) (ev':=ev') (ps:=ps) fun p hp=>h p.2 (by simp only [ho,Op.operands];exact List.mem_map_of_mem hp)
  show Ce t ps P o ev H=Ce t ps P o ev' H;simp only [Ce,I6,h1]
 |buildSlice t l ps=>
  have h1:=RC (ev:=ev) (ev':=ev') (ps:=ps) fun p hp=>h p.2 (by simp only [ho,Op.operands];exact List.mem_map_of_mem hp)
  show z1 t l ps P o ev H=z1 t l ps P o ev' H;simp only [z1,oV,h1]
 |insert t m k v=>
  have h1:=h m (by simp [ho,Op.operands]);have h2:=h k (by simp [ho,Op.operands]);have h3:=h v (by simp [ho,Op.operands]);show oW t m k v P o ev H=oW t m k v P o ev' H;simp only [oW,h1,h2,h3]
 |mapUpdate t m k v=>
  have h1:=h m (by simp [ho,Op.operands]);have h2:=h k (by simp [ho,Op.operands]);have h3:=h v (by simp [ho,Op.operands]);show oW t m k v P o ev H=oW t m k v P o ev' H;simp only [oW,h1,h2,h3]
 |load t x=>
  have h1:=h x (by simp [ho,Op.operands]);show nY t x P o ev H=nY t x P o ev' H;simp only [nY,h1]
 |store t x y=>
  have h1:=h x (by simp [ho,Op.operands]);have h2:=h y (by simp [ho,Op.operands]);show qp t x y P o ev H=qp t x y P o ev' H;simp only [qp,h1,h2]
 |nilCheck x=>
  have h1:=h x (by simp [ho,Op.operands]);have hg:=qH (P:=P) (by rw [ho];rfl) h;show qi x P o ev H=qi x P o ev' H;simp only [qi,I7,h1,hg]
 |binOp op t x y ah=>
  have h1:=h x (by simp [ho,Op.operands]);have h2:=h y (by simp [ho,Op.operands]);have hg:=qH (P:=P) (by rw [ho];rfl) h;show iZ op t x y ah P o ev H=iZ op t x y ah P o ev' H;simp only [iZ,xN,oS,Cf,h1,h2,hg]
 |unOp op t x=>
  have hg:=qH (P:=P) (by rw [ho];rfl) h;show vH P o ev H=vH P o ev' H;simp only [vH,hg]
 |typeAssert a b c d=>
  have hg:=qH (P:=P) (by rw [ho];rfl) h;show vH P o ev H=vH P o ev' H;simp only [vH,hg]
 |convert s d x=>
  have h1:=h x (by simp [ho,Op.operands]);have hg:=qH (P:=P) (by rw [ho];rfl) h;show zZ s d x P o ev H=zZ s d x P o ev' H;simp only [zZ,Cl,h1,hg]
 |makeInterface t x=>
  have h1:=h x (by simp [ho,Op.operands]);show Ch t x P o ev H=Ch t x P o ev' H;simp only [Ch,h1]
 |makeFunc fn f c=>
  have h1:=J5 (ev:=ev) (ev':=ev') (l:=f.toList) fun x hx=>h x (by simp only [ho,Op.operands,Array.toList_append];exact List.mem_append_left _ hx)
  have h2:=J5 (ev:=ev) (ev':=ev') (l:=c.toList) fun x hx=>h x (by simp only [ho,Op.operands,Array.toList_append];exact List.mem_append_right _ hx)
  show Ci fn f c P o ev H=Ci fn f c P o ev' H;simp only [Ci,h1,h2]
 |makeMap t r=>
  show z6 t r P o ev H=z6 t r P o ev' H;cases r with
  |none=>rfl
  |some x=>
   have h1:=h x (by simp [ho,Op.operands]);simp only [z6,rR,h1]
 |makeSlice t l c=>
  have h1:=h l (by simp [ho,Op.operands]);have h2:=h c (by simp [ho,Op.operands]);show tJ t l c P o ev H=tJ t l c P o ev' H;simp only [tJ,h1,h2]
 |slice t x l hi m=>
  have h1:=h x (by simp [ho,Op.operands]);have h2:l.map ev=l.map ev':=by
   cases l with
   |none=>rfl
   |some y=>simp [h y (by simp [ho,Op.operands])]
  have h3:hi.map ev=hi.map ev':=by
   cases hi with
   |none=>rfl
   |some y=>simp [h y (by simp [ho,Op.operands])]
  have h4:m.map ev=m.map ev':=by
   cases m with
   |none=>rfl
   |some y=>simp [h y (by simp [ho,Op.operands])]
  have hg:=qH (P:=P) (by rw [ho];rfl) h;show oT t x l hi m P o ev H=oT t x l hi m P o ev' H;simp only [oT,Cj,h1,h2,h3,h4,hg]
 |fieldAddr s x f=>
  have h1:=h x (by simp [ho,Op.operands]);show qj s x f P o ev H=qj s x f P o ev' H;simp only [qj,h1]
 |field t x f=>
  have h1:=h x (by simp [ho,Op.operands]);have hg:=qH (P:=P) (by rw [ho];rfl) h;show ql t x f P o ev H=ql t x f P o ev' H;simp only [ql,h1,hg]
 |indexAddr t x i=>
  have h1:=h x (by simp [ho,Op.operands]);have h2:=h i (by simp [ho,Op.operands]);show nt t x i P o ev H=nt t x i P o ev' H;simp only [nt,h1,h2]
 |index t x i=>
  have h1:=h x (by simp [ho,Op.operands]);have h2:=h i (by simp [ho,Op.operands]);have hg:=qH (P:=P) (by rw [ho];rfl) h;show mm t x i P o ev H=mm t x i P o ev' H;simp only [mm,h1,h2,hg]
 |lookup t m k ok=>
  have h1:=h m (by simp [ho,Op.operands]);have h2:=h k (by simp [ho,Op.operands]);have hg:=qH (P:=P) (by rw [ho];rfl) h;show Ck t m k ok P o ev H=Ck t m k ok P o ev' H;simp only [Ck,Jd,h1,h2,hg]
 |extract x i=>
  have h1:=h x (by simp [ho,Op.operands]);have hg:=qH (P:=P) (by rw [ho];rfl) h;show qm x i P o ev H=qm x i P o ev' H;simp only [qm,h1,hg]
 |call c=>
  obtain⟨callee,args,argTypes⟩:=c;have h1:=J5 (ev:=ev) (ev':=ev') (l:=args.toList) fun x hx=>h x (by simp only [ho,Op.operands,Call.operands,Array.toList_append];exact List.mem_append_right _ hx)
  have hg:=qH (P:=P) (by rw [ho];rfl) h;show fj ⟨callee,args,argTypes⟩ P o ev H=fj ⟨callee,args,argTypes⟩ P o ev' H;cases callee with
  |value f=>
   have h2:=h f (by simp [ho,Op.operands,Call.operands]);simp only [fj,h1,h2]
  |builtin b=>simp only [fj,nZ,h1,hg]
  |invoke r m=>rfl
 |range t x=>
  have h1:=h x (by simp [ho,Op.operands]);show tL t x P o ev H=tL t x P o ev' H;simp only [tL,h1]
 |next x b=>
  have h1:=h x (by simp [ho,Op.operands]);show z7 x b P o ev H=z7 x b P o ev' H;simp only [z7,h1]
 |entry x=>
  have h1:=h x (by simp [ho,Op.operands]);show Co x P o ev H=Co x P o ev' H;simp only [Co,h1]
 |_=>rfl
def abZ {t:Option TypeId} {v:aa} (h:rX P t=false) (H:ai):Cp P t v H=none:=by
 unfold rX at h;unfold Cp;cases t with
 |none=>rfl
 |some t=>
  simp only [Option.bind_some]at h ⊢;split
  .rename_i hu;rw [hu]at h;cases h
  .rfl
section
variable {args:Array Operand} {argTypes:Array TypeId}
def ab0 (hk:nF P (.call {callee:= .builtin .len,args,argTypes})= .p):rX P argTypes[0]? =false:=by
 have hk:cond (rX P argTypes[0]?) Kd.e Kd.p= .p:=hk;cases h:rX P argTypes[0]? with
 |true=>rw [h]at hk;cases hk
 |false=>rfl
def ab1 (hk:nF P (.call {callee:= .builtin .len,args,argTypes})= .r):False:=by
 have hk:cond (rX P argTypes[0]?) Kd.e Kd.p= .r:=hk;cases h:rX P argTypes[0]? <;>rw [h]at hk<;>cases hk
def ab2 (hk:(nF P (.call {callee:= .builtin .len,args,argTypes})).al=true):False:=by
 have hk:(cond (rX P argTypes[0]?) Kd.e Kd.p).al=true:=hk;cases h:rX P argTypes[0]? <;>rw [h]at hk<;>cases hk
end
def CN {x:Option aa} {v:aa} {H1:ai} (h:ag H x= .ok v H1):x=some v/\H1=H:=by
 cases x with
 |none=>cases h
 |some y=>cases h;exact⟨rfl,rfl⟩
def kn {x:Option aa} {v:aa} {H1:ai} (h:ag H x= .ok v H1) (H2:ai):ag H2 x= .ok v H2:=by
 obtain⟨rfl,_⟩:=CN h;rfl
def ab3 {gJ n:Nat} {x v:aa} {H1:ai} (h:li gJ n x H= .ok v H1) (H2:ai):li gJ n x H2= .ok v H2:=by
 unfold li at h ⊢;split at h
 .cases hb:Nat.ble 1 n<;>rw [hb]at h<;>cases h;rfl
 .cases hb:Nat.ble 1 n<;>rw [hb]at h<;>cases h;rfl
 .cases h
def ab4 {k n s:Nat} {x v:aa} {H1:ai} (h:vE k n s x H= .ok v H1) (H2:ai):vE k n s x H2= .ok v H2:=by
 unfold vE at h ⊢;split at h
 .cases hb:Nat.ble (k+1) n<;>rw [hb]at h<;>cases h;rfl
 .cases hb:Nat.ble (k+1) n<;>rw [hb]at h<;>cases h;rfl
 .cases h
def ab5 {k s:Nat} {x v:aa} {H1:ai} (h:rK k s x H= .ok v H1) (H2:ai):rK k s x H2= .ok v H2:=by
 unfold rK at h ⊢;split at h
 .rename_i z t xs;cases hb:(Nat.beq t.size s&&Nat.ble (k+1) xs.length)<;>rw [hb]at h<;>cases h;rfl
 .rename_i e t i k0 len cap;cases hb:(Nat.beq t.size s&&Nat.ble (k+1) len)<;>rw [hb]at h<;>cases h;rfl
 .cases h
def ab6 (hk:nF P o.op= .p) {v:aa} {H1:ai} (h:e9 o.op P o ev H= .ok v H1) (H2:ai):e9 o.op P o ev H2= .ok v H2:=by
 cases ho:o.op with
 |move x=>rw [ho]at h;cases h;rfl
 |assign x=>rw [ho]at h;cases h;rfl
 |pick c a b=>
  rw [ho]at h;have h:nX c a b P o ev H= .ok v H1:=h;show nX c a b P o ev H2= .ok v H2;unfold nX at h ⊢;cases hb:gK (ev c)with
  |no=>rw [hb]at h;cases h
  |mk q=>rw [hb]at h;cases q<;>(cases h;rfl)
 |build t ps=>rw [ho]at h;exact kn h H2
 |nilCheck x=>
  rw [ho]at h;have h:qi x P o ev H= .ok v H1:=h;show qi x P o ev H2= .ok v H2;unfold qi at h ⊢;cases hb:iJ (ev x)with
  |no=>rw [hb]at h;exact kn h H2
  |mk i off=>rw [hb]at h;cases h;rfl
 |binOp op t x y ah=>
  rw [ho]at h;have h:iZ op t x y ah P o ev H= .ok v H1:=h;show iZ op t x y ah P o ev H2= .ok v H2;unfold iZ at h ⊢;cases hb:iI (ev x)with
  |no=>rw [hb]at h;exact kn h H2
  |int k a=>
   rw [hb]at h;simp only at h ⊢;cases kO:iI (ev y)with
   |no=>rw [kO]at h;exact kn h H2
   |int k' b=>
    rw [kO]at h;simp only at h ⊢;cases hf:ju op k k' a b with
    |none=>rw [hf]at h;exact kn h H2
    |some q=>rw [hf]at h;cases h;rfl
 |unOp op t x=>rw [ho]at h;exact kn h H2
 |typeAssert a b c d=>rw [ho]at h;exact kn h H2
 |makeInterface t x=>rw [ho]at h;exact kn h H2
 |makeFunc fn f c=>rw [ho]at h;cases h;rfl
 |slice t x l hi m=>rw [ho]at h;exact kn h H2
 |fieldAddr s x f=>
  rw [ho]at h;have h:qj s x f P o ev H= .ok v H1:=h;show qj s x f P o ev H2= .ok v H2;unfold qj at h ⊢;cases hf:fv P s f with
  |no=>rw [hf]at h;cases h
  |mk a n t=>
   rw [hf]at h;simp only at h ⊢;cases hb:iJ (ev x)with
   |no=>rw [hb]at h;exact ab3 h H2
   |mk i off=>
    rw [hb]at h;simp only at h ⊢;cases hn:Nat.ble 1 n with
    |false=>rw [hn]at h;cases h
    |true=>rw [hn]at h;cases h;rfl
 |field t x f=>
  rw [ho]at h;have h:ql t x f P o ev H= .ok v H1:=h;show ql t x f P o ev H2= .ok v H2;unfold ql at h ⊢;cases hb:rL (ev x)with
  |none=>rw [hb]at h;exact kn h H2
  |some cs=>
   rw [hb]at h;simp only at h ⊢;cases hf:fv P t f with
   |no=>rw [hf]at h;cases h
   |mk a n t=>rw [hf]at h;exact kn h H2
 |indexAddr t x i=>
  rw [ho]at h;have h:nt t x i P o ev H= .ok v H1:=h;show nt t x i P o ev H2= .ok v H2;unfold nt at h ⊢;cases hk2:nW (ev i)with
  |no=>rw [hk2]at h;cases h
  |mk k=>
   rw [hk2]at h;simp only at h ⊢;cases ht:nV P t with
   |no=>rw [ht]at h;cases h
   |arr n s=>
    rw [ht]at h;simp only at h ⊢;cases hb:iJ (ev x)with
    |no=>rw [hb]at h;exact ab4 h H2
    |mk i off=>
     rw [hb]at h;simp only at h ⊢;cases hn:Nat.ble (Nat.succ k) n with
     |false=>rw [hn]at h;cases h
     |true=>rw [hn]at h;cases h;rfl
   |sl s=>
    rw [ht]at h;simp only at h ⊢;cases hb:xJ (ev x)with
    |no=>rw [hb]at h;exact ab5 h H2
    |mk i off len cap=>
     rw [hb]at h;simp only at h ⊢;cases hn:Nat.ble (Nat.succ k) len with
     |false=>rw [hn]at h;cases h
     |true=>rw [hn]at h;cases h;rfl
 |index t x i=>
  rw [ho]at h;have h:mm t x i P o ev H= .ok v H1:=h;show mm t x i P o ev H2= .ok v H2;unfold mm at h ⊢;cases hb:rL (ev x)with
  |none=>rw [hb]at h;exact kn h H2
  |some cs=>rw [hb]at h;exact kn h H2
 |extract x i=>
  rw [ho]at h;have h:qm x i P o ev H= .ok v H1:=h;show qm x i P o ev H2= .ok v H2;unfold qm at h ⊢;cases hb:zS (ev x)with
  |none=>rw [hb]at h;exact kn h H2
  |some cs=>rw [hb]at h;exact kn h H2
 |call c=>
  obtain⟨callee,args,argTypes⟩:=c;rw [ho]at h hk;cases callee with
  |value f=>cases hk
  |invoke r m=>cases hk
  |builtin b=>
   have h:nZ P o ev b argTypes (args.toList.map ev) H= .ok v H1:=h;show nZ P o ev b argTypes (args.toList.map ev) H2= .ok v H2;unfold nZ at h ⊢;split at h
   .rw [abZ (ab0 hk)]at h ⊢;simp only at h ⊢;split at h
    .cases h;rfl
    .exact kn h H2
   .split at h
    .cases h;rfl
    .exact kn h H2
   .cases hk
   .cases hk
   .cases hk
   .cases hk
   .cases hk
   .rename_i i off len cap _ _;have h: @Bool.rec (fun _=>aL) .no (.ok (.ptr i off) H) (Nat.ble 1 len)= .ok v H1:=h;show @Bool.rec (fun _=>aL) .no (.ok (.ptr i off) H2) (Nat.ble 1 len)= .ok v H2
    cases hn:Nat.ble 1 len with
    |false=>rw [hn]at h;cases h
    |true=>rw [hn]at h;cases h;rfl
   .rename_i e' u i k len cap _ _;have h: @Bool.rec (fun _=>aL) .no (.ok (.dL e' u i k 0) H) (Nat.ble 1 len)= .ok v H1:=h;show @Bool.rec (fun _=>aL) .no (.ok (.dL e' u i k 0) H2) (Nat.ble 1 len)= .ok v H2
    cases hn:Nat.ble 1 len with
    |false=>rw [hn]at h;cases h
    |true=>rw [hn]at h;cases h;rfl
   .exact kn h H2
 |_=>rw [ho]at hk;cases hk
def ab7 (hk:nF P o.op= .r) {v:aa} {H1:ai} (h:e9 o.op P o ev H= .ok v H1):H1=H:=by
 cases ho:o.op with
 |load t x=>
  rw [ho]at h;have h:nY t x P o ev H= .ok v H1:=h;unfold nY at h;cases hb:iJ (ev x)with
  |no=>
   rw [hb]at h;have h:tH P t (ev x) H= .ok v H1:=h;unfold tH at h;split at h
   .exact(CN h).2
   .rename_i e' u i k off _;cases hc:bz e' u (H.get i) k with
    |false=>rw [hc]at h;cases h
    |true=>rw [hc]at h;exact(CN h).2
   .cases h
  |mk i off=>
   rw [hb]at h;simp only at h;cases hc:tD (H.get i)with
   |no=>rw [hc]at h;cases h
   |mk a b c d e=>rw [hc]at h;exact(CN h).2
 |lookup t m k ok=>rw [ho]at h;exact(CN h).2
 |call c=>
  obtain⟨callee,args,argTypes⟩:=c;rw [ho]at hk;cases callee with
  |value f=>cases hk
  |invoke r m=>cases hk
  |builtin b=>cases b<;>first |cases hk|exact(ab1 hk).elim
 |_=>rw [ho]at hk;cases hk
def CO (hk:(nF P o.op).al=true) {v:aa} {H1:ai} (h:e9 o.op P o ev H= .ok v H1):True/\∃blk,H1=H.new blk/\∀H2:ai,H2.next=H.next->e9 o.op P o ev H2= .ok v (H2.new blk):=by
 cases ho:o.op with
 |alloc t=>
  rw [ho]at h;have h:tI t P o ev H= .ok v H1:=h;unfold tI at h;cases hz:nk P t with
  |none=>rw [hz]at h;cases h
  |some z=>
   rw [hz]at h;cases h;refine⟨trivial,_,rfl,fun H2 h2=> ?_⟩;show tI t P o ev H2=_;unfold tI;rw [hz];simp only [h2]
 |box t x=>
  rw [ho]at h;have h:oU t x P o ev H= .ok v H1:=h;unfold oU at h;cases hb:(ev x).vD with
  |true=>rw [hb]at h;cases h
  |false=>
   rw [hb]at h;cases h;refine⟨trivial,_,rfl,fun H2 h2=> ?_⟩;show oU t x P o ev H2=_;unfold oU;rw [hb];simp only [h2]
 |buildSlice t len parts=>
  rw [ho]at h;have h:eS (oV P ev t len parts H)= .ok v H1:=h;have key:∀H2:ai,oV P ev t len parts H2=(oV P ev t len parts {m:= .nil,next:=0}).bind fun _=>(il P t).bind fun e=>(ey P e).bind fun s=>(nk P e).bind fun z=>
    ((rN (fun i=>some (i*s,s)) (List.replicate len (ic z.cells)).flatten (rQ ev parts)).map fun cs=>(.slice H2.next 0 len (.known len),H2.new (.cells e cs true false false))):=by
   intro H2;unfold oV;cases h1:il P t with
   |none=>rfl
   |some e=>
    simp only [Option.bind_some];cases h2:ey P e with
    |none=>rfl
    |some s=>
     simp only [Option.bind_some];cases h3:nk P e with
     |none=>rfl
     |some z=>
      simp only [Option.bind_some];cases h4:(Nat.ble 1 s&&Nat.ble (len*s) 16777216&&Nat.beq z.cells.size s)with
      |false=>rfl
      |true=>
       simp only [cond_true];cases h5:rN (fun i=>some (i*s,s)) (List.replicate len (ic z.cells)).flatten (rQ ev parts)with
       |none=>rfl
       |some cs=>rfl
  obtain⟨r,hr⟩:∃r,oV P ev t len parts H=some r:=by
   cases hq:oV P ev t len parts H with
   |none=>rw [hq]at h;cases h
   |some r=>exact⟨r,rfl⟩
  rw [hr]at h;have hk2:=key H;rw [hr]at hk2;have hk2:=hk2.symm;simp only [dO,am]at hk2;obtain⟨er,h0,e,h1,s,h2,z,h3,cs,h4,h5⟩:=hk2;subst h5;cases h;refine⟨trivial,_,rfl,fun H2 hn=> ?_⟩;show eS (oV P ev t len parts H2)=_;rw [key H2,h0];simp only [Option.bind_some,h1,h2,h3,h4,Option.map_some,hn,eS]
 |call c=>
  obtain⟨callee,args,argTypes⟩:=c;rw [ho]at hk;cases callee with
  |value f=>cases hk
  |invoke r m=>cases hk
  |builtin b=>cases b<;>first |cases hk|exact(ab2 hk).elim
 |makeMap t r=>
  rw [ho]at h;have h:eS (rR P ev t r H)= .ok v H1:=h;have key:∀H2:ai,rR P ev t r H2=(rR P ev t r {m:= .nil,next:=0}).map fun _=>(.map H2.next,H2.new (.map #[] 0)):=by
   intro H2;unfold rR;cases r with
   |none=>rfl
   |some x=>
    simp only;split<;>rfl
  rw [key H]at h;cases hq:rR P ev t r {m:= .nil,next:=0}with
  |none=>rw [hq]at h;cases h
  |some q=>
   rw [hq]at h;cases h;refine⟨trivial,_,rfl,fun H2 h2=> ?_⟩;show eS (rR P ev t r H2)=_;rw [key H2,hq];simp only [Option.map_some,eS,h2]
 |makeSlice t l c=>
  rw [ho]at h;have h:eS (qo P t (ev l) (ev c) H)= .ok v H1:=h;obtain⟨q,hq⟩:∃q,qo P t (ev l) (ev c) H=some q:=by
   cases hq:qo P t (ev l) (ev c) H with
   |none=>rw [hq]at h;cases h
   |some q=>exact⟨q,rfl⟩
  rw [hq]at h;have wg:=hq;unfold qo at wg;simp only [dO]at wg;obtain⟨e,h1,inf,h2,z,h3,n,h4,m,h5,h6⟩:=wg;cases hb:(Nat.ble n m&&Nat.ble 1 inf.size&&bounded m inf.bytes&&Nat.beq z.cells.size inf.size)with
  |false=>rw [hb]at h6;cases h6
  |true=>
   rw [hb]at h6;cases h6;cases h;refine⟨trivial,_,rfl,fun H2 hn=> ?_⟩;show eS (qo P t (ev l) (ev c) H2)=_;unfold qo;simp only [h1,h2,h3,h4,h5,Option.bind_some,hb,cond_true,eS,hn]
 |_=>rw [ho]at hk;cases hk
end
end
section
open Go.RowKit
def RE {a b:Value} (h:CL a b=true):a=b:=by
 unfold CL at h;split at h
 .simp only [ae,bE]at h;rw [h.1,h.2]
 .simp only [fU]at h;rw [h]
 .simp only [bE]at h;rw [h]
 .rfl
 .simp only [ae]at h;rw [ac h.1,ac h.2]
 .rfl
 .rfl
 .rfl
 .simp only [bE]at h;rw [h]
 .cases h
def J6 {f:Value->Value->Bool} (hf:∀a b,f a b=true->a=b):∀{l m:List Value},Hk f l m=true->l=m
 |[],[],_=>rfl
 |[],_::_,h=>by cases h
 |_::_,[],h=>by cases h
 |a::l,b::m,h=>by
  have e:Hk f (a::l) (b::m)=cond (f a b) (Hk f l m) false:=rfl;rw [e]at h;cases hc:f a b with
  |false=>rw [hc]at h;cases h
  |true=>rw [hc]at h;rw [hf a b hc,J6 hf h]
def J7:∀(n:Nat) {a b:Value},yh n a b=true->a=b
 |0,_,_,h=>RE h
 |n+1,a,b,h=>by
  unfold yh at h;split at h
  .rw [J6 (fun _ _ h=>J7 n h) h]
  .rw [J6 (fun _ _ h=>J7 n h) h]
  .exact RE h
def ui {a b:aX} (h:aX.same a b=true):a=b:=by
 unfold aX.same at h;split at h
 .rw [ac h]
 .rfl
 .rfl
 .cases h
def RF {α:Type} {f:α->α->Bool} (hf:∀a b,f a b=true->a=b):∀{l m:List α},l.length=m.length->(l.zip m).all (fun p=>f p.1 p.2)=true->l=m
 |[],[],_,_=>rfl
 |[],_::_,h,_=>by simp at h
 |_::_,[],h,_=>by simp at h
 |a::l,b::m,h,k=>by
  simp only [List.zip_cons_cons,List.all_cons,ae]at k;rw [hf a b k.1,RF hf (by simpa using h) k.2]
def av.Au:∀(t:av) {a b:t.den},t.beq a b=true->a=b
 | .int _,a,b,h=>ap h
 | .bool,a,b,h=>eq_of_beq h
 | .str,a,b,h=>ap h
 | .list _ t,a,b,h=>by
   have h:(Nat.beq a.length b.length&&(a.zip b).all fun p=>t.beq p.1 p.2)=true:=h;rw [ae]at h;exact RF (fun a b h=>t.Au h) (ac h.1) h.2
 | .pair s t,a,b,h=>by
   have h:(s.beq a.1 b.1&&t.beq a.2 b.2)=true:=h;rw [ae]at h;exact Prod.ext (s.Au h.1) (t.Au h.2)
 | .ptr t,_,_,h=>t.Au h
 | .unit,_,_,_=>rfl
def RG {t u:av} {xs:List t.den} {ys:List u.den} (h:Aq t u xs ys=true):∃e:u=t,xs=e ▸ ys:=by
 unfold Aq at h;split at h
 .rename_i e;exact⟨e,(av.Au (.list false t) h:(xs:List t.den)=_)⟩
 .cases h
def RH {a b:aa} (h:we a b=true):a=b:=by
 unfold we at h;split at h
 .simp only [ae]at h;obtain⟨e,h2⟩:=RG h.2;subst e;subst h2;rw [eq_of_beq h.1]
 .simp only [ae]at h;obtain⟨e,h2⟩:=RG h.1;subst e;subst h2;rw [ac h.2.1,ac h.2.2]
 .simp only [ae,bE]at h;obtain⟨h1,h2,h3,h4,h5,h6⟩:=h;subst h2;rw [ac h1,ac h3,ac h4,ac h5,ui h6]
 .simp only [ae,bE]at h;obtain⟨h1,h2,h3,h4,h5⟩:=h;subst h2;rw [ac h1,ac h3,ac h4,ac h5]
 .rw [J7 3 h]
 .simp only [ae]at h;rw [ac h.1,ac h.2]
 .simp only [ae]at h;rw [ac h.1.1.1,ac h.1.1.2,ac h.1.2,ui h.2]
 .rw [ac h]
 .simp only [bE]at h;rw [h]
 .rw [ac h]
 .cases h
def yl:∀{l m:List aa},qG l m=true->l=m
 |[],[],_=>rfl
 |[],_::_,h=>by cases h
 |_::_,[],h=>by cases h
 |a::l,b::m,h=>by
  simp only [qG,ae]at h;rw [RH h.1,yl h.2]
def ab8 {a b:aa} (h:aa.same a b=true):a=b:=by
 unfold aa.same at h;split at h
 .rw [yl h]
 .rw [yl h]
 .simp only [ae,bE]at h;rw [h.1,yl h.2.1,yl h.2.2]
 .simp only [ae,bE]at h;rw [h.1,yl h.2.1,yl h.2.2]
 .exact RH h
def lL {i:Nat}:∀{l:List Nat},kT i l=true↔i∈l
 |[]=>by simp [kT]
 |a::l=>by
  have e:kT i (a::l)= @Bool.rec (fun _=>Bool) (kT i l) true (Nat.beq a i):=rfl;rw [e];cases hb:Nat.beq a i with
  |false=>have:=Nat.ne_of_beq_eq_false hb;simp only [lL,en];exact⟨.inr,fun h=>h.resolve_left fun e=>this e.symm⟩
  |true=>simp [ac hb]
def RI {l ds:List Nat} (h:ua l ds=true):∀i∈l,i∈ds:=fun i hi=>lL.1 (List.all_eq_true.1 h i hi)
def RL {bP:au Nat} {e:Nat}:∀{ds:List Nat},(∀d∈ds,(bP.get d).getD 0<=e)->level bP ds<=e
 |[],_=>Nat.zero_le _
 |a::l,h=>by
  have e:level bP (a::l)=Nat.max ((bP.get a).getD 0) (level bP l):=rfl;rw [e];exact Nat.max_le.2 ⟨h a kK,RL fun d hd=>h d (kJ _ hd)⟩
def RM {t k:Nat} {o:Oper}:∀{l:List Oper} {i:Nat},qF t l i=some (k,o)->i<=k/\l[k-i]? =some o/\o.dst=some t
 |[],_,h=>by cases h
 |a::l,i,h=>by
  have e:qF t (a::l) i=cond (yf t a) (some (i,a)) (qF t l (i+1)):=rfl;rw [e]at h;cases hd:yf t a with
  |true=>
   rw [hd]at h;cases h;refine⟨aI _,by simp, ?_⟩;unfold yf at hd;split at hd
   .rename_i d he;rw [he,ac hd]
   .cases hd
  |false=>
   rw [hd]at h;obtain⟨h1,h2,h3⟩:=RM (l:=l) h;refine⟨by omega, ?_,h3⟩;have:k-i=(k-(i+1))+1:=by omega
   rw [this];simpa using h2
def RN {t:Nat}:∀{l:List Oper} {i:Nat},qF t l i=none->∀o∈l,o.dst≠some t
 |[],_,_,o,ho=>by simp at ho
 |a::l,i,h,o,ho=>by
  have e:qF t (a::l) i=cond (yf t a) (some (i,a)) (qF t l (i+1)):=rfl;rw [e]at h;cases hd:yf t a with
  |true=>rw [hd]at h;cases h
  |false=>
   rw [hd]at h;rcases en.1 ho with rfl |ho
   .intro hh;unfold yf at hd;rw [hh]at hd;have:Nat.beq t t=true:=Nat.beq_refl t;simp only at hd;rw [this]at hd;cases hd
   .exact RN (l:=l) h o ho
def RO {ops:List Oper}:∀{l:List Oper} {i:Nat},rY ops l i=true->∀j o,l[j]? =some o->yg ops (i+j) o=true
 |[],i,h,j,o,hj=>by simp at hj
 |a::l,i,h,j,o,hj=>by
  have e:rY ops (a::l) i=cond (yg ops i a) (rY ops l (i+1)) false:=rfl;rw [e]at h;cases hc:yg ops i a with
  |false=>rw [hc]at h;cases h
  |true=>
   rw [hc]at h;cases j with
   |zero=>simp at hj;subst hj;exact hc
   |succ j=>
    have:=RO (l:=l) h j o (by simpa using hj);have e:i+1+j=i+(j+1):=by omega
    rwa [e]at this
structure ab9 (ops:Array Oper) (i:Nat) (o:Oper):Prop where
 lt:∀d∈bi o,d<i
 slot:∀t,Operand.tmp t∈o.op.operands.toList->(∀(j:Nat) (p:Oper),ops[j]? =some p->p.dst≠some t)\/∃(k:Nat) (p:Oper),ops[k]? =some p/\p.dst=some t/\(k∈bi o\/i∈bi p)
 dst:∀t,o.dst=some t->∀(j:Nat) (p:Oper),ops[j]? =some p->p.dst=some t->j=i
 guard:∀g,o.guard=some g->g.1∈bi o
def ue {ops:Array Oper} (h:rY ops.toList ops.toList 0=true) {i:Nat} {o:Oper} (hi:ops[i]? =some o):ab9 ops i o:=by
 have at':∀{j:Nat} {p:Oper},ops[j]? =some p->yg ops.toList j p=true:=fun {j p} hj=>by
  have:=RO h j p (by simpa using hj);simpa using this
 have own:∀{j:Nat} {p:Oper} {t:Tmp},ops[j]? =some p->p.dst=some t->∃q,qF t ops.toList 0=some (j,q):=fun {j p t} hj ht=>by
  have hk:=at' hj;simp only [yg,ae,ht]at hk;have h3:=hk.1.2;split at h3
  .rename_i q hq;have:=ac h3;exact⟨q.2,by rw [hq];simp [<-this]⟩
  .cases h3
 have hk:=at' hi;simp only [yg,ae,List.all_eq_true]at hk;obtain⟨⟨⟨h1,h2⟩,h3⟩,h4⟩:=hk;refine⟨fun d hd=>bT (h1 d hd),fun t ht=> ?_,fun t ht j p hj hp=> ?_,fun g hg=> ?_⟩
 .have CP:=h2 t (List.mem_filterMap.2 ⟨_,ht,rfl⟩);cases hw:qF t ops.toList 0 with
  |none=>exact .inl fun j p hj=>RN hw p (List.mem_of_getElem? (by simpa using hj))
  |some q=>
   obtain⟨k,p⟩:=q;rw [hw]at CP;obtain⟨_,e2,e3⟩:=RM hw;simp only [Bool.or_eq_true,lL]at CP;exact .inr ⟨k,p,by simpa using e2,e3,CP⟩
 .obtain⟨q,hq⟩:=own hi ht;obtain⟨q',RP⟩:=own hj hp;rw [hq]at RP;cases RP;rfl
 .rw [hg]at h4;exact lL.1 h4
section
variable {T aO:au aa} {n:Nat} {dst:Option Tmp} {v:aa}
def CQ (h:iK T n dst v=some aO) (t:Nat):aO.get t=if dst=some t then some v else T.get t:=by
 cases dst with
 |none=>cases h;simp
 |some d=>
  have e:iK T n (some d) v= @Bool.rec (fun _=>Option (au aa)) none (some (T.set d (some v))) (Nat.ble (Nat.succ d) n):=rfl;rw [e]at h;cases hb:Nat.ble (Nat.succ d) n with
  |false=>rw [hb]at h;cases h
  |true=>
   rw [hb]at h;cases h;rw [au.gj];by_cases hd:d=t<;>simp [hd]
def acd (h:iK T n dst v=some aO) (T2:au aa):∃ace,iK T2 n dst v=some ace:=by
 cases dst with
 |none=>exact⟨_,rfl⟩
 |some d=>
  have e:∀T,iK T n (some d) v= @Bool.rec (fun _=>Option (au aa)) none (some (T.set d (some v))) (Nat.ble (Nat.succ d) n):=fun _=>rfl
  rw [e]at h ⊢;cases hb:Nat.ble (Nat.succ d) n with
  |false=>rw [hb]at h;cases h
  |true=>exact⟨_,rfl⟩
end
inductive J8 (P:Program) (call:eC) (round:jW) (ops:Array Oper) (o:Oper) (s:gp) (v:aa) (s':gp):Prop
 |skip (h:gL s.T ops o=some false) (hv:v= .raw undef) (hk:s'.k=s.k) (hc:s'.cur=s.cur) (hh:s'.hs=s.hs) (hl:s'.bP=s.bP.set s.i (some (level s.bP (bi o)))) (hp:s'.dM=s.dM) (ha:s'.dw=s.dw)
 |p (h:gL s.T ops o=some true) (gz:nF P o.op= .p) (hop:∃H,e9 o.op P o (cl s.T) s.cur= .ok v H) (hk:s'.k=s.k) (hc:s'.cur=s.cur) (hh:s'.hs=s.hs) (hl:s'.bP=s.bP.set s.i (some (level s.bP (bi o)))) (hp:s'.dM=s.dM) (ha:s'.dw=s.dw)
 |r (h:gL s.T ops o=some true) (gz:nF P o.op= .r) (hr:wa P o (cl s.T) v (s.hs.take (s.k+1-level s.bP (bi o)))=true) (hk:s'.k=s.k) (hc:s'.cur=s.cur) (hh:s'.hs=s.hs) (hl:s'.bP=s.bP.set s.i (some (level s.bP (bi o)))) (hp:s'.dM=⟨s.i,o,s.T,v⟩::s.dM) (ha:s'.dw=s.dw)
 |a (h:gL s.T ops o=some true) (gz:(nF P o.op).al=true) (hop:e9 o.op P o (cl s.T) s.cur= .ok v s'.cur) (hk:s'.k=s.k) (hh:s'.hs=s.hs) (hl:s'.bP=s.bP.set s.i (some (level s.bP (bi o)))) (hp:s'.dM=s.dM) (ha:s'.dw=s.i::s.dw)
 |e (h:gL s.T ops o=some true) (hlv:level s.bP (bi o)=s.k) (hs:∀j∈s.dw,j∈bi o) (hop:ja P call round o (cl s.T) s.cur= .ok v s'.cur) (gN:iS P s'.cur (jA (bi o) s.dM)=true)
    (hk:s'.k=s.k+1) (hh:s'.hs=s'.cur::s.hs) (hl:s'.bP=s.bP.set s.i (some (s.k+1))) (hp:s'.dM=jA (bi o) s.dM) (ha:s'.dw=[])
def qn {P:Program} {call:eC} {round:jW} {ops:Array Oper} {n:Nat} {o:Oper} {s s':gp} (h:ud P call round ops n o s=some s'):∃v,iK s.T n o.dst v=some s'.T/\s'.i=s.i+1/\J8 P call round ops o s v s':=by
 unfold ud at h;simp only [mG]at h;split at h
 .cases h
 .rename_i hw;simp only [am]at h;obtain⟨T,hT,rfl⟩:=h;exact⟨_,hT,rfl, .skip hw rfl rfl rfl rfl rfl rfl rfl⟩
 .rename_i hw;split at h
  .rename_i gz;split at h
   .rename_i v H hop;simp only [am]at h;obtain⟨T,hT,rfl⟩:=h;exact⟨v,hT,rfl, .p hw gz ⟨H,hop⟩ rfl rfl rfl rfl rfl rfl⟩
   .cases h
  .rename_i gz;split at h
   .split at h
    .rename_i H l at0 v H' hop;cases hr:wa P o (cl s.T) v (s.hs.take (s.k+1-level s.bP (bi o)))with
     |false=>rw [hr]at h;cases h
     |true=>
      rw [hr]at h;simp only [cond_true,am]at h;obtain⟨T,hT,rfl⟩:=h;exact⟨v,hT,rfl, .r hw gz hr rfl rfl rfl rfl rfl rfl⟩
    .cases h
   .cases h
  .rename_i gz;split at h
   .rename_i v H hop;simp only [am]at h;obtain⟨T,hT,rfl⟩:=h;exact⟨v,hT,rfl, .a hw (by rw [gz];rfl) hop rfl rfl rfl rfl rfl⟩
   .cases h
  .rename_i gz;cases hc:(Nat.beq (level s.bP (bi o)) s.k&&ua s.dw (bi o))with
   |false=>rw [hc]at h;cases h
   |true=>
    rw [hc]at h;simp only [ae]at hc;simp only [cond_true]at h;split at h
    .rename_i v H hop;cases hp:iS P H (jA (bi o) s.dM)with
     |false=>rw [hp]at h;cases h
     |true=>
      rw [hp]at h;simp only [cond_true,am]at h;obtain⟨T,hT,rfl⟩:=h;exact⟨v,hT,rfl, .e hw (ac hc.1) (RI hc.2) hop hp rfl rfl rfl rfl rfl⟩
    .cases h
  .rename_i gz;cases hc:(Nat.beq (level s.bP (bi o)) s.k&&ua s.dw (bi o))with
   |false=>
    rw [hc]at h;simp only [cond_false]at h;split at h
    .rename_i v H hop;simp only [am]at h;obtain⟨T,hT,rfl⟩:=h;exact⟨v,hT,rfl, .a hw (by rw [gz];rfl) hop rfl rfl rfl rfl rfl⟩
    .cases h
   |true=>
    rw [hc]at h;simp only [ae]at hc;simp only [cond_true]at h;split at h
    .rename_i v H hop;cases hp:iS P H (jA (bi o) s.dM)with
     |false=>rw [hp]at h;cases h
     |true=>
      rw [hp]at h;simp only [cond_true,am]at h;obtain⟨T,hT,rfl⟩:=h;exact⟨v,hT,rfl, .e hw (ac hc.1) (RI hc.2) hop hp rfl rfl rfl rfl rfl⟩
    .cases h
def RQ {P:Program} {call:eC} {round:jW} {ops:Array Oper} {n:Nat} {aO:au aa} {H':ai}:∀{l:List Oper} {s:gp},yj P call round ops n l s= .mk aO H'->
  ∃S:Nat->gp,S 0=s/\(∀i o,l[i]? =some o->ud P call round ops n o (S i)=some (S (i+1)))/\(S l.length).T=aO/\(S l.length).cur=H'
 |[],s,h=>by cases h;exact⟨fun _=>s,rfl,fun i o h=>by simp at h,rfl,rfl⟩
 |o::l,s,h=>by
  have e:yj P call round ops n (o::l) s=match ud P call round ops n o s with
   |some s=>yj P call round ops n l s
   |none=> .no:=rfl
  rw [e]at h;cases hs:ud P call round ops n o s with
  |none=>rw [hs]at h;cases h
  |some s1=>
   rw [hs]at h;obtain⟨S,h0,h1,h2,h3⟩:=RQ (l:=l) h;refine⟨fun i=>match i with |0=>s|i+1=>S i,rfl,fun i o' hi=> ?_,h2,h3⟩;cases i with
   |zero=>simp at hi;subst hi;simp only [h0];exact hs
   |succ i=>exact h1 i o' (by simpa using hi)
structure di (P:Program) (call:eC) (round:jW) (ops:Array Oper) (n:Nat) (S:Nat->gp) (V:Nat->aa):Prop where
 ok:rY ops.toList ops.toList 0=true
 CR:∃T H,S 0={i:=0,k:=0,T:=T,cur:=H,hs:=[H],bP:= .nil,dM:=[],dw:=[]}
 put:∀i o,ops[i]? =some o->iK (S i).T n o.dst (V i)=some (S (i+1)).T
 kind:∀i o,ops[i]? =some o->J8 P call round ops o (S i) (V i) (S (i+1))
 i:∀i,i<=ops.size->(S i).i=i
def RR {P:Program} {call:eC} {round:jW} {ops:Array Oper} {n:Nat} {T aO:au aa} {H H':ai} (h:Ar P call round ops n T H= .mk aO H'):
  ∃S V,di P call round ops n S V/\(S 0).T=T/\(S 0).cur=H/\(S ops.size).T=aO/\(S ops.size).cur=H':=by
 unfold Ar at h;cases hk:rY ops.toList ops.toList 0 with
 |false=>rw [hk]at h;cases h
 |true=>
  rw [hk]at h;obtain⟨S,h0,h1,h2,h3⟩:=RQ (l:=ops.toList) h;have step:∀i o,ops[i]? =some o->ud P call round ops n o (S i)=some (S (i+1)):=fun i o hi=>h1 i o (by simpa using hi)
  classical
  refine⟨S,fun i=>match ops[i]? with |some o=>if h:∃v,iK (S i).T n o.dst v=some (S (i+1)).T/\(S (i+1)).i=(S i).i+1/\J8 P call round ops o (S i) v (S (i+1))then h.choose else .raw undef|none=> .raw undef,⟨hk,⟨T,H,h0⟩,fun i o hi=> ?_,fun i o hi=> ?_,fun i=> ?_⟩,by rw [h0],by rw [h0],by simpa using h2,by simpa using h3⟩
  .have hx:=qn (step i o hi);simp only [hi,dif_pos hx];exact hx.choose_spec.1
  .have hx:=qn (step i o hi);simp only [hi,dif_pos hx];exact hx.choose_spec.2.2
  .induction i with
   |zero=>intro _;rw [h0]
   |succ i ih=>
    intro hi;have hlt:i<ops.size:=hi;obtain⟨v,_,e,_⟩:=qn (step i ops[i] τ);rw [e,ih (Nat.le_of_lt hlt)]
variable [Ground]
def RS {bP Fp:au Nat}:∀{ds:List Nat},(∀d∈ds,bP.get d=Fp.get d)->level bP ds=level Fp ds
 |[],_=>rfl
 |a::l,h=>by
  show Nat.max ((bP.get a).getD 0) (level bP l)=Nat.max ((Fp.get a).getD 0) (level Fp l);rw [h a kK,RS fun d hd=>h d (kJ _ hd)]
def Fq {ds:List Nat} {q:o9} (hq:¬q.i∈ds):∀{l:List o9},q∈l->q∈jA ds l
 |[],h=>by cases h
 |a::l,h=>by
  show q∈cond (kT a.i ds) (jA ds l) (a::jA ds l);cases hm:kT a.i ds with
  |true=>
   rcases en.1 h with rfl |h
   .exact absurd (lL.1 hm) hq
   .exact Fq hq h
  |false=>
   rcases en.1 h with rfl |h
   .exact kK
   .exact kJ _ (Fq hq h)
def RT {P:Program} {H:ai} {q:o9}:∀{l:List o9},iS P H l=true->q∈l->o8 P q.o (cl q.T) q.v H=true
 |[],_,h=>by cases h
 |a::l,hp,h=>by
  have e:iS P H (a::l)=cond (o8 P a.o (cl a.T) a.v H) (iS P H l) false:=rfl;rw [e]at hp;cases hr:o8 P a.o (cl a.T) a.v H with
  |false=>rw [hr]at hp;cases hp
  |true=>
   rw [hr]at hp;rcases en.1 h with rfl |h
   .exact hr
   .exact RT hp h
def AS {P:Program} {o:Oper} {ev:dP} {v:aa} {H:ai}:∀{l:List ai},wa P o ev v l=true->H∈l->o8 P o ev v H=true
 |[],_,h=>by cases h
 |a::l,hp,h=>by
  have e:wa P o ev v (a::l)=cond (o8 P o ev v a) (wa P o ev v l) false:=rfl;rw [e]at hp;cases hr:o8 P o ev v a with
  |false=>rw [hr]at hp;cases hp
  |true=>
   rw [hr]at hp;rcases en.1 h with rfl |h
   .exact hr
   .exact AS hp h
def acf {P:Program} {o:Oper} {ev:dP} {v:aa} {H:ai} (hk:nF P o.op= .r) (h:o8 P o ev v H=true):e9 o.op P o ev H= .ok v H:=by
 unfold o8 at h;split at h
 .rename_i v' H' hop;rw [hop,ab8 h,ab7 hk hop]
 .cases h
section
variable {P:Program} {call:eC} {round:jW} {ops:Array Oper} {n:Nat} {S:Nat->gp} {V:Nat->aa}
def im {i:Nat} (h:i<ops.size):∃o,ops[i]? =some o:=⟨ops[i],by simp⟩
abbrev eZ (S:Nat->gp) (m:Nat):Prop:=(S (m+1)).k=(S m).k+1
abbrev j4 (S:Nat->gp) (j:Nat):Prop:=(S (j+1)).dw=j::(S j).dw
noncomputable abbrev lvl (S:Nat->gp) (N j:Nat):Nat:=((S N).bP.get j).getD 0
noncomputable abbrev hpf (S:Nat->gp) (N e:Nat):ai:=((S N).hs.reverse[e]?).getD {m:= .nil,next:=0}
variable (R:di P call round ops n S V)
include R
def di.RU {i:Nat} (hi:i<ops.size):(S (i+1)).k=(S i).k\/(S (i+1)).k=(S i).k+1:=by
 obtain⟨o,ho⟩:=im hi;cases R.kind i o ho with
 |skip _ _ hk=>exact .inl hk
 |p _ _ _ hk=>exact .inl hk
 |r _ _ _ hk=>exact .inl hk
 |a _ _ _ hk=>exact .inl hk
 |e _ _ _ _ _ hk=>exact .inr hk
def di.rZ {i:Nat}:∀{j:Nat},i<=j->j<=ops.size->(S i).k<=(S j).k
 |0,h,_=>by have:i=0:=by omega
            subst this;exact aI _
 |j+1,h,hj=>by
  by_cases hi:i=j+1
  .subst hi;exact aI _
  .have h1:=di.rZ (i:=i) (j:=j) ω ω;have h2:=R.RU (i:=j) ω;omega
def di.Fs {i e:Nat}:∀{j:Nat},i<=j->j<=ops.size->(S i).k<e->e<=(S j).k->∃m,i<=m/\m<j/\(S m).k+1=e/\eZ S m
 |0,h,_,h1,h2=>by have:i=0:=by omega
                  subst this;omega
 |j+1,h,hj,h1,h2=>by
  by_cases hi:i=j+1
  .subst hi;omega
  .by_cases he:e<=(S j).k
   .obtain⟨m,a,b,c,d⟩:=di.Fs (j:=j) ω ω h1 he;exact⟨m,a,by omega,c,d⟩
   .have h3:=R.RU (i:=j) ω;exact⟨j,by omega,by omega,by omega,by unfold eZ;omega⟩
def di.k0:(S 0).k=0:=by obtain⟨T,H,h⟩:=R.CR;rw [h]
def di.RV (hC:bC P call) (hR:lN P round) {i:Nat} (hi:i<ops.size):(S i).cur.next<=(S (i+1)).cur.next:=by
 obtain⟨o,ho⟩:=im hi;cases R.kind i o ho with
 |skip _ _ _ hc=>exact Nat.le_of_eq (by rw [hc])
 |p _ _ _ _ hc=>exact Nat.le_of_eq (by rw [hc])
 |r _ _ _ _ hc=>exact Nat.le_of_eq (by rw [hc])
 |a _ gz hop=>
  obtain⟨_,blk,e,_⟩:=CO gz hop;rw [e];exact Nat.le_succ _
 |e _ _ _ hop=>exact Rn hC hR hop
def di.pg (hC:bC P call) (hR:lN P round) {i:Nat}:∀{j:Nat},i<=j->j<=ops.size->(S i).cur.next<=(S j).cur.next
 |0,h,_=>by have:i=0:=by omega
            subst this;exact aI _
 |j+1,h,hj=>by
  by_cases hi:i=j+1
  .subst hi;exact aI _
  .exact dh (di.pg hC hR (i:=i) (j:=j) ω ω) (R.RV hC hR ω)
def di.acg {i x:Nat} (hi:i<ops.size) (hx:x≠i):(S (i+1)).bP.get x=(S i).bP.get x:=by
 obtain⟨o,ho⟩:=im hi;have e:=R.i i (Nat.le_of_lt hi);have key:∀y,((S i).bP.set (S i).i (some y)).get x=(S i).bP.get x:=fun y=>by rw [au.gj,e,if_neg fun h=>hx h.symm]
 cases R.kind i o ho with
 |skip _ _ _ _ _ hl=>rw [hl,key]
 |p _ _ _ _ _ _ hl=>rw [hl,key]
 |r _ _ _ _ _ _ hl=>rw [hl,key]
 |a _ _ _ _ _ hl=>rw [hl,key]
 |e _ _ _ _ _ _ _ hl=>rw [hl,key]
def di.J9 {i x:Nat} (hx:x<i):∀{j:Nat},i<=j->j<=ops.size->(S j).bP.get x=(S i).bP.get x
 |0,h,_=>by omega
 |j+1,h,hj=>by
  by_cases hi:i=j+1
  .subst hi;rfl
  .rw [R.acg ω ω,di.J9 hx (j:=j) ω ω]
def di.level {i:Nat} {o:Oper} (ho:ops[i]? =some o):level (S i).bP (bi o)=level (S ops.size).bP (bi o):=by
 have hi:i<ops.size:=(dJ.1 ho).1;exact RS fun d hd=>(R.J9 ((ue R.ok ho).lt d hd) (Nat.le_of_lt hi) (aI _)).symm
def di.J' {i:Nat} {o:Oper} (ho:ops[i]? =some o):(eZ S i/\lvl S ops.size i=(S i).k+1)\/(¬eZ S i/\lvl S ops.size i=Sv.level (S ops.size).bP (bi o)):=by
 have hi:i<ops.size:=(dJ.1 ho).1;have e:=R.i i (Nat.le_of_lt hi);have h1:lvl S ops.size i=((S (i+1)).bP.get i).getD 0:=by unfold lvl;rw [R.J9 (fG i) hi (aI _)]
 have key:∀y,(S (i+1)).bP=(S i).bP.set (S i).i (some y)->lvl S ops.size i=y:=fun y h=>by rw [h1,h,au.gj,e,if_pos rfl];rfl
 have hl:=R.level ho;cases R.kind i o ho with
 |skip _ _ hk _ _ hh=>exact .inr ⟨by unfold eZ;omega,by rw [key _ hh,hl]⟩
 |p _ _ _ hk _ _ hh=>exact .inr ⟨by unfold eZ;omega,by rw [key _ hh,hl]⟩
 |r _ _ _ hk _ _ hh=>exact .inr ⟨by unfold eZ;omega,by rw [key _ hh,hl]⟩
 |a _ _ _ hk _ hh=>exact .inr ⟨by unfold eZ;omega,by rw [key _ hh,hl]⟩
 |e _ _ _ _ _ hk _ hh=>exact .inl ⟨hk,by rw [key _ hh]⟩
def di.Ft {i:Nat} (hi:i<ops.size):((S (i+1)).hs=(S i).hs/\(S (i+1)).k=(S i).k)\/((S (i+1)).hs=(S (i+1)).cur::(S i).hs/\(S (i+1)).k=(S i).k+1):=by
 obtain⟨o,ho⟩:=im hi;cases R.kind i o ho with
 |skip _ _ hk _ hh=>exact .inl ⟨hh,hk⟩
 |p _ _ _ hk _ hh=>exact .inl ⟨hh,hk⟩
 |r _ _ _ hk _ hh=>exact .inl ⟨hh,hk⟩
 |a _ _ _ hk hh=>exact .inl ⟨hh,hk⟩
 |e _ _ _ _ _ hk hh=>exact .inr ⟨hh,hk⟩
def di.Fu {i:Nat} (hi:i<=ops.size):(S i).hs.length=(S i).k+1:=by
 induction i with
 |zero=>obtain⟨T,H,h⟩:=R.CR;rw [h];rfl
 |succ i ih=>
  have ih:=ih (Nat.le_of_succ_le hi);rcases R.Ft (i:=i) hi with⟨a,b⟩|⟨a,b⟩
  .rw [a,b,ih]
  .rw [a,b,List.length_cons,ih]
def di.RW {i e:Nat} (he:e<=(S i).k):∀{j:Nat},i<=j->j<=ops.size->(S j).hs.reverse[e]? =(S i).hs.reverse[e]?
 |0,h,_=>by have:i=0:=by omega
            subst this;rfl
 |j+1,h,hj=>by
  by_cases hi:i=j+1
  .subst hi;rfl
  .have ih:=di.RW he (j:=j) ω ω;rcases R.Ft (i:=j) hj with⟨a,b⟩|⟨a,b⟩
   .rw [a,ih]
   .have hl:=R.Fu (i:=j) ω;have hm:=R.rZ (i:=i) (j:=j) ω ω;rw [a,List.reverse_cons,List.getElem?_append_left (by simp;omega),ih]
def di.Ka {i e:Nat} (hi:i<=ops.size) (he:e<=(S i).k):(S i).hs.reverse[e]? =some (hpf S ops.size e):=by
 have h1:=R.RW he hi (aI _);have hl:=R.Fu hi;have h2:∃x,(S i).hs.reverse[e]? =some x:=⟨_,rJ (by simp;omega)⟩;obtain⟨x,hx⟩:=h2;unfold hpf;rw [h1,hx];rfl
def di.Fv {i:Nat} (hi:i<ops.size) (he:eZ S i):hpf S ops.size ((S i).k+1)=(S (i+1)).cur:=by
 have h1:=R.Ka (i:=i+1) (e:=(S i).k+1) hi (by unfold eZ at he;omega);have hl:=R.Fu (i:=i) ω;unfold eZ at he;rcases R.Ft (i:=i) hi with⟨a,b⟩|⟨a,b⟩
 .omega
 .rw [a,List.reverse_cons,List.getElem?_append_right (by simp;omega)]at h1;simp [hl]at h1;exact h1.symm
def di.Kb:hpf S ops.size 0=(S 0).cur:=by
 have h1:=R.Ka (i:=0) (e:=0) (Nat.zero_le _) (Nat.zero_le _);obtain⟨T,H,h⟩:=R.CR;rw [h]at h1 ⊢;simp at h1;exact h1.symm
def di.ach {i e l:Nat} (hi:i<=ops.size) (he:e<=(S i).k) (hl:l<=e):hpf S ops.size e∈(S i).hs.take ((S i).k+1-l):=by
 have h1:=R.Ka hi he;have hn:=R.Fu hi;rw [List.getElem?_reverse ω]at h1;refine List.mem_of_getElem? (i:=(S i).hs.length-1-e) ?_;rw [List.getElem?_take_of_lt ω];exact h1
def di.Kc {i:Nat} (hi:i<=ops.size):∀j,j∈(S i).dw↔(j<i/\j4 S j/\(S j).k=(S i).k):=by
 induction i with
 |zero=>intro j;obtain⟨T,H,h⟩:=R.CR;rw [h];simp
 |succ i ih=>
  have ih:=ih (Nat.le_of_succ_le hi);obtain⟨o,ho⟩:=im (ops:=ops) (i:=i) hi;have e:=R.i i (Nat.le_of_lt hi);have same:(S (i+1)).dw=(S i).dw->(S (i+1)).k=(S i).k->∀j,j∈(S (i+1)).dw↔(j<i+1/\j4 S j/\(S j).k=(S (i+1)).k):=fun ha hk j=>by
   rw [ha,hk,ih];constructor
   .rintro⟨a,b,c⟩;exact⟨by omega,b,c⟩
   .rintro⟨a,b,c⟩;refine⟨?_,b,c⟩;by_cases hj:j=i
    .subst hj;unfold j4 at b;rw [ha]at b;have:=congrArg List.length b;simp at this
    .omega
  cases R.kind i o ho with
  |skip _ _ hk _ _ _ _ ha=>exact same ha hk
  |p _ _ _ hk _ _ _ _ ha=>exact same ha hk
  |r _ _ _ hk _ _ _ _ ha=>exact same ha hk
  |a _ _ _ hk _ _ _ ha=>
   intro j;rw [ha,hk,e,en,ih];constructor
   .rintro(rfl |⟨a,b,c⟩)
    .exact⟨fG _,by unfold j4;rw [ha,e],rfl⟩
    .exact⟨by omega,b,c⟩
   .rintro⟨a,b,c⟩;by_cases hj:j=i
    .exact .inl hj
    .exact .inr ⟨by omega,b,c⟩
  |e _ _ _ _ _ hk _ _ _ ha=>
   intro j;rw [ha,hk];constructor
   .intro h;cases h
   .rintro⟨a,b,c⟩;have:=R.rZ (i:=j) (j:=i) ω ω;omega
noncomputable abbrev wh (S:Nat->gp) (j:Nat):Option bl:=(S (j+1)).cur.get (S j).cur.next
def di.RX {i:Nat} {o:Oper} (ho:ops[i]? =some o) (ha:j4 S i):gL (S i).T ops o=some true/\(nF P o.op).al=true/\e9 o.op P o (cl (S i).T) (S i).cur= .ok (V i) (S (i+1)).cur/\(S (i+1)).k=(S i).k:=by
 have hi:i<ops.size:=(dJ.1 ho).1;have no:(S (i+1)).dw=(S i).dw->False:=fun h=>by
  unfold j4 at ha;rw [h]at ha;have:=congrArg List.length ha;simp at this
 cases R.kind i o ho with
 |skip _ _ _ _ _ _ _ h=>exact(no h).elim
 |p _ _ _ _ _ _ _ _ h=>exact(no h).elim
 |r _ _ _ _ _ _ _ _ h=>exact(no h).elim
 |a h1 h2 h3 h4=>exact⟨h1,h2,h3,h4⟩
 |e _ _ _ _ _ _ _ _ _ h=>unfold j4 at ha;rw [h]at ha;cases ha
def di.RY {i:Nat} (hi:i<=ops.size):(∀x b,(S i).cur.get x=some b->(hpf S ops.size (S i).k).get x=some b\/∃j∈(S i).dw,x=(S j).cur.next/\wh S j=some b)/\
  (∀x,(hpf S ops.size (S i).k).get x≠none->(S i).cur.get x≠none)/\(∀j∈(S i).dw,(S i).cur.get (S j).cur.next≠none):=by
 induction i with
 |zero=>
  rw [R.k0,R.Kb];refine⟨fun x b h=> .inl h,fun x h=>h,fun j hj=> ?_⟩;obtain⟨T,H,h⟩:=R.CR;rw [h]at hj;cases hj
 |succ i ih=>
  have ih:=ih (Nat.le_of_succ_le hi);obtain⟨o,ho⟩:=im (ops:=ops) (i:=i) hi;have e:=R.i i (Nat.le_of_lt hi);cases R.kind i o ho with
  |skip _ _ hk hc _ _ _ ha=>rw [hk,hc,ha];exact ih
  |p _ _ _ hk hc _ _ _ ha=>rw [hk,hc,ha];exact ih
  |r _ _ _ hk hc _ _ _ ha=>rw [hk,hc,ha];exact ih
  |a _ gz hop hk _ _ _ ha=>
   obtain⟨_,blk,nB,_⟩:=CO gz hop;rw [hk,ha,e];refine⟨fun x b h=> ?_,fun x h=> ?_,fun j hj=> ?_⟩
   .rw [nB,ai.gD]at h;split at h
    .rename_i hx;refine .inr ⟨i,kK,hx.symm, ?_⟩;unfold wh;rw [nB,ai.gD,if_pos rfl,h]
    .rcases ih.1 x b h with h|⟨j,h1,h2⟩
     .exact .inl h
     .exact .inr ⟨j,kJ _ h1,h2⟩
   .rw [nB,ai.gD];split
    .simp
    .exact ih.2.1 x h
   .rw [nB,ai.gD];split
    .simp
    .rename_i hne;rcases en.1 hj with rfl |hj
     .exact absurd rfl hne
     .exact ih.2.2 j hj
  |e _ _ _ _ _ hk _ _ _ ha=>
   rw [hk,R.Fv hi hk,ha];exact⟨fun x b h=> .inl h,fun x h=>h,fun j hj=>by cases hj⟩
def di.RZ {i:Nat} {o:Oper} (ho:ops[i]? =some o) (hp:(S (i+1)).dM=⟨(S i).i,o,(S i).T,V i⟩::(S i).dM):∀{j:Nat},i<j->j<=ops.size->
  (∀m ff,i<m->m<j->eZ S m->ops[m]? =some ff->¬i∈bi ff)->(⟨(S i).i,o,(S i).T,V i⟩:o9)∈(S j).dM
 |0,h,_,_=>by omega
 |j+1,h,hj,hm=>by
  by_cases hi:i=j
  .subst hi;rw [hp];exact kK
  .have ih:=di.RZ ho hp (j:=j) ω ω fun m ff h1 h2=>hm m ff h1 ω
   obtain⟨oj,Av⟩:=im (ops:=ops) (i:=j) hj;have jB:=R.i i ω;cases R.kind j oj Av with
   |skip _ _ _ _ _ _ hq=>rw [hq];exact ih
   |p _ _ _ _ _ _ _ hq=>rw [hq];exact ih
   |r _ _ _ _ _ _ _ hq=>rw [hq];exact kJ _ ih
   |a _ _ _ _ _ _ hq=>rw [hq];exact ih
   |e _ _ _ _ _ hk _ _ hq=>rw [hq];exact Fq (by rw [jB];exact hm j oj ω (fG _) hk Av) ih
def di.read {i e:Nat} {o:Oper} (ho:ops[i]? =some o) (gz:nF P o.op= .r) (hr:wa P o (cl (S i).T) (V i) ((S i).hs.take ((S i).k+1-Sv.level (S i).bP (bi o)))=true)
  (hp:(S (i+1)).dM=⟨(S i).i,o,(S i).T,V i⟩::(S i).dM) (hl:Sv.level (S ops.size).bP (bi o)<=e) (he:e<=(S ops.size).k) (hm:∀m ff,m<ops.size->eZ S m->(S m).k<e->ops[m]? =some ff->¬i∈bi ff):
  e9 o.op P o (cl (S i).T) (hpf S ops.size e)= .ok (V i) (hpf S ops.size e):=by
 have hi:i<ops.size:=(dJ.1 ho).1;refine acf gz ?_;by_cases hk:e<=(S i).k
 .exact AS hr (R.ach (Nat.le_of_lt hi) hk (by rw [R.level ho];exact hl))
 .obtain⟨m,h1,h2,h3,h4⟩:=R.Fs (i:=i) (j:=ops.size) (Nat.le_of_lt hi) (aI _) ω he;obtain⟨ff,uf⟩:=im h2;have him:i≠m:=fun hh=>by
   subst hh;rw [ho]at uf;cases uf;have hc:=R.kind i o ho;have:=R.Ft h2;cases hc with
   |skip _ _ hk=>unfold eZ at h4;omega
   |p _ _ _ hk=>unfold eZ at h4;omega
   |r _ _ _ hk=>unfold eZ at h4;omega
   |a _ _ _ hk=>unfold eZ at h4;omega
   |e _ _ _ _ _ _ _ _ hq=>
    have h1:=congrArg List.length (hp.symm.trans hq);have h2:∀(ds:List Nat) (l:List o9),(jA ds l).length<=l.length:=fun ds l=>by
     induction l with
     |nil=>exact aI _
     |cons a l ih=>
      show(cond (kT a.i ds) (jA ds l) (a::jA ds l)).length<=_;cases kT a.i ds<;>simp<;>omega
    have:=h2 (bi o) (S i).dM;simp at h1;omega
  have hq:=R.RZ ho hp (j:=m) ω (Nat.le_of_lt h2) fun m' aci a b c d=>hm m' aci ω c (by
   have:=R.rZ (i:=m') (j:=m) ω ω;omega) d
  have jB:=R.i i (Nat.le_of_lt hi);cases R.kind m ff uf with
  |skip _ _ hk=>unfold eZ at h4;omega
  |p _ _ _ hk=>unfold eZ at h4;omega
  |r _ _ _ hk=>unfold eZ at h4;omega
  |a _ _ _ hk=>unfold eZ at h4;omega
  |e _ _ _ _ gN=>
   have:=RT gN (Fq (by rw [jB];exact hm m ff h2 h4 ω uf) hq);rw [<-R.Fv h2 h4,h3]at this;exact this
def di.R1 {t:Nat} (h:∀(j:Nat) (p:Oper),ops[j]? =some p->p.dst≠some t) {i:Nat} (hi:i<=ops.size):(S i).T.get t=(S 0).T.get t:=by
 induction i with
 |zero=>rfl
 |succ i ih=>
  obtain⟨o,ho⟩:=im (ops:=ops) (i:=i) hi;rw [CQ (R.put i o ho),if_neg (h i o ho),ih (Nat.le_of_succ_le hi)]
def di.acj {t k:Nat} {p:Oper} (hk:ops[k]? =some p) (hp:p.dst=some t) {i:Nat} (hi:i<=k):(S i).T.get t=(S 0).T.get t:=by
 have qv:k<ops.size:=(dJ.1 hk).1;induction i with
 |zero=>rfl
 |succ i ih=>
  obtain⟨o,ho⟩:=im (ops:=ops) (i:=i) ω;rw [CQ (R.put i o ho),if_neg (fun hh=>by
   have:=(ue R.ok hk).dst t hp i o ho hh;omega),ih (Nat.le_of_succ_le hi)]
def di.Fw {t k:Nat} {p:Oper} (hk:ops[k]? =some p) (hp:p.dst=some t):∀{i:Nat},k<i->i<=ops.size->(S i).T.get t=some (V k)
 |0,h,_=>by omega
 |i+1,h,hi=>by
  obtain⟨o,ho⟩:=im (ops:=ops) (i:=i) ω;rw [CQ (R.put i o ho)];by_cases hik:i=k
  .subst hik;rw [hk]at ho;cases ho;rw [if_pos hp]
  .rw [if_neg (fun hh=>hik ((ue R.ok hk).dst t hp i o ho hh)),di.Fw hk hp (i:=i) ω ω]
end
end
section
open Go.RowKit
variable [Ground]
structure r0 (P:Program) (B:Nat) (eU:Env) (H0:ai) (w0:World) (top:Nat) (ρ:Env) (g:Nat->Option bl) (w:World):Prop where
 blk:∀i k,g i=some k->∃b c o,ρ i=some (b,c)/\w.heap[b]? =some o/\gM P ρ i k o/\(k.eT=false->B<=b)
 inj:∀i j eL eY b ci ck,g i=some eL->g j=some eY->ρ i=some (b,ci)->ρ j=some (b,ck)->i=j
 base:B<=w.heap.size
 le:cB eU ρ
 ext:∀i,i<H0.next\/top<=i->ρ i=eU i
 size:w0.heap.size<=w.heap.size
 os:w.os=w0.os
 tape:w.tape=w0.tape
 output:w.output=w0.output
 frame:∀b,b<w0.heap.size->¬Own eU H0 b->w.heap[b]? =w0.heap[b]?
 own:∀b,b<w0.heap.size->∀i k c,g i=some k->k.eT=false->ρ i=some (b,c)->Own eU H0 b
 mo:∀b,b<w0.heap.size->∀i k c,g i=some k->ρ i=some (b,c)->oZ eU H0 b
 fz:∀b A,ρ.fz b=some A->(∃e fr,w.heap[b]? =some (.cells A e fr))/\∀i k c,g i=some k->ρ i=some (b,c)->k.eT=true
 nv:∀b A,ρ.fz b=some A->eU.fz b=some A\/w0.heap.size<=b\/Own eU H0 b
noncomputable def mH (g:Nat->Option bl) (X X':ai):Nat->Option bl:=fun x=>match X'.get x with
 |some k=>some k
 |none=>match X.get x with
  |some _=>none
  |none=>g x
section
variable {g:Nat->Option bl} {X X':ai} {x:Nat}
def Fx {k:bl} (h:X'.get x=some k):mH g X X' x=some k:=by unfold mH;rw [h]
def Ke (h:X'.get x=none) (h2:X.get x=none):mH g X X' x=g x:=by unfold mH;rw [h,h2]
def wj {k:bl} (h:mH g X X' x=some k):X'.get x=some k\/(X'.get x=none/\X.get x=none/\g x=some k):=by
 unfold mH at h;split at h
 .rename_i h1;cases h;exact .inl h1
 .rename_i h1;split at h
  .cases h
  .rename_i h2;exact .inr ⟨h1,h2,h⟩
end
def ack {g:Nat->Option bl} {X:ai} (h:∀x k,X.get x=some k->g x=some k):mH g X X=g:=by
 funext x;cases hx:X.get x with
 |none=>exact Ke hx hx
 |some k=>rw [Fx hx,h x k hx]
section
variable {P:Program} {B:Nat} {eU:Env} {H0:ai} {w0:World} {top:Nat} {ρ:Env} {g:Nat->Option bl} {w:World}
def r0.at (h:r0 P B eU H0 w0 top ρ g w) {i b c:Nat} {k:bl} (hi:g i=some k) (hr:ρ i=some (b,c)):∃o,w.heap[b]? =some o/\gM P ρ i k o/\(k.eT=false->B<=b):=by
 obtain⟨b',c',o,e1,e2,e3,bV⟩:=h.blk i k hi;rw [hr]at e1;cases e1;exact⟨o,e2,e3,bV⟩
def r0.lI (h:r0 P B eU H0 w0 top ρ g w) {X:ai} (hX:∀x k,X.get x=some k->g x=some k) (hl:∀x k,X.get x=some k->x<X.next):aZ P B ρ X w:=
 ⟨fun i k hi=>h.blk i k (hX i k hi),fun i j eL eY b ci ck hi hj=>h.inj i j eL eY b ci ck (hX i eL hi) (hX j eY hj),hl,h.base,fun b A hb=>⟨(h.fz b A hb).1,fun i k c hi hr=>(h.fz b A hb).2 i k c (hX i k hi) hr⟩⟩
def r0.step (h:r0 P B eU H0 w0 top ρ g w) {X X':ai} {ρ':Env} {w':World} (hX:∀x k,X.get x=some k->g x=some k) (hH:aZ P B ρ' X' w') (hs:bQ ρ X w ρ' X' w')
  (hx:∀x,x<H0.next\/top<=x->ρ' x=ρ x):r0 P B eU H0 w0 top ρ' (mH g X X') w':=by
 have keep:∀x k,g x=some k->X.get x=none->∃b c o,ρ x=some (b,c)/\ρ' x=some (b,c)/\w.heap[b]? =some o/\w'.heap[b]? =some o/\gM P ρ x k o/\(k.eT=false->B<=b)/\b<w.heap.size:=fun x k CS n5=>by
  obtain⟨b,c,o,e1,e2,e3,bV⟩:=h.blk x k CS;have hb:b<w.heap.size:=(dJ.1 e2).1;refine⟨b,c,o,e1,hs.le _ _ e1,e2, ?_,e3,bV,hb⟩;rw [hs.frame b hb fun⟨i,k',c',h1,_,h3⟩=> ?_,e2];have:=h.inj i x k' k b c' c (hX i k' h1) CS h3 e1;subst this;rw [n5]at h1;cases h1
 have CT:∀x k b c,g x=some k->ρ' x=some (b,c)->ρ x=some (b,c):=fun x k b c CS hr=>by
  obtain⟨b',c',o,e1,_⟩:=h.blk x k CS;rw [hs.le _ _ e1]at hr;cases hr;exact e1
 refine⟨fun i k hi=> ?_,fun i j eL eY b ci ck hi hj jw fI=> ?_,hH.base,h.le.trans hs.le,fun i hi=>by rw [hx i hi,h.ext i hi],dh h.size hs.size,hs.os.trans h.os,hs.tape.trans h.tape,hs.output.trans h.output,fun b hb ho=> ?_,fun b hb i k c hi hk hr=> ?_,fun b hb i k c hi hr=> ?_,fun b A hb=>⟨(hH.fz b A hb).1,fun i k c hi hr=> ?_⟩,fun b A hb=> ?_⟩
 .rcases wj hi with hi|⟨_,h2,h3⟩
  .exact hH.blk i k hi
  .obtain⟨b,c,o,_,e1,_,e2,e3,bV,_⟩:=keep i k h3 h2;exact⟨b,c,o,e1,e2,e3.mono hs.le,bV⟩
 .have mixed:∀i j eL eY ci ck,X'.get i=some eL->X.get j=none->g j=some eY->ρ' i=some (b,ci)->ρ' j=some (b,ck)->False:=fun i j eL eY ci ck h1 h2 h3 r1 r2=>by
   obtain⟨b',c',o,e0,e1,e2,_,_,_,hb⟩:=keep j eY h3 h2;rw [e1]at r2;cases r2;obtain⟨x,kx,qC,q1,aQ⟩:=hs.mo b hb ⟨i,eL,ci,h1,r1⟩;have:=h.inj x j kx eY b qC ck (hX x kx q1) h3 aQ e0;subst this;rw [h2]at q1;cases q1
  rcases wj hi with hi|⟨_,h2,h3⟩<;>rcases wj hj with hj|⟨_,k2,dN⟩
  .exact hH.inj i j eL eY b ci ck hi hj jw fI
  .exact(mixed i j eL eY ci ck hi k2 dN jw fI).elim
  .exact(mixed j i eY eL ck ci hj h2 h3 fI jw).elim
  .exact h.inj i j eL eY b ci ck h3 dN (CT _ _ _ _ h3 jw) (CT _ _ _ _ dN fI)
 .rw [hs.frame b (Nat.lt_of_lt_of_le hb h.size) fun⟨i,k',c',h1,h2,h3⟩=>ho (h.own b hb i k' c' (hX i k' h1) h2 h3),h.frame b hb ho]
 .rcases wj hi with hi|⟨_,h2,h3⟩
  .obtain⟨x,kx,qC,q1,aQ,b7⟩:=hs.own b (Nat.lt_of_lt_of_le hb h.size) ⟨i,k,c,hi,hk,hr⟩;exact h.own b hb x kx qC (hX x kx q1) aQ b7
  .exact h.own b hb i k c h3 hk (CT _ _ _ _ h3 hr)
 .rcases wj hi with hi|⟨_,h2,h3⟩
  .obtain⟨x,kx,qC,q1,aQ⟩:=hs.mo b (Nat.lt_of_lt_of_le hb h.size) ⟨i,k,c,hi,hr⟩;exact h.mo b hb x kx qC (hX x kx q1) aQ
  .exact h.mo b hb i k c h3 (CT _ _ _ _ h3 hr)
 .rcases wj hi with hi|⟨_,h2,h3⟩
  .exact(hH.fz b A hb).2 i k c hi hr
  .have hr':=CT _ _ _ _ h3 hr;rcases hs.nv b A hb with hb'|hb'
   .exact(h.fz b A hb').2 i k c h3 hr'
   .rcases hb' with hb'|⟨x,kx,qC,q1,_,b7⟩
    .obtain⟨b1,c1,o,e1,e2,_⟩:=h.blk i k h3;rw [hr']at e1;cases e1;have:=(dJ.1 e2).1;omega
    .have:=h.inj x i kx k b qC c (hX x kx q1) h3 b7 hr';subst this;rw [h2]at q1;cases q1
 .rcases hs.nv b A hb with hb'|hb'
  .exact h.nv b A hb'
  .rcases hb' with hb'|⟨x,kx,qC,q1,aQ,b7⟩
   .exact .inr (.inl (dh h.size hb'))
   .by_cases hl:b<w0.heap.size
    .exact .inr (.inr (h.own b hl x kx qC (hX x kx q1) aQ b7))
    .exact .inr (.inl ω)
def r0.final (h:r0 P B eU H0 w0 top ρ g w) {X:ai} (hX:∀x k,X.get x=some k->g x=some k) (ht:X.next=top) (hn:H0.next<=top):bQ eU H0 w0 ρ X w:=
 ⟨h.le,fun i hi=>h.ext i (by rw [ht]at hi;exact hi),by rw [ht];exact hn,h.size,h.os,h.tape,h.output,h.frame,fun b hb ⟨i,k,c,h1,h2,h3⟩=>h.own b hb i k c (hX i k h1) h2 h3,fun b hb ⟨i,k,c,h1,h3⟩=>h.mo b hb i k c (hX i k h1) h3,h.nv⟩
end
section
variable {P:Program} {call:eC} {round:jW} {ops:Array Oper} {n:Nat} {S:Nat->gp} {V:Nat->aa}
def di.R2 (R:di P call round ops n S V) {i:Nat} (hi:i<=ops.size):(hpf S ops.size (S i).k).next<=(S i).cur.next:=by
 induction i with
 |zero=>rw [R.k0,R.Kb];exact aI _
 |succ i ih=>
  have ih:=ih (Nat.le_of_succ_le hi);obtain⟨o,ho⟩:=im (ops:=ops) (i:=i) hi;cases R.kind i o ho with
  |skip _ _ hk hc=>rw [hk,hc];exact ih
  |p _ _ _ hk hc=>rw [hk,hc];exact ih
  |r _ _ _ hk hc=>rw [hk,hc];exact ih
  |a _ gz hop hk=>
   obtain⟨_,blk,nB,_⟩:=CO gz hop;rw [hk,nB];exact Nat.le_succ_of_le ih
  |e _ _ _ _ _ hk=>rw [hk,R.Fv hi hk];exact aI _
def di.Fy (R:di P call round ops n S V) {i:Nat} (hi:i<ops.size) (ha:j4 S i):(S (i+1)).cur.next=(S i).cur.next+1/\∃b,wh S i=some b:=by
 obtain⟨o,ho⟩:=im hi;obtain⟨_,gz,hop,_⟩:=R.RX ho ha;obtain⟨_,blk,nB,_⟩:=CO gz hop;refine⟨by rw [nB];rfl,blk, ?_⟩;unfold wh;rw [nB,ai.gD,if_pos rfl]
structure jC (P:Program) (B:Nat) (eU:Env) (w0:World) (a0:Act) (ops:Array Oper) (n:Nat) (S:Nat->gp) (V:Nat->aa) (L:Nat->Prop) (e:Nat) (ρ:Env) (g:Nat->Option bl) (T:au aa) (a:Act) (w:World):Prop where
 closed:∀(j:Nat) (o:Oper),L j->ops[j]? =some o->∀d∈bi o,L d
 r4:∀m,m<ops.size->eZ S m->(L m↔(S m).k<e)
 bP:∀j,j<ops.size->L j->lvl S ops.size j<=e
 le:e<=(S ops.size).k
 Aw:jY ρ T n a.tmps
 Ay:∀(j:Nat) (p:Oper) (t:Tmp),ops[j]? =some p->p.dst=some t->(L j->T.get t=some (V j))/\(¬L j->T.get t=(S 0).T.get t)
 Kf:∀t:Tmp,(∀(j:Nat) (p:Oper),ops[j]? =some p->p.dst≠some t)->T.get t=(S 0).T.get t
 G:n8 ρ
 qI:r0 P B eU (S 0).cur w0 (S ops.size).cur.next ρ g w
 hp:∀x k,(hpf S ops.size e).get x=some k->g x=some k
 lt:∀x k,(hpf S ops.size e).get x=some k->x<(hpf S ops.size e).next
 dM:∀j,j<ops.size->L j->j4 S j->e<=(S j).k->g (S j).cur.next=wh S j
 conv:∀x k,g x=some k->(hpf S ops.size e).get x=some k\/∃j,j<ops.size/\L j/\j4 S j/\e<=(S j).k/\x=(S j).cur.next
 fresh:∀j,j<ops.size->¬L j->Fr ρ (S j).cur.next (S (j+1)).cur.next
 R3:a.defers=a0.defers
variable {B:Nat} {eU:Env} {w0:World} {a0:Act} {L:Nat->Prop} {e:Nat} {ρ:Env} {g:Nat->Option bl} {T:au aa} {a:Act} {w:World} {i:Nat} {o:Oper}
def jC.slots (R:di P call round ops n S V) (I:jC P B eU w0 a0 ops n S V L e ρ g T a w) (ho:ops[i]? =some o) (hL:¬L i) (hd:∀d∈bi o,L d) {t:Tmp} (ht:Operand.tmp t∈o.op.operands.toList):T.get t=(S i).T.get t:=by
 have hi:i<ops.size:=(dJ.1 ho).1;have F:=ue R.ok ho;rcases F.slot t ht with h|⟨k,p,h1,h2,h3|h3⟩
 .rw [I.Kf t h,R.R1 h (Nat.le_of_lt hi)]
 .rw [(I.Ay k p t h1 h2).1 (hd k h3),R.Fw h1 h2 (F.lt k h3) (Nat.le_of_lt hi)]
 .have hk:¬L k:=fun hk=>hL (I.closed k p hk h1 i h3)
  rw [(I.Ay k p t h1 h2).2 hk,R.acj h1 h2 (Nat.le_of_lt ((ue R.ok h1).lt i h3))]
def jC.ev (R:di P call round ops n S V) (I:jC P B eU w0 a0 ops n S V L e ρ g T a w) (ho:ops[i]? =some o) (hL:¬L i) (hd:∀d∈bi o,L d):∀x∈o.op.operands.toList,cl T x=cl (S i).T x:=fun x hx=>by
 cases x with
 |tmp t=>
  show @Option.rec aa (fun _=>aa) (.raw undef) (fun v=>v) (T.get t)= @Option.rec aa (fun _=>aa) (.raw undef) (fun v=>v) ((S i).T.get t)
  rw [I.slots R ho hL hd hx]
 |_=>rfl
def jC.wants (R:di P call round ops n S V) (I:jC P B eU w0 a0 ops n S V L e ρ g T a w) (ho:ops[i]? =some o) (hd:∀d∈bi o,L d):gL T ops o=gL (S i).T ops o:=by
 have hi:i<ops.size:=(dJ.1 ho).1;have F:=ue R.ok ho;cases hg:o.guard with
 |none=>unfold gL;rw [hg]
 |some q=>
  have e:∀T,gL T ops o=xO T ops q:=fun T=>by unfold gL;rw [hg]
  rw [e,e];unfold xO;cases hp:ops[q.1]? with
  |none=>rfl
  |some p=>
   cases gN:p.dst with
   |none=>simp [gN]
   |some d=>
    simp only [Option.bind_some,gN];have hq:=F.guard q hg;rw [(I.Ay q.1 p d hp gN).1 (hd _ hq),R.Fw hp gN (F.lt _ hq) (Nat.le_of_lt hi)]
def jC.level (R:di P call round ops n S V) (I:jC P B eU w0 a0 ops n S V L e ρ g T a w) (ho:ops[i]? =some o) (hd:∀d∈bi o,L d):Sv.level (S ops.size).bP (bi o)<=e:=
 RL fun d hdd=>I.bP d (Nat.lt_trans ((ue R.ok ho).lt d hdd) (dJ.1 ho).1) (hd d hdd)
def jC.after (R:di P call round ops n S V) (hC:bC P call) (hR:lN P round) (I:jC P B eU w0 a0 ops n S V L e ρ g T a w) (ho:ops[i]? =some o) (hL:¬L i) (hd:∀d∈bi o,L d)
  {X X':ai} {ρ':Env} {w':World} {x:Value} {T1:au aa} {e':Nat} (hT:iK T n o.dst (V i)=some T1) (hx:Den ρ' (V i) x) (hX:∀x k,X.get x=some k->g x=some k) (hH:aZ P B ρ' X' w') (hs:bQ ρ X w ρ' X' w')
  (hρ:∀x,x<(S i).cur.next\/(S (i+1)).cur.next<=x->ρ' x=ρ x)
  (he:e<=e') (acm:∀m,m<ops.size->eZ S m->((m=i\/L m)↔(S m).k<e')) (acn:lvl S ops.size i<=e') (hle:e'<=(S ops.size).k)
  (aco:∀x k,(hpf S ops.size e').get x=some k->mH g X X' x=some k) (hlt:∀x k,(hpf S ops.size e').get x=some k->x<(hpf S ops.size e').next)
  (acp:∀j,j<ops.size->(j=i\/L j)->j4 S j->e'<=(S j).k->mH g X X' (S j).cur.next=wh S j)
  (acq:∀x k,mH g X X' x=some k->(hpf S ops.size e').get x=some k\/∃j,j<ops.size/\(j=i\/L j)/\j4 S j/\e'<=(S j).k/\x=(S j).cur.next):
  jC P B eU w0 a0 ops n S V (fun j=>j=i\/L j) e' ρ' (mH g X X') T1 (a.put o.dst x) w':=by
 have hi:i<ops.size:=(dJ.1 ho).1;refine⟨fun j p hj hp d hdd=> ?_,acm,fun j hj h=> ?_,hle,Do (I.Aw.mono hs.le) hT hx,fun j p t hj hp=> ?_,fun t ht=> ?_,I.G.mono hs.le,I.qI.step hX hH hs fun x hx=>hρ x ?_,aco,hlt,acp,acq,fun j hj hn x h1 h2=> ?_,by rw [put_defers,I.R3]⟩
 .rcases hj with rfl |hj
  .rw [ho]at hp;cases hp;exact .inr (hd d hdd)
  .exact .inr (I.closed j p hj hp d hdd)
 .rcases h with rfl |h
  .exact acn
  .exact dh (I.bP j hj h) he
 .rw [CQ hT];by_cases hji:j=i
  .subst hji;rw [ho]at hj;cases hj;rw [if_pos hp];exact⟨fun _=>rfl,fun h=>(h (.inl rfl)).elim⟩
  .rw [if_neg fun hh=>hji ((ue R.ok ho).dst t hh j p hj hp)];exact⟨fun h=>(I.Ay j p t hj hp).1 (h.resolve_left hji),fun h=>(I.Ay j p t hj hp).2 fun hh=>h (.inr hh)⟩
 .rw [CQ hT,if_neg (ht i o ho),I.Kf t ht]
 .rcases hx with hx|hx
  .exact .inl (Nat.lt_of_lt_of_le hx (R.pg hC hR (Nat.zero_le _) (Nat.le_of_lt hi)))
  .exact .inr (dh (R.pg hC hR hi (aI _)) hx)
 .have hj2:¬j=i/\¬L j:=⟨fun h=>hn (.inl h),fun h=>hn (.inr h)⟩;rw [hρ x ?_]
  .exact I.fresh j hj hj2.2 x h1 h2
  .rcases Nat.lt_or_gt_of_ne hj2.1 with hl|hl
   .exact .inl (Nat.lt_of_lt_of_le h2 (R.pg hC hR hl (Nat.le_of_lt hi)))
   .exact .inr (dh (R.pg hC hR hl (Nat.le_of_lt hj)) h1)
end
end
section
open Go.RowKit
variable [Ground]
section
variable {P:Program} {call:eC} {round:jW} {ops:Array Oper} {n:Nat} {S:Nat->gp} {V:Nat->aa}
variable {B:Nat} {eU:Env} {w0:World} {a0:Act} {L:Nat->Prop} {e:Nat} {ρ:Env} {g:Nat->Option bl} {T:au aa} {a:Act} {w:World} {i:Nat} {o:Oper}
def R4 (h:eZ S i) (R:di P call round ops n S V) (hi:i<ops.size):¬j4 S i:=fun ha=>by
 obtain⟨o,ho⟩:=im hi;obtain⟨_,_,_,hk⟩:=R.RX ho ha;unfold eZ at h;omega
def jC.quiet (R:di P call round ops n S V) (hC:bC P call) (hR:lN P round) (I:jC P B eU w0 a0 ops n S V L e ρ g T a w) (ho:ops[i]? =some o) (hL:¬L i) (hd:∀d∈bi o,L d)
  (hE:¬eZ S i) (hA:¬j4 S i) {X:ai} {ρ':Env} {w':World} {x:Value} {T1:au aa} (hT:iK T n o.dst (V i)=some T1) (hx:Den ρ' (V i) x) (hX:∀x k,X.get x=some k->g x=some k) (hH:aZ P B ρ' X w') (hs:bQ ρ X w ρ' X w'):
  jC P B eU w0 a0 ops n S V (fun j=>j=i\/L j) e ρ' g T1 (a.put o.dst x) w':=by
 have hlv:lvl S ops.size i<=e:=by
  rcases R.J' ho with⟨h,_⟩|⟨_,h⟩
  .exact absurd h hE
  .rw [h];exact I.level R ho hd
 have hu:=ack hX;have:=I.after R hC hR ho hL hd (X:=X) (X':=X) (e':=e) hT hx hX hH hs (fun x _=>hs.ext x ω) (aI _)
  (fun m hm hem=>⟨fun h=>(I.r4 m hm hem).1 (h.resolve_left fun hh=>hE (hh ▸ hem)),fun h=> .inr ((I.r4 m hm hem).2 h)⟩) hlv I.le (by rw [hu];exact I.hp) I.lt
  (by rw [hu];exact fun j hj hjl ha=>I.dM j hj (hjl.resolve_left fun hh=>hA (hh ▸ ha)) ha)
  (by rw [hu];exact fun x k hk=>(I.conv x k hk).imp id fun⟨j,h1,h2,h3⟩=>⟨j,h1, .inr h2,h3⟩)
 rwa [hu]at this
def jC.step (hK:fe P) (R:di P call round ops n S V) (hC:bC P call) (hR:lN P round) (I:jC P B eU w0 a0 ops n S V L e ρ g T a w) (ho:ops[i]? =some o) (hL:¬L i) (hd:∀d∈bi o,L d) (rd:Option Nat) (m:Nat) {K:Act->World->Prop} {Q:Exit->Act->World->Prop}
  (hK':∀e' ρ' g' aO a' w',jC P B eU w0 a0 ops n S V (fun j=>j=i\/L j) e' ρ' g' aO a' w'->K a' w'):wpOpIn (dW rd) m P ops Q i K a w:=by
 have hi:i<ops.size:=(dJ.1 ho).1;have jB:=R.i i (Nat.le_of_lt hi);have R5:=I.ev R ho hL hd;have Kg:=I.wants R ho hd;obtain⟨T1,hT⟩:=acd (R.put i o ho) T;have Kh:(S (i+1)).dw=(S i).dw->¬j4 S i:=fun h ha=>by
  unfold j4 at ha;rw [h]at ha;have:=congrArg List.length ha;simp at this
 have CU:(S (i+1)).k=(S i).k->¬eZ S i:=fun h he=>by unfold eZ at he;omega
 let Z:ai:={m:= .nil,next:=(S i).cur.next}
 have hZ:∀x,Z.get x=none:=fun x=>au.get_nil x
 have Fz:∀x k,Z.get x=some k->g x=some k:=fun x k h=>by rw [hZ]at h;cases h
 have Ki:aZ P B ρ Z w:=I.qI.lI Fz fun x k h=>by rw [hZ]at h;cases h
 have run:∀(X X':ai),gL (S i).T ops o=some true->aZ P B ρ X w->ja P call round o (cl T) X= .ok (V i) X'->Fr ρ X.next X'.next->
   (∀x ρ' w',Den ρ' (V i) x->aZ P B ρ' X' w'->bQ ρ X w ρ' X' w'->K (a.put o.dst x) w')->wpOpIn (dW rd) m P ops Q i K a w:=fun X X' hw hX hop hf hn=>by
  unfold wpOpIn;rw [ho];simp only;rw [JP I.Aw (Kg.trans hw),if_pos rfl];exact Ro hK hC hR ⟨I.Aw,hX,I.G⟩ hop hf rd m hn
 have Kj:∀{X:ai} {v:aa} {X':ai},e9 o.op P o (cl (S i).T) X= .ok v X'->ja P call round o (cl T) X= .ok v X':=fun {X v X'} h=>by
  unfold ja;rw [RD R5,h]
 cases R.kind i o ho with
 |skip hw hv hk hc hh hl hp ha=>
  unfold wpOpIn;rw [ho];simp only;rw [JP I.Aw (Kg.trans hw)];simp only [Bool.false_eq_true,if_false];refine⟨fun _ _=>trivial,hK' e ρ g T1 _ w ?_⟩;exact I.quiet R hC hR ho hL hd (CU hk) (Kh ha) hT (by rw [hv];exact .raw _) Fz Ki (bQ.refl _ _ _)
 |p hw gz hop hk hc hh hl hp ha=>
  obtain⟨H1,hop⟩:=hop;refine run Z Z hw Ki (Kj (ab6 gz hop Z)) (fun x h1 h2=>absurd h2 ω) fun x ρ' w' h1 h2 h3=>hK' e ρ' g T1 _ w' ?_
  exact I.quiet R hC hR ho hL hd (CU hk) (Kh ha) hT h1 Fz h2 h3
 |r hw gz hr hk hc hh hl hp ha=>
  have hop:=R.read ho gz hr hp (I.level R ho hd) I.le fun m ff hm hem hkm uf hmem=>hL (I.closed m ff ((I.r4 m hm hem).2 hkm) uf i hmem)
  refine run _ _ hw (I.qI.lI I.hp I.lt) (Kj hop) (fun x h1 h2=>absurd h2 ω) fun x ρ' w' h1 h2 h3=>hK' e ρ' g T1 _ w' ?_
  exact I.quiet R hC hR ho hL hd (CU hk) (Kh ha) hT h1 I.hp h2 h3
 |a hw gz hop hk hh hl hp ha=>
  have hA:j4 S i:=by unfold j4;rw [ha,jB]
  obtain⟨_,blk,nB,acr⟩:=CO gz hop;obtain⟨hnx,b0,hb0⟩:=R.Fy hi hA;have hblk:wh S i=some blk:=by unfold wh;rw [nB,ai.gD,if_pos rfl]
  have hfr:=I.fresh i hi hL;have hnone:ρ (S i).cur.next=none:=hfr _ (aI _) ω;have acs:g (S i).cur.next=none:=by
   cases hg:g (S i).cur.next with
   |none=>rfl
   |some k=>
    obtain⟨b,c,o',e1,_⟩:=I.qI.blk _ _ hg;rw [hnone]at e1;cases e1
  have Kk:e9 o.op P o (cl (S i).T) Z= .ok (V i) (Z.new blk):=acr Z rfl;have Kl:∀x,(Z.new blk).get x=if(S i).cur.next=x then some blk else none:=fun x=>by rw [ai.gD,hZ]
  have ym:e<=(S i).k:=by
   refine Nat.le_of_not_lt fun hlt=> ?_
   obtain⟨m,h1,h2,h3,h4⟩:=R.Fs (i:=i) (j:=ops.size) (e:=(S i).k+1) (Nat.le_of_lt hi) (aI _) (fG _) (dh hlt I.le);obtain⟨ff,uf⟩:=im h2;have hne:i≠m:=fun hh=>R4 h4 R h2 (hh ▸ hA)
   have hmem:i∈(S m).dw:=(R.Kc (Nat.le_of_lt h2) i).2 ⟨by omega,hA,by omega⟩;have acu:L m:=(I.r4 m h2 h4).2 ω;cases R.kind m ff uf with
   |skip _ _ hk=>unfold eZ at h4;omega
   |p _ _ _ hk=>unfold eZ at h4;omega
   |r _ _ _ hk=>unfold eZ at h4;omega
   |a _ _ _ hk=>unfold eZ at h4;omega
   |e _ _ hsub=>exact hL (I.closed m ff acu uf i (hsub i hmem))
  have hlv:lvl S ops.size i<=e:=by
   rcases R.J' ho with⟨h,_⟩|⟨_,h⟩
   .exact absurd h (CU hk)
   .rw [h];exact I.level R ho hd
  have old:∀x k,g x=some k->mH g Z (Z.new blk) x=some k:=fun x k hg=>by
   have hne:¬(S i).cur.next=x:=fun hh=>by rw [<-hh,acs]at hg;cases hg
   rw [Ke (by rw [Kl,if_neg hne]) (hZ x),hg]
  refine run Z (Z.new blk) hw Ki (Kj Kk) (fun x h1 h2=>hfr x h1 (by rw [hnx];exact h2)) fun x ρ' w' h1 h2 h3=>hK' e ρ' (mH g Z (Z.new blk)) T1 _ w' ?_
  refine I.after R hC hR ho hL hd hT h1 Fz h2 h3 (fun x hx=>h3.ext x (by rw [hnx]at hx;exact hx)) (aI _)
   (fun m hm hem=>⟨fun h=>(I.r4 m hm hem).1 (h.resolve_left fun hh=>CU hk (hh ▸ hem)),fun h=> .inr ((I.r4 m hm hem).2 h)⟩) hlv I.le (fun x k h=>old x k (I.hp x k h)) I.lt (fun j hj hjl haj Km=> ?_) (fun x k h=> ?_)
  .by_cases hji:j=i
   .subst hji;rw [hblk];exact Fx (by rw [Kl,if_pos rfl])
   .have h4:=I.dM j hj (hjl.resolve_left hji) haj Km;obtain⟨_,b,hb⟩:=R.Fy hj haj;rw [hb]at h4 ⊢;exact old _ _ h4
  .rcases wj h with h|⟨_,_,h⟩
   .rw [Kl]at h;split at h
    .rename_i hx;exact .inr ⟨i,hi, .inl rfl,hA,ym,hx.symm⟩
    .cases h
   .exact(I.conv x k h).imp id fun⟨j,h1,h2,h3⟩=>⟨j,h1, .inr h2,h3⟩
 |e hw hlv hsub hop gN hk hh hl hp ha=>
  have hE:eZ S i:=hk;have ym:e=(S i).k:=by
   have h1:=I.level R ho hd;rw [<-R.level ho,hlv]at h1;have h2:¬(S i).k<e:=fun h=>hL ((I.r4 i hi hE).2 h)
   omega
  obtain⟨c1,c2,c3⟩:=R.RY (Nat.le_of_lt hi);have Az:=R.Kc (Nat.le_of_lt hi);have hX:∀x k,(S i).cur.get x=some k->g x=some k:=fun x k h=>by
   rcases c1 x k h with h|⟨j,hj,rfl,hb⟩
   .rw [<-ym]at h;exact I.hp x k h
   .obtain⟨q1,aQ,b7⟩:=(Az j).1 hj;rw [I.dM j ω (hd j (hsub j hj)) aQ ω,hb]
  have hlt:∀x k,(S i).cur.get x=some k->x<(S i).cur.next:=fun x k h=>by
   rcases c1 x k h with h|⟨j,hj,rfl,hb⟩
   .have:=R.R2 (Nat.le_of_lt hi);rw [<-ym]at h this;exact Nat.lt_of_lt_of_le (I.lt x k h) this
   .obtain⟨q1,aQ,b7⟩:=(Az j).1 hj;have h5:=(R.Fy (i:=j) ω aQ).1;have h6:=R.pg hC hR (i:=j+1) (j:=i) q1 (Nat.le_of_lt hi);omega
  have Kk:ja P call round o (cl T) (S i).cur= .ok (V i) (S (i+1)).cur:=by
   unfold ja at hop ⊢;rw [RD R5];exact hop
  have acv:lvl S ops.size i=e+1:=by
   rcases R.J' ho with⟨_,h⟩|⟨h,_⟩
   .rw [h,ym]
   .exact absurd hE h
  have hle:e+1<=(S ops.size).k:=by
   have:=R.rZ (i:=i+1) (j:=ops.size) hi (aI _);omega
  have Kn:hpf S ops.size (e+1)=(S (i+1)).cur:=by rw [ym];exact R.Fv hi hE
  -- what is laid behind this effect lies beyond
  have later:∀j,j<ops.size->L j->j4 S j->e<=(S j).k->(S i).cur.get (S j).cur.next=none->i<j:=fun j hj hjl haj Km hnone=>by
   refine Nat.lt_of_not_le fun hji=> ?_
   have hne:j≠i:=fun hh=>hL (hh ▸ hjl)
   have hm:=R.rZ (i:=j) (j:=i) hji (Nat.le_of_lt hi);exact c3 j ((Az j).2 ⟨by omega,haj,by omega⟩) hnone
  refine run _ _ hw (I.qI.lI hX hlt) Kk (I.fresh i hi hL) fun x ρ' w' h1 h2 h3=>hK' (e+1) ρ' (mH g (S i).cur (S (i+1)).cur) T1 _ w' ?_
  have beyond:∀j,j<ops.size->i<j->(S i).cur.get (S j).cur.next=none/\(S (i+1)).cur.get (S j).cur.next=none:=fun j hj hij=>by
   have h6:=R.pg hC hR (i:=i+1) (j:=j) hij (Nat.le_of_lt hj);have h7:=R.RV hC hR hi;constructor
   .cases hg:(S i).cur.get (S j).cur.next with
    |none=>rfl
    |some k=>have:=hlt _ _ hg;omega
   .cases hg:(S (i+1)).cur.get (S j).cur.next with
    |none=>rfl
    |some k=>have:=h2.lt _ _ hg;omega
  refine I.after R hC hR ho hL hd hT h1 hX h2 h3 (fun x hx=>h3.ext x hx) (Nat.le_succ _) (fun m hm hem=> ?_) (Nat.le_of_eq acv) hle (fun x k h=>by rw [Kn]at h;exact Fx h) (fun x k h=>by rw [Kn]at h ⊢;exact h2.lt x k h) (fun j hj hjl haj Km=> ?_) (fun x k h=> ?_)
  .constructor
   .rintro(rfl |h)
    .omega
    .have:=(I.r4 m hm hem).1 h;omega
   .intro h;by_cases hlt2:(S m).k<e
    .exact .inr ((I.r4 m hm hem).2 hlt2)
    .left;have hme:(S m).k=(S i).k:=by omega
     rcases Nat.lt_trichotomy m i with hl|hl|hl
     .have:=R.rZ (i:=m+1) (j:=i) hl (Nat.le_of_lt hi);unfold eZ at hem;omega
     .exact hl
     .have:=R.rZ (i:=i+1) (j:=m) hl (Nat.le_of_lt hm);omega
  .have hne:j≠i:=fun hh=>R4 hE R hi (hh ▸ haj)
   have hij:i<j:=by
    refine Nat.lt_of_not_le fun hji=> ?_
    have:=R.rZ (i:=j) (j:=i) hji (Nat.le_of_lt hi);omega
   obtain⟨q1,aQ⟩:=beyond j hj hij;rw [Ke aQ q1];exact I.dM j hj (hjl.resolve_left hne) haj ω
  .rcases wj h with h|⟨_,hn,h⟩
   .left;rw [Kn];exact h
   .rcases I.conv x k h with h|⟨j,q1,aQ,b7,ez,rfl⟩
    .rw [ym]at h;exact absurd hn (c2 x (by rw [h];simp))
    .have hij:=later j q1 aQ b7 ez hn;have:=R.rZ (i:=i+1) (j:=j) hij (Nat.le_of_lt q1);exact .inr ⟨j,q1, .inr aQ,b7,by omega,rfl⟩
def acw {l:Array Bool} {i j:Nat} (hi:i<l.size):(l.setIfInBounds i true).getD j false=true↔(j=i\/l.getD j false=true):=by
 simp only [Array.getD_eq_getD_getElem?,Array.getElem?_setIfInBounds];by_cases h:i=j
 .subst h;simp [hi]
 .rw [if_neg h];exact⟨.inr,fun h2=>h2.resolve_left fun h3=>h h3.symm⟩
def R6:∀{l:List Bool} {i:Nat},l[i]? =some false->(l.set i true).countP (! ·)+1=l.countP (! ·)
 |[],i,h=>by simp at h
 |a::l,0,h=>by
  simp at h;subst h;simp
 |a::l,i+1,h=>by
  have:=R6 (l:=l) (i:=i) (by simpa using h);simp only [List.set_cons_succ,List.countP_cons];omega
def acy (hK:fe P) (R:di P call round ops n S V) (hC:bC P call) (hR:lN P round) (rd:Option Nat) (m:Nat) {Q:Exit->Act->World->Prop}
  (hQ:∀L e ρ g T a w,(∀j,j<ops.size->L j)->jC P B eU w0 a0 ops n S V L e ρ g T a w->Q .normal a w):∀(fuel:Nat) (listed:Array Bool) {e:Nat} {ρ:Env} {g:Nat->Option bl} {T:au aa} {a:Act} {w:World},
  listed.size=ops.size->listed.toList.countP (! ·)<=fuel->jC P B eU w0 a0 ops n S V (fun j=>listed.getD j false=true) e ρ g T a w->wpAnyIn (dW rd) m P .any ops Q fuel listed a w:=by
 have last:∀(listed:Array Bool) {e:Nat} {ρ:Env} {g:Nat->Option bl} {T:au aa} {a:Act} {w:World},listed.size=ops.size->jC P B eU w0 a0 ops n S V (fun j=>listed.getD j false=true) e ρ g T a w->Region.ready .any ops listed=[]->Q .normal a w:=fun listed e ρ g T a w hs I hr=>by
  refine hQ _ e ρ g T a w (fun j=> ?_) I;induction j using Nat.strongRecOn with
  |ind j ih=>
   intro hj;refine Classical.byContradiction fun hn=> ?_
   obtain⟨o,ho⟩:=im hj;have hmem:j∈Region.ready .any ops listed:=by
    refine mem_ready.2 ⟨?_,o,ho,fun e' he hb=> ?_⟩
    .have hlt:j<listed.size:=by omega
     simp only [Array.getD_eq_getD_getElem?,Array.getElem?_eq_getElem hlt,Option.getD_some]at hn ⊢;simpa using hn
    .have ug:e'.on∈bi o:=List.mem_map.2 ⟨e',List.mem_filter.2 ⟨by simpa using he,hb⟩,rfl⟩;have:=(ue R.ok ho).lt _ ug;exact ih _ this ω
   rw [hr]at hmem;cases hmem
 intro fuel;induction fuel with
 |zero=>
  intro listed e ρ g T a w hs hc I;have hr:Region.ready .any ops listed=[]:=by
   refine List.eq_nil_iff_forall_not_mem.2 fun j hj=> ?_
   obtain⟨h1,o,ho,_⟩:=mem_ready.1 hj;have hlt:j<listed.size:=by rw [hs];exact(dJ.1 ho).1
   have h0:=List.countP_eq_zero.1 (Nat.le_zero.1 hc) listed[j] τ;simp only [Array.getD_eq_getD_getElem?,Array.getElem?_eq_getElem hlt,Option.getD_some]at h1;rw [h1]at h0;simp at h0
  exact⟨hr,last listed hs I hr⟩
 |succ fuel ih=>
  intro listed e ρ g T a w hs hc I;refine⟨last listed hs I,fun i hi=> ?_⟩;obtain⟨h1,o,ho,h2⟩:=mem_ready.1 hi;have hlt:i<listed.size:=by rw [hs];exact(dJ.1 ho).1
  have hf:listed[i]=false:=by simpa [Array.getD_eq_getD_getElem?,hlt]using h1
  refine I.step hK R hC hR ho (by simp [Array.getD_eq_getD_getElem?,hlt,hf]) (fun d hd=> ?_) rd m fun e' ρ' g' aO a' w' I'=> ?_
  .obtain⟨x,hx,rfl⟩:=List.mem_map.1 hd;obtain⟨hx1,hx2⟩:=List.mem_filter.1 hx;exact h2 x (by simpa using hx1) hx2
  .refine ih _ (e:=e') (ρ:=ρ') (g:=g') (T:=aO) (by simpa using hs) ?_ ?_
   .have:=R6 (l:=listed.toList) (i:=i) (by simp [hlt,hf]);simp only [Array.toList_setIfInBounds];omega
   .have he:(fun j=>(listed.setIfInBounds i true).getD j false=true)=fun j=>j=i\/listed.getD j false=true:=by
     funext j;exact propext (acw hlt)
    rw [he];exact I'
def R7 (hK:fe P) (hm:P.follows .mixedOrders=true):yb P true (Ar P) where
 mono call round hC hR ops n T H aO H' h:=by
  obtain⟨S,V,R,e1,e2,e3,bV⟩:=RR h;rw [<-e2,<-bV];exact R.pg hC hR (Nat.zero_le _) (aI _)
 cx call round hC hR id ops n T H aO H' h B ρ a w rd k Q aR hf hQ:=by
  obtain⟨S,V,R,e1,e2,e3,bV⟩:=RR h;have hle:=R.pg hC hR (Nat.zero_le _) (aI _);refine wpIn_region_any hm ?_;refine acy (B:=B) (eU:=ρ) (w0:=w) (a0:=a) (e:=0) (ρ:=ρ) (g:=H.get) (T:=T) hK R hC hR rd k (fun L e ρ' g T2 a' w' hL I=> ?_) ops.size _ τ ?_ ?_
  .have nB:=R.RY (aI _);have Az:=R.Kc (aI _);have he:e=(S ops.size).k:=by
    refine Nat.le_antisymm I.le (Nat.le_of_not_lt fun hlt=> ?_);by_cases h0:(S ops.size).k=0
    .omega
    .obtain⟨m,h1,h2,h3,h4⟩:=R.Fs (i:=0) (j:=ops.size) (e:=(S ops.size).k) (Nat.zero_le _) (aI _) (by rw [R.k0];omega) (aI _);have:=(I.r4 m h2 h4).1 (hL m h2);omega
   have hX:∀x b,(S ops.size).cur.get x=some b->g x=some b:=fun x b hx=>by
    rcases nB.1 x b hx with hx|⟨j,hj,rfl,hb⟩
    .rw [<-he]at hx;exact I.hp x b hx
    .obtain⟨q1,aQ,b7⟩:=(Az j).1 hj;rw [I.dM j q1 (hL j q1) aQ ω,hb]
   have hlt:∀x b,(S ops.size).cur.get x=some b->x<(S ops.size).cur.next:=fun x b hx=>by
    rcases nB.1 x b hx with hx|⟨j,hj,rfl,hb⟩
    .have:=R.R2 (aI _);rw [<-he]at hx this;exact Nat.lt_of_lt_of_le (I.lt x b hx) this
    .obtain⟨q1,aQ,b7⟩:=(Az j).1 hj;have h5:=(R.Fy (i:=j) q1 aQ).1;have h6:=R.pg hC hR (i:=j+1) (j:=ops.size) q1 (aI _);omega
   refine hQ ρ' a' w' ⟨⟨I.Aw.size,fun t=> ?_⟩, ?_,I.G⟩ ?_ I.R3
   .have ht:aO.get t=T2.get t:=by
     rw [<-e3];by_cases hw:∃(j:Nat) (p:Oper),ops[j]? =some p/\p.dst=some t
     .obtain⟨j,p,hj,hp⟩:=hw;have hjl:j<ops.size:=(dJ.1 hj).1;rw [R.Fw hj hp hjl (aI _),(I.Ay j p t hj hp).1 (hL j hjl)]
     .have hw':∀(j:Nat) (p:Oper),ops[j]? =some p->p.dst≠some t:=fun j p hj hp=>hw ⟨j,p,hj,hp⟩
      rw [R.R1 hw' (aI _),I.Kf t hw']
    rw [ht];exact I.Aw.get t
   .rw [<-bV];exact I.qI.lI hX hlt
   .rw [<-e2,<-bV];exact I.qI.final hX rfl hle
  .have:∀n:Nat,(List.replicate n false).countP (! ·)<=n:=fun n=>by
    have:=List.countP_le_length (p:=(! ·)) (l:=List.replicate n false);simpa using this
   simpa using this ops.size
  .have hno:∀j,¬(Array.replicate ops.size false).getD j false=true:=fun j=>by
    simp [Array.getD_eq_getD_getElem?,Array.getElem?_replicate];split<;>simp
   have hH:=aR.H.drew;have h0:hpf S ops.size 0=H:=by rw [R.Kb,e2]
   refine⟨fun j o hj=>(hno j hj).elim,fun m hm hem=>⟨fun h=>(hno m h).elim,fun h=>absurd h (Nat.not_lt_zero _)⟩,fun j _ h=>(hno j h).elim,Nat.zero_le _,aR.T,fun j p t _ _=>⟨fun h=>(hno j h).elim,fun _=>by rw [e1]⟩,fun t _=>by rw [e1],aR.G, ?_,by rw [h0];exact fun x k h=>h,by rw [h0];exact hH.lt,fun j _ h=>(hno j h).elim,by rw [h0];exact fun x k h=> .inl h,fun j hj _ x h1 h2=>hf x ?_ ?_,rfl⟩
   .rw [e2];exact⟨hH.blk,hH.inj,hH.base,cB.refl _,fun _ _=>rfl,aI _,rfl,rfl,rfl,fun _ _ _=>rfl,fun b _ i k c h1 h2 h3=>⟨i,k,c,h1,h2,h3⟩,fun b _ i k c h1 h3=>⟨i,k,c,h1,h3⟩,hH.fz,fun _ _ h=> .inl h⟩
   .have:=R.pg hC hR (Nat.zero_le j) (Nat.le_of_lt hj);rw [e2]at this;exact dh this h1
   .have:=R.pg hC hR hj (aI _);rw [bV]at this;exact Nat.lt_of_lt_of_le h2 this
def FA {S call:eC} (hS:bC P S) (hC:bC P call):bC P (vJ S call) where
 mono f args H v H' h:=by
  unfold vJ at h;cases hs:S f args H with
  |no=>rw [hs]at h;exact hC.mono _ _ _ _ _ h
  |ok v1 H1=>rw [hs]at h;cases h;exact hS.mono _ _ _ _ _ hs
  |enter _ _ _=>rw [hs]at h;cases h
  |round _ _ _=>rw [hs]at h;cases h
 cx f args H v H' h:=by
  unfold vJ at h;cases hs:S f args H with
  |no=>rw [hs]at h;exact hC.cx _ _ _ _ _ h
  |ok v1 H1=>rw [hs]at h;cases h;exact hS.cx _ _ _ _ _ hs
  |enter _ _ _=>rw [hs]at h;cases h
  |round _ _ _=>rw [hs]at h;cases h
def R8 (hK:fe P):yb P false (fun call round ops n T H=>xQ P call round ops n ops.toList T H) where
 mono _ _ hC hR _ _ _ _ _ _ h:=JQ hC hR _ h
 cx _ _ hC hR _ ops _ _ _ _ _ h _ _ _ _ rd k _ aR hf hQ:=wpIn_region (Rq hK hC hR rd k _ _ (abP ops) aR h hf hQ)
def lO (hK:fe P) (hm:P.follows .mixedOrders=true) {S:eC} (hS:bC P S):∀d,yb P d (n9 P S d)
 |false=>⟨fun _ _ hC hR=>(R8 hK).mono _ _ (FA hS hC) hR,fun _ _ hC hR=>(R8 hK).cx _ _ (FA hS hC) hR⟩
 |true=>⟨fun _ _ hC hR=>(R7 hK hm).mono _ _ (FA hS hC) hR,fun _ _ hC hR=>(R7 hK hm).cx _ _ (FA hS hC) hR⟩
end
end
end Go.Proofs.YtibikmmdbdlafaaGreatDoor.Sv
