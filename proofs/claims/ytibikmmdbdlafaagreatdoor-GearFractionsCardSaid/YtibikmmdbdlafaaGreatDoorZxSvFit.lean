/- The runner over an abstract memory: a closed call comes true in every world. -/
import Derived.Test.YtibikmmdbdlafaaGreatDoorZxSvDraw6
set_option linter.unusedSectionVars false
set_option linter.unusedSimpArgs false
namespace Go.Proofs.YtibikmmdbdlafaaGreatDoor.Sv
open Go.RowKit
def aqy (r:aI):Bool:=match r with | .ok (.raw (.bool b)) _=>b|_=>false
end Go.Proofs.YtibikmmdbdlafaaGreatDoor.Sv
/- The runner over an abstract memory, with data that are not known: its tests are gathered as it goes: definitions. -/
namespace Go.Proofs.YtibikmmdbdlafaaGreatDoor.Sv
noncomputable section
inductive aA (α:Type) where
 |ret (a:α)
 |must (b:Bool) (k:aA α)
 |ask (b:Bool) (k:Bool->aA α)
 |opt (b:Bool) (k l:aA α)
def aA.gr {α:Type}:aA α->Option α
 | .ret a=>some a
 | .must b k=>cond b k.gr none
 | .ask b k=>(k b).gr
 | .opt b k l=>cond b k.gr l.gr
def aA.bind {α β:Type} (x:aA α) (f:α->aA β):aA β:=match x with
 | .ret a=>f a
 | .must b k=> .must b (k.bind f)
 | .ask b k=> .ask b fun c=>(k c).bind f
 | .opt b k l=> .opt b (k.bind f) (l.bind f)
def aA.path {α:Type}:aA α->List Bool->(α->Prop)->Prop
 | .ret a,_,Q=>Q a
 | .must b k,D,Q=>b=true/\k.path D Q
 | .ask b k,[],Q=>(k b).path [] Q
 | .ask b k,c::D,Q=>b=c/\(k c).path D Q
 | .opt b k _,D,Q=>b=true/\k.path D Q
def aA.s8 {α:Type}:aA α->List Bool->(α->Prop)->Prop
 | .ret a,_,Q=>Q a
 | .must b k,D,Q=>b=true/\k.s8 D Q
 | .ask b k,[],Q=>(k b).s8 [] Q
 | .ask b k,c::D,Q=>b=c/\(k c).s8 D Q
 | .opt b _ l,D,Q=>b=false/\l.s8 D Q
theorem aA.p6 {α β:Type}:∀(x:aA α) (f:α->aA β),(x.bind f).gr=x.gr.bind fun a=>(f a).gr
 | .ret a,f=>rfl
 | .must b k,f=>by cases b<;>simp [aA.bind,aA.gr,aA.p6 k f]
 | .ask b k,f=>by simp [aA.bind,aA.gr,aA.p6 (k b) f]
 | .opt b k l,f=>by cases b<;>simp [aA.bind,aA.gr,aA.p6 k f,aA.p6 l f]
theorem aA.s9 {α:Type} {Q:α->Prop}:∀(x:aA α) (D:List Bool),x.path D Q->∃a,x.gr=some a/\Q a
 | .ret a,D,h=>⟨a,rfl,h⟩
 | .must b k,D,h=>by
   obtain⟨h1,h2⟩:=h;subst h1;exact s9 k D h2
 | .ask b k,[],h=>s9 (k b) [] h
 | .ask b k,c::D,h=>by
   obtain⟨h1,h2⟩:=h;subst h1;exact s9 (k b) D h2
 | .opt b k l,D,h=>by
   obtain⟨h1,h2⟩:=h;subst h1;exact s9 k D h2
theorem aA.BZ {α:Type} {Q:α->Prop}:∀(x:aA α) (D:List Bool),x.s8 D Q->∃a,x.gr=some a/\Q a
 | .ret a,D,h=>⟨a,rfl,h⟩
 | .must b k,D,h=>by
   obtain⟨h1,h2⟩:=h;subst h1;exact BZ k D h2
 | .ask b k,[],h=>BZ (k b) [] h
 | .ask b k,c::D,h=>by
   obtain⟨h1,h2⟩:=h;subst h1;exact BZ (k b) D h2
 | .opt b k l,D,h=>by
   obtain⟨h1,h2⟩:=h;subst h1;exact BZ l D h2
abbrev oN:=Program->Oper->dH->ai->aA aI
def fits (k:IntKind) (r:Int):Bool:=decide (k.min<=r)&&decide (r<=k.max)
def td (k:IntKind) (r:Int) (H:ai):aA aI:=match k.signed with
 |true=> .opt (fits k r) (.ret (.ok (.raw (.int k r)) H)) (.ret (.ok (.raw (.int k (k.wrap r))) H))
 |false=> .ret (.ok (.raw (.int k (k.wrap r))) H)
def P5 (op:BinOp) (k:IntKind) (a b:Int) (H:ai):Option (aA aI):=match op with
 | .add=>some (td k (a+b) H)
 | .sub=>some (td k (a-b) H)
 | .mul=>some (td k (a*b) H)
 | .quo=>some (.must (decide (b≠0)) (td k (a.tdiv b) H))
 | .rem=>some (.must (decide (b≠0)) (.ret (.ok (.raw (.int k (a.tmod b))) H)))
 | .eql=>some (.ret (.ok (.raw (.bool (a==b))) H))
 | .neq=>some (.ret (.ok (.raw (.bool (a != b))) H))
 | .lss=>some (.ret (.ok (.raw (.bool (decide (a<b)))) H))
 | .leq=>some (.ret (.ok (.raw (.bool (decide (a<=b)))) H))
 | .gtr=>some (.ret (.ok (.raw (.bool (decide (a>b)))) H))
 | .geq=>some (.ret (.ok (.raw (.bool (decide (a>=b)))) H))
 |_=>none
def IW (op:BinOp) (t:TypeId) (x y:Operand) (ah:TypeId):oN:=fun P o ev H=>match iA (ev x),iA (ev y)with
 | .int k a, .int k' b=>(match k==k' with
   |true=>(match P5 op k a b H with |some r=>r|none=> .ret (ag H (oy P o ev op k k' a b)))
   |false=> .ret .no)
 |_,_=> .ret (iM op t x y ah P o ev H)
def IX (c a b:Operand):oN:=fun _ _ ev H=>match gq (ev c)with
 | .mk q=> .ask q fun r=>match r with |true=> .ret (.ok (ev a) H)|false=> .ret (.ok (ev b) H)
 | .no=> .ret .no
def xu (v:aa) (f:Nat->aA aI):aA aI:=match iA v with
 | .int _ z=> .must (decide (0<=z)) (f z.toNat)
 | .no=> .ret .no
def BT (k s:Nat) (x:aa) (H:ai):aA aI:=match x with
 | .bk _ t xs=>(match Nat.beq t.size s with
   |true=> .must (decide (k<xs.length)) (.ret (.ok (.e8 t xs k 0) H))
   |false=> .ret .no)
 | .bN e t i k0 len _=>(match Nat.beq t.size s with
   |true=> .must (decide (k<len)) (.ret (.ok (.dy e t i (k0+k) 0) H))
   |false=> .ret .no)
 |_=> .ret .no
def IY:aa->Bool
 | .bk _ _ _=>true
 | .bN _ _ _ _ _ _=>true
 |_=>false
def IZ (t:TypeId) (x ix:Operand):oN:=fun P o ev H=>match IY (ev x),nG P t with
 |true, .sl s=>xu (ev ix) fun k=>BT k s (ev x) H
 |_,_=> .ret (mT t x ix P o ev H)
def P6 (P:Program) (t:TypeId) (x:aa) (H:ai) (d:aI):aA aI:=match x with
 | .dy e u i k off=> .must (bt e u (H.get i) k) (.ret (ag H (ow P t (elemAt u (bI u (H.get i)) k) off)))
 |_=> .ret d
def I0 (t:TypeId) (x:Operand):oN:=fun P o ev H=>P6 P t (ev x) H (nJ t x P o ev H)
def P7 (P:Program) (t:TypeId) (x y:aa) (H:ai) (d:aI):aA aI:=match x with
 | .dy e u i k off=> .must (bt e u (H.get i) k) (match eM y.cells&&sL P t y.cells.length with
   |true=>(match(ku (elemAt u (bI u (H.get i)) k) off y.cells).bind u.read with
    |some d=> .ret (.ok (.raw undef) (H.set i (.own e u ((bI u (H.get i)).set k d))))
    |none=> .ret .no)
   |false=> .ret .no)
 |_=> .ret d
def I1 (t:TypeId) (x y:Operand):oN:=fun P o ev H=>P7 P t (ev x) (ev y) H (pO t x y P o ev H)
def zA (v:Option aa) (d:Nat) (f:Nat->aA aI):aA aI:=match v with
 |none=>f d
 |some v=>xu v f
def Eg (P:Program) (e:TypeId) (s n:Nat) (lo hi mx:Option aa) (_:ai) (k:Nat->Nat->aA aI):aA aI:=
 match mx with
 |none=>(match cp P e with
  |some s'=>(match Nat.beq s s' with
   |true=>zA hi n fun h=>zA lo 0 fun l=> .must (decide (l<=h)) (.must (decide (h<=n)) (k l h))
   |false=> .ret .no)
  |none=> .ret .no)
 |_=> .ret .no
def P8 (P:Program) (t:TypeId) (x:aa) (lo hi mx:Option aa) (H:ai) (d:aI):aA aI:=match P.underlying t,x with
 |some (.slice e), .bk _ u xs=>Eg P e u.size xs.length lo hi mx H fun l h=> .ret (.ok (.bk false u ((xs.take h).drop l)) H)
 |some (.slice e), .bN e' u i k len cap=>Eg P e u.size len lo hi mx H fun l h=> .ask (Nat.beq l 0) fun c=>match c with
  |true=> .ret (.ok (.bN e' u i k h cap) H)
  |false=> .ask (decide (l<h)) fun c=>match c with
   |true=> .ret (.ok (.bN e' u i (k+l) (h-l) .any) H)
   |false=> .ret (.ok (.bk false u []) H)
 |_,_=> .ret d
def I2 (t:TypeId) (x:Operand) (lo hi mx:Option Operand):oN:=fun P o ev H=>match IY (ev x)with
 |true=>P8 P t (ev x) (lo.map ev) (hi.map ev) (mx.map ev) H .no
 |false=> .ret (oz t x lo hi mx P o ev H)
def I3 (H:ai) (ty:au) (s:Nat) (x:aa) (f:List ty.den->Nat->aA aI):aA aI:=match x with
 | .bN e u j k len _=>(match decide (u=ty)with
   |true=> .must (Nat.beq len 0||bt e ty (H.get j) (k+len-1)) (f (((bI ty (H.get j)).drop k).take len) len)
   |false=> .ret .no)
 |x=>match EQ H ty s x with |some (ds,n)=>f ds n|none=> .ret .no
def B0 (P:Program) (t:TypeId) (e:TypeId) (ty:au) (i k len:Nat) (cap:aS) (sk:Bool) (x:aa) (H:ai):aA aI:=
 match k8 P t with
 |some el=>(match P.info? el with
  |some inf=>(match inf.zero with
   |some z=>(match Nat.beq z.cells.size inf.size&&Nat.ble 1 inf.size&&Nat.beq el e&&Nat.beq ty.size inf.size with
    |true=> .must (Nat.beq k 0) (I3 H ty inf.size x fun ds n=> .ask (Nat.beq n 0) fun c=>match c with
     |true=> .ret (.ok (.bN e ty i k len cap) (cond sk H.skip H))
     |false=> .must (yP e ty (H.get i) len cap) (.must (bounded (len+n) inf.bytes)
       (.ret (.ok (.bN e ty H.next 0 (len+n) .full) ((H.drop i).new (.own e ty (bI ty (H.get i)++ds)))))))
    |false=> .ret .no)
   |none=> .ret .no)
  |none=> .ret .no)
 |none=> .ret .no
def Z3:aa->Bool
 | .bN _ _ _ _ _ _=>true
 |_=>false
def rh (P:Program) (t:TypeId) (s x:aa) (H:ai) (d:aI):aA aI:=match s with
 | .bN e ty i k len cap=>(match wK ty x H with
   |some (b,H')=> .must b (B0 P t e ty i k len cap false x H')
   |none=>B0 P t e ty i k len cap false x H)
 |s=>match x with
  | .bk z ty ys=>(match DA s with
    |true=>(match k8 P t with
     |some e=>B0 P t e ty H.next 0 0 (.known 0) true (.bk z ty ys) H
     |none=> .ret .no)
    |false=> .ret .no)
  |_=> .ret d
def P9 (P:Program) (pt:TypeId) (x n:aa) (H:ai) (d:aI):aA aI:=match x with
 | .dy e' u i 0 0=>(match DG P pt e' u with
   |true=>(match n with
    | .raw (.int .i64 (.ofNat n))=> .must (Nat.ble 1 n) (.must (Nat.ble n 140737488355328) (.must (bt e' (.int .u8) (H.get i) (n-1)) (.must (Hv ((bI (.int .u8) (H.get i)).take n))
      (.ret (.ok (.raw (.string (oD ((bI (.int .u8) (H.get i)).take n)))) (H.drop i))))))
    |_=> .ret .no)
   |false=> .ret .no)
 |_=> .ret d
def I4 (c:Call):oN:=fun P o ev H=>match c.callee,c.args.toList.map ev,c.argTypes.toList with
 | .builtin .append,[s,x],[t,t']=>(match P.underlying t' with
   |some (.slice _)=>rh P t s x H (iN c P o ev H)
   |some .string=>(match Z3 s with
    |true=>rh P t s x H (iN c P o ev H)
    |false=> .ret (iN c P o ev H))
   |_=> .ret (iN c P o ev H))
 | .builtin .unsafeString,[x,n],[pt,_]=>P9 P pt x n H (iN c P o ev H)
 | .builtin .unsafeSliceData,[.bN e u i k len _],_=> .must (Nat.ble 1 len) (.ret (.ok (.dy e u i k 0) H))
 |_,_,_=> .ret (iN c P o ev H)
def I5 (t:TypeId) (l c:Operand):oN:=fun P _ ev H=>match k8 P t with
 |some e=>(match P.info? e with
  |some inf=>(match inf.zero with
   |some z=>xu (ev l) fun n=>xu (ev c) fun m=>(match Nat.ble 1 inf.size&&Nat.beq z.cells.size inf.size with
    |true=> .must (decide (n<=m)) (.must (bounded m inf.bytes) (.ret (.ok (.slice H.next 0 n (.known m)) (H.new (.cells e (List.replicate m (gX z.cells)).flatten true false false)))))
    |false=> .ret .no)
   |none=> .ret .no)
  |none=> .ret .no)
 |none=> .ret .no
def Eh (s:ByteArray) (k:Nat):Int:=((s.data.toList.getD k 0).toNat:Nat)
def zB (a b:ByteArray):Bool:=decide (a.data.toList=b.data.toList)
def zC (v:aa):Option ByteArray:=match v with
 | .raw (.string s)=>some s
 |_=>none
def I6 (t:TypeId) (x ix:Operand):oN:=fun P o ev H=>match zC (ev x)with
 |some s=>(match P.underlying t with
  |some .string=>xu (ev ix) fun k=> .must (decide (k<s.size)) (.ret (.ok (.raw (.int .u8 (Eh s k))) H))
  |_=> .ret .no)
 |none=> .ret (lX t x ix P o ev H)
def Qa (P:Program) (t:TypeId) (s:ByteArray) (lo hi mx:Option aa) (H:ai):aA aI:=match P.underlying t,mx with
 |some .string,none=>zA hi s.size fun h=>zA lo 0 fun l=> .must (decide (l<=h)) (.must (decide (h<=s.size)) (.ret (.ok (.raw (.string (s.extract l h))) H)))
 |_,_=> .ret .no
def I7 (t:TypeId) (x:Operand) (lo hi mx:Option Operand):oN:=fun P o ev H=>match zC (ev x)with
 |some s=>Qa P t s (lo.map ev) (hi.map ev) (mx.map ev) H
 |none=>I2 t x lo hi mx P o ev H
def Qb (op:BinOp) (a b:ByteArray) (H:ai) (d:aI):aA aI:=match op with
 | .add=> .must (decide (a.size+b.size<=9223372036854775807)) (.ret (.ok (.raw (.string (a++b))) H))
 | .eql=> .ret (.ok (.raw (.bool (zB a b))) H)
 | .neq=> .ret (.ok (.raw (.bool (!zB a b))) H)
 |_=> .ret d
def Z4:BinOp->Bool
 | .shl=>true
 | .shr=>true
 |_=>false
def PP (op:BinOp) (k:IntKind) (a b:Int) (H:ai):aA aI:= .must (decide (0<=b)) (match op with
 | .shl=> .ret (.ok (.raw (.int k (k.wrap (a*2^(min b.toNat k.bits))))) H)
 | .shr=> .ret (.ok (.raw (.int k (a.fdiv (2^(min b.toNat k.bits))))) H)
 |_=> .ret .no)
def I8 (op:BinOp) (t:TypeId) (x y:Operand) (ah:TypeId):oN:=fun P o ev H=>match zC (ev x),zC (ev y)with
 |some a,some b=>Qb op a b H (iM op t x y ah P o ev H)
 |_,_=>(match Z4 op,iA (ev x),iA (ev y)with
  |true, .int k a, .int _ b=>PP op k a b H
  |_,_,_=>IW op t x y ah P o ev H)
def B1 (op:Op):oN:=match op with
 | .binOp op t x y ah=>I8 op t x y ah
 | .pick c a b=>IX c a b
 | .indexAddr t x ix=>IZ t x ix
 | .load t x=>I0 t x
 | .store t x y=>I1 t x y
 | .slice t x lo hi mx=>I7 t x lo hi mx
 | .index t x ix=>I6 t x ix
 | .call c=>I4 c
 | .makeSlice t l c=>I5 t l c
 |op=>fun P o ev H=> .ret (eU op P o ev H)
def Ref (t:aA aI) (r:aI):Prop:=∀a,t.gr=some a->a≠ .no->r=a
theorem Ref.ret {r:aI}:Ref (.ret r) r:=fun a h _=>by cases h;rfl
theorem Ref.no {r:aI}:Ref (.ret .no) r:=fun a h hn=>by cases h;exact absurd rfl hn
theorem Ref.must {b:Bool} {k:aA aI} {r:aI} (h:b=true->Ref k r):Ref (.must b k) r:=fun a ha hn=>by
 cases b with
 |false=>cases ha
 |true=>exact h rfl a ha hn
theorem Ref.opt {b:Bool} {k l:aA aI} {r:aI} (h:b=true->Ref k r) (g:b=false->Ref l r):Ref (.opt b k l) r:=fun a ha hn=>by
 cases b with
 |false=>exact g rfl a ha hn
 |true=>exact h rfl a ha hn
theorem Ref.ask {b:Bool} {k:Bool->aA aI} {r:aI} (h:Ref (k b) r):Ref (.ask b k) r:=h
section
variable {P:Program} {o:Oper} {ev:dH} {H:ai}
theorem Qc {k:IntKind} {r:Int} (h:fits k r=true):k.wrap r=r:=by
 unfold fits at h;rw [ae]at h;have h1:=ap h.1;have h2:=ap h.2;cases k<;>simp [IntKind.wrap,IntKind.min,IntKind.max,IntKind.signed,IntKind.bits]at h1 h2 ⊢ <;>omega
theorem Z5 {op:BinOp} {k:IntKind} {a b r:Int} (hop:op= .add/\r=a+b\/op= .sub/\r=a-b\/op= .mul/\r=a*b):sG P op k a b=some (.int k (k.wrap r)):=by
 rcases hop with⟨rfl,rfl⟩|⟨rfl,rfl⟩|⟨rfl,rfl⟩<;>rfl
theorem Qd {k:IntKind} {r:Int} {d:aI} (h:d= .ok (.raw (.int k (k.wrap r))) H):Ref (td k r H) d:=by
 subst h;unfold td;split
 .exact .opt (fun hb=>by rw [Qc hb];exact .ret) fun _=> .ret
 .exact .ret
theorem I9 {op:BinOp} {t:TypeId} {x y:Operand} {ah:TypeId} {k k':IntKind} {a b:Int} (hx:iA (ev x)= .int k a) (hy:iA (ev y)= .int k' b):
  iM op t x y ah P o ev H=(match ji op k k' a b with |some v=> .ok v H|none=>ag H (oy P o ev op k k' a b)):=by
 unfold iM;rw [hx,hy];show(@Option.rec aa (fun _=>aI) (ag H (oy P o ev op k k' a b)) (fun v=> .ok v H) (ji op k k' a b))=_
 cases ji op k k' a b<;>rfl
theorem Ei {op:BinOp} {k:IntKind} {a b:Int} {v:Value} (h:sG P op k a b=some v):oy P o ev op k k a b=some (.raw v):=by
 unfold oy;rw [h];simp
theorem Z6 {op:BinOp} {t:TypeId} {x y:Operand} {ah:TypeId} {k:IntKind} {a b:Int} {r:aA aI} (hx:iA (ev x)= .int k a) (hy:iA (ev y)= .int k b) (h:P5 op k a b H=some r):Ref r (iM op t x y ah P o ev H):=by
 rw [I9 hx hy];have arith:∀c:Int,(op= .add/\c=a+b\/op= .sub/\c=a-b\/op= .mul/\c=a*b)->r=td k c H->Ref r (match ji op k k a b with |some v=> .ok v H|none=>ag H (oy P o ev op k k a b)):=by
  intro c hc hr;subst hr;cases hf:ji op k k a b with
  |none=>simp only;rw [Ei (Z5 hc)];exact Qd rfl
  |some v=>
   obtain⟨m,n,rfl,_,rfl,rfl,hn⟩:=wX hf;simp only;have hs:∀{q:Nat},small q=some v->c=q->Ref (td .i64 c H) (.ok v H):=fun {q} h1 h2=>by
    obtain⟨h3,h4⟩:=HL h1;subst h2;subst h4;unfold td;refine .opt (fun _=> .ret) fun hf=> ?_
    have:fits .i64 (q:Int)=true:=by
     unfold fits;rw [ae];exact⟨az (by show(-9223372036854775808:Int)<=_;omega),az (by show(q:Int)<=9223372036854775807;omega)⟩
    rw [this]at hf;cases hf
   rcases hc with⟨rfl,rfl⟩|⟨rfl,rfl⟩|⟨rfl,rfl⟩
   .exact hs (q:=m+n) hn (by omega)
   .have hn:(@Bool.rec (fun _=>Option aa) none (small (Nat.sub m n)) (Nat.ble n m))=some v:=hn;cases hb:Nat.ble n m with
    |false=>rw [hb]at hn;cases hn
    |true=>
     rw [hb]at hn;have hb:=bR hb;have e:Nat.sub m n=m-n:=rfl;rw [e]at hn;exact hs hn (by omega)
   .cases hn
 have cmp:∀c:Bool,sG P op k a b=some (.bool c)->(∀m n:Nat,a=m->b=n->yY op m n=some (.raw (.bool c))\/yY op m n=none)->r= .ret (.ok (.raw (.bool c)) H)->Ref r (match ji op k k a b with |some v=> .ok v H|none=>ag H (oy P o ev op k k a b)):=by
  intro c hc hn hr;subst hr;cases hf:ji op k k a b with
  |none=>simp only;rw [Ei hc];exact .ret
  |some v=>
   obtain⟨m,n,rfl,_,rfl,rfl,hv⟩:=wX hf;simp only;rcases hn m n rfl rfl with h1|h1<;>rw [h1]at hv
   .cases hv;exact .ret
   .cases hv
 cases op with
 |add=>cases h;exact arith _ (.inl ⟨rfl,rfl⟩) rfl
 |sub=>cases h;exact arith _ (.inr (.inl ⟨rfl,rfl⟩)) rfl
 |mul=>cases h;exact arith _ (.inr (.inr ⟨rfl,rfl⟩)) rfl
 |quo=>
  cases h;refine .must fun hb=> ?_
  have hb:=ap hb;have hf:ji .quo k k a b=none:=by
   cases hf:ji .quo k k a b with
   |none=>rfl
   |some v=>obtain⟨m,n,_,_,_,_,hv⟩:=wX hf;cases hv
  rw [hf];simp only;rw [Ei (v:= .int k (k.wrap (a.tdiv b))) (by unfold sG Op.intDiv;simp only [if_neg hb];rfl)];exact Qd rfl
 |rem=>
  cases h;refine .must fun hb=> ?_
  have hb:=ap hb;have hf:ji .rem k k a b=none:=by
   cases hf:ji .rem k k a b with
   |none=>rfl
   |some v=>obtain⟨m,n,_,_,_,_,hv⟩:=wX hf;cases hv
  rw [hf];simp only;rw [Ei (v:= .int k (a.tmod b)) (by unfold sG Op.intDiv;simp only [if_neg hb];rfl)];exact .ret
 |and=>cases h
 |or=>cases h
 |xor=>cases h
 |shl=>cases h
 |shr=>cases h
 |andNot=>cases h
 |eql=>
  cases h;refine cmp _ rfl (fun m n h1 h2=> .inl ?_) rfl;subst h1;subst h2;show some (aa.raw (.bool (Nat.beq m n)))=_;congr 3;rw [Bool.eq_iff_iff];simp;omega
 |neq=>
  cases h;refine cmp _ rfl (fun m n h1 h2=> .inl ?_) rfl;subst h1;subst h2;show some (aa.raw (.bool (!(Nat.beq m n))))=_;congr 3;by_cases e:m=n
  .subst e;simp
  .rw [sS e];simp;omega
 |lss=>
  cases h;refine cmp _ rfl (fun m n h1 h2=> .inl ?_) rfl;subst h1;subst h2;show some (aa.raw (.bool (Nat.ble (m+1) n)))=_;rw [wU];congr 3;rw [Bool.eq_iff_iff,decide_eq_true_iff,decide_eq_true_iff];omega
 |leq=>
  cases h;refine cmp _ rfl (fun m n h1 h2=> .inl ?_) rfl;subst h1;subst h2;show some (aa.raw (.bool (Nat.ble m n)))=_;rw [wU];congr 3;rw [Bool.eq_iff_iff,decide_eq_true_iff,decide_eq_true_iff];omega
 |gtr=>
  cases h;refine cmp _ rfl (fun m n h1 h2=> .inl ?_) rfl;subst h1;subst h2;show some (aa.raw (.bool (Nat.ble (n+1) m)))=_;rw [wU];congr 3;rw [Bool.eq_iff_iff,decide_eq_true_iff,decide_eq_true_iff];omega
 |geq=>
  cases h;refine cmp _ rfl (fun m n h1 h2=> .inl ?_) rfl;subst h1;subst h2;show some (aa.raw (.bool (Nat.ble n m)))=_;rw [wU];congr 3;rw [Bool.eq_iff_iff,decide_eq_true_iff,decide_eq_true_iff];omega
theorem Z7 {op:BinOp} {t:TypeId} {x y:Operand} {ah:TypeId}:Ref (IW op t x y ah P o ev H) (iM op t x y ah P o ev H):=by
 unfold IW;split
 .rename_i k a k' b hx hy;split
  .rename_i hk;have hk:k=k':=by simpa using hk
   subst hk;split
   .rename_i r hr;exact Z6 hx hy hr
   .rename_i hn;rw [I9 hx hy];cases hf:ji op k k a b with
    |none=>exact .ret
    |some v=>
     obtain⟨m,n,_,_,_,_,hv⟩:=wX hf;cases op<;>first |(cases hn;done)|(change (none:Option aa)=some v at hv;cases hv)
  .exact .no
 .exact .ret
theorem Z8 {c a b:Operand}:Ref (IX c a b P o ev H) (nI c a b P o ev H):=by
 unfold IX nI;cases gq (ev c)with
 |no=>exact .no
 |mk q=>cases q<;>exact .ret
theorem B2 {v:aa} {f:Nat->aA aI} {r:aI} (h:∀k,nH v= .mk k->Ref (f k) r):Ref (xu v f) r:=by
 unfold xu;split
 .rename_i k z hz;refine .must fun hb=>h _ ?_
  have hb:=ap hb;unfold nH;rw [hz];cases z with
  |ofNat m=>rfl
  |negSucc m=>exact absurd hb (by omega)
 .exact .no
theorem BY {k s:Nat} {x:aa}:Ref (BT k s x H) (t8 k s x H):=by
 unfold BT t8;split
 .rename_i z t xs;split
  .rename_i hs;refine .must fun hb=> ?_
   have hb:=ap hb;simp only [hs,Bool.true_and];rw [fo (show k+1<=xs.length from hb)];exact .ret
  .exact .no
 .rename_i e t i k0 len cap;split
  .rename_i hs;refine .must fun hb=> ?_
   have hb:=ap hb;simp only [hs,Bool.true_and];rw [fo (show k+1<=len from hb)];exact .ret
  .exact .no
 .exact .no
theorem Z9 {v:aa} (h:IY v=true):iB v= .no/\wI v= .no:=by
 cases v<;>first |exact⟨rfl,rfl⟩|cases h
theorem so {t:TypeId} {x ix:Operand}:Ref (IZ t x ix P o ev H) (mT t x ix P o ev H):=by
 unfold IZ;split
 .rename_i s hx ht;refine B2 fun k hk=> ?_
  unfold mT;simp only [hk,ht,(Z9 hx).2];exact BY
 .exact .ret
theorem aaa {t:TypeId} {x:Operand}:Ref (I0 t x P o ev H) (nJ t x P o ev H):=by
 unfold I0 P6;split
 .rename_i e u i k off hx;refine .must fun hb=> ?_
  unfold nJ;rw [hx];show Ref _ (sI P t (.dy e u i k off) H);unfold sI;simp only [hb,cond_true];exact .ret
 .exact .ret
theorem aab {t:TypeId} {x y:Operand}:Ref (I1 t x y P o ev H) (pO t x y P o ev H):=by
 unfold I1 P7;split
 .rename_i e u i k off hx;refine .must fun hb=> ?_
  unfold pO;rw [hx];show Ref _ (mr P t (.dy e u i k off) (ev y) H);unfold mr;simp only [hb,cond_true];cases (eM (ev y).cells&&sL P t (ev y).cells.length)with
  |false=>exact .no
  |true=>
   simp only [cond_true];cases (ku (elemAt u (bI u (H.get i)) k) off (ev y).cells).bind u.read with
   |none=>exact .no
   |some d=>exact .ret
 .exact .ret
theorem Ej {v:Option aa} {d:Nat} {f:Nat->aA aI} {r:aI} (h:∀k,lV v d=some k->Ref (f k) r):Ref (zA v d f) r:=by
 unfold zA;split
 .exact h _ rfl
 .rename_i v;exact B2 fun k hk=>h k (by show mn v=some k;unfold mn;rw [hk])
theorem Qe {e:TypeId} {s n:Nat} {lo hi mx:Option aa} {k:Nat->Nat->aA aI} {k2:Nat->Nat->aa} (h:∀l h,l<=h->h<=n->Ref (k l h) (.ok (k2 l h) H)):Ref (Eg P e s n lo hi mx H k) (ag H (yU P e s n lo hi mx k2)):=by
 unfold Eg;split
 .split
  .rename_i s' hs;split
   .rename_i aac;refine Ej fun hh hhi=>Ej fun l hlo=> .must fun h1=> .must fun h2=> ?_
    have h1:=ap h1;have h2:=ap h2;unfold yU;simp only [hs,Option.bind_some,hhi,hlo,aac,Option.isNone_none,Bool.true_and,fo h1,fo h2,cond_true];exact h l hh h1 h2
   .exact .no
  .exact .no
 .exact .no
theorem aad {t:TypeId} {x:Operand} {lo hi mx:Option Operand}:Ref (I2 t x lo hi mx P o ev H) (oz t x lo hi mx P o ev H):=by
 unfold I2;split
 .rename_i hx;have hp:oz t x lo hi mx P o ev H=ag H (Be P t (ev x) (lo.map ev) (hi.map ev) (mx.map ev)):=by
   unfold oz Bl;cases hv:ev x<;>first |rfl |(rw [hv]at hx;cases hx)
  rw [hp];unfold P8;split
  .rename_i e z u xs hu fV;unfold Be;rw [hu,fV];refine Qe fun l h h1 h2=> ?_
   cases hb:Nat.ble (l+1) h with
   |true=>exact .ret
   |false=>
    have:¬l+1<=h:=fun hh=>by rw [fo hh]at hb;cases hb
    have e:(xs.take h).drop l=[]:=by rw [List.drop_eq_nil_iff];simp;omega
    rw [e];exact .ret
  .rename_i e e' u i k len cap hu fV;unfold Be;rw [hu,fV];refine Qe fun l h h1 h2=> .ask ?_
   cases hb:Nat.beq l 0 with
   |true=>exact .ret
   |false=>
    refine .ask ?_;by_cases hlt:l<h
    .simp only [hlt,decide_true,cond_false,fo (show l+1<=h from hlt),cond_true];exact .ret
    .have kA:Nat.ble (l+1) h=false:=by rw [wU];exact ab hlt
     simp only [hlt,decide_false,cond_false,kA];exact .ret
  .exact .no
 .exact .ret
theorem aae {ty:au} {s:Nat} {x:aa} {f:List ty.den->Nat->aA aI} {r:aI} (h:∀ds n,EQ H ty s x=some (ds,n)->Ref (f ds n) r):Ref (I3 H ty s x f) r:=by
 unfold I3;split
 .rename_i e u j k len cap;split
  .rename_i hu;refine .must fun hb=>h _ _ ?_
   unfold EQ;simp only [hu,hb,Bool.true_and,cond_true]
  .exact .no
 .split
  .rename_i ds n hs;exact h ds n hs
  .exact .no
theorem Ja {t e:TypeId} {ty:au} {i k len:Nat} {cap:aS} {sk:Bool} {x:aa}:Ref (B0 P t e ty i k len cap sk x H) (eE (qN P t e ty i k len cap sk x H)):=by
  unfold B0;split
  .rename_i el hel;split
   .rename_i inf aaf;split
    .rename_i z hz;split
     .rename_i hc;refine .must fun hk=>aae fun ds n hs=> .ask ?_
      unfold qN;simp only [hel,aaf,hz,Option.bind_some,hc,hk,Bool.true_and,cond_true,hs];cases Nat.beq n 0 with
      |true=>exact .ret
      |false=>
       refine .must fun h1=> .must fun h2=> ?_
       simp only [h1,h2,Bool.true_and,cond_true,cond_false];exact .ret
     .exact .no
    .exact .no
   .exact .no
  .exact .no
theorem qk {t:TypeId} {s x:aa} {d:aI} (hd:d=eE (lW P t s x H)):Ref (rh P t s x H d) (eE (lW P t s x H)):=by
 unfold rh;split
 .rename_i e ty i k len cap;have e0:lW P t (.bN e ty i k len cap) x H=Bf P t e ty i k len cap x H:=rfl;rw [e0];unfold Bf;cases wK ty x H with
  |none=>exact Ja
  |some p=>
   obtain⟨b,H'⟩:=p;refine .must fun hb=> ?_
   subst hb;exact Ja
 .rename_i hn;split
  .rename_i z ty ys;split
   .rename_i he;split
    .rename_i e hel;have:lW P t s (.bk z ty ys) H=qN P t e ty H.next 0 0 (.known 0) true (.bk z ty ys) H:=by
      unfold lW;split
      .rename_i a1 a2 a3 a4 a5 a6;exact absurd rfl (hn a1 a2 a3 a4 a5 a6)
      .simp only [he,cond_true];unfold rf;rw [hel]
     rw [this];exact Ja
    .exact .no
   .exact .no
  .subst hd;exact .ret
theorem aag {c:Call}:Ref (I4 c P o ev H) (iN c P o ev H):=by
 unfold I4;split
 .rename_i s x t t' hc ha ht;split
  .rename_i el hu;have e:iN c P o ev H=eE (lW P t s x H):=by
    unfold iN;rw [hc];simp only [ha];unfold nK;simp only [ht,hu]
   rw [e];exact qk rfl
  .rename_i hu;split
   .have e:iN c P o ev H=eE (lW P t s x H):=by
     unfold iN;rw [hc];simp only [ha];unfold nK;simp only [ht,hu]
    rw [e];exact qk rfl
   .exact .ret
  .exact .ret
 .rename_i x n pt it hc ha ht;have e:iN c P o ev H=eE (uH P pt x n H):=by
   unfold iN;rw [hc];simp only [ha];unfold nK;simp only [ht]
  rw [e];unfold P9;split
  .rename_i e' u i;split
   .rename_i hu;split
    .rename_i m;refine .must fun h1=> .must fun h2=> .must fun h3=> .must fun h4=> ?_
     have e2:uH P pt (.dy e' u i 0 0) (.raw (.int .i64 (.ofNat m))) H=some (.raw (.string (oD ((bI (.int .u8) (H.get i)).take m))),H.drop i):=by
      show cond (DG P pt e' u&&_) _ none=_;rw [hu,h1,h2,h3,h4];rfl
     rw [e2];exact .ret
    .exact .no
   .exact .no
  .exact .ret
 .rename_i ts el u i k len cap hc ha;have e:iN c P o ev H= @Bool.rec (fun _=>aI) .no (.ok (.dy el u i k 0) H) (Nat.ble 1 len):=by
   unfold iN;rw [hc];simp only [ha];unfold nK;rfl
  rw [e];refine .must fun h1=> ?_
  rw [h1];exact .ret
 .exact .ret
theorem aah {t:TypeId} {l c:Operand}:Ref (I5 t l c P o ev H) (sK t l c P o ev H):=by
 unfold I5;split
 .rename_i e he;split
  .rename_i inf hi;split
   .rename_i z hz;refine B2 fun n hn=>B2 fun m hm=> ?_
    split
    .rename_i hb;refine .must fun h1=> .must fun h2=> ?_
     rw [ae]at hb;have e1:mn (ev l)=some n:=by unfold mn;rw [hn]
     have e2:mn (ev c)=some m:=by unfold mn;rw [hm]
     have e3:sK t l c P o ev H= .ok (.slice H.next 0 n (.known m)) (H.new (.cells e (List.replicate m (gX z.cells)).flatten true false false)):=by
      unfold sK pN;rw [he,Option.bind_some,hi,Option.bind_some,hz,Option.bind_some,e1,Option.bind_some,e2,Option.bind_some,fo (ap h1),hb.1,h2,hb.2];rfl
     rw [e3];exact .ret
    .exact .no
   .exact .no
  .exact .no
 .exact .no
theorem Ek {v:aa} {s:ByteArray} (h:zC v=some s):v= .raw (.string s):=by
 unfold zC at h;split at h
 .cases h;rfl
 .cases h
theorem Qf {v:aa} {k:Nat} (h:nH v= .mk k):∃q,v= .raw (.int q k):=by
 unfold nH at h;cases hw:iA v with
 |no=>rw [hw]at h;cases h
 |int q z=>
  rw [hw]at h;have h:uF z= .mk k:=h;cases z with
  |ofNat m=>cases h;exact⟨q,zc hw⟩
  |negSucc m=>cases h
theorem nc {x:Operand} {v:Value} (h:ev x= .raw v):mc ev x=v:=by unfold mc;rw [h];rfl
theorem aai {s:ByteArray} {k:Nat} (h:k<s.size):s[k]? =some (s.data.toList.getD k 0):=by
 have h2:k<s.data.size:=h;rw [show s[k]? =some s[k]from getElem?_pos s k h];congr 1;rw [ao,Array.getElem?_toList,Array.getElem?_eq_getElem h2];rfl
theorem aaj {t:TypeId} {x ix:Operand} (ho:o.op= .index t x ix):Ref (I6 t x ix P o ev H) (lX t x ix P o ev H):=by
 unfold I6;split
 .rename_i s hs;have hx:=Ek hs;split
  .rename_i hu;refine B2 fun k hk=> .must fun hb=> ?_
   have hb:=ap hb;obtain⟨q,hi⟩:=Qf hk;have e1:lX t x ix P o ev H=ag H (gen P o ev):=by unfold lX;rw [hx];rfl
   have e2:gen P o ev=some (.raw (.int .u8 (Eh s k))):=by
    unfold gen;rw [ho];have e3:((Op.index t x ix).operands.toList.all fun x=>(ev x).e9.isSome)=true:=by simp [Op.operands,hx,hi,aa.e9]
    rw [e3];have bP:di P (execOp (mc ev) o)=some (.value (.int .u8 (Eh s k))):=by
     unfold execOp;rw [ho];simp only [nc hx,nc hi];simp [Instr.index,asIntOf,underlying,program,di,hu,bind,Sem.bind,pure,aai hb,Eh]
    rw [bP];rfl
   rw [e1,e2];exact .ret
  .exact .no
 .exact .ret
theorem El {α β:Type} (f:α->β):∀{s:Sem α} {a:α},di P s=some a->di P (do let r <-s;pure (f r))=some (f a)
 | .pure a,_,h=>by
   have h:some a=some _:=h;cases h;rfl
 | .program k,_,h=>El f (s:=k P) h
 | .mark _ k,_,h=>El f (s:=k) h
 | .load ..,_,h=>by cases h
 | .store ..,_,h=>by cases h
 | .new ..,_,h=>by cases h
 | .shape ..,_,h=>by cases h
 | .freeze ..,_,h=>by cases h
 | .frozen ..,_,h=>by cases h
 | .getObj ..,_,h=>by cases h
 | .setObj ..,_,h=>by cases h
 | .choose ..,_,h=>by cases h
 | .sys ..,_,h=>by cases h
 | .halt ..,_,h=>by cases h
theorem Jb {v:Option Operand} {d k:Nat} (h:lV (v.map ev) d=some k):(v=none/\k=d)\/∃y q,v=some y/\ev y= .raw (.int q k):=by
 cases v with
 |none=>cases h;exact .inl ⟨rfl,rfl⟩
 |some y=>
  have h:mn (ev y)=some k:=h;unfold mn at h;cases hn:nH (ev y)with
  |no=>rw [hn]at h;cases h
  |mk m=>
   rw [hn]at h;cases h;obtain⟨q,hq⟩:=Qf hn;exact .inr ⟨y,q,rfl,hq⟩
theorem aak {t:TypeId} {x:Operand} {lo hi mx:Option Operand} (ho:o.op= .slice t x lo hi mx):Ref (I7 t x lo hi mx P o ev H) (oz t x lo hi mx P o ev H):=by
 unfold I7;split
 .rename_i s hs;have hx:=Ek hs;unfold Qa;split
  .rename_i hu hm;have hm:mx=none:=by cases mx<;>first |rfl |cases hm
   subst hm;refine Ej fun h hh=>Ej fun l hl=> .must fun h1=> .must fun h2=> ?_
   have h1:=ap h1;have h2:=ap h2;have e1:oz t x lo hi none P o ev H=ag H (gen P o ev):=by unfold oz Bl;rw [hx]
   have e2:gen P o ev=some (.raw (.string (s.extract l h))):=by
    unfold gen;rw [ho];rcases Jb hh with⟨rfl,rfl⟩|⟨y,q,rfl,hy⟩
    .rcases Jb hl with⟨rfl,rfl⟩|⟨y2,aO,rfl,hy2⟩
     .have e3:((Op.slice t x none none none).operands.toList.all fun x=>(ev x).e9.isSome)=true:=by simp [Op.operands,hx,aa.e9]
      rw [e3];unfold execOp;rw [ho];simp only [nc hx,Option.map_none];simp [Instr.sliceAt,Instr.slice,Instr.sliceBounds,underlying,program,di,hu,bind,Sem.bind,pure]
     .have e3:((Op.slice t x (some y2) none none).operands.toList.all fun x=>(ev x).e9.isSome)=true:=by simp [Op.operands,hx,hy2,aa.e9]
      rw [e3];unfold execOp;rw [ho];simp only [nc hx,Option.map_none,Option.map_some,nc hy2];simp [Instr.sliceAt,Instr.slice,Instr.sliceBounds,Instr.sliceBound,asIntOf,underlying,program,di,hu,bind,Sem.bind,pure,h1]
    .rcases Jb hl with⟨rfl,rfl⟩|⟨y2,aO,rfl,hy2⟩
     .have e3:((Op.slice t x none (some y) none).operands.toList.all fun x=>(ev x).e9.isSome)=true:=by simp [Op.operands,hx,hy,aa.e9]
      rw [e3];unfold execOp;rw [ho];simp only [nc hx,Option.map_none,Option.map_some,nc hy];simp [Instr.sliceAt,Instr.slice,Instr.sliceBounds,Instr.sliceBound,asIntOf,underlying,program,di,hu,bind,Sem.bind,pure,h2]
     .have e3:((Op.slice t x (some y2) (some y) none).operands.toList.all fun x=>(ev x).e9.isSome)=true:=by simp [Op.operands,hx,hy,hy2,aa.e9]
      rw [e3];unfold execOp;rw [ho];simp only [nc hx,Option.map_some,Option.map_none,nc hy,nc hy2];simp [Instr.sliceAt,Instr.slice,Instr.sliceBounds,Instr.sliceBound,asIntOf,underlying,program,di,hu,bind,Sem.bind,pure,h1,h2]
   rw [e1,e2];exact .ret
  .exact .no
 .exact aad
theorem Qg (a b:ByteArray):(a.toList==b.toList)=zB a b:=by
 rw [ByteArray.toList_eq,ByteArray.toList_eq];unfold zB;rw [Bool.eq_iff_iff];simp
theorem aal {op:BinOp} {t:TypeId} {x y:Operand} {ah:TypeId} (ho:o.op= .binOp op t x y ah):Ref (I8 op t x y ah P o ev H) (iM op t x y ah P o ev H):=by
 unfold I8;split
 .rename_i a b ha hb;have hx:=Ek ha;have hy:=Ek hb;have e0:iM op t x y ah P o ev H=ag H (wM P o ev op t (ev x) (ev y)):=by unfold iM;rw [hx];rfl
  have e3:((Op.binOp op t x y ah).operands.toList.all fun x=>(ev x).e9.isSome)=true:=by simp [Op.operands,hx,hy,aa.e9]
  have eg:∀v,di P (do eqGuard op t x y (.string a) (.string b);binOp op t (.string a) (.string b))=some v->gen P o ev=some (.raw v):=fun v hv=>by
   unfold gen;rw [ho,e3];unfold execOp;rw [ho];simp only [nc hx,nc hy];have:di P (do let r <-(do eqGuard op t x y (.string a) (.string b);binOp op t (.string a) (.string b));pure (Next.value r))=some (.value v):=El _ hv;simp only [cond_true];rw [this]
  unfold Qb;split
  .refine .must fun hl=> ?_
   have hl:=ap hl;have:wM P o ev .add t (ev x) (ev y)=some (.raw (.string (a++b))):=eg _ (by
    have:¬(9223372036854775807:Int)<(a.size:Int)+(b.size:Int):=by omega
    simp [eqGuard,binOp,Op.stringOp,di,bind,Sem.bind,pure,IntKind.max,IntKind.bits,IntKind.signed,this])
   rw [e0,this];exact .ret
  .have:wM P o ev .eql t (ev x) (ev y)=some (.raw (.bool (zB a b))):=by
    rw [hx,hy];exact eg _ (by rw [<-Qg];simp [eqGuard,binOp,Op.stringOp,di,bind,Sem.bind,pure])
   rw [e0,this];exact .ret
  .have:wM P o ev .neq t (ev x) (ev y)=some (.raw (.bool (!zB a b))):=by
    rw [hx,hy];exact eg _ (by rw [<-Qg];simp [eqGuard,binOp,Op.stringOp,di,bind,Sem.bind,pure])
   rw [e0,this];exact .ret
  .exact .ret
 .split
  .rename_i k a k' b hs ha hb;refine .must fun h0=> ?_
   have h0:=ap h0;have hx:=zc ha;have hy:=zc hb;have hf:ji op k k' a b=none:=by
    cases hf:ji op k k' a b with
    |none=>rfl
    |some v=>obtain⟨m,n,_,_,_,_,hv⟩:=wX hf;cases op<;>first |(cases hs;done)|(change (none:Option aa)=some v at hv;cases hv)
   have hp:oy P o ev op k k' a b=gen P o ev:=by
    unfold oy;have:sG P op k a b=none:=by cases op<;>first |rfl |(cases hs;done)
    rw [this];cases (k==k')<;>rfl
   have e0:iM op t x y ah P o ev H=ag H (gen P o ev):=by rw [I9 ha hb,hf,hp]
   have e3:((Op.binOp op t x y ah).operands.toList.all fun x=>(ev x).e9.isSome)=true:=by simp [Op.operands,hx,hy,aa.e9]
   have eg:∀v,di P (do eqGuard op t x y (.int k a) (.int k' b);binOp op t (.int k a) (.int k' b))=some v->gen P o ev=some (.raw v):=fun v hv=>by
    unfold gen;rw [ho,e3];unfold execOp;rw [ho];simp only [nc hx,nc hy];have:di P (do let r <-(do eqGuard op t x y (.int k a) (.int k' b);binOp op t (.int k a) (.int k' b));pure (Next.value r))=some (.value v):=El _ hv;simp only [cond_true];rw [this]
   have hneg:¬b<0:=by omega
   split
   .rw [e0,eg _ (by simp only [eqGuard,binOp,Op.shift,hneg,if_false];rfl)];exact .ret
   .rw [e0,eg _ (by simp only [eqGuard,binOp,Op.shift,hneg,if_false];rfl)];exact .ret
   .exact .no
  .exact Z7
theorem rk:Ref (B1 o.op P o ev H) (eU o.op P o ev H):=by
 cases ho:o.op with
 |binOp op t x y ah=>exact aal ho
 |pick c a b=>exact Z8 (P:=P) (o:=o)
 |indexAddr t x ix=>exact so
 |load t x=>exact aaa
 |store t x y=>exact aab
 |slice t x lo hi mx=>exact aak ho
 |index t x ix=>exact aaj ho
 |call c=>exact aag
 |makeSlice t l c=>exact aah (o:=o)
 |_=>exact .ret
end
end
end Go.Proofs.YtibikmmdbdlafaaGreatDoor.Sv
/- The runner over an abstract memory, with data that are not known: code. -/
namespace Go.Proofs.YtibikmmdbdlafaaGreatDoor.Sv
noncomputable section
abbrev bF:=FuncId->List aa->ai->aA aI
abbrev xw:=Code->(n:Nat)->(aK:Bool)->av aa->ai->List Nat->aA R
def Em {β:Type} (T:av aa) (ops:Array Oper) (o:Oper) (no:aA β) (f:Bool->aA β):aA β:=match o.guard with
 |none=>f true
 |some g=>match(ops[g.1]?).bind (·.dst)with
  |some d=>(match T.get d with |some (.raw (.bool b))=> .ask (b==g.2) f|some .bot=>no|_=>f false)
  |none=>no
def En (P:Program) (call:bF) (o:Oper) (ev:dH) (H:ai):aA aI:=
 (B1 o.op P o ev H).bind fun r=>match r with
   | .ok v H=> .ret (.ok v H)
   | .enter f args H=>call f args H
   |_=> .ret .no
def Eo (T:av aa) (n:Nat) (dst:Option Tmp) (v:aa) (k:av aa->aA eN):aA eN:=match iC T n dst v with
 |some T=>k T
 |none=> .ret .no
def Qh (P:Program) (call:bF) (ops:Array Oper) (n:Nat) (o:Oper) (T:av aa) (H:ai) (k:av aa->ai->aA eN):aA eN:=
 Em T ops o (.ret .no) fun b=>match b with
  |false=>Eo T n o.dst (.raw undef) fun T=>k T H
  |true=>(En P call o (cc T) H).bind fun r=>match r with
   | .ok v H=>Eo T n o.dst v fun T=>k T H
   |_=> .ret .no
def Jc (P:Program) (call:bF) (ops:Array Oper) (n:Nat):List Oper->av aa->ai->aA eN
 |[],T,H=> .ret (.mk T H)
 |o::l,T,H=>Qh P call ops n o T H (Jc P call ops n l)
def Jd {β:Type} (P:Program) (o:Oper) (ev:dH) (v:aa) (H:ai) (no k:aA β):aA β:=
 (B1 o.op P o ev H).bind fun r=>match r with
   | .ok v' _=> .must (aa.same v' v) k
   |_=>no
def Je {β:Type} (P:Program) (o:Oper) (ev:dH) (v:aa) (no k:aA β):List ai->aA β
 |[]=>k
 |H::l=>Jd P o ev v H no (Je P o ev v no k l)
def Ep {β:Type} (P:Program) (H:ai) (no k:aA β):List oL->aA β
 |[]=>k
 |q::l=>Jd P q.o (cc q.T) q.v H no (Ep P H no k l)
def Qi (P:Program) (call:bF) (ops:Array Oper) (n:Nat) (o:Oper) (s:fR):aA (Option fR):=
 Em s.T ops o (.ret none) fun b=>match b with
  |false=> .ret (mh n o s (.raw undef) fun T=>{s with i:=s.i+1,T:=T,bK:=s.bK.set s.i (some (level s.bK (cu o)))})
  |true=>match mg P o.op with
   | .p=>(B1 o.op P o (cc s.T) s.cur).bind fun r=>match r with
     | .ok v _=> .ret (mh n o s v fun T=>{s with i:=s.i+1,T:=T,bK:=s.bK.set s.i (some (level s.bK (cu o)))})
     |_=> .ret none
   | .r=>match s.hs with
     |H::_=>(B1 o.op P o (cc s.T) H).bind fun r=>match r with
      | .ok v _=>Je P o (cc s.T) v (.ret none) (.ret (mh n o s v fun T=>{s with i:=s.i+1,T:=T,bK:=s.bK.set s.i (some (level s.bK (cu o))),dz:=⟨s.i,o,s.T,v⟩::s.dz})) (s.hs.take (s.k+1-level s.bK (cu o)))
      |_=> .ret none
     |[]=> .ret none
   | .a=>match eU o.op P o (cc s.T) s.cur with
     | .ok v H=> .ret (mh n o s v fun T=>{s with i:=s.i+1,T:=T,cur:=H,bK:=s.bK.set s.i (some (level s.bK (cu o))),c7:=s.i::s.c7})
     |_=> .ret none
   | .e=>match Nat.beq (level s.bK (cu o)) s.k&&s4 s.c7 (cu o)with
     |true=>(En P call o (cc s.T) s.cur).bind fun r=>match r with
      | .ok v H=>Ep P H (.ret none) (.ret (mh n o s v fun T=>{i:=s.i+1,k:=s.k+1,T:=T,cur:=H,hs:=H::s.hs,bK:=s.bK.set s.i (some (s.k+1)),dz:=jm (cu o) s.dz,c7:=[]})) (jm (cu o) s.dz)
      |_=> .ret none
     |false=> .ret none
   | .b=>match Nat.beq (level s.bK (cu o)) s.k&&s4 s.c7 (cu o)with
     |true=>(En P call o (cc s.T) s.cur).bind fun r=>match r with
      | .ok v H=>Ep P H (.ret none) (.ret (mh n o s v fun T=>{i:=s.i+1,k:=s.k+1,T:=T,cur:=H,hs:=H::s.hs,bK:=s.bK.set s.i (some (s.k+1)),dz:=jm (cu o) s.dz,c7:=[]})) (jm (cu o) s.dz)
      |_=> .ret none
     |false=>match eU o.op P o (cc s.T) s.cur with
      | .ok v H=> .ret (mh n o s v fun T=>{s with i:=s.i+1,T:=T,cur:=H,bK:=s.bK.set s.i (some (level s.bK (cu o))),c7:=s.i::s.c7})
      |_=> .ret none
def Jf (P:Program) (call:bF) (ops:Array Oper) (n:Nat):List Oper->fR->aA eN
 |[],s=> .ret (.mk s.T s.cur)
 |o::l,s=>(Qi P call ops n o s).bind fun r=>match r with
  |some s=>Jf P call ops n l s
  |none=> .ret .no
def Ix (P:Program) (call:bF) (ops:Array Oper) (n:Nat) (T:av aa) (H:ai):aA eN:=
 match qY ops.toList ops.toList 0 with
 |true=>Jf P call ops n ops.toList {i:=0,k:=0,T:=T,cur:=H,hs:=[H],bK:= .nil,dz:=[],c7:=[]}
 |false=> .ret .no
def zD (bl:bF) (call:bF):bF:=fun f args H=>(bl f args H).bind fun r=>match r with
 | .no=>call f args H
 |r=> .ret r
def xx (P:Program) (ih:xw):bF:=fun f args H=>match P.funcs[f]? with
 |some fn=>(match fn.body with
  |some c=>(match Nat.ble args.length fn.ntmps with
   |true=>(ih c fn.ntmps false (fG args .nil 0) H []).bind fun r=>match r with
    | .normal T H m=> .ret (jZ P fn T H m)
    | .ret T H m=> .ret (jZ P fn T H m)
    |_=> .ret .no
   |false=> .ret .no)
  |none=> .ret .no)
 |none=> .ret .no
def aam (m:List Nat) (r:eN):aA R:=match r with
 | .mk T H=> .ret (.normal T H m)
 | .no=> .ret .no
def zE (P:Program) (call:bF) (ih:xw) (c:Code):(n:Nat)->(aK:Bool)->av aa->ai->List Nat->aA R:=fun n aK T H m=>match c with
 | .skip=> .ret (.normal T H m)
 | .label _=> .ret (.normal T H m)
 | .region _ ops d=>(match d with |true=>Ix P call ops n T H|false=>Jc P call ops n ops.toList T H).bind fun r=>aam m r
 | .seq a b=>(ih a n aK T H m).bind fun r=>match r with
   | .normal T H m=>ih b n aK T H m
   |r=> .ret r
 | .cond x a b=>match gq (cc T x)with
   | .mk q=> .ask q fun r=>match r with |true=>ih a n aK T H m|false=>ih b n aK T H m
   | .no=> .ret .no
 | .block id b=>(ih b n aK T H m).bind fun r=>match r with
   | .exit i T H m=>(match Nat.beq i id with |true=> .ret (.normal T H m)|false=> .ret (.exit i T H m))
   |r=> .ret r
 | .exit id=> .ret (.exit id T H m)
 | .scope b=>(ih b n aK T H m).bind fun r=>match r with
   | .goto _ _ _ _=> .ret .no
   |r=> .ret r
 | .goto l=> .ret (.goto l T H m)
 | .ret=> .ret (.ret T H m)
 |_=> .ret .no
def p7 (P:Program) (bl:bF) (fuel:Nat):xw:=
 @Nat.rec (fun _=>xw) (fun _ _ _ _ _ _=> .ret .no) (fun _ ih c=>zE P (zD bl (xx P ih)) ih c) fuel
def bD (bl:bF):er:=fun f args H=>((bl f args H).gr).getD .no
def xy (t:aA eN) (r:eN):Prop:=∀a,t.gr=some a->a≠ .no->r=a
def aan (t:aA R) (r:R):Prop:=∀a,t.gr=some a->a≠ .no->r=a
def aao (t:aA (Option fR)) (r:Option fR):Prop:=∀a,t.gr=some (some a)->r=some a
def ui (vc:bF) (call:er):Prop:=∀f args H,Ref (vc f args H) (call f args H)
theorem mo {α β:Type} {x:aA α} {f:α->aA β} {b:β} (h:(x.bind f).gr=some b):∃a,x.gr=some a/\(f a).gr=some b:=by
 rw [aA.p6]at h;cases hx:x.gr with
 |none=>rw [hx]at h;cases h
 |some a=>rw [hx]at h;exact⟨a,rfl,h⟩
section
variable {P:Program} {call:er} {vc:bF} {round:jC}
theorem Qj {β:Type} {T:av aa} {ops:Array Oper} {o:Oper} {no:aA β} {f:Bool->aA β} {b:β} (h:(Em T ops o no f).gr=some b):no.gr=some b\/∃c,gu T ops o=some c/\(f c).gr=some b:=by
 unfold Em at h;split at h
 .rename_i hg;refine .inr ⟨true, ?_,h⟩;unfold gu;rw [hg]
 .rename_i g hg;have e:gu T ops o=wN T ops g:=by unfold gu;rw [hg]
  rw [e];unfold wN;split at h
  .rename_i d hd;rw [hd];simp only;split at h
   .rename_i q hq;rw [hq];exact .inr ⟨_,rfl,h⟩
   .exact .inl h
   .rename_i h1 h2;refine .inr ⟨false, ?_,h⟩;split
    .rename_i q hq;exact absurd hq (h1 q)
    .rename_i hq;exact absurd hq h2
    .rfl
  .exact .inl h
theorem Jg (hc:ui vc call) {o:Oper} {ev:dH} {H:ai}:Ref (En P vc o ev H) (iO P call round o ev H):=by
 intro a ha hn;obtain⟨r,h1,h2⟩:=mo ha;have hr:r≠ .no->eU o.op P o ev H=r:=rk r h1;unfold iO;cases r with
 |no=>cases h2;exact absurd rfl hn
 |ok v H1=>rw [hr (by simp)];cases h2;rfl
 |enter f args H1=>rw [hr (by simp)];exact hc f args H1 a h2 hn
 |round _ _ _=>cases h2;exact absurd rfl hn
theorem Qk {T:av aa} {n:Nat} {dst:Option Tmp} {v:aa} {k:av aa->aA eN} {k2:av aa->ai->eN} {H:ai} (h:∀T,xy (k T) (k2 T H)):xy (Eo T n dst v k) (pP k2 H (iC T n dst v)):=by
 unfold Eo;cases iC T n dst v with
 |none=>intro a ha hn;cases ha;exact absurd rfl hn
 |some T1=>exact h T1
theorem aap (hc:ui vc call) {ops:Array Oper} {n:Nat} {o:Oper} {T:av aa} {H:ai} {k:av aa->ai->aA eN} {k2:av aa->ai->eN} (h:∀T H,xy (k T H) (k2 T H)):
  xy (Qh P vc ops n o T H k) (wO P call round ops n o T H k2):=by
 intro a ha hn;rcases Qj ha with h1|⟨c,h1,h2⟩
 .cases h1;exact absurd rfl hn
 .unfold wO;rw [h1];cases c with
  |false=>exact Qk (fun T=>h T H) a h2 hn
  |true=>
   obtain⟨r,g1,g2⟩:=mo h2;have hr:r≠ .no->iO P call round o (cc T) H=r:=Jg hc r g1;cases r with
   |no=>cases g2;exact absurd rfl hn
   |ok v H1=>
    simp only;rw [hr (by simp)];exact Qk (fun T=>h T H1) a g2 hn
   |enter _ _ _=>cases g2;exact absurd rfl hn
   |round _ _ _=>cases g2;exact absurd rfl hn
theorem Ql (hc:ui vc call) {ops:Array Oper} {n:Nat}:∀(l:List Oper) (T:av aa) (H:ai),xy (Jc P vc ops n l T H) (wP P call round ops n l T H)
 |[],T,H=>fun a ha _=>by cases ha;rfl
 |o::l,T,H=>aap hc fun T H=>Ql hc l T H
theorem Qm {β:Type} {o:Oper} {ev:dH} {v:aa} {H:ai} {no k:aA β} {b:β} (h:(Jd P o ev v H no k).gr=some b):no.gr=some b\/(oK P o ev v H=true/\k.gr=some b):=by
 obtain⟨r,h1,h2⟩:=mo h;have hr:r≠ .no->eU o.op P o ev H=r:=rk r h1;cases r with
 |ok v' H1=>
  right;simp only [aA.gr]at h2;unfold oK;rw [hr (by simp)];cases hs:aa.same v' v with
  |false=>rw [hs]at h2;cases h2
  |true=>rw [hs]at h2;exact⟨hs,h2⟩
 |no=>exact .inl h2
 |enter _ _ _=>exact .inl h2
 |round _ _ _=>exact .inl h2
theorem Qn {β:Type} {o:Oper} {ev:dH} {v:aa} {no k:aA β} {b:β}:∀{l:List ai},(Je P o ev v no k l).gr=some b->no.gr=some b\/(qZ P o ev v l=true/\k.gr=some b)
 |[],h=> .inr ⟨rfl,h⟩
 |H::l,h=>by
  rcases Qm h with h|⟨h1,h2⟩
  .exact .inl h
  .rcases Qn h2 with h|⟨h3,h4⟩
   .exact .inl h
   .exact .inr ⟨by unfold qZ;rw [h1];exact h3,h4⟩
theorem Jh {β:Type} {H:ai} {no k:aA β} {b:β}:∀{l:List oL},(Ep P H no k l).gr=some b->no.gr=some b\/(hJ P H l=true/\k.gr=some b)
 |[],h=> .inr ⟨rfl,h⟩
 |q::l,h=>by
  rcases Qm h with h|⟨h1,h2⟩
  .exact .inl h
  .rcases Jh h2 with h|⟨h3,h4⟩
   .exact .inl h
   .exact .inr ⟨by unfold hJ;rw [h1];exact h3,h4⟩
theorem aaq (hc:ui vc call) {ops:Array Oper} {n:Nat} {o:Oper} {s:fR}:aao (Qi P vc ops n o s) (np P call round ops n o s):=by
 intro a ha;rcases Qj ha with h1|⟨c,h1,h2⟩
 .cases h1
 .unfold np;simp only [h1];cases c with
  |false=>exact jB h2
  |true=>
   simp only at h2 ⊢;cases hk:mg P o.op with
   |p=>
    rw [hk]at h2;obtain⟨r,g1,g2⟩:=mo h2;have hr:r≠ .no->_=r:=rk r g1;cases r with
    |ok v H1=>simp only;rw [hr (by simp)];exact jB g2
    |no=>cases g2
    |enter _ _ _=>cases g2
    |round _ _ _=>cases g2
   |r=>
    rw [hk]at h2;simp only at h2 ⊢;cases hs:s.hs with
    |nil=>rw [hs]at h2;cases h2
    |cons H l=>
     rw [hs]at h2;simp only at h2 ⊢;obtain⟨r,g1,g2⟩:=mo h2;have hr:r≠ .no->_=r:=rk r g1;cases r with
     |ok v H1=>
      rw [hr (by simp)];simp only at g2 ⊢;rcases Qn g2 with q|⟨q1,aO⟩
      .cases q
      .rw [q1];exact jB aO
     |no=>cases g2
     |enter _ _ _=>cases g2
     |round _ _ _=>cases g2
   |a=>
    rw [hk]at h2;simp only at h2 ⊢;cases hop:eU o.op P o (cc s.T) s.cur with
    |ok v H1=>rw [hop]at h2;exact jB h2
    |no=>rw [hop]at h2;cases h2
    |enter _ _ _=>rw [hop]at h2;cases h2
    |round _ _ _=>rw [hop]at h2;cases h2
   |e=>
    rw [hk]at h2;simp only at h2 ⊢;cases hb:(Nat.beq (level s.bK (cu o)) s.k&&s4 s.c7 (cu o))with
    |false=>rw [hb]at h2;cases h2
    |true=>
     rw [hb]at h2;simp only [cond_true]at h2 ⊢;obtain⟨r,g1,g2⟩:=mo h2;have hr:r≠ .no->iO P call round o (cc s.T) s.cur=r:=Jg hc r g1;cases r with
     |ok v H1=>
      rw [hr (by simp)];simp only at g2 ⊢;rcases Jh g2 with q|⟨q1,aO⟩
      .cases q
      .rw [q1];exact jB aO
     |no=>cases g2
     |enter _ _ _=>cases g2
     |round _ _ _=>cases g2
   |b=>
    rw [hk]at h2;simp only at h2 ⊢;cases hb:(Nat.beq (level s.bK (cu o)) s.k&&s4 s.c7 (cu o))with
    |false=>
     rw [hb]at h2;simp only [cond_false]at h2 ⊢;cases hop:eU o.op P o (cc s.T) s.cur with
     |ok v H1=>rw [hop]at h2;exact jB h2
     |no=>rw [hop]at h2;cases h2
     |enter _ _ _=>rw [hop]at h2;cases h2
     |round _ _ _=>rw [hop]at h2;cases h2
    |true=>
     rw [hb]at h2;simp only [cond_true]at h2 ⊢;obtain⟨r,g1,g2⟩:=mo h2;have hr:r≠ .no->iO P call round o (cc s.T) s.cur=r:=Jg hc r g1;cases r with
     |ok v H1=>
      rw [hr (by simp)];simp only at g2 ⊢;rcases Jh g2 with q|⟨q1,aO⟩
      .cases q
      .rw [q1];exact jB aO
     |no=>cases g2
     |enter _ _ _=>cases g2
     |round _ _ _=>cases g2
theorem Qo (hc:ui vc call) {ops:Array Oper} {n:Nat}:∀(l:List Oper) (s:fR),xy (Jf P vc ops n l s) (xm P call round ops n l s)
 |[],s=>fun a ha _=>by cases ha;rfl
 |o::l,s=>fun a ha hn=>by
  obtain⟨r,h1,h2⟩:=mo ha;cases r with
  |none=>cases h2;exact absurd rfl hn
  |some s1=>
   have:=aaq (P:=P) (round:=round) hc s1 h1;unfold xm;rw [this];exact Qo hc l s1 a h2 hn
theorem aar (hc:ui vc call) {ops:Array Oper} {n:Nat} {T:av aa} {H:ai}:xy (Ix P vc ops n T H) (zu P call round ops n T H):=by
 unfold Ix zu;cases qY ops.toList ops.toList 0 with
 |true=>exact Qo hc _ _
 |false=>intro a ha hn;cases ha;exact absurd rfl hn
theorem aas {bl:bF} (hc:ui vc call):ui (zD bl vc) (uI (bD bl) call):=fun f args H a ha hn=>by
 obtain⟨r,h1,h2⟩:=mo ha;have hS:bD bl f args H=r:=by unfold bD;rw [h1];rfl
 unfold uI;rw [hS];cases r with
 |no=>exact hc f args H a h2 hn
 |ok v H1=>cases h2;rfl
 |enter _ _ _=>cases h2;rfl
 |round _ _ _=>cases h2;rfl
def Er (v:xw) (ih:gL):Prop:=∀c n aK T H m,aan (v c n aK T H m) (ih c n aK T H m)
theorem aat {v:xw} {ih:gL} (hi:Er v ih):ui (xx P v) (mU P ih):=fun f args H a ha hn=>by
 unfold xx at ha;unfold mU;cases hf:P.funcs[f]? with
 |none=>rw [hf]at ha;cases ha;exact absurd rfl hn
 |some fn=>
  rw [hf]at ha;simp only at ha ⊢;cases hb:fn.body with
  |none=>rw [hb]at ha;cases ha;exact absurd rfl hn
  |some c=>
   rw [hb]at ha;simp only at ha ⊢;unfold Hy;cases hl:Nat.ble args.length fn.ntmps with
   |false=>rw [hl]at ha;cases ha;exact absurd rfl hn
   |true=>
    rw [hl]at ha;simp only at ha ⊢;obtain⟨r,h1,h2⟩:=mo ha;have hr:r≠ .no->_=r:=hi _ _ _ _ _ _ r h1;cases r with
    |no=>cases h2;exact absurd rfl hn
    |normal T1 H1 m1=>rw [hr (by simp)];cases h2;rfl
    |exit _ _ _ _=>cases h2;exact absurd rfl hn
    |goto _ _ _ _=>cases h2;exact absurd rfl hn
    |ret T1 H1 m1=>rw [hr (by simp)];cases h2;rfl
theorem zp {bl:bF} {v:xw} {ih:gL} (hi:Er v ih):Er (zE P (zD bl (xx P v)) v) (fun c=>lw c P (nQ P (bD bl)) ih):=by
 have hc:ui (zD bl (xx P v)) (uI (bD bl) (mU P ih)):=aas (aat hi);intro c n aK T H m a ha hn;unfold zE at ha;cases c with
 |skip=>cases ha;rfl
 |label l=>cases ha;rfl
 |region id ops d=>
  simp only at ha;obtain⟨r,h1,h2⟩:=mo ha;have hr:r≠ .no->nQ P (bD bl) d (mU P ih) (sN ih) ops n T H=r:=by
   cases d with
   |true=>exact aar hc r h1
   |false=>exact Ql hc _ _ _ r h1
  show y7 m (nQ P (bD bl) d (mU P ih) (sN ih) ops n T H)=a;cases r with
  |no=>cases h2;exact absurd rfl hn
  |mk T1 H1=>rw [hr (by simp)];cases h2;rfl
 |seq x y=>
  simp only at ha;obtain⟨r,h1,h2⟩:=mo ha;have hr:r≠ .no->ih x n aK T H m=r:=hi _ _ _ _ _ _ r h1;show(@R.rec (fun _=>R) .no (fun T H m=>ih y n aK T H m) .exit .goto .ret (ih x n aK T H m))=a
  cases r with
  |no=>cases h2;exact absurd rfl hn
  |normal T1 H1 m1=>rw [hr (by simp)];exact hi _ _ _ _ _ _ a h2 hn
  |exit _ _ _ _=>rw [hr (by simp)];cases h2;rfl
  |goto _ _ _ _=>rw [hr (by simp)];cases h2;rfl
  |ret _ _ _=>rw [hr (by simp)];cases h2;rfl
 |cond x y z=>
  simp only at ha;show(@mS.rec (fun _=>R) .no (fun b=> @Bool.rec (fun _=>R) (ih z n aK T H m) (ih y n aK T H m) b) (gq (cc T x)))=a
  cases hb:gq (cc T x)with
  |no=>rw [hb]at ha;cases ha;exact absurd rfl hn
  |mk q=>
   rw [hb]at ha;cases q with
   |true=>exact hi _ _ _ _ _ _ a ha hn
   |false=>exact hi _ _ _ _ _ _ a ha hn
 |block id b=>
  simp only at ha;obtain⟨r,h1,h2⟩:=mo ha;have hr:r≠ .no->ih b n aK T H m=r:=hi _ _ _ _ _ _ r h1;show(@R.rec (fun _=>R) .no .normal (fun i T H m=> @Bool.rec (fun _=>R) (.exit i T H m) (.normal T H m) (Nat.beq i id)) .goto .ret (ih b n aK T H m))=a
  cases r with
  |no=>cases h2;exact absurd rfl hn
  |normal _ _ _=>rw [hr (by simp)];cases h2;rfl
  |exit i T1 H1 m1=>
   rw [hr (by simp)];simp only at h2 ⊢;cases hb:Nat.beq i id with
   |true=>rw [hb]at h2;cases h2;rfl
   |false=>rw [hb]at h2;cases h2;rfl
  |goto _ _ _ _=>rw [hr (by simp)];cases h2;rfl
  |ret _ _ _=>rw [hr (by simp)];cases h2;rfl
 |loop b=>cases ha;exact absurd rfl hn
 |rangeFunc f ps x y=>cases ha;exact absurd rfl hn
 |exit id=>cases ha;rfl
 |scope b=>
  simp only at ha;obtain⟨r,h1,h2⟩:=mo ha;have hr:r≠ .no->ih b n aK T H m=r:=hi _ _ _ _ _ _ r h1;show(@R.rec (fun _=>R) .no .normal .exit (fun _ _ _ _=> .no) .ret (ih b n aK T H m))=a
  cases r with
  |no=>cases h2;exact absurd rfl hn
  |normal _ _ _=>rw [hr (by simp)];cases h2;rfl
  |exit _ _ _ _=>rw [hr (by simp)];cases h2;rfl
  |goto _ _ _ _=>cases h2;exact absurd rfl hn
  |ret _ _ _=>rw [hr (by simp)];cases h2;rfl
 |goto l=>cases ha;rfl
 |ret=>cases ha;rfl
 |refuse w=>cases ha;exact absurd rfl hn
theorem Ji {bl:bF}:∀fuel,Er (p7 P bl fuel) (pQ P (nQ P (bD bl)) fuel)
 |0=>fun _ _ _ _ _ _ a ha hn=>by cases ha;exact absurd rfl hn
 |f+1=>zp (Ji f)
end
end
end Go.Proofs.YtibikmmdbdlafaaGreatDoor.Sv
/- The runner over an abstract memory: one state seen as another: slots given up, blocks under other numbers. -/
namespace Go.Proofs.YtibikmmdbdlafaaGreatDoor.Sv
open Go.RowKit
variable [Ground]
noncomputable section
inductive fy where
 |blk (k:bf)
 |opt (e:TypeId) (t:au) (xs:List t.den)
def fy.val:fy->Option bf
 | .blk k=>some k
 | .opt e t xs=>bM e t xs
structure bC where
 n:Nat
 sl:List (Nat×aa)
 bG:List (Nat×fy)
 next:Nat
def Es (n:Nat):av aa:= @Nat.rec (fun _=>av aa) .nil (fun k T=>T.set k (some .bot)) n
def Et (T:av aa) (l:List (Nat×aa)):av aa:= @List.rec (Nat×aa) (fun _=>av aa) T (fun p _ ih=>ih.set p.1 (some p.2)) l
def zF (T:av bf) (l:List (Nat×fy)):av bf:= @List.rec (Nat×fy) (fun _=>av bf) T (fun p _ ih=>ih.set p.1 p.2.val) l
def bC.T (s:bC):av aa:=Et (Es s.n) s.sl
def bC.H (s:bC):ai:=⟨zF .nil s.bG,s.next⟩
abbrev Ren:=List (Nat×Nat×Option Nat)
def look:Ren->Nat->Option (Nat×Option Nat)
 |[],_=>none
 |p::l,j=>cond (Nat.beq p.1 j) (some p.2) (look l j)
def gO (b:Bool) (p:Prop):Prop:=match b with |true=>p|false=>False
def nR (σ:Ren) (j i:Nat):Bool:=cond (Nat.ble (j+1) 64) (Nat.beq i j) (match look σ j with |some (i',none)=>Nat.beq i i'|_=>false)
def oO (t u:au) (xs:List t.den) (ys:List u.den):Prop:=if h:t=u then h ▸ xs=ys else False
def Eu (z z':Bool) (n:Nat) (p:Prop):Prop:=match z',z with
 |true,false=>p/\Nat.ble 1 n=true
 |_,_=>p
def xz:Value->Value->Prop
 | .int k a, .int k' b=>gO (decide (k=k')) (a=b)
 | .bool a, .bool b=>a=b
 | .string a, .string b=>a=b
 |a,b=>a=b
def Qp (mode:Option Nat) (c c':aS):Prop:=match mode with
 |none=>c=c'
 |some m=>c= .known m/\c'=bA m
def zG (σ:Ren) (i n:Nat) (cap:aS) (j n':Nat) (cap':aS):Prop:=match look σ j with
 |some (i',mode)=>gO (Nat.beq i i') (n=n'/\Qp mode cap cap')
 |none=>False
mutual
def uZ (σ:Ren):aa->aa->Prop
 |_, .bot=>True
 | .raw (.slice none 0 0), .bN _ _ _ _ n _=>n=0
 | .raw (.slice none 0 0), .bk _ _ ys=>ys=[]
 | .raw a, .raw b=>xz a b
 | .ptr i off, .ptr j off'=>gO (nR σ j i) (off=off')
 | .slice i off n c, .slice j off' n' c'=>gO (nR σ j i) (off=off'/\n=n'/\c=c')
 | .slice i 0 n c, .bN _ _ j 0 n' c'=>zG σ i n c j n' c'
 | .func f a b, .func f' a' b'=>gO (decide (f=f')) (q5 σ a a'/\q5 σ b b')
 | .map i, .map j=>gO (nR σ j i) True
 | .iface t v, .iface t' v'=>gO (Nat.beq t t') (uZ σ v v')
 | .agg l, .agg l'=>q5 σ l l'
 | .tuple l, .tuple l'=>q5 σ l l'
 | .bk z t xs, .bk z' u ys=>Eu z z' ys.length (oO t u xs ys)
 | .e8 t xs k off, .e8 u ys k' off'=>oO t u xs ys/\k=k'/\off=off'
 | .bN e t i k n c, .bN e' u j k' n' c'=>gO (Nat.beq e e'&&(decide (t=u)&&nR σ j i)) (k=k'/\n=n'/\c=c')
 | .dy e t i k off, .dy e' u j k' off'=>gO (Nat.beq e e'&&(decide (t=u)&&nR σ j i)) (k=k'/\off=off')
 |_,_=>False
def q5 (σ:Ren):List aa->List aa->Prop
 |[],[]=>True
 |v::l,v'::l'=>uZ σ v v'/\q5 σ l l'
 |_,_=>False
end
def q6 (P:Program) (mode:Option Nat) (b:Option bf) (e:TypeId) (t:au) (xs:List t.den):Prop:=match b,mode with
 |some (.own e' u ys),none=>gO (Nat.beq e e') (oO u t ys xs)
 |some (.cells e' cs exact false false),mode=>gO (Nat.beq e e'&&(Nat.beq (P.cellsOf e) t.size&&Nat.ble 1 t.size)) (cs=t.flat xs/\match exact,mode with
  |true,some m=>m=xs.length
  |false,none=>True
  |_,_=>False)
 |_,_=>False
def zH (P:Program) (mode:Option Nat) (b:Option bf) (e:TypeId) (t:au) (xs:List t.den):Prop:=match b with
 |none=>(match mode with |none=>xs=[]|some _=>False)
 |some k=>q6 P mode (some k) e t xs
theorem aau (P:Program) (e:TypeId) (t:au) (xs:List t.den):zH P none (bM e t xs) e t xs:=by
 cases xs with
 |nil=>exact rfl
 |cons x l=>simp [bM,zH,q6,gO,oO]
def zI (P:Program) (σ:Ren) (H:ai) (p:Nat×fy):Prop:=match look σ p.1 with
 |none=>(match p.2 with | .opt _ _ xs=>xs=[]| .blk _=>False)
 |some (i,mode)=>match p.2 with
  | .opt e t xs=>zH P mode (H.get i) e t xs
  | .blk (.own e t xs)=>q6 P mode (H.get i) e t xs
  | .blk (.cells e cs x f r)=>(match H.get i,mode with
    |some (.cells e' cs' x' f' r'),none=>gO (Nat.beq e e'&&(x==x'&&(f==f'&&r==r'))) (q5 σ cs' cs)
    |_,_=>False)
  | .blk _=>False
def nq (σ:Ren) (T:av aa) (K:Prop):List (Nat×aa)->Prop
 |[]=>K
 |p::l=>uZ σ ((T.get p.1).getD (.raw undef)) p.2/\nq σ T K l
def B3 (P:Program) (σ:Ren) (H:ai) (K:Prop):List (Nat×fy)->Prop
 |[]=>K
 |p::l=>zI P σ H p/\B3 P σ H K l
def u0 (σ:Ren) (next:Nat):Bool:=match σ with
 |[]=>true
 |p::l=>Nat.ble 64 p.1&&(Nat.ble (p.1+1) next&&(l.all (fun q=> !Nat.beq q.2.1 p.2.1)&&u0 l next))
def Qq (next:Nat) (l:List (Nat×fy)):Bool:=l.all fun p=>Nat.ble 64 p.1&&Nat.ble (p.1+1) next
def Qr (n:Nat) (l:List (Nat×aa)):Bool:=l.all fun p=>Nat.ble (p.1+1) n
def fit (P:Program) (σ:Ren) (n:Nat) (T:av aa) (H:ai) (s:bC):Prop:=
 gO (Nat.beq s.n n&&(u0 σ s.next&&(Qq s.next s.bG&&(Qr n s.sl&&Nat.ble 64 s.next)))) (nq σ T (B3 P σ H True s.bG) s.sl)
theorem iU {b:Bool} {p:Prop} (h:gO b p):b=true/\p:=by cases b<;>first |exact h.elim|exact⟨rfl,h⟩
theorem u4 {z z':Bool} {n:Nat} {p:Prop} (h:Eu z z' n p):p/\(z'=true->z=true\/n≠0):=by
 cases z' with
 |false=>exact⟨h,fun e=>by cases e⟩
 |true=>
  cases z with
  |true=>exact⟨h,fun _=> .inl rfl⟩
  |false=>exact⟨h.1,fun _=> .inr (by have:=bR h.2;omega)⟩
theorem zJ {t u:au} {xs:List t.den} {ys:List u.den} (h:oO t u xs ys):∃e:t=u,e ▸ xs=ys:=by
 unfold oO at h;split at h
 .exact⟨_,h⟩
 .exact h.elim
theorem Qs {a b:Value} (h:xz a b):a=b:=by
 unfold xz at h;split at h
 .obtain⟨h1,rfl⟩:=iU h;rw [ap h1]
 .rw [h]
 .rw [h]
 .exact h
def ren (σ:Ren) (ρ:Env):Env:=⟨fun j=>if j<64 then ρ j else match look σ j with
 |some (i,mode)=>(match ρ i with |some (b,c)=>some (b,mode.getD c)|none=>none)
 |none=>none,ρ.fz⟩
section
variable {P:Program} {B:Nat} {ρ:Env} {H:ai} {w:World} {σ:Ren}
theorem xA {i j b c:Nat} (h:nR σ j i=true) (hr:ρ i=some (b,c)):ren σ ρ j=some (b,c):=by
 show(if j<64 then ρ j else _)=_;unfold nR at h;cases hb:Nat.ble (j+1) 64 with
 |true=>
  rw [hb]at h;have h:=ac h;subst h;have hlt:i<64:=bR hb;rw [if_pos hlt];exact hr
 |false=>
  rw [hb]at h;have hn:¬j<64:=fun hh=>by rw [fo (show j+1<=64 from hh)]at hb;cases hb
  rw [if_neg hn];simp only [cond_false]at h;split at h
  .rename_i i' hl;have h:=ac h;subst h;rw [hl];simp only [hr];rfl
  .cases h
theorem Den.aav {e:TypeId} {t:au} {i j n n':Nat} {cap cap':aS} {x:Value} (h:zG σ i n cap j n' cap') (hd:Den ρ (.slice i 0 n cap) x) (jq:64<=j):Den (ren σ ρ) (.bN e t j 0 n' cap') x:=by
 unfold zG at h;split at h
 .rename_i i' mode hl;obtain⟨h1,rfl,h3⟩:=iU h;have h1:=ac h1;subst h1;obtain⟨b,c,k,g1,g2,g3,rfl⟩:=hd.gY;have hr:ren σ ρ j=some (b,mode.getD c):=by
   show(if j<64 then ρ j else _)=_;rw [if_neg (by omega),hl];simp only [g1]
  refine HZ hr ?_ g3;unfold Qp at h3;cases mode with
  |none=>subst h3;exact g2
  |some m=>obtain⟨rfl,rfl⟩:=h3;cases m<;>exact g2
 .exact h.elim
theorem aF.split {ρ:Env}:∀{a b:List aa} {ys:List Value},aF ρ (a++b) ys->∃y1 y2,ys=y1++y2/\aF ρ a y1/\aF ρ b y2
 |[],b,ys,h=>⟨[],ys,rfl, .nil,h⟩
 |v::a,b,_, .cons h1 h2=>by
  obtain⟨y1,y2,rfl,h3,h4⟩:=aF.split h2;exact⟨_::y1,y2,rfl, .cons h1 h3,h4⟩
theorem nS {ρ ρ':Env} {t:au} (hc:∀(d:t.den) ys,aF ρ (t.cells d) ys->aF ρ' (t.cells d) ys):∀(xs:List t.den) ys,aF ρ (t.flat xs) ys->aF ρ' (t.flat xs) ys
 |[],ys,h=>by cases h;exact .nil
 |d::xs,ys,h=>by
  rw [au.za]at h ⊢;obtain⟨y1,y2,rfl,h1,h2⟩:=aF.split h;exact(hc d y1 h1).append (nS hc xs y2 h2)
theorem p8 {ρ ρ':Env} (hf:∀b A,ρ.fz b=some A->ρ'.fz b=some A):∀(t:au) (d:t.den) ys,aF ρ (t.cells d) ys->aF ρ' (t.cells d) ys
 | .int _,d,ys,h=>by cases h with |cons h1 h2=>cases h2;rw [h1.b7];exact .cons (.raw _) .nil
 | .bool,d,ys,h=>by cases h with |cons h1 h2=>cases h2;rw [h1.b7];exact .cons (.raw _) .nil
 | .str,d,ys,h=>by cases h with |cons h1 h2=>cases h2;rw [h1.b7];exact .cons (.raw _) .nil
 | .list z t,d,ys,h=>by
   cases h with
   |cons h1 h2=>
    cases h2;refine .cons ?_ .nil;rcases Den.sQ (t:=t) (xs:=d) h1 with⟨e,a,k,rfl,hz⟩|⟨b,off,k,A,g1,g2,g3,g4,rfl,g5⟩
    .have e:d=([]:List t.den):=e;subst e;exact .eV hz
    .exact .bk (hf _ _ g1) g2 rfl (nS (fun d ys=>p8 hf t d ys) _ _ g3) g4 g5
 | .pair a b,d,ys,h=>by
   obtain⟨y1,y2,rfl,h1,h2⟩:=aF.split (a:=a.cells d.1) (b:=b.cells d.2) h;exact(p8 hf a d.1 y1 h1).append (p8 hf b d.2 y2 h2)
 | .ptr t,d,ys,h=>by
   cases h with
   |cons h1 h2=>
    cases h2;refine .cons ?_ .nil;obtain⟨b,o,A,g1,g2,g3,g4,rfl⟩:=Den.zb (t:=t) (xs:=[d]) h1;exact .e8 (hf _ _ g1) g2 rfl (nS (fun d ys=>p8 hf t d ys) _ _ g3) g4
 | .unit,d,ys,h=>by cases h;exact .nil
theorem aF.Ev {t:au} {xs:List t.den} {ys:List Value} (h:aF ρ (t.flat xs) ys):aF (ren σ ρ) (t.flat xs) ys:=nS (ρ:=ρ) (ρ':=ren σ ρ) (fun d ys=>p8 (ρ:=ρ) (ρ':=ren σ ρ) (fun _ _ h=>h) t d ys) xs ys h
mutual
theorem Jj (hk:∀j p,look σ j=some p->64<=j):∀{v v':aa} {x:Value},uZ σ v v'->Den ρ v x->Den (ren σ ρ) v' x:=by
 intro v v' x h hd;unfold uZ at h;split at h
 .exact .bot x
 .subst h;rw [hd.b7];exact .pR
 .subst h;rw [hd.b7];exact .eV fun _=>⟨rfl,rfl⟩
 .rw [hd.b7,Qs h];exact .raw _
 .obtain⟨h1,rfl⟩:=iU h;obtain⟨b,c,g1,rfl⟩:=hd.kz;exact .ptr (xA h1 g1)
 .obtain⟨h1,rfl,rfl,rfl⟩:=iU h;obtain⟨b,c,k,g1,g2,g3,rfl⟩:=hd.gY;exact .slice (xA h1 g1) g2 g3
 .rename_i i n c e t j n' c';refine Den.aav h hd ?_;unfold zG at h;split at h
  .rename_i hl;exact hk _ _ hl
  .exact h.elim
 .obtain⟨h1,h2,h3⟩:=iU h;have h1:=ap h1;subst h1;obtain⟨xs,ys,g1,g2,rfl⟩:=hd.Bt;exact .func (zK hk h2 g1) (zK hk h3 g2)
 .obtain⟨h1,_⟩:=iU h;obtain⟨b,c,g1,rfl⟩:=hd.uJ;exact .map (xA h1 g1)
 .obtain⟨h1,h2⟩:=iU h;rw [<-ac h1];obtain⟨y,g1,rfl⟩:=hd.On;exact .iface (Jj hk h2 g1)
 .obtain⟨xs,g1,rfl⟩:=hd.sO;exact .agg (zK hk h g1)
 .obtain⟨xs,g1,rfl⟩:=hd.Bu;exact .tuple (zK hk h g1)
 .rename_i z t xs z' u ys;obtain⟨h2,h1⟩:=u4 h;obtain⟨e,rfl⟩:=zJ h2;subst e;rcases hd.sQ with⟨rfl,a,k,rfl,hz⟩|⟨b,off,k,A,g1,g2,g3,g4,rfl,g5⟩
  .exact .eV fun e=>(h1 e).elim hz fun hn=>absurd rfl hn
  .refine .bk g1 g2 rfl ?_ g4 fun e=>(h1 e).elim g5 fun hn hxs=>hn (by subst hxs;rfl)
   exact aF.Ev g3
 .rename_i t xs k off u ys k' off';obtain⟨h1,rfl,rfl⟩:=h;obtain⟨e,rfl⟩:=zJ h1;subst e;obtain⟨b,o,A,g1,g2,g3,g4,rfl⟩:=hd.zb;exact .e8 g1 g2 rfl (aF.Ev g3) g4
 .rename_i e t i k n c e' u j k' n' c';obtain⟨h1,rfl,rfl,rfl⟩:=iU h;simp only [ae,bz]at h1;obtain⟨h1,rfl,h3⟩:=h1;rcases hd.jl with⟨rfl,a,rfl⟩|⟨b,c2,kc,g1,g2,g3,rfl⟩
  .exact .pR
  .exact .bN (xA h3 g1) g2 g3
 .rename_i e t i k off e' u j k' off';obtain⟨h1,rfl,rfl⟩:=iU h;simp only [ae,bz]at h1;obtain⟨h1,rfl,h3⟩:=h1;obtain⟨b,c,g1,rfl⟩:=hd.wT;exact .dy (xA h3 g1)
 .exact h.elim
theorem zK (hk:∀j p,look σ j=some p->64<=j):∀{v v':List aa} {x:List Value},q5 σ v v'->aF ρ v x->aF (ren σ ρ) v' x:=by
 intro v v' x h hd;unfold q5 at h;split at h
 .cases hd;exact .nil
 .cases hd with
  |cons h1 h2=>exact .cons (Jj hk h.1 h1) (zK hk h.2 h2)
 .exact h.elim
end
theorem Qt {T:av aa}:∀(l:List (Nat×aa)) (t:Nat),(Et T l).get t=match l.find? (fun p=>Nat.beq p.1 t)with |some p=>some p.2|none=>T.get t
 |[],t=>rfl
 |p::l,t=>by
  show((Et T l).set p.1 (some p.2)).get t=_;rw [av.fQ,List.find?_cons];by_cases h:p.1=t
  .subst h;simp
  .rw [if_neg h,sS h];exact Qt l t
theorem Jk {T:av bf}:∀(l:List (Nat×fy)) (t:Nat),(zF T l).get t=match l.find? (fun p=>Nat.beq p.1 t)with |some p=>p.2.val|none=>T.get t
 |[],t=>rfl
 |p::l,t=>by
  show((zF T l).set p.1 p.2.val).get t=_;rw [av.fQ,List.find?_cons];by_cases h:p.1=t
  .subst h;simp
  .rw [if_neg h,sS h];exact Jk l t
theorem zr:∀(n t:Nat),(Es n).get t=if t<n then some .bot else none
 |0,t=>av.get_nil t
 |n+1,t=>by
  show((Es n).set n (some .bot)).get t=_;rw [av.fQ,zr n t];by_cases h:n=t
  .subst h;simp
  .rw [if_neg h];by_cases h2:t<n
   .rw [if_pos h2,if_pos (by omega)]
   .rw [if_neg h2,if_neg (by omega)]
theorem Jl {T:av aa} {K:Prop}:∀{l:List (Nat×aa)},nq σ T K l->K/\∀p∈l,uZ σ ((T.get p.1).getD (.raw undef)) p.2
 |[],h=>⟨h,fun _ h=>by cases h⟩
 |p::l,h=>by
  obtain⟨h1,h2⟩:=Jl h.2;refine⟨h1,fun q hq=> ?_⟩;rcases dV.1 hq with rfl |hq
  .exact h.1
  .exact h2 q hq
theorem Jm {K:Prop}:∀{l:List (Nat×fy)},B3 P σ H K l->K/\∀p∈l,zI P σ H p
 |[],h=>⟨h,fun _ h=>by cases h⟩
 |p::l,h=>by
  obtain⟨h1,h2⟩:=Jm h.2;refine⟨h1,fun q hq=> ?_⟩;rcases dV.1 hq with rfl |hq
  .exact h.1
  .exact h2 q hq
theorem ib {next:Nat}:∀{σ:Ren},u0 σ next=true->∀{j i:Nat} {m:Option Nat},look σ j=some (i,m)->64<=j/\j<next
 |[],_,j,i,m,h=>by cases h
 |p::l,ho,j,i,m,h=>by
  simp only [u0,ae]at ho;obtain⟨h1,h2,_,h4⟩:=ho;unfold look at h;cases hb:Nat.beq p.1 j with
  |true=>
   have:=ac hb;subst this;exact⟨bR h1,bR h2⟩
  |false=>rw [hb]at h;exact ib h4 h
theorem zt:∀{σ:Ren} {j i:Nat} {m:Option Nat},look σ j=some (i,m)->(j,i,m)∈σ
 |[],j,i,m,h=>by cases h
 |p::l,j,i,m,h=>by
  unfold look at h;cases hb:Nat.beq p.1 j with
  |true=>
   rw [hb]at h;have:=ac hb;subst this;have e:=jB h;rw [<-e];exact k7
  |false=>rw [hb]at h;exact k6 _ (zt h)
theorem Qu {next:Nat}:∀{σ:Ren},u0 σ next=true->∀{j j' i:Nat} {m m':Option Nat},look σ j=some (i,m)->look σ j'=some (i,m')->j=j'
 |[],_,j,j',i,m,m',h,_=>by cases h
 |p::l,ho,j,j',i,m,m',h,h'=>by
  simp only [u0,ae]at ho;obtain⟨_,_,h3,h4⟩:=ho;have key:∀{x:Nat} {mx:Option Nat},look l x=some (i,mx)->p.2.1≠i:=fun hx e=>by
   have:=List.all_eq_true.1 h3 _ (zt hx);rw [e]at this;simp at this
  unfold look at h h';cases hb:Nat.beq p.1 j<;>cases hb':Nat.beq p.1 j'<;>rw [hb]at h<;>rw [hb']at h'<;>simp only [cond_true,cond_false]at h h'
  .exact Qu h4 h h'
  .exact absurd (congrArg Prod.fst (jB h')) (key h)
  .exact absurd (congrArg Prod.fst (jB h)) (key h')
  .rw [<-ac hb,<-ac hb']
theorem Jn {j i b c:Nat} {mode:Option Nat} (hl:look σ j=some (i,mode)) (jq:64<=j) (hr:ρ i=some (b,c)):ren σ ρ j=some (b,mode.getD c):=by
 show(if j<64 then ρ j else _)=_;rw [if_neg (by omega),hl];simp only [hr]
theorem aaw {e:TypeId} {t:au} {xs:List t.den} {k:bf} (h:bM e t xs=some k):k= .own e t xs:=by
 cases xs with
 |nil=>cases h
 |cons x l=>cases h;rfl
theorem Qv {mode:Option Nat} {e:TypeId} {t:au} {xs:List t.den} {i j:Nat} (h:q6 P mode (H.get i) e t xs) (hH:aX P B ρ H w) (hl:look σ j=some (i,mode)) (jq:64<=j):
  ∃k b c o,H.get i=some k/\ρ i=some (b,c)/\w.heap[b]? =some o/\ren σ ρ j=some (b,mode.getD c)/\gv P (ren σ ρ) j (.own e t xs) o/\k.eF=false/\(k.eF=false->B<=b):=by
 unfold q6 at h;split at h
 .rename_i e' u ys hi;obtain⟨h1,h2⟩:=iU h;have h1:=ac h1;obtain⟨e0,h2⟩:=zJ h2;subst h1;subst e0;subst h2;obtain⟨b,c,o,g1,g2,⟨⟨zs,fz,k1,k2,dB,l8,oJ⟩,w5,Ew⟩,g4⟩:=hH.blk i _ hi;have hr:=Jn hl jq g1;refine⟨_,b,c,o,hi,g1,g2,hr,⟨⟨zs,fz,k1,k2,aF.Ev dB,l8,fun hx=> ?_⟩,w5,Ew⟩,rfl,g4⟩;obtain⟨b',c',q1,aO⟩:=oJ hx;rw [g1]at q1;cases q1;exact⟨b,c,hr,aO⟩
 .rename_i e' cs O8 m hi;obtain⟨h1,h2,h3⟩:=iU h;simp only [ae]at h1;obtain⟨h1,h4,h5⟩:=h1;have h1:=ac h1;have h4:=ac h4;have h5:=bR h5;subst h1;subst h2;obtain⟨b,c,o,g1,g2,⟨zs,fz,k1,k2,dB,l8,oJ⟩,g4⟩:=hH.blk i _ hi;have hr:=Jn hl jq g1;refine⟨_,b,c,o,hi,g1,g2,hr,⟨⟨zs,fz,k1,k2,aF.Ev dB,(fun hx=>by cases hx),fun _=> ?_⟩,h4,h5⟩,rfl,g4⟩;split at h3
  .subst h3;exact⟨b,_,hr,by rw [l8 rfl,t.iP,h4];rfl⟩
  .obtain⟨b',c',q1,aO⟩:=oJ rfl;rw [g1]at q1;cases q1;exact⟨b,c,hr,aO⟩
  .exact h3.elim
 .exact h.elim
theorem va (hH:aX P B ρ H w) {s:bC} (hr:u0 σ s.next=true) (he:∀p∈s.bG,zI P σ H p) {j:Nat} {k':bf} (hj:s.H.get j=some k'):
  ∃i mode k b c o,look σ j=some (i,mode)/\64<=j/\j<s.next/\H.get i=some k/\ρ i=some (b,c)/\w.heap[b]? =some o/\ren σ ρ j=some (b,mode.getD c)/\gv P (ren σ ρ) j k' o/\k'.eF=k.eF/\(k.eF=false->B<=b):=by
 have hj:(zF .nil s.bG).get j=some k':=hj;rw [Jk]at hj;split at hj
 .rename_i p hp;have hm:=List.mem_of_find?_eq_some hp;have aax:p.1=j:=ac (List.find?_some (p:=fun(q:Nat×fy)=>Nat.beq q.1 j) hp);have fI:=he p hm;unfold zI at fI;rw [aax]at fI;split at fI
  .split at fI
   .rename_i e t xs hp2;rw [hp2,fI]at hj;cases hj
   .exact fI.elim
  .rename_i i mode hl;obtain⟨l1,l2⟩:=ib hr hl;refine⟨i,mode, ?_⟩;split at fI
   .rename_i e t xs hp2;rw [hp2]at hj;have fI:q6 P mode (H.get i) e t xs:=by
     unfold zH at fI;split at fI
     .split at fI
      .subst fI;cases hj
      .exact fI.elim
     .rename_i hi;rw [hi];exact fI
    obtain rfl:=aaw hj;obtain⟨k,b,c,o,q1,aO,bZ,ei,p9,qa,qb⟩:=Qv fI hH hl l1;exact⟨k,b,c,o,hl,l1,l2,q1,aO,bZ,ei,p9,qa.symm,qb⟩
   .rename_i e t xs hp2;rw [hp2]at hj;cases hj;obtain⟨k,b,c,o,q1,aO,bZ,ei,p9,qa,qb⟩:=Qv fI hH hl l1;exact⟨k,b,c,o,hl,l1,l2,q1,aO,bZ,ei,p9,qa.symm,qb⟩
   .rename_i e cs x f r hp2;rw [hp2]at hj;cases hj;split at fI
    .rename_i e' cs' x' f' r' hi;obtain⟨h1,h2⟩:=iU fI;simp only [ae,fU]at h1;obtain⟨h1,h3,h4,h5⟩:=h1;have h1:=ac h1;subst h1;subst h3;subst h4;subst h5;obtain⟨b,c,o,g1,g2,⟨zs,fz,k1,k2,dB,l8,oJ⟩,g4⟩:=hH.blk i _ hi;have gx:=Jn hl l1 g1;have hd:=zK (fun j p hq=>(ib hr (j:=j) (i:=p.1) (m:=p.2) hq).1) h2 dB;have hlen:cs'.length=cs.length:=by
      have e1:=dB.length;have e2:=hd.length;omega
     refine⟨_,b,c,o,hl,l1,l2,hi,g1,g2,gx,⟨zs,fz,k1,k2,by rw [<-hlen];exact hd,fun hx=>by rw [l8 hx,hlen],fun hx=> ?_⟩,rfl,g4⟩;obtain⟨b',c',q1,aO⟩:=oJ hx;rw [g1]at q1;cases q1;exact⟨b,c,gx,aO⟩
    .exact fI.elim
   .exact fI.elim
 .rw [av.get_nil]at hj;cases hj
theorem PQ {n:Nat} {T:av aa} {a:Act} {s:bC} (aN:ew P B ρ n T H a w) (h:fit P σ n T H s):ew P B (ren σ ρ) n s.T s.H a w/\∀i,s.next<=i->ren σ ρ i=none:=by
 obtain⟨h1,h2⟩:=iU h;simp only [ae]at h1;obtain⟨h1,h3,h4,h5,h6⟩:=h1;have h1:=ac h1;have h6:=bR h6;obtain⟨h7,h8⟩:=Jl h2;obtain⟨_,h9⟩:=Jm h7;have old:=fun {j:Nat} {k':bf} (hj:s.H.get j=some k')=>va aN.H h3 h9 hj
 refine⟨⟨⟨aN.T.size,fun t=> ?_⟩,⟨fun j k' hj=> ?_,fun j1 j2 k1 k2 b c1 c2 aay hj2 r1 r2=> ?_,fun j k' hj=> ?_,aN.H.base,fun b A hb=>⟨(aN.H.fz b A hb).1,fun j k' c hj hr=> ?_⟩⟩,⟨fun g hg=> ?_,aN.G.zk⟩⟩,fun i hi=> ?_⟩
 .have e:s.T=Et (Es s.n) s.sl:=rfl;rw [e,Qt];split
  .rename_i p hp;have hm:=List.mem_of_find?_eq_some hp;have hpt:p.1=t:=ac (List.find?_some (p:=fun(q:Nat×aa)=>Nat.beq q.1 t) hp);have:=aN.T.get p.1;rw [hpt]at this;have hv:=h8 p hm;rw [hpt]at hv;exact Jj (fun j q hq=>(ib h3 (j:=j) (i:=q.1) (m:=q.2) hq).1) hv this
  .rw [zr,h1];by_cases ht:t<n
   .rw [if_pos ht];exact .bot _
   .rw [if_neg ht];have:a.tmps.getD t undef=undef:=by
     rw [Array.getD_eq_getD_getElem?,Array.getElem?_eq_none (by rw [aN.T.size];omega)];rfl
    rw [this];exact .raw _
 .obtain⟨i,mode,k,b,c,o,q1,aO,bZ,ei,p9,qa,qb,Jo,B4,Jp⟩:=old hj;exact⟨b,_,o,qb,qa,Jo,fun e=>Jp (B4 ▸ e)⟩
 .obtain⟨i1,m1,aaz,b1,d1,o1,p1,p2,p3,ek,kH,oP,xB,_⟩:=old aay;obtain⟨i2,m2,aaA,b2,d2,o2,q1,aO,bZ,ei,p9,qa,qb,_⟩:=old hj2;rw [xB]at r1;cases r1;rw [qb]at r2;cases r2;have:=aN.H.inj i1 i2 aaz aaA b d1 d2 ek ei kH p9;subst this;exact Qu h3 p1 q1
 .obtain⟨i,mode,k,b,c,o,q1,aO,bZ,_⟩:=old hj;exact bZ
 .obtain⟨i,mode,k,b',c',o,q1,aO,bZ,ei,p9,qa,qb,Jo,B4,Jp⟩:=old hj;rw [qb]at hr;cases hr;rw [B4];exact(aN.H.fz b A hb).2 i k c' ei p9
 .obtain⟨c,hc⟩:=aN.G.at' g hg;refine⟨c, ?_⟩;show(if g<64 then ρ g else _)=_;rw [if_pos hg];exact hc
 .show(if i<64 then ρ i else _)=_;rw [if_neg (by omega)];cases hl:look σ i with
  |none=>rfl
  |some p=>exact absurd (ib h3 (j:=i) (i:=p.1) (m:=p.2) hl).2 (by omega)
theorem Qw {n:Nat} {T:av aa} {a:Act} {s:bC} (aN:ew P B ρ n T H a w) (h:fit P σ n T H s) {b:Nat} (hb:Own (ren σ ρ) s.H b):Own ρ H b:=by
 obtain⟨h1,h2⟩:=iU h;simp only [ae]at h1;obtain⟨_,h3,_⟩:=h1;obtain⟨h7,_⟩:=Jl h2;obtain⟨_,h9⟩:=Jm h7;obtain⟨j,k',c',hj,hro,hr⟩:=hb;obtain⟨i,mode,k,b',d,o,q1,aO,bZ,ei,p9,qa,qb,Jo,B4,Jp⟩:=va aN.H h3 h9 hj;rw [qb]at hr;cases hr;exact⟨i,k,_,ei,by rw [<-hro,B4],p9⟩
end
end
end Go.Proofs.YtibikmmdbdlafaaGreatDoor.Sv
