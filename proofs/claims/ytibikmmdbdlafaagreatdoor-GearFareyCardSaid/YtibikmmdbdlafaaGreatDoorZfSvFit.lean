import Derived.Test.YtibikmmdbdlafaaGreatDoorZfSvDraw6
set_option linter.defProp false
set_option linter.unusedSectionVars false
set_option linter.unusedSimpArgs false
namespace Go.Proofs.YtibikmmdbdlafaaGreatDoor.Sv
open Go.RowKit
def at4 (r:aM):Bool:=match r with | .ok (.raw (.bool b)) _=>b|_=>false
end Go.Proofs.YtibikmmdbdlafaaGreatDoor.Sv
namespace Go.Proofs.YtibikmmdbdlafaaGreatDoor.Sv
noncomputable section
inductive aD (α:Type) where
 |ret (a:α)
 |must (b:Bool) (k:aD α)
 |ask (b:Bool) (k:Bool->aD α)
 |opt (b:Bool) (k l:aD α)
def aD.gr {α:Type}:aD α->Option α
 | .ret a=>some a
 | .must b k=>cond b k.gr none
 | .ask b k=>(k b).gr
 | .opt b k l=>cond b k.gr l.gr
def aD.bind {α β:Type} (x:aD α) (f:α->aD β):aD β:=match x with
 | .ret a=>f a
 | .must b k=> .must b (k.bind f)
 | .ask b k=> .ask b fun c=>(k c).bind f
 | .opt b k l=> .opt b (k.bind f) (l.bind f)
def aD.path {α:Type}:aD α->List Bool->(α->Prop)->Prop
 | .ret a,_,Q=>Q a
 | .must b k,D,Q=>b=true/\k.path D Q
 | .ask b k,[],Q=>(k b).path [] Q
 | .ask b k,c::D,Q=>b=c/\(k c).path D Q
 | .opt b k _,D,Q=>b=true/\k.path D Q
def aD.tU {α:Type}:aD α->List Bool->(α->Prop)->Prop
 | .ret a,_,Q=>Q a
 | .must b k,D,Q=>b=true/\k.tU D Q
 | .ask b k,[],Q=>(k b).tU [] Q
 | .ask b k,c::D,Q=>b=c/\(k c).tU D Q
 | .opt b _ l,D,Q=>b=false/\l.tU D Q
def aD.qz {α β:Type}:∀(x:aD α) (f:α->aD β),(x.bind f).gr=x.gr.bind fun a=>(f a).gr
 | .ret a,f=>rfl
 | .must b k,f=>by cases b<;>simp [aD.bind,aD.gr,aD.qz k f]
 | .ask b k,f=>by simp [aD.bind,aD.gr,aD.qz (k b) f]
 | .opt b k l,f=>by cases b<;>simp [aD.bind,aD.gr,aD.qz k f,aD.qz l f]
def aD.tV {α:Type} {Q:α->Prop}:∀(x:aD α) (D:List Bool),x.path D Q->∃a,x.gr=some a/\Q a
 | .ret a,D,h=>⟨a,rfl,h⟩
 | .must b k,D,h=>by
   obtain⟨h1,h2⟩:=h;subst h1;exact tV k D h2
 | .ask b k,[],h=>tV (k b) [] h
 | .ask b k,c::D,h=>by
   obtain⟨h1,h2⟩:=h;subst h1;exact tV (k b) D h2
 | .opt b k l,D,h=>by
   obtain⟨h1,h2⟩:=h;subst h1;exact tV k D h2
def aD.Cy {α:Type} {Q:α->Prop}:∀(x:aD α) (D:List Bool),x.tU D Q->∃a,x.gr=some a/\Q a
 | .ret a,D,h=>⟨a,rfl,h⟩
 | .must b k,D,h=>by
   obtain⟨h1,h2⟩:=h;subst h1;exact Cy k D h2
 | .ask b k,[],h=>Cy (k b) [] h
 | .ask b k,c::D,h=>by
   obtain⟨h1,h2⟩:=h;subst h1;exact Cy (k b) D h2
 | .opt b k l,D,h=>by
   obtain⟨h1,h2⟩:=h;subst h1;exact Cy l D h2
abbrev pg:=Program->Oper->dJ->ai->aD aM
def fits (k:IntKind) (r:Int):Bool:=decide (k.min<=r)&&decide (r<=k.max)
def yr (k:IntKind) (r:Int) (H:ai):aD aM:=match k.signed with
 |true=> .opt (fits k r) (.ret (.ok (.raw (.int k r)) H)) (.ret (.ok (.raw (.int k (k.wrap r))) H))
 |false=> .ret (.ok (.raw (.int k (k.wrap r))) H)
def RX (op:BinOp) (k:IntKind) (a b:Int) (H:ai):Option (aD aM):=match op with
 | .add=>some (yr k (a+b) H)
 | .sub=>some (yr k (a-b) H)
 | .mul=>some (yr k (a*b) H)
 | .quo=>some (.must (decide (b≠0)) (yr k (a.tdiv b) H))
 | .rem=>some (.must (decide (b≠0)) (.ret (.ok (.raw (.int k (a.tmod b))) H)))
 | .eql=>some (.ret (.ok (.raw (.bool (a==b))) H))
 | .neq=>some (.ret (.ok (.raw (.bool (a != b))) H))
 | .lss=>some (.ret (.ok (.raw (.bool (decide (a<b)))) H))
 | .leq=>some (.ret (.ok (.raw (.bool (decide (a<=b)))) H))
 | .gtr=>some (.ret (.ok (.raw (.bool (decide (a>b)))) H))
 | .geq=>some (.ret (.ok (.raw (.bool (decide (a>=b)))) H))
 |_=>none
def Kn (op:BinOp) (t:TypeId) (x y:Operand) (ah:TypeId):pg:=fun P o ev H=>match iG (ev x),iG (ev y)with
 | .int k a, .int k' b=>(match k==k' with
   |true=>(match RX op k a b H with |some r=>r|none=> .ret (ag H (oT P o ev op k k' a b)))
   |false=> .ret .no)
 |_,_=> .ret (iU op t x y ah P o ev H)
def Ko (c a b:Operand):pg:=fun _ _ ev H=>match gI (ev c)with
 | .mk q=> .ask q fun r=>match r with |true=> .ret (.ok (ev a) H)|false=> .ret (.ok (ev b) H)
 | .no=> .ret .no
def xR (v:af) (f:Nat->aD aM):aD aM:=match iG v with
 | .int _ z=> .must (decide (0<=z)) (f z.toNat)
 | .no=> .ret .no
def Kq (k s:Nat) (x:af) (H:ai):aD aM:=match x with
 | .bt _ t xs=>(match Nat.beq t.size s with
   |true=> .must (decide (k<xs.length)) (.ret (.ok (.ff t xs k 0) H))
   |false=> .ret .no)
 | .bT e t i k0 len _=>(match Nat.beq t.size s with
   |true=> .must (decide (k<len)) (.ret (.ok (.dA e t i (k0+k) 0) H))
   |false=> .ret .no)
 |_=> .ret .no
def Kr:af->Bool
 | .bt _ _ _=>true
 | .bT _ _ _ _ _ _=>true
 |_=>false
def Ks (t:TypeId) (x ix:Operand):pg:=fun P o ev H=>match Kr (ev x),nR P t with
 |true, .sl s=>xR (ev ix) fun k=>Kq k s (ev x) H
 |_,_=> .ret (mV t x ix P o ev H)
def RY (P:Program) (t:TypeId) (x:af) (H:ai) (d:aM):aD aM:=match x with
 | .dA e u i k off=> .must (bz e u (H.get i) k) (.ret (ag H (oR P t (elemAt u (bQ u (H.get i)) k) off)))
 |_=> .ret d
def Kt (t:TypeId) (x:Operand):pg:=fun P o ev H=>RY P t (ev x) H (nU t x P o ev H)
def RZ (P:Program) (t:TypeId) (x y:af) (H:ai) (d:aM):aD aM:=match x with
 | .dA e u i k off=> .must (bz e u (H.get i) k) (match eU y.cells&&tv P t y.cells.length with
   |true=>(match(ls (elemAt u (bQ u (H.get i)) k) off y.cells).bind u.read with
    |some d=> .ret (.ok (.raw undef) (H.set i (.own e u ((bQ u (H.get i)).set k d))))
    |none=> .ret .no)
   |false=> .ret .no)
 |_=> .ret d
def Ku (t:TypeId) (x y:Operand):pg:=fun P o ev H=>RZ P t (ev x) (ev y) H (qf t x y P o ev H)
def z8 (v:Option af) (d:Nat) (f:Nat->aD aM):aD aM:=match v with
 |none=>f d
 |some v=>xR v f
def Fg (P:Program) (e:TypeId) (s n:Nat) (lo hi mx:Option af) (_:ai) (k:Nat->Nat->aD aM):aD aM:=
 match mx with
 |none=>(match en P e with
  |some s'=>(match Nat.beq s s' with
   |true=>z8 hi n fun h=>z8 lo 0 fun l=> .must (decide (l<=h)) (.must (decide (h<=n)) (k l h))
   |false=> .ret .no)
  |none=> .ret .no)
 |_=> .ret .no
def R1 (P:Program) (t:TypeId) (x:af) (lo hi mx:Option af) (H:ai) (d:aM):aD aM:=match P.underlying t,x with
 |some (.slice e), .bt _ u xs=>Fg P e u.size xs.length lo hi mx H fun l h=> .ret (.ok (.bt false u ((xs.take h).drop l)) H)
 |some (.slice e), .bT e' u i k len cap=>Fg P e u.size len lo hi mx H fun l h=> .ask (Nat.beq l 0) fun c=>match c with
  |true=> .ret (.ok (.bT e' u i k h cap) H)
  |false=> .ask (decide (l<h)) fun c=>match c with
   |true=> .ret (.ok (.bT e' u i (k+l) (h-l) .any) H)
   |false=> .ret (.ok (.bt false u []) H)
 |_,_=> .ret d
def Kv (t:TypeId) (x:Operand) (lo hi mx:Option Operand):pg:=fun P o ev H=>match Kr (ev x)with
 |true=>R1 P t (ev x) (lo.map ev) (hi.map ev) (mx.map ev) H .no
 |false=> .ret (ib t x lo hi mx P o ev H)
def Kw (H:ai) (ty:av) (s:Nat) (x:af) (f:List ty.den->Nat->aD aM):aD aM:=match x with
 | .bT e u j k len _=>(match decide (u=ty)with
   |true=> .must (Nat.beq len 0||bz e ty (H.get j) (k+len-1)) (f (((bQ ty (H.get j)).drop k).take len) len)
   |false=> .ret .no)
 |x=>match zw H ty s x with |some (ds,n)=>f ds n|none=> .ret .no
def Cz (P:Program) (t:TypeId) (e:TypeId) (ty:av) (i k len:Nat) (cap:aZ) (sk:Bool) (x:af) (H:ai):aD aM:=
 match ik P t with
 |some el=>(match P.info? el with
  |some inf=>(match inf.zero with
   |some z=>(match Nat.beq z.cells.size inf.size&&Nat.ble 1 inf.size&&Nat.beq el e&&Nat.beq ty.size inf.size with
    |true=> .must (Nat.beq k 0) (Kw H ty inf.size x fun ds n=> .ask (Nat.beq n 0) fun c=>match c with
     |true=> .ret (.ok (.bT e ty i k len cap) (cond sk H.skip H))
     |false=> .must (wi e ty (H.get i) len cap) (.must (bounded (len+n) inf.bytes)
       (.ret (.ok (.bT e ty H.next 0 (len+n) .full) ((H.drop i).new (.own e ty (bQ ty (H.get i)++ds)))))))
    |false=> .ret .no)
   |none=> .ret .no)
  |none=> .ret .no)
 |none=> .ret .no
def aco:af->Bool
 | .bT _ _ _ _ _ _=>true
 |_=>false
def Fh (P:Program) (t:TypeId) (s x:af) (H:ai) (d:aM):aD aM:=match s with
 | .bT e ty i k len cap=>(match xg ty x H with
   |some (b,H')=> .must b (Cz P t e ty i k len cap false x H')
   |none=>Cz P t e ty i k len cap false x H)
 |s=>match x with
  | .bt z ty ys=>(match Ew s with
    |true=>(match ik P t with
     |some e=>Cz P t e ty H.next 0 0 (.known 0) true (.bt z ty ys) H
     |none=> .ret .no)
    |false=> .ret .no)
  |_=> .ret d
def R2 (P:Program) (pt:TypeId) (x n:af) (H:ai) (d:aM):aD aM:=match x with
 | .dA e' u i 0 0=>(match EE P pt e' u with
   |true=>(match n with
    | .raw (.int .i64 (.ofNat n))=> .must (Nat.ble 1 n) (.must (Nat.ble n 140737488355328) (.must (bz e' (.int .u8) (H.get i) (n-1)) (.must (I9 ((bQ (.int .u8) (H.get i)).take n))
      (.ret (.ok (.raw (.string (oX ((bQ (.int .u8) (H.get i)).take n)))) (H.drop i))))))
    |_=> .ret .no)
   |false=> .ret .no)
 |_=> .ret d
def Ky (c:Call):pg:=fun P o ev H=>match c.callee,c.args.toList.map ev,c.argTypes.toList with
 | .builtin .append,[s,x],[t,t']=>(match P.underlying t' with
   |some (.slice _)=>Fh P t s x H (iV c P o ev H)
   |some .string=>(match aco s with
    |true=>Fh P t s x H (iV c P o ev H)
    |false=> .ret (iV c P o ev H))
   |_=> .ret (iV c P o ev H))
 | .builtin .unsafeString,[x,n],[pt,_]=>R2 P pt x n H (iV c P o ev H)
 | .builtin .unsafeSliceData,[.bT e u i k len _],_=> .must (Nat.ble 1 len) (.ret (.ok (.dA e u i k 0) H))
 |_,_,_=> .ret (iV c P o ev H)
def Kz (t:TypeId) (l c:Operand):pg:=fun P _ ev H=>match ik P t with
 |some e=>(match P.info? e with
  |some inf=>(match inf.zero with
   |some z=>xR (ev l) fun n=>xR (ev c) fun m=>(match Nat.ble 1 inf.size&&Nat.beq z.cells.size inf.size with
    |true=> .must (decide (n<=m)) (.must (bounded m inf.bytes) (.ret (.ok (.slice H.next 0 n (.known m)) (H.new (.cells e (List.replicate m (ig z.cells)).flatten true false false)))))
    |false=> .ret .no)
   |none=> .ret .no)
  |none=> .ret .no)
 |none=> .ret .no
def Fi (s:AT) (k:Nat):Int:=((s.data.toList.getD k 0).toNat:Nat)
def Aa (a b:AT):Bool:=decide (a.data.toList=b.data.toList)
def Ab (v:af):Option AT:=match v with
 | .raw (.string s)=>some s
 |_=>none
def KA (t:TypeId) (x ix:Operand):pg:=fun P o ev H=>match Ab (ev x)with
 |some s=>(match P.underlying t with
  |some .string=>xR (ev ix) fun k=> .must (decide (k<s.size)) (.ret (.ok (.raw (.int .u8 (Fi s k))) H))
  |_=> .ret .no)
 |none=> .ret (l5 t x ix P o ev H)
def R3 (P:Program) (t:TypeId) (s:AT) (lo hi mx:Option af) (H:ai):aD aM:=match P.underlying t,mx with
 |some .string,none=>z8 hi s.size fun h=>z8 lo 0 fun l=> .must (decide (l<=h)) (.must (decide (h<=s.size)) (.ret (.ok (.raw (.string (s.extract l h))) H)))
 |_,_=> .ret .no
def KB (t:TypeId) (x:Operand) (lo hi mx:Option Operand):pg:=fun P o ev H=>match Ab (ev x)with
 |some s=>R3 P t s (lo.map ev) (hi.map ev) (mx.map ev) H
 |none=>Kv t x lo hi mx P o ev H
def R4 (op:BinOp) (a b:AT) (H:ai) (d:aM):aD aM:=match op with
 | .add=> .must (decide (a.size+b.size<=9223372036854775807)) (.ret (.ok (.raw (.string (a++b))) H))
 | .eql=> .ret (.ok (.raw (.bool (Aa a b))) H)
 | .neq=> .ret (.ok (.raw (.bool (!Aa a b))) H)
 |_=> .ret d
def acp:BinOp->Bool
 | .shl=>true
 | .shr=>true
 |_=>false
def acq (op:BinOp) (k:IntKind) (a b:Int) (H:ai):aD aM:= .must (decide (0<=b)) (match op with
 | .shl=> .ret (.ok (.raw (.int k (k.wrap (a*2^(min b.toNat k.bits))))) H)
 | .shr=> .ret (.ok (.raw (.int k (a.fdiv (2^(min b.toNat k.bits))))) H)
 |_=> .ret .no)
def KC (op:BinOp) (t:TypeId) (x y:Operand) (ah:TypeId):pg:=fun P o ev H=>match Ab (ev x),Ab (ev y)with
 |some a,some b=>R4 op a b H (iU op t x y ah P o ev H)
 |_,_=>(match acp op,iG (ev x),iG (ev y)with
  |true, .int k a, .int _ b=>acq op k a b H
  |_,_,_=>Kn op t x y ah P o ev H)
def CA (op:Op):pg:=match op with
 | .binOp op t x y ah=>KC op t x y ah
 | .pick c a b=>Ko c a b
 | .indexAddr t x ix=>Ks t x ix
 | .load t x=>Kt t x
 | .store t x y=>Ku t x y
 | .slice t x lo hi mx=>KB t x lo hi mx
 | .index t x ix=>KA t x ix
 | .call c=>Ky c
 | .makeSlice t l c=>Kz t l c
 |op=>fun P o ev H=> .ret (e5 op P o ev H)
def Ref (t:aD aM) (r:aM):Prop:=∀a,t.gr=some a->a≠ .no->r=a
def Ref.ret {r:aM}:Ref (.ret r) r:=fun a h _=>by cases h;rfl
def Ref.no {r:aM}:Ref (.ret .no) r:=fun a h hn=>by cases h;exact absurd rfl hn
def Ref.must {b:Bool} {k:aD aM} {r:aM} (h:b=true->Ref k r):Ref (.must b k) r:=fun a ha hn=>by
 cases b with
 |false=>cases ha
 |true=>exact h rfl a ha hn
def Ref.opt {b:Bool} {k l:aD aM} {r:aM} (h:b=true->Ref k r) (g:b=false->Ref l r):Ref (.opt b k l) r:=fun a ha hn=>by
 cases b with
 |false=>exact g rfl a ha hn
 |true=>exact h rfl a ha hn
def Ref.ask {b:Bool} {k:Bool->aD aM} {r:aM} (h:Ref (k b) r):Ref (.ask b k) r:=h
section
variable {P:Program} {o:Oper} {ev:dJ} {H:ai}
def R5 {k:IntKind} {r:Int} (h:fits k r=true):k.wrap r=r:=by
 unfold fits at h;rw [ae]at h;have h1:=ap h.1;have h2:=ap h.2;cases k<;>simp [IntKind.wrap,IntKind.min,IntKind.max,IntKind.signed,IntKind.bits]at h1 h2 ⊢ <;>omega
def acr {op:BinOp} {k:IntKind} {a b r:Int} (hop:op= .add/\r=a+b\/op= .sub/\r=a-b\/op= .mul/\r=a*b):tj P op k a b=some (.int k (k.wrap r)):=by
 rcases hop with⟨rfl,rfl⟩|⟨rfl,rfl⟩|⟨rfl,rfl⟩<;>rfl
def R6 {k:IntKind} {r:Int} {d:aM} (h:d= .ok (.raw (.int k (k.wrap r))) H):Ref (yr k r H) d:=by
 subst h;unfold yr;split
 .exact .opt (fun hb=>by rw [R5 hb];exact .ret) fun _=> .ret
 .exact .ret
def KD {op:BinOp} {t:TypeId} {x y:Operand} {ah:TypeId} {k k':IntKind} {a b:Int} (hx:iG (ev x)= .int k a) (hy:iG (ev y)= .int k' b):
  iU op t x y ah P o ev H=(match jr op k k' a b with |some v=> .ok v H|none=>ag H (oT P o ev op k k' a b)):=by
 unfold iU;rw [hx,hy];show(@Option.rec af (fun _=>aM) (ag H (oT P o ev op k k' a b)) (fun v=> .ok v H) (jr op k k' a b))=_
 cases jr op k k' a b<;>rfl
def Fj {op:BinOp} {k:IntKind} {a b:Int} {v:Value} (h:tj P op k a b=some v):oT P o ev op k k a b=some (.raw v):=by
 unfold oT;rw [h];simp
section
variable {op:BinOp} {t:TypeId} {x y:Operand} {ah:TypeId}
def acs {k:IntKind} {a b:Int} {r:aD aM} (hx:iG (ev x)= .int k a) (hy:iG (ev y)= .int k b) (h:RX op k a b H=some r):Ref r (iU op t x y ah P o ev H):=by
 rw [KD hx hy];have arith:∀c:Int,(op= .add/\c=a+b\/op= .sub/\c=a-b\/op= .mul/\c=a*b)->r=yr k c H->Ref r (match jr op k k a b with |some v=> .ok v H|none=>ag H (oT P o ev op k k a b)):=by
  intro c hc hr;subst hr;cases hf:jr op k k a b with
  |none=>simp only;rw [Fj (acr hc)];exact R6 rfl
  |some v=>
   obtain⟨m,n,rfl,_,rfl,rfl,hn⟩:=xz hf;simp only;have hs:∀{q:Nat},small q=some v->c=q->Ref (yr .i64 c H) (.ok v H):=fun {q} h1 h2=>by
    obtain⟨h3,h4⟩:=Jq h1;subst h2;subst h4;unfold yr;refine .opt (fun _=> .ret) fun hf=> ?_
    have:fits .i64 (q:Int)=true:=by
     unfold fits;rw [ae];exact⟨ay (by show(-9223372036854775808:Int)<=_;omega),ay (by show(q:Int)<=9223372036854775807;omega)⟩
    rw [this]at hf;cases hf
   rcases hc with⟨rfl,rfl⟩|⟨rfl,rfl⟩|⟨rfl,rfl⟩
   .exact hs (q:=m+n) hn ω
   .have hn:(@Bool.rec (fun _=>Option af) none (small (Nat.sub m n)) (Nat.ble n m))=some v:=hn;cases hb:Nat.ble n m with
    |false=>rw [hb]at hn;cases hn
    |true=>
     rw [hb]at hn;have hb:=bU hb;have e:Nat.sub m n=m-n:=rfl;rw [e]at hn;exact hs hn ω
   .cases hn
 have cmp:∀c:Bool,tj P op k a b=some (.bool c)->(∀m n:Nat,a=m->b=n->zz op m n=some (.raw (.bool c))\/zz op m n=none)->r= .ret (.ok (.raw (.bool c)) H)->Ref r (match jr op k k a b with |some v=> .ok v H|none=>ag H (oT P o ev op k k a b)):=by
  intro c hc hn hr;subst hr;cases hf:jr op k k a b with
  |none=>simp only;rw [Fj hc];exact .ret
  |some v=>
   obtain⟨m,n,rfl,_,rfl,rfl,hv⟩:=xz hf;simp only;rcases hn m n rfl rfl with h1|h1<;>rw [h1]at hv
   .cases hv;exact .ret
   .cases hv
 cases op with
 |add=>cases h;exact arith _ (.inl ⟨rfl,rfl⟩) rfl
 |sub=>cases h;exact arith _ (.inr (.inl ⟨rfl,rfl⟩)) rfl
 |mul=>cases h;exact arith _ (.inr (.inr ⟨rfl,rfl⟩)) rfl
 |quo=>
  cases h;refine .must fun hb=> ?_
  have hb:=ap hb;have hf:jr .quo k k a b=none:=by
   cases hf:jr .quo k k a b with
   |none=>rfl
   |some v=>obtain⟨m,n,_,_,_,_,hv⟩:=xz hf;cases hv
  rw [hf];simp only;rw [Fj (v:= .int k (k.wrap (a.tdiv b))) (by unfold tj Op.intDiv;simp only [if_neg hb];rfl)];exact R6 rfl
 |rem=>
  cases h;refine .must fun hb=> ?_
  have hb:=ap hb;have hf:jr .rem k k a b=none:=by
   cases hf:jr .rem k k a b with
   |none=>rfl
   |some v=>obtain⟨m,n,_,_,_,_,hv⟩:=xz hf;cases hv
  rw [hf];simp only;rw [Fj (v:= .int k (a.tmod b)) (by unfold tj Op.intDiv;simp only [if_neg hb];rfl)];exact .ret
 |and=>cases h
 |or=>cases h
 |xor=>cases h
 |shl=>cases h
 |shr=>cases h
 |andNot=>cases h
 |eql=>
  cases h;refine cmp _ rfl (fun m n h1 h2=> .inl ?_) rfl;subst h1;subst h2;show some (af.raw (.bool (Nat.beq m n)))=_;congr 3;rw [Bool.eq_iff_iff];simp;omega
 |neq=>
  cases h;refine cmp _ rfl (fun m n h1 h2=> .inl ?_) rfl;subst h1;subst h2;show some (af.raw (.bool (!(Nat.beq m n))))=_;congr 3;by_cases e:m=n
  .subst e;simp
  .rw [tH e];simp;omega
 |lss=>
  cases h;refine cmp _ rfl (fun m n h1 h2=> .inl ?_) rfl;subst h1;subst h2;show some (af.raw (.bool (Nat.ble (m+1) n)))=_;rw [kw];congr 3;rw [Bool.eq_iff_iff,decide_eq_true_iff,decide_eq_true_iff];omega
 |leq=>
  cases h;refine cmp _ rfl (fun m n h1 h2=> .inl ?_) rfl;subst h1;subst h2;show some (af.raw (.bool (Nat.ble m n)))=_;rw [kw];congr 3;rw [Bool.eq_iff_iff,decide_eq_true_iff,decide_eq_true_iff];omega
 |gtr=>
  cases h;refine cmp _ rfl (fun m n h1 h2=> .inl ?_) rfl;subst h1;subst h2;show some (af.raw (.bool (Nat.ble (n+1) m)))=_;rw [kw];congr 3;rw [Bool.eq_iff_iff,decide_eq_true_iff,decide_eq_true_iff];omega
 |geq=>
  cases h;refine cmp _ rfl (fun m n h1 h2=> .inl ?_) rfl;subst h1;subst h2;show some (af.raw (.bool (Nat.ble n m)))=_;rw [kw];congr 3;rw [Bool.eq_iff_iff,decide_eq_true_iff,decide_eq_true_iff];omega
def acu:Ref (Kn op t x y ah P o ev H) (iU op t x y ah P o ev H):=by
 unfold Kn;split
 .rename_i k a k' b hx hy;split
  .rename_i hk;have hk:k=k':=by simpa using hk
   subst hk;split
   .rename_i r hr;exact acs hx hy hr
   .rename_i hn;rw [KD hx hy];cases hf:jr op k k a b with
    |none=>exact .ret
    |some v=>
     obtain⟨m,n,_,_,_,_,hv⟩:=xz hf;cases op<;>first |(cases hn;done)|(change (none:Option af)=some v at hv;cases hv)
  .exact .no
 .exact .ret
end
def Ha {c a b:Operand}:Ref (Ko c a b P o ev H) (nT c a b P o ev H):=by
 unfold Ko nT;cases gI (ev c)with
 |no=>exact .no
 |mk q=>cases q<;>exact .ret
def CB {v:af} {f:Nat->aD aM} {r:aM} (h:∀k,nS v= .mk k->Ref (f k) r):Ref (xR v f) r:=by
 unfold xR;split
 .rename_i k z hz;refine .must fun hb=>h _ ?_
  have hb:=ap hb;unfold nS;rw [hz];cases z with
  |ofNat m=>rfl
  |negSucc m=>exact absurd hb ω
 .exact .no
def acv {k s:Nat} {x:af}:Ref (Kq k s x H) (rC k s x H):=by
 unfold Kq rC;split
 .rename_i z t xs;split
  .rename_i hs;refine .must fun hb=> ?_
   have hb:=ap hb;simp only [hs,Bool.true_and];rw [fA (show k+1<=xs.length from hb)];exact .ret
  .exact .no
 .rename_i e t i k0 len cap;split
  .rename_i hs;refine .must fun hb=> ?_
   have hb:=ap hb;simp only [hs,Bool.true_and];rw [fA (show k+1<=len from hb)];exact .ret
  .exact .no
 .exact .no
def acw {v:af} (h:Kr v=true):iH v= .no/\xd v= .no:=by
 cases v<;>first |exact⟨rfl,rfl⟩|cases h
def acy {t:TypeId} {x ix:Operand}:Ref (Ks t x ix P o ev H) (mV t x ix P o ev H):=by
 unfold Ks;split
 .rename_i s hx ht;refine CB fun k hk=> ?_
  unfold mV;simp only [hk,ht,(acw hx).2];exact acv
 .exact .ret
def Hb {t:TypeId} {x:Operand}:Ref (Kt t x P o ev H) (nU t x P o ev H):=by
 unfold Kt RY;split
 .rename_i e u i k off hx;refine .must fun hb=> ?_
  unfold nU;rw [hx];show Ref _ (tr P t (.dA e u i k off) H);unfold tr;simp only [hb,cond_true];exact .ret
 .exact .ret
def acz {t:TypeId} {x y:Operand}:Ref (Ku t x y P o ev H) (qf t x y P o ev H):=by
 unfold Ku RZ;split
 .rename_i e u i k off hx;refine .must fun hb=> ?_
  unfold qf;rw [hx];show Ref _ (nq P t (.dA e u i k off) (ev y) H);unfold nq;simp only [hb,cond_true];cases (eU (ev y).cells&&tv P t (ev y).cells.length)with
  |false=>exact .no
  |true=>
   simp only [cond_true];cases (ls (elemAt u (bQ u (H.get i)) k) off (ev y).cells).bind u.read with
   |none=>exact .no
   |some d=>exact .ret
 .exact .ret
def Fk {v:Option af} {d:Nat} {f:Nat->aD aM} {r:aM} (h:∀k,np v d=some k->Ref (f k) r):Ref (z8 v d f) r:=by
 unfold z8;split
 .exact h _ rfl
 .rename_i v;exact CB fun k hk=>h k (by show nn v=some k;unfold nn;rw [hk])
def R7 {e:TypeId} {s n:Nat} {lo hi mx:Option af} {k:Nat->Nat->aD aM} {k2:Nat->Nat->af} (h:∀l h,l<=h->h<=n->Ref (k l h) (.ok (k2 l h) H)):Ref (Fg P e s n lo hi mx H k) (ag H (zu P e s n lo hi mx k2)):=by
 unfold Fg;split
 .split
  .rename_i s' hs;split
   .rename_i acA;refine Fk fun hh hhi=>Fk fun l hlo=> .must fun h1=> .must fun h2=> ?_
    have h1:=ap h1;have h2:=ap h2;unfold zu;simp only [hs,Option.bind_some,hhi,hlo,acA,Option.isNone_none,Bool.true_and,fA h1,fA h2,cond_true];exact h l hh h1 h2
   .exact .no
  .exact .no
 .exact .no
def acB {t:TypeId} {x:Operand} {lo hi mx:Option Operand}:Ref (Kv t x lo hi mx P o ev H) (ib t x lo hi mx P o ev H):=by
 unfold Kv;split
 .rename_i hx;have hp:ib t x lo hi mx P o ev H=ag H (BP P t (ev x) (lo.map ev) (hi.map ev) (mx.map ev)):=by
   unfold ib BV;cases hv:ev x<;>first |rfl |(rw [hv]at hx;cases hx)
  rw [hp];unfold R1;split
  .rename_i e z u xs hu gq;unfold BP;rw [hu,gq];refine R7 fun l h h1 h2=> ?_
   cases hb:Nat.ble (l+1) h with
   |true=>exact .ret
   |false=>
    have:¬l+1<=h:=fun hh=>by rw [fA hh]at hb;cases hb
    have e:(xs.take h).drop l=[]:=by rw [List.drop_eq_nil_iff];simp;omega
    rw [e];exact .ret
  .rename_i e e' u i k len cap hu gq;unfold BP;rw [hu,gq];refine R7 fun l h h1 h2=> .ask ?_
   cases hb:Nat.beq l 0 with
   |true=>exact .ret
   |false=>
    refine .ask ?_;by_cases hlt:l<h
    .simp only [hlt,decide_true,cond_false,fA (show l+1<=h from hlt),cond_true];exact .ret
    .have kI:Nat.ble (l+1) h=false:=by rw [kw];exact ab hlt
     simp only [hlt,decide_false,cond_false,kI];exact .ret
  .exact .no
 .exact .ret
def Hc {ty:av} {s:Nat} {x:af} {f:List ty.den->Nat->aD aM} {r:aM} (h:∀ds n,zw H ty s x=some (ds,n)->Ref (f ds n) r):Ref (Kw H ty s x f) r:=by
 unfold Kw;split
 .rename_i e u j k len cap;split
  .rename_i hu;refine .must fun hb=>h _ _ ?_
   unfold zw;simp only [hu,hb,Bool.true_and,cond_true]
  .exact .no
 .split
  .rename_i ds n hs;exact h ds n hs
  .exact .no
def KE {t e:TypeId} {ty:av} {i k len:Nat} {cap:aZ} {sk:Bool} {x:af}:Ref (Cz P t e ty i k len cap sk x H) (eu (rF P t e ty i k len cap sk x H)):=by
  unfold Cz;split
  .rename_i el hel;split
   .rename_i inf acC;split
    .rename_i z hz;split
     .rename_i hc;refine .must fun hk=>Hc fun ds n hs=> .ask ?_
      unfold rF;simp only [hel,acC,hz,Option.bind_some,hc,hk,Bool.true_and,cond_true,hs];cases Nat.beq n 0 with
      |true=>exact .ret
      |false=>
       refine .must fun h1=> .must fun h2=> ?_
       simp only [h1,h2,Bool.true_and,cond_true,cond_false];exact .ret
     .exact .no
    .exact .no
   .exact .no
  .exact .no
def R8 {t:TypeId} {s x:af} {d:aM} (hd:d=eu (lY P t s x H)):Ref (Fh P t s x H d) (eu (lY P t s x H)):=by
 unfold Fh;split
 .rename_i e ty i k len cap;have e0:lY P t (.bT e ty i k len cap) x H=lw P t e ty i k len cap x H:=rfl;rw [e0];unfold lw;cases xg ty x H with
  |none=>exact KE
  |some p=>
   obtain⟨b,H'⟩:=p;refine .must fun hb=> ?_
   subst hb;exact KE
 .rename_i hn;split
  .rename_i z ty ys;split
   .rename_i he;split
    .rename_i e hel;have:lY P t s (.bt z ty ys) H=rF P t e ty H.next 0 0 (.known 0) true (.bt z ty ys) H:=by
      unfold lY;split
      .rename_i a1 a2 a3 a4 a5 a6;exact absurd rfl (hn a1 a2 a3 a4 a5 a6)
      .simp only [he,cond_true];unfold Ex;rw [hel]
     rw [this];exact KE
    .exact .no
   .exact .no
  .subst hd;exact .ret
def Hd {c:Call}:Ref (Ky c P o ev H) (iV c P o ev H):=by
 unfold Ky;split
 .rename_i s x t t' hc ha ht;split
  .rename_i el hu;have e:iV c P o ev H=eu (lY P t s x H):=by
    unfold iV;rw [hc];simp only [ha];unfold dE;simp only [ht,hu]
   rw [e];exact R8 rfl
  .rename_i hu;split
   .have e:iV c P o ev H=eu (lY P t s x H):=by
     unfold iV;rw [hc];simp only [ha];unfold dE;simp only [ht,hu]
    rw [e];exact R8 rfl
   .exact .ret
  .exact .ret
 .rename_i x n pt it hc ha ht;have e:iV c P o ev H=eu (vg P pt x n H):=by
   unfold iV;rw [hc];simp only [ha];unfold dE;simp only [ht]
  rw [e];unfold R2;split
  .rename_i e' u i;split
   .rename_i hu;split
    .rename_i m;refine .must fun h1=> .must fun h2=> .must fun h3=> .must fun h4=> ?_
     have e2:vg P pt (.dA e' u i 0 0) (.raw (.int .i64 (.ofNat m))) H=some (.raw (.string (oX ((bQ (.int .u8) (H.get i)).take m))),H.drop i):=by
      show cond (EE P pt e' u&&_) _ none=_;rw [hu,h1,h2,h3,h4];rfl
     rw [e2];exact .ret
    .exact .no
   .exact .no
  .exact .ret
 .rename_i ts el u i k len cap hc ha;have e:iV c P o ev H= @Bool.rec (fun _=>aM) .no (.ok (.dA el u i k 0) H) (Nat.ble 1 len):=by
   unfold iV;rw [hc];simp only [ha];unfold dE;rfl
  rw [e];refine .must fun h1=> ?_
  rw [h1];exact .ret
 .exact .ret
def acD {t:TypeId} {l c:Operand}:Ref (Kz t l c P o ev H) (dT t l c P o ev H):=by
 unfold Kz;split
 .rename_i e he;split
  .rename_i inf hi;split
   .rename_i z hz;refine CB fun n hn=>CB fun m hm=> ?_
    split
    .rename_i hb;refine .must fun h1=> .must fun h2=> ?_
     rw [ae]at hb;have e1:nn (ev l)=some n:=by unfold nn;rw [hn]
     have e2:nn (ev c)=some m:=by unfold nn;rw [hm]
     have e3:dT t l c P o ev H= .ok (.slice H.next 0 n (.known m)) (H.new (.cells e (List.replicate m (ig z.cells)).flatten true false false)):=by
      unfold dT qd;rw [he,Option.bind_some,hi,Option.bind_some,hz,Option.bind_some,e1,Option.bind_some,e2,Option.bind_some,fA (ap h1),hb.1,h2,hb.2];rfl
     rw [e3];exact .ret
    .exact .no
   .exact .no
  .exact .no
 .exact .no
def Fl {v:af} {s:AT} (h:Ab v=some s):v= .raw (.string s):=by
 unfold Ab at h;split at h
 .cases h;rfl
 .cases h
def R9 {v:af} {k:Nat} (h:nS v= .mk k):∃q,v= .raw (.int q k):=by
 unfold nS at h;cases hw:iG v with
 |no=>rw [hw]at h;cases h
 |int q z=>
  rw [hw]at h;have h:u9 z= .mk k:=h;cases z with
  |ofNat m=>cases h;exact⟨q,zK hw⟩
  |negSucc m=>cases h
def ni {x:Operand} {v:Value} (h:ev x= .raw v):m9 ev x=v:=by unfold m9;rw [h];rfl
def acE {s:AT} {k:Nat} (h:k<s.size):s[k]? =some (s.data.toList.getD k 0):=by
 have h2:k<s.data.size:=h;rw [show s[k]? =some s[k]from getElem?_pos s k h];congr 1;rw [ao,Array.getElem?_toList,Array.getElem?_eq_getElem h2];rfl
def AS {t:TypeId} {x ix:Operand} (ho:o.op= .index t x ix):Ref (KA t x ix P o ev H) (l5 t x ix P o ev H):=by
 unfold KA;split
 .rename_i s hs;have hx:=Fl hs;split
  .rename_i hu;refine CB fun k hk=> .must fun hb=> ?_
   have hb:=ap hb;obtain⟨q,hi⟩:=R9 hk;have e1:l5 t x ix P o ev H=ag H (gen P o ev):=by unfold l5;rw [hx];rfl
   have e2:gen P o ev=some (.raw (.int .u8 (Fi s k))):=by
    unfold gen;rw [ho];have e3:((Op.index t x ix).operands.toList.all fun x=>(ev x).fh.isSome)=true:=by simp [Op.operands,hx,hi,af.fh]
    rw [e3];have bV:dm P (execOp (m9 ev) o)=some (.value (.int .u8 (Fi s k))):=by
     unfold execOp;rw [ho];simp only [ni hx,ni hi];simp [Instr.index,asIntOf,underlying,program,dm,hu,bind,Sem.bind,pure,acE hb,Fi]
    rw [bV];rfl
   rw [e1,e2];exact .ret
  .exact .no
 .exact .ret
def Fm {α β:Type} (f:α->β):∀{s:Sem α} {a:α},dm P s=some a->dm P (do let r <-s;pure (f r))=some (f a)
 | .pure a,_,h=>by
   have h:some a=some _:=h;cases h;rfl
 | .program k,_,h=>Fm f (s:=k P) h
 | .mark _ k,_,h=>Fm f (s:=k) h
 | .load ..,_,h=>by cases h
 | .store ..,_,h=>by cases h
 | .new ..,_,h=>by cases h
 | .shape ..,_,h=>by cases h
 | .freeze ..,_,h=>by cases h
 | .frozen ..,_,h=>by cases h
 | .getObj ..,_,h=>by cases h
 | .setObj ..,_,h=>by cases h
 | .choose ..,_,h=>by cases h
 | .sys ..,_,h=>by cases h
 | .halt ..,_,h=>by cases h
def KF {v:Option Operand} {d k:Nat} (h:np (v.map ev) d=some k):(v=none/\k=d)\/∃y q,v=some y/\ev y= .raw (.int q k):=by
 cases v with
 |none=>cases h;exact .inl ⟨rfl,rfl⟩
 |some y=>
  have h:nn (ev y)=some k:=h;unfold nn at h;cases hn:nS (ev y)with
  |no=>rw [hn]at h;cases h
  |mk m=>
   rw [hn]at h;cases h;obtain⟨q,hq⟩:=R9 hn;exact .inr ⟨y,q,rfl,hq⟩
def acF {t:TypeId} {x:Operand} {lo hi mx:Option Operand} (ho:o.op= .slice t x lo hi mx):Ref (KB t x lo hi mx P o ev H) (ib t x lo hi mx P o ev H):=by
 unfold KB;split
 .rename_i s hs;have hx:=Fl hs;unfold R3;split
  .rename_i hu hm;have hm:mx=none:=by cases mx<;>first |rfl |cases hm
   subst hm;refine Fk fun h hh=>Fk fun l hl=> .must fun h1=> .must fun h2=> ?_
   have h1:=ap h1;have h2:=ap h2;have e1:ib t x lo hi none P o ev H=ag H (gen P o ev):=by unfold ib BV;rw [hx]
   have e2:gen P o ev=some (.raw (.string (s.extract l h))):=by
    unfold gen;rw [ho];rcases KF hh with⟨rfl,rfl⟩|⟨y,q,rfl,hy⟩
    .rcases KF hl with⟨rfl,rfl⟩|⟨y2,aQ,rfl,hy2⟩
     .have e3:((Op.slice t x none none none).operands.toList.all fun x=>(ev x).fh.isSome)=true:=by simp [Op.operands,hx,af.fh]
      rw [e3];unfold execOp;rw [ho];simp only [ni hx,Option.map_none];simp [Instr.sliceAt,Instr.slice,Instr.sliceBounds,underlying,program,dm,hu,bind,Sem.bind,pure]
     .have e3:((Op.slice t x (some y2) none none).operands.toList.all fun x=>(ev x).fh.isSome)=true:=by simp [Op.operands,hx,hy2,af.fh]
      rw [e3];unfold execOp;rw [ho];simp only [ni hx,Option.map_none,Option.map_some,ni hy2];simp [Instr.sliceAt,Instr.slice,Instr.sliceBounds,Instr.sliceBound,asIntOf,underlying,program,dm,hu,bind,Sem.bind,pure,h1]
    .rcases KF hl with⟨rfl,rfl⟩|⟨y2,aQ,rfl,hy2⟩
     .have e3:((Op.slice t x none (some y) none).operands.toList.all fun x=>(ev x).fh.isSome)=true:=by simp [Op.operands,hx,hy,af.fh]
      rw [e3];unfold execOp;rw [ho];simp only [ni hx,Option.map_none,Option.map_some,ni hy];simp [Instr.sliceAt,Instr.slice,Instr.sliceBounds,Instr.sliceBound,asIntOf,underlying,program,dm,hu,bind,Sem.bind,pure,h2]
     .have e3:((Op.slice t x (some y2) (some y) none).operands.toList.all fun x=>(ev x).fh.isSome)=true:=by simp [Op.operands,hx,hy,hy2,af.fh]
      rw [e3];unfold execOp;rw [ho];simp only [ni hx,Option.map_some,Option.map_none,ni hy,ni hy2];simp [Instr.sliceAt,Instr.slice,Instr.sliceBounds,Instr.sliceBound,asIntOf,underlying,program,dm,hu,bind,Sem.bind,pure,h1,h2]
   rw [e1,e2];exact .ret
  .exact .no
 .exact acB
def Sa (a b:AT):(a.toList==b.toList)=Aa a b:=by
 rw [ByteArray.toList_eq,ByteArray.toList_eq];unfold Aa;rw [Bool.eq_iff_iff];simp
def acG {op:BinOp} {t:TypeId} {x y:Operand} {ah:TypeId} (ho:o.op= .binOp op t x y ah):Ref (KC op t x y ah P o ev H) (iU op t x y ah P o ev H):=by
 unfold KC;split
 .rename_i a b ha hb;have hx:=Fl ha;have hy:=Fl hb;have e0:iU op t x y ah P o ev H=ag H (xj P o ev op t (ev x) (ev y)):=by unfold iU;rw [hx];rfl
  have e3:((Op.binOp op t x y ah).operands.toList.all fun x=>(ev x).fh.isSome)=true:=by simp [Op.operands,hx,hy,af.fh]
  have eg:∀v,dm P (do eqGuard op t x y (.string a) (.string b);binOp op t (.string a) (.string b))=some v->gen P o ev=some (.raw v):=fun v hv=>by
   unfold gen;rw [ho,e3];unfold execOp;rw [ho];simp only [ni hx,ni hy];have:dm P (do let r <-(do eqGuard op t x y (.string a) (.string b);binOp op t (.string a) (.string b));pure (Next.value r))=some (.value v):=Fm _ hv;simp only [cond_true];rw [this]
  unfold R4;split
  .refine .must fun hl=> ?_
   have hl:=ap hl;have:xj P o ev .add t (ev x) (ev y)=some (.raw (.string (a++b))):=eg _ (by
    have:¬(9223372036854775807:Int)<(a.size:Int)+(b.size:Int):=by omega
    simp [eqGuard,binOp,Op.stringOp,dm,bind,Sem.bind,pure,IntKind.max,IntKind.bits,IntKind.signed,this])
   rw [e0,this];exact .ret
  .have:xj P o ev .eql t (ev x) (ev y)=some (.raw (.bool (Aa a b))):=by
    rw [hx,hy];exact eg _ (by rw [<-Sa];simp [eqGuard,binOp,Op.stringOp,dm,bind,Sem.bind,pure])
   rw [e0,this];exact .ret
  .have:xj P o ev .neq t (ev x) (ev y)=some (.raw (.bool (!Aa a b))):=by
    rw [hx,hy];exact eg _ (by rw [<-Sa];simp [eqGuard,binOp,Op.stringOp,dm,bind,Sem.bind,pure])
   rw [e0,this];exact .ret
  .exact .ret
 .split
  .rename_i k a k' b hs ha hb;refine .must fun h0=> ?_
   have h0:=ap h0;have hx:=zK ha;have hy:=zK hb;have hf:jr op k k' a b=none:=by
    cases hf:jr op k k' a b with
    |none=>rfl
    |some v=>obtain⟨m,n,_,_,_,_,hv⟩:=xz hf;cases op<;>first |(cases hs;done)|(change (none:Option af)=some v at hv;cases hv)
   have hp:oT P o ev op k k' a b=gen P o ev:=by
    unfold oT;have:tj P op k a b=none:=by cases op<;>first |rfl |(cases hs;done)
    rw [this];cases (k==k')<;>rfl
   have e0:iU op t x y ah P o ev H=ag H (gen P o ev):=by rw [KD ha hb,hf,hp]
   have e3:((Op.binOp op t x y ah).operands.toList.all fun x=>(ev x).fh.isSome)=true:=by simp [Op.operands,hx,hy,af.fh]
   have eg:∀v,dm P (do eqGuard op t x y (.int k a) (.int k' b);binOp op t (.int k a) (.int k' b))=some v->gen P o ev=some (.raw v):=fun v hv=>by
    unfold gen;rw [ho,e3];unfold execOp;rw [ho];simp only [ni hx,ni hy];have:dm P (do let r <-(do eqGuard op t x y (.int k a) (.int k' b);binOp op t (.int k a) (.int k' b));pure (Next.value r))=some (.value v):=Fm _ hv;simp only [cond_true];rw [this]
   have hneg:¬b<0:=by omega
   split
   .rw [e0,eg _ (by simp only [eqGuard,binOp,Op.shift,hneg,if_false];rfl)];exact .ret
   .rw [e0,eg _ (by simp only [eqGuard,binOp,Op.shift,hneg,if_false];rfl)];exact .ret
   .exact .no
  .exact acu
def sT:Ref (CA o.op P o ev H) (e5 o.op P o ev H):=by
 cases ho:o.op with
 |binOp op t x y ah=>exact acG ho
 |pick c a b=>exact Ha (P:=P) (o:=o)
 |indexAddr t x ix=>exact acy
 |load t x=>exact Hb
 |store t x y=>exact acz
 |slice t x lo hi mx=>exact acF ho
 |index t x ix=>exact AS ho
 |call c=>exact Hd
 |makeSlice t l c=>exact acD (o:=o)
 |_=>exact .ret
end
end
noncomputable section
abbrev bG:=FuncId->List af->ai->aD aM
abbrev xS:=Code->(n:Nat)->(aN:Bool)->au af->ai->List Nat->aD R
def Fo {β:Type} (T:au af) (ops:Array Oper) (o:Oper) (no:aD β) (f:Bool->aD β):aD β:=match o.guard with
 |none=>f true
 |some g=>match(ops[g.1]?).bind (·.dst)with
  |some d=>(match T.get d with |some (.raw (.bool b))=> .ask (b==g.2) f|some .bot=>no|_=>f false)
  |none=>no
def Fp (P:Program) (call:bG) (o:Oper) (ev:dJ) (H:ai):aD aM:=
 (CA o.op P o ev H).bind fun r=>match r with
   | .ok v H=> .ret (.ok v H)
   | .enter f args H=>call f args H
   |_=> .ret .no
def Fq (T:au af) (n:Nat) (dst:Option Tmp) (v:af) (k:au af->aD eV):aD eV:=match iI T n dst v with
 |some T=>k T
 |none=> .ret .no
def Sb (P:Program) (call:bG) (ops:Array Oper) (n:Nat) (o:Oper) (T:au af) (H:ai) (k:au af->ai->aD eV):aD eV:=
 Fo T ops o (.ret .no) fun b=>match b with
  |false=>Fq T n o.dst (.raw undef) fun T=>k T H
  |true=>(Fp P call o (cm T) H).bind fun r=>match r with
   | .ok v H=>Fq T n o.dst v fun T=>k T H
   |_=> .ret .no
def KG (P:Program) (call:bG) (ops:Array Oper) (n:Nat):List Oper->au af->ai->aD eV
 |[],T,H=> .ret (.mk T H)
 |o::l,T,H=>Sb P call ops n o T H (KG P call ops n l)
def KH {β:Type} (P:Program) (o:Oper) (ev:dJ) (v:af) (H:ai) (no k:aD β):aD β:=
 (CA o.op P o ev H).bind fun r=>match r with
   | .ok v' _=> .must (af.same v' v) k
   |_=>no
def KI {β:Type} (P:Program) (o:Oper) (ev:dJ) (v:af) (no k:aD β):List ai->aD β
 |[]=>k
 |H::l=>KH P o ev v H no (KI P o ev v no k l)
def Fd {β:Type} (P:Program) (H:ai) (no k:aD β):List o8->aD β
 |[]=>k
 |q::l=>KH P q.o (cm q.T) q.v H no (Fd P H no k l)
def Sc (P:Program) (call:bG) (ops:Array Oper) (n:Nat) (o:Oper) (s:gb):aD (Option gb):=
 Fo s.T ops o (.ret none) fun b=>match b with
  |false=> .ret (mq n o s (.raw undef) fun T=>{s with i:=s.i+1,T:=T,bR:=s.bR.set s.i (some (level s.bR (bi o)))})
  |true=>match mo P o.op with
   | .p=>(CA o.op P o (cm s.T) s.cur).bind fun r=>match r with
     | .ok v _=> .ret (mq n o s v fun T=>{s with i:=s.i+1,T:=T,bR:=s.bR.set s.i (some (level s.bR (bi o)))})
     |_=> .ret none
   | .r=>match s.hs with
     |H::_=>(CA o.op P o (cm s.T) H).bind fun r=>match r with
      | .ok v _=>KI P o (cm s.T) v (.ret none) (.ret (mq n o s v fun T=>{s with i:=s.i+1,T:=T,bR:=s.bR.set s.i (some (level s.bR (bi o))),dB:=⟨s.i,o,s.T,v⟩::s.dB})) (s.hs.take (s.k+1-level s.bR (bi o)))
      |_=> .ret none
     |[]=> .ret none
   | .a=>match e5 o.op P o (cm s.T) s.cur with
     | .ok v H=> .ret (mq n o s v fun T=>{s with i:=s.i+1,T:=T,cur:=H,bR:=s.bR.set s.i (some (level s.bR (bi o))),c9:=s.i::s.c9})
     |_=> .ret none
   | .e=>match Nat.beq (level s.bR (bi o)) s.k&&tP s.c9 (bi o)with
     |true=>(Fp P call o (cm s.T) s.cur).bind fun r=>match r with
      | .ok v H=>Fd P H (.ret none) (.ret (mq n o s v fun T=>{i:=s.i+1,k:=s.k+1,T:=T,cur:=H,hs:=H::s.hs,bR:=s.bR.set s.i (some (s.k+1)),dB:=jv (bi o) s.dB,c9:=[]})) (jv (bi o) s.dB)
      |_=> .ret none
     |false=> .ret none
   | .b=>match Nat.beq (level s.bR (bi o)) s.k&&tP s.c9 (bi o)with
     |true=>(Fp P call o (cm s.T) s.cur).bind fun r=>match r with
      | .ok v H=>Fd P H (.ret none) (.ret (mq n o s v fun T=>{i:=s.i+1,k:=s.k+1,T:=T,cur:=H,hs:=H::s.hs,bR:=s.bR.set s.i (some (s.k+1)),dB:=jv (bi o) s.dB,c9:=[]})) (jv (bi o) s.dB)
      |_=> .ret none
     |false=>match e5 o.op P o (cm s.T) s.cur with
      | .ok v H=> .ret (mq n o s v fun T=>{s with i:=s.i+1,T:=T,cur:=H,bR:=s.bR.set s.i (some (level s.bR (bi o))),c9:=s.i::s.c9})
      |_=> .ret none
def KJ (P:Program) (call:bG) (ops:Array Oper) (n:Nat):List Oper->gb->aD eV
 |[],s=> .ret (.mk s.T s.cur)
 |o::l,s=>(Sc P call ops n o s).bind fun r=>match r with
  |some s=>KJ P call ops n l s
  |none=> .ret .no
def KK (P:Program) (call:bG) (ops:Array Oper) (n:Nat) (T:au af) (H:ai):aD eV:=
 match rQ ops.toList ops.toList 0 with
 |true=>KJ P call ops n ops.toList {i:=0,k:=0,T:=T,cur:=H,hs:=[H],bR:= .nil,dB:=[],c9:=[]}
 |false=> .ret .no
def Ac (bu:bG) (call:bG):bG:=fun f args H=>(bu f args H).bind fun r=>match r with
 | .no=>call f args H
 |r=> .ret r
def xT (P:Program) (ih:xS):bG:=fun f args H=>match P.funcs[f]? with
 |some fn=>(match fn.body with
  |some c=>(match Nat.ble args.length fn.ntmps with
   |true=>(ih c fn.ntmps false (dt args .nil 0) H []).bind fun r=>match r with
    | .normal T H m=> .ret (kg P fn T H m)
    | .ret T H m=> .ret (kg P fn T H m)
    |_=> .ret .no
   |false=> .ret .no)
  |none=> .ret .no)
 |none=> .ret .no
def acH (m:List Nat) (r:eV):aD R:=match r with
 | .mk T H=> .ret (.normal T H m)
 | .no=> .ret .no
def Ad (P:Program) (call:bG) (ih:xS) (c:Code):(n:Nat)->(aN:Bool)->au af->ai->List Nat->aD R:=fun n aN T H m=>match c with
 | .skip=> .ret (.normal T H m)
 | .label _=> .ret (.normal T H m)
 | .region _ ops d=>(match d with |true=>KK P call ops n T H|false=>KG P call ops n ops.toList T H).bind fun r=>acH m r
 | .seq a b=>(ih a n aN T H m).bind fun r=>match r with
   | .normal T H m=>ih b n aN T H m
   |r=> .ret r
 | .cond x a b=>match gI (cm T x)with
   | .mk q=> .ask q fun r=>match r with |true=>ih a n aN T H m|false=>ih b n aN T H m
   | .no=> .ret .no
 | .block id b=>(ih b n aN T H m).bind fun r=>match r with
   | .exit i T H m=>(match Nat.beq i id with |true=> .ret (.normal T H m)|false=> .ret (.exit i T H m))
   |r=> .ret r
 | .exit id=> .ret (.exit id T H m)
 | .scope b=>(ih b n aN T H m).bind fun r=>match r with
   | .goto _ _ _ _=> .ret .no
   |r=> .ret r
 | .goto l=> .ret (.goto l T H m)
 | .ret=> .ret (.ret T H m)
 |_=> .ret .no
def qA (P:Program) (bu:bG) (fuel:Nat):xS:=
 @Nat.rec (fun _=>xS) (fun _ _ _ _ _ _=> .ret .no) (fun _ ih c=>Ad P (Ac bu (xT P ih)) ih c) fuel
def bF (bu:bG):ew:=fun f args H=>((bu f args H).gr).getD .no
def xU (t:aD eV) (r:eV):Prop:=∀a,t.gr=some a->a≠ .no->r=a
def acI (t:aD R) (r:R):Prop:=∀a,t.gr=some a->a≠ .no->r=a
def acJ (t:aD (Option gb)) (r:Option gb):Prop:=∀a,t.gr=some (some a)->r=some a
def rV (vc:bG) (call:ew):Prop:=∀f args H,Ref (vc f args H) (call f args H)
def mA {α β:Type} {x:aD α} {f:α->aD β} {b:β} (h:(x.bind f).gr=some b):∃a,x.gr=some a/\(f a).gr=some b:=by
 rw [aD.qz]at h;cases hx:x.gr with
 |none=>rw [hx]at h;cases h
 |some a=>rw [hx]at h;exact⟨a,rfl,h⟩
section
variable {P:Program} {call:ew} {vc:bG} {round:jQ}
def Sd {β:Type} {T:au af} {ops:Array Oper} {o:Oper} {no:aD β} {f:Bool->aD β} {b:β} (h:(Fo T ops o no f).gr=some b):no.gr=some b\/∃c,gJ T ops o=some c/\(f c).gr=some b:=by
 unfold Fo at h;split at h
 .rename_i hg;refine .inr ⟨true, ?_,h⟩;unfold gJ;rw [hg]
 .rename_i g hg;have e:gJ T ops o=xk T ops g:=by unfold gJ;rw [hg]
  rw [e];unfold xk;split at h
  .rename_i d hd;rw [hd];simp only;split at h
   .rename_i q hq;rw [hq];exact .inr ⟨_,rfl,h⟩
   .exact .inl h
   .rename_i h1 h2;refine .inr ⟨false, ?_,h⟩;split
    .rename_i q hq;exact absurd hq (h1 q)
    .rename_i hq;exact absurd hq h2
    .rfl
  .exact .inl h
def KL (hc:rV vc call) {o:Oper} {ev:dJ} {H:ai}:Ref (Fp P vc o ev H) (fm P call round o ev H):=by
 intro a ha hn;obtain⟨r,h1,h2⟩:=mA ha;have hr:r≠ .no->e5 o.op P o ev H=r:=sT r h1;unfold fm;cases r with
 |no=>cases h2;exact absurd rfl hn
 |ok v H1=>rw [hr τ];cases h2;rfl
 |enter f args H1=>rw [hr τ];exact hc f args H1 a h2 hn
 |round _ _ _=>cases h2;exact absurd rfl hn
def Se {T:au af} {n:Nat} {dst:Option Tmp} {v:af} {k:au af->aD eV} {k2:au af->ai->eV} {H:ai} (h:∀T,xU (k T) (k2 T H)):xU (Fq T n dst v k) (qg k2 H (iI T n dst v)):=by
 unfold Fq;cases iI T n dst v with
 |none=>intro a ha hn;cases ha;exact absurd rfl hn
 |some T1=>exact h T1
def acK (hc:rV vc call) {ops:Array Oper} {n:Nat} {o:Oper} {T:au af} {H:ai} {k:au af->ai->aD eV} {k2:au af->ai->eV} (h:∀T H,xU (k T H) (k2 T H)):
  xU (Sb P vc ops n o T H k) (xm P call round ops n o T H k2):=by
 intro a ha hn;rcases Sd ha with h1|⟨c,h1,h2⟩
 .cases h1;exact absurd rfl hn
 .unfold xm;rw [h1];cases c with
  |false=>exact Se (fun T=>h T H) a h2 hn
  |true=>
   obtain⟨r,g1,g2⟩:=mA h2;have hr:r≠ .no->fm P call round o (cm T) H=r:=KL hc r g1;cases r with
   |no=>cases g2;exact absurd rfl hn
   |ok v H1=>
    simp only;rw [hr τ];exact Se (fun T=>h T H1) a g2 hn
   |enter _ _ _=>cases g2;exact absurd rfl hn
   |round _ _ _=>cases g2;exact absurd rfl hn
def Sf (hc:rV vc call) {ops:Array Oper} {n:Nat}:∀(l:List Oper) (T:au af) (H:ai),xU (KG P vc ops n l T H) (CH P call round ops n l T H)
 |[],T,H=>fun a ha _=>by cases ha;rfl
 |o::l,T,H=>acK hc fun T H=>Sf hc l T H
def Sg {β:Type} {o:Oper} {ev:dJ} {v:af} {H:ai} {no k:aD β} {b:β} (h:(KH P o ev v H no k).gr=some b):no.gr=some b\/(lc P o ev v H=true/\k.gr=some b):=by
 obtain⟨r,h1,h2⟩:=mA h;have hr:r≠ .no->e5 o.op P o ev H=r:=sT r h1;cases r with
 |ok v' H1=>
  right;simp only [aD.gr]at h2;unfold lc;rw [hr τ];cases hs:af.same v' v with
  |false=>rw [hs]at h2;cases h2
  |true=>rw [hs]at h2;exact⟨hs,h2⟩
 |no=>exact .inl h2
 |enter _ _ _=>exact .inl h2
 |round _ _ _=>exact .inl h2
def Sh {β:Type} {o:Oper} {ev:dJ} {v:af} {no k:aD β} {b:β}:∀{l:List ai},(KI P o ev v no k l).gr=some b->no.gr=some b\/(rR P o ev v l=true/\k.gr=some b)
 |[],h=> .inr ⟨rfl,h⟩
 |H::l,h=>by
  rcases Sg h with h|⟨h1,h2⟩
  .exact .inl h
  .rcases Sh h2 with h|⟨h3,h4⟩
   .exact .inl h
   .exact .inr ⟨by unfold rR;rw [h1];exact h3,h4⟩
def KM {β:Type} {H:ai} {no k:aD β} {b:β}:∀{l:List o8},(Fd P H no k l).gr=some b->no.gr=some b\/(qx P H l=true/\k.gr=some b)
 |[],h=> .inr ⟨rfl,h⟩
 |q::l,h=>by
  rcases Sg h with h|⟨h1,h2⟩
  .exact .inl h
  .rcases KM h2 with h|⟨h3,h4⟩
   .exact .inl h
   .exact .inr ⟨by unfold qx;rw [h1];exact h3,h4⟩
def acL (hc:rV vc call) {ops:Array Oper} {n:Nat} {o:Oper} {s:gb}:acJ (Sc P vc ops n o s) (tQ P call round ops n o s):=by
 intro a ha;rcases Sd ha with h1|⟨c,h1,h2⟩
 .cases h1
 .unfold tQ;simp only [h1];cases c with
  |false=>exact jP h2
  |true=>
   simp only at h2 ⊢;cases hk:mo P o.op with
   |p=>
    rw [hk]at h2;obtain⟨r,g1,g2⟩:=mA h2;have hr:r≠ .no->_=r:=sT r g1;cases r with
    |ok v H1=>simp only;rw [hr τ];exact jP g2
    |no=>cases g2
    |enter _ _ _=>cases g2
    |round _ _ _=>cases g2
   |r=>
    rw [hk]at h2;simp only at h2 ⊢;cases hs:s.hs with
    |nil=>rw [hs]at h2;cases h2
    |cons H l=>
     rw [hs]at h2;simp only at h2 ⊢;obtain⟨r,g1,g2⟩:=mA h2;have hr:r≠ .no->_=r:=sT r g1;cases r with
     |ok v H1=>
      rw [hr τ];simp only at g2 ⊢;rcases Sh g2 with q|⟨q1,aQ⟩
      .cases q
      .rw [q1];exact jP aQ
     |no=>cases g2
     |enter _ _ _=>cases g2
     |round _ _ _=>cases g2
   |a=>
    rw [hk]at h2;simp only at h2 ⊢;cases hop:e5 o.op P o (cm s.T) s.cur with
    |ok v H1=>rw [hop]at h2;exact jP h2
    |no=>rw [hop]at h2;cases h2
    |enter _ _ _=>rw [hop]at h2;cases h2
    |round _ _ _=>rw [hop]at h2;cases h2
   |e=>
    rw [hk]at h2;simp only at h2 ⊢;cases hb:(Nat.beq (level s.bR (bi o)) s.k&&tP s.c9 (bi o))with
    |false=>rw [hb]at h2;cases h2
    |true=>
     rw [hb]at h2;simp only [cond_true]at h2 ⊢;obtain⟨r,g1,g2⟩:=mA h2;have hr:r≠ .no->fm P call round o (cm s.T) s.cur=r:=KL hc r g1;cases r with
     |ok v H1=>
      rw [hr τ];simp only at g2 ⊢;rcases KM g2 with q|⟨q1,aQ⟩
      .cases q
      .rw [q1];exact jP aQ
     |no=>cases g2
     |enter _ _ _=>cases g2
     |round _ _ _=>cases g2
   |b=>
    rw [hk]at h2;simp only at h2 ⊢;cases hb:(Nat.beq (level s.bR (bi o)) s.k&&tP s.c9 (bi o))with
    |false=>
     rw [hb]at h2;simp only [cond_false]at h2 ⊢;cases hop:e5 o.op P o (cm s.T) s.cur with
     |ok v H1=>rw [hop]at h2;exact jP h2
     |no=>rw [hop]at h2;cases h2
     |enter _ _ _=>rw [hop]at h2;cases h2
     |round _ _ _=>rw [hop]at h2;cases h2
    |true=>
     rw [hb]at h2;simp only [cond_true]at h2 ⊢;obtain⟨r,g1,g2⟩:=mA h2;have hr:r≠ .no->fm P call round o (cm s.T) s.cur=r:=KL hc r g1;cases r with
     |ok v H1=>
      rw [hr τ];simp only at g2 ⊢;rcases KM g2 with q|⟨q1,aQ⟩
      .cases q
      .rw [q1];exact jP aQ
     |no=>cases g2
     |enter _ _ _=>cases g2
     |round _ _ _=>cases g2
def Si (hc:rV vc call) {ops:Array Oper} {n:Nat}:∀(l:List Oper) (s:gb),xU (KJ P vc ops n l s) (xN P call round ops n l s)
 |[],s=>fun a ha _=>by cases ha;rfl
 |o::l,s=>fun a ha hn=>by
  obtain⟨r,h1,h2⟩:=mA ha;cases r with
  |none=>cases h2;exact absurd rfl hn
  |some s1=>
   have:=acL (P:=P) (round:=round) hc s1 h1;unfold xN;rw [this];exact Si hc l s1 a h2 hn
def acM (hc:rV vc call) {ops:Array Oper} {n:Nat} {T:au af} {H:ai}:xU (KK P vc ops n T H) (wv P call round ops n T H):=by
 unfold KK wv;cases rQ ops.toList ops.toList 0 with
 |true=>exact Si hc _ _
 |false=>intro a ha hn;cases ha;exact absurd rfl hn
def acN {bu:bG} (hc:rV vc call):rV (Ac bu vc) (vh (bF bu) call):=fun f args H a ha hn=>by
 obtain⟨r,h1,h2⟩:=mA ha;have hS:bF bu f args H=r:=by unfold bF;rw [h1];rfl
 unfold vh;rw [hS];cases r with
 |no=>exact hc f args H a h2 hn
 |ok v H1=>cases h2;rfl
 |enter _ _ _=>cases h2;rfl
 |round _ _ _=>cases h2;rfl
def Fs (v:xS) (ih:gV):Prop:=∀c n aN T H m,acI (v c n aN T H m) (ih c n aN T H m)
def Hk {v:xS} {ih:gV} (hi:Fs v ih):rV (xT P v) (mW P ih):=fun f args H a ha hn=>by
 unfold xT at ha;unfold mW;cases hf:P.funcs[f]? with
 |none=>rw [hf]at ha;cases ha;exact absurd rfl hn
 |some fn=>
  rw [hf]at ha;simp only at ha ⊢;cases hb:fn.body with
  |none=>rw [hb]at ha;cases ha;exact absurd rfl hn
  |some c=>
   rw [hb]at ha;simp only at ha ⊢;unfold Jd;cases hl:Nat.ble args.length fn.ntmps with
   |false=>rw [hl]at ha;cases ha;exact absurd rfl hn
   |true=>
    rw [hl]at ha;simp only at ha ⊢;obtain⟨r,h1,h2⟩:=mA ha;have hr:r≠ .no->_=r:=hi _ _ _ _ _ _ r h1;cases r with
    |no=>cases h2;exact absurd rfl hn
    |normal T1 H1 m1=>rw [hr τ];cases h2;rfl
    |exit _ _ _ _=>cases h2;exact absurd rfl hn
    |goto _ _ _ _=>cases h2;exact absurd rfl hn
    |ret T1 H1 m1=>rw [hr τ];cases h2;rfl
def acO {bu:bG} {v:xS} {ih:gV} (hi:Fs v ih):Fs (Ad P (Ac bu (xT P v)) v) (fun c=>zF c P (n4 P (bF bu)) ih):=by
 have hc:rV (Ac bu (xT P v)) (vh (bF bu) (mW P ih)):=acN (Hk hi);intro c n aN T H m a ha hn;unfold Ad at ha;cases c with
 |skip=>cases ha;rfl
 |label l=>cases ha;rfl
 |region id ops d=>
  simp only at ha;obtain⟨r,h1,h2⟩:=mA ha;have hr:r≠ .no->n4 P (bF bu) d (mW P ih) (tC ih) ops n T H=r:=by
   cases d with
   |true=>exact acM hc r h1
   |false=>exact Sf hc _ _ _ r h1
  show zE m (n4 P (bF bu) d (mW P ih) (tC ih) ops n T H)=a;cases r with
  |no=>cases h2;exact absurd rfl hn
  |mk T1 H1=>rw [hr τ];cases h2;rfl
 |seq x y=>
  simp only at ha;obtain⟨r,h1,h2⟩:=mA ha;have hr:r≠ .no->ih x n aN T H m=r:=hi _ _ _ _ _ _ r h1;show(@R.rec (fun _=>R) .no (fun T H m=>ih y n aN T H m) .exit .goto .ret (ih x n aN T H m))=a
  cases r with
  |no=>cases h2;exact absurd rfl hn
  |normal T1 H1 m1=>rw [hr τ];exact hi _ _ _ _ _ _ a h2 hn
  |exit _ _ _ _=>rw [hr τ];cases h2;rfl
  |goto _ _ _ _=>rw [hr τ];cases h2;rfl
  |ret _ _ _=>rw [hr τ];cases h2;rfl
 |cond x y z=>
  simp only at ha;show(@mU.rec (fun _=>R) .no (fun b=> @Bool.rec (fun _=>R) (ih z n aN T H m) (ih y n aN T H m) b) (gI (cm T x)))=a
  cases hb:gI (cm T x)with
  |no=>rw [hb]at ha;cases ha;exact absurd rfl hn
  |mk q=>
   rw [hb]at ha;cases q with
   |true=>exact hi _ _ _ _ _ _ a ha hn
   |false=>exact hi _ _ _ _ _ _ a ha hn
 |block id b=>
  simp only at ha;obtain⟨r,h1,h2⟩:=mA ha;have hr:r≠ .no->ih b n aN T H m=r:=hi _ _ _ _ _ _ r h1;show(@R.rec (fun _=>R) .no .normal (fun i T H m=> @Bool.rec (fun _=>R) (.exit i T H m) (.normal T H m) (Nat.beq i id)) .goto .ret (ih b n aN T H m))=a
  cases r with
  |no=>cases h2;exact absurd rfl hn
  |normal _ _ _=>rw [hr τ];cases h2;rfl
  |exit i T1 H1 m1=>
   rw [hr τ];simp only at h2 ⊢;cases hb:Nat.beq i id with
   |true=>rw [hb]at h2;cases h2;rfl
   |false=>rw [hb]at h2;cases h2;rfl
  |goto _ _ _ _=>rw [hr τ];cases h2;rfl
  |ret _ _ _=>rw [hr τ];cases h2;rfl
 |loop b=>cases ha;exact absurd rfl hn
 |rangeFunc f ps x y=>cases ha;exact absurd rfl hn
 |exit id=>cases ha;rfl
 |scope b=>
  simp only at ha;obtain⟨r,h1,h2⟩:=mA ha;have hr:r≠ .no->ih b n aN T H m=r:=hi _ _ _ _ _ _ r h1;show(@R.rec (fun _=>R) .no .normal .exit (fun _ _ _ _=> .no) .ret (ih b n aN T H m))=a
  cases r with
  |no=>cases h2;exact absurd rfl hn
  |normal _ _ _=>rw [hr τ];cases h2;rfl
  |exit _ _ _ _=>rw [hr τ];cases h2;rfl
  |goto _ _ _ _=>cases h2;exact absurd rfl hn
  |ret _ _ _=>rw [hr τ];cases h2;rfl
 |goto l=>cases ha;rfl
 |ret=>cases ha;rfl
 |refuse w=>cases ha;exact absurd rfl hn
def KN {bu:bG}:∀fuel,Fs (qA P bu fuel) (qh P (n4 P (bF bu)) fuel)
 |0=>fun _ _ _ _ _ _ a ha hn=>by cases ha;exact absurd rfl hn
 |f+1=>acO (KN f)
end
end
section
open Go.RowKit
variable [Ground]
noncomputable section
inductive fE where
 |blk (k:bq)
 |opt (e:TypeId) (t:av) (xs:List t.den)
def fE.val:fE->Option bq
 | .blk k=>some k
 | .opt e t xs=>a7 e t xs
structure bH where
 n:Nat
 sl:List (Nat×af)
 bJ:List (Nat×fE)
 next:Nat
def Ft (n:Nat):au af:= @Nat.rec (fun _=>au af) .nil (fun k T=>T.set k (some .bot)) n
def Fu (T:au af) (l:List (Nat×af)):au af:= @List.rec (Nat×af) (fun _=>au af) T (fun p _ ih=>ih.set p.1 (some p.2)) l
def Ae (T:au bq) (l:List (Nat×fE)):au bq:= @List.rec (Nat×fE) (fun _=>au bq) T (fun p _ ih=>ih.set p.1 p.2.val) l
def bH.T (s:bH):au af:=Fu (Ft s.n) s.sl
def bH.H (s:bH):ai:=⟨Ae .nil s.bJ,s.next⟩
abbrev Ren:=List (Nat×Nat×Option Nat)
def look:Ren->Nat->Option (Nat×Option Nat)
 |[],_=>none
 |p::l,j=>cond (Nat.beq p.1 j) (some p.2) (look l j)
def gX (b:Bool) (p:Prop):Prop:=match b with |true=>p|false=>False
def n5 (σ:Ren) (j i:Nat):Bool:=cond (Nat.ble (j+1) 64) (Nat.beq i j) (match look σ j with |some (i',none)=>Nat.beq i i'|_=>false)
def pn (t u:av) (xs:List t.den) (ys:List u.den):Prop:=if h:t=u then h ▸ xs=ys else False
def Fv (z z':Bool) (n:Nat) (p:Prop):Prop:=match z',z with
 |true,false=>p/\Nat.ble 1 n=true
 |_,_=>p
def xV:Value->Value->Prop
 | .int k a, .int k' b=>gX (decide (k=k')) (a=b)
 | .bool a, .bool b=>a=b
 | .string a, .string b=>a=b
 |a,b=>a=b
def Sj (mode:Option Nat) (c c':aZ):Prop:=match mode with
 |none=>c=c'
 |some m=>c= .known m/\c'=bK m
def Af (σ:Ren) (i n:Nat) (cap:aZ) (j n':Nat) (cap':aZ):Prop:=match look σ j with
 |some (i',mode)=>gX (Nat.beq i i') (n=n'/\Sj mode cap cap')
 |none=>False
mutual
def vI (σ:Ren):af->af->Prop
 |_, .bot=>True
 | .raw (.slice none 0 0), .bT _ _ _ _ n _=>n=0
 | .raw (.slice none 0 0), .bt _ _ ys=>ys=[]
 | .raw a, .raw b=>xV a b
 | .ptr i off, .ptr j off'=>gX (n5 σ j i) (off=off')
 | .slice i off n c, .slice j off' n' c'=>gX (n5 σ j i) (off=off'/\n=n'/\c=c')
 | .slice i 0 n c, .bT _ _ j 0 n' c'=>Af σ i n c j n' c'
 | .func f a b, .func f' a' b'=>gX (decide (f=f')) (rW σ a a'/\rW σ b b')
 | .map i, .map j=>gX (n5 σ j i) True
 | .iface t v, .iface t' v'=>gX (Nat.beq t t') (vI σ v v')
 | .agg l, .agg l'=>rW σ l l'
 | .tuple l, .tuple l'=>rW σ l l'
 | .bt z t xs, .bt z' u ys=>Fv z z' ys.length (pn t u xs ys)
 | .ff t xs k off, .ff u ys k' off'=>pn t u xs ys/\k=k'/\off=off'
 | .bT e t i k n c, .bT e' u j k' n' c'=>gX (Nat.beq e e'&&(decide (t=u)&&n5 σ j i)) (k=k'/\n=n'/\c=c')
 | .dA e t i k off, .dA e' u j k' off'=>gX (Nat.beq e e'&&(decide (t=u)&&n5 σ j i)) (k=k'/\off=off')
 |_,_=>False
def rW (σ:Ren):List af->List af->Prop
 |[],[]=>True
 |v::l,v'::l'=>vI σ v v'/\rW σ l l'
 |_,_=>False
end
section
variable (P:Program) (mode:Option Nat) (b:Option bq) (e:TypeId) (t:av) (xs:List t.den)
def rX:Prop:=match b,mode with
 |some (.own e' u ys),none=>gX (Nat.beq e e') (pn u t ys xs)
 |some (.cells e' cs exact false false),mode=>gX (Nat.beq e e'&&(Nat.beq (P.cellsOf e) t.size&&Nat.ble 1 t.size)) (cs=t.flat xs/\match exact,mode with
  |true,some m=>m=xs.length
  |false,none=>True
  |_,_=>False)
 |_,_=>False
def Ag:Prop:=match b with
 |none=>(match mode with |none=>xs=[]|some _=>False)
 |some k=>rX P mode (some k) e t xs
end
def acP (P:Program) (e:TypeId) (t:av) (xs:List t.den):Ag P none (a7 e t xs) e t xs:=by
 cases xs with
 |nil=>exact rfl
 |cons x l=>simp [a7,Ag,rX,gX,pn]
def Ah (P:Program) (σ:Ren) (H:ai) (p:Nat×fE):Prop:=match look σ p.1 with
 |none=>(match p.2 with | .opt _ _ xs=>xs=[]| .blk _=>False)
 |some (i,mode)=>match p.2 with
  | .opt e t xs=>Ag P mode (H.get i) e t xs
  | .blk (.own e t xs)=>rX P mode (H.get i) e t xs
  | .blk (.cells e cs x f r)=>(match H.get i,mode with
    |some (.cells e' cs' x' f' r'),none=>gX (Nat.beq e e'&&(x==x'&&(f==f'&&r==r'))) (rW σ cs' cs)
    |_,_=>False)
  | .blk _=>False
def Fw (σ:Ren) (T:au af) (K:Prop):List (Nat×af)->Prop
 |[]=>K
 |p::l=>vI σ ((T.get p.1).getD (.raw undef)) p.2/\Fw σ T K l
def CC (P:Program) (σ:Ren) (H:ai) (K:Prop):List (Nat×fE)->Prop
 |[]=>K
 |p::l=>Ah P σ H p/\CC P σ H K l
def vJ (σ:Ren) (next:Nat):Bool:=match σ with
 |[]=>true
 |p::l=>Nat.ble 64 p.1&&(Nat.ble (p.1+1) next&&(l.all (fun q=> !Nat.beq q.2.1 p.2.1)&&vJ l next))
def Sk (next:Nat) (l:List (Nat×fE)):Bool:=l.all fun p=>Nat.ble 64 p.1&&Nat.ble (p.1+1) next
def Sl (n:Nat) (l:List (Nat×af)):Bool:=l.all fun p=>Nat.ble (p.1+1) n
def fit (P:Program) (σ:Ren) (n:Nat) (T:au af) (H:ai) (s:bH):Prop:=
 gX (Nat.beq s.n n&&(vJ σ s.next&&(Sk s.next s.bJ&&(Sl n s.sl&&Nat.ble 64 s.next)))) (Fw σ T (CC P σ H True s.bJ) s.sl)
def iZ {b:Bool} {p:Prop} (h:gX b p):b=true/\p:=by cases b<;>first |exact h.elim|exact⟨rfl,h⟩
def Sm {z z':Bool} {n:Nat} {p:Prop} (h:Fv z z' n p):p/\(z'=true->z=true\/n≠0):=by
 cases z' with
 |false=>exact⟨h,fun e=>by cases e⟩
 |true=>
  cases z with
  |true=>exact⟨h,fun _=> .inl rfl⟩
  |false=>exact⟨h.1,fun _=> .inr (by have:=bU h.2;omega)⟩
def Ai {t u:av} {xs:List t.den} {ys:List u.den} (h:pn t u xs ys):∃e:t=u,e ▸ xs=ys:=by
 unfold pn at h;split at h
 .exact⟨_,h⟩
 .exact h.elim
def Sn {a b:Value} (h:xV a b):a=b:=by
 unfold xV at h;split at h
 .obtain⟨h1,rfl⟩:=iZ h;rw [ap h1]
 .rw [h]
 .rw [h]
 .exact h
def ren (σ:Ren) (ρ:Env):Env:=⟨fun j=>if j<64 then ρ j else match look σ j with
 |some (i,mode)=>(match ρ i with |some (b,c)=>some (b,mode.getD c)|none=>none)
 |none=>none,ρ.fz⟩
section
variable {P:Program} {B:Nat} {ρ:Env} {H:ai} {w:World} {σ:Ren}
def xW {i j b c:Nat} (h:n5 σ j i=true) (hr:ρ i=some (b,c)):ren σ ρ j=some (b,c):=by
 show(if j<64 then ρ j else _)=_;unfold n5 at h;cases hb:Nat.ble (j+1) 64 with
 |true=>
  rw [hb]at h;have h:=ac h;subst h;have hlt:i<64:=bU hb;rw [if_pos hlt];exact hr
 |false=>
  rw [hb]at h;have hn:¬j<64:=fun hh=>by rw [fA (show j+1<=64 from hh)]at hb;cases hb
  rw [if_neg hn];simp only [cond_false]at h;split at h
  .rename_i i' hl;have h:=ac h;subst h;rw [hl];simp only [hr];rfl
  .cases h
def Den.acQ {e:TypeId} {t:av} {i j n n':Nat} {cap cap':aZ} {x:Value} (h:Af σ i n cap j n' cap') (hd:Den ρ (.slice i 0 n cap) x) (jx:64<=j):Den (ren σ ρ) (.bT e t j 0 n' cap') x:=by
 unfold Af at h;split at h
 .rename_i i' mode hl;obtain⟨h1,rfl,h3⟩:=iZ h;have h1:=ac h1;subst h1;obtain⟨b,c,k,g1,g2,g3,rfl⟩:=hd.ij;have hr:ren σ ρ j=some (b,mode.getD c):=by
   show(if j<64 then ρ j else _)=_;rw [if_neg ω,hl];simp only [g1]
  refine JH hr ?_ g3;unfold Sj at h3;cases mode with
  |none=>subst h3;exact g2
  |some m=>obtain⟨rfl,rfl⟩:=h3;cases m<;>exact g2
 .exact h.elim
def aH.split {ρ:Env}:∀{a b:List af} {ys:List Value},aH ρ (a++b) ys->∃y1 y2,ys=y1++y2/\aH ρ a y1/\aH ρ b y2
 |[],b,ys,h=>⟨[],ys,rfl, .nil,h⟩
 |v::a,b,_, .cons h1 h2=>by
  obtain⟨y1,y2,rfl,h3,h4⟩:=aH.split h2;exact⟨_::y1,y2,rfl, .cons h1 h3,h4⟩
def n6 {ρ ρ':Env} {t:av} (hc:∀(d:t.den) ys,aH ρ (t.cells d) ys->aH ρ' (t.cells d) ys):∀(xs:List t.den) ys,aH ρ (t.flat xs) ys->aH ρ' (t.flat xs) ys
 |[],ys,h=>by cases h;exact .nil
 |d::xs,ys,h=>by
  rw [av.zI]at h ⊢;obtain⟨y1,y2,rfl,h1,h2⟩:=aH.split h;exact(hc d y1 h1).append (n6 hc xs y2 h2)
def pq {ρ ρ':Env} (hf:∀b A,ρ.fz b=some A->ρ'.fz b=some A):∀(t:av) (d:t.den) ys,aH ρ (t.cells d) ys->aH ρ' (t.cells d) ys
 | .int _,d,ys,h=>by cases h with |cons h1 h2=>cases h2;rw [h1.cc];exact .cons (.raw _) .nil
 | .bool,d,ys,h=>by cases h with |cons h1 h2=>cases h2;rw [h1.cc];exact .cons (.raw _) .nil
 | .str,d,ys,h=>by cases h with |cons h1 h2=>cases h2;rw [h1.cc];exact .cons (.raw _) .nil
 | .list z t,d,ys,h=>by
   cases h with
   |cons h1 h2=>
    cases h2;refine .cons ?_ .nil;rcases Den.tF (t:=t) (xs:=d) h1 with⟨e,a,k,rfl,hz⟩|⟨b,off,k,A,g1,g2,g3,g4,rfl,g5⟩
    .have e:d=([]:List t.den):=e;subst e;exact .e6 hz
    .exact .bt (hf _ _ g1) g2 rfl (n6 (fun d ys=>pq hf t d ys) _ _ g3) g4 g5
 | .pair a b,d,ys,h=>by
   obtain⟨y1,y2,rfl,h1,h2⟩:=aH.split (a:=a.cells d.1) (b:=b.cells d.2) h;exact(pq hf a d.1 y1 h1).append (pq hf b d.2 y2 h2)
 | .ptr t,d,ys,h=>by
   cases h with
   |cons h1 h2=>
    cases h2;refine .cons ?_ .nil;obtain⟨b,o,A,g1,g2,g3,g4,rfl⟩:=Den.zJ (t:=t) (xs:=[d]) h1;exact .ff (hf _ _ g1) g2 rfl (n6 (fun d ys=>pq hf t d ys) _ _ g3) g4
 | .unit,d,ys,h=>by cases h;exact .nil
def aH.Fx {t:av} {xs:List t.den} {ys:List Value} (h:aH ρ (t.flat xs) ys):aH (ren σ ρ) (t.flat xs) ys:=n6 (ρ:=ρ) (ρ':=ren σ ρ) (fun d ys=>pq (ρ:=ρ) (ρ':=ren σ ρ) (fun _ _ h=>h) t d ys) xs ys h
mutual
def ui (hk:∀j p,look σ j=some p->64<=j):∀{v v':af} {x:Value},vI σ v v'->Den ρ v x->Den (ren σ ρ) v' x:=by
 intro v v' x h hd;unfold vI at h;split at h
 .exact .bot x
 .subst h;rw [hd.cc];exact .qi
 .subst h;rw [hd.cc];exact .e6 fun _=>⟨rfl,rfl⟩
 .rw [hd.cc,Sn h];exact .raw _
 .obtain⟨h1,rfl⟩:=iZ h;obtain⟨b,c,g1,rfl⟩:=hd.kH;exact .ptr (xW h1 g1)
 .obtain⟨h1,rfl,rfl,rfl⟩:=iZ h;obtain⟨b,c,k,g1,g2,g3,rfl⟩:=hd.ij;exact .slice (xW h1 g1) g2 g3
 .rename_i i n c e t j n' c';refine Den.acQ h hd ?_;unfold Af at h;split at h
  .rename_i hl;exact hk _ _ hl
  .exact h.elim
 .obtain⟨h1,h2,h3⟩:=iZ h;have h1:=ap h1;subst h1;obtain⟨xs,ys,g1,g2,rfl⟩:=hd.B5;exact .func (Aj hk h2 g1) (Aj hk h3 g2)
 .obtain⟨h1,_⟩:=iZ h;obtain⟨b,c,g1,rfl⟩:=hd.vk;exact .map (xW h1 g1)
 .obtain⟨h1,h2⟩:=iZ h;rw [<-ac h1];obtain⟨y,g1,rfl⟩:=hd.Qo;exact .iface (ui hk h2 g1)
 .obtain⟨xs,g1,rfl⟩:=hd.tD;exact .agg (Aj hk h g1)
 .obtain⟨xs,g1,rfl⟩:=hd.B6;exact .tuple (Aj hk h g1)
 .rename_i z t xs z' u ys;obtain⟨h2,h1⟩:=Sm h;obtain⟨e,rfl⟩:=Ai h2;subst e;rcases hd.tF with⟨rfl,a,k,rfl,hz⟩|⟨b,off,k,A,g1,g2,g3,g4,rfl,g5⟩
  .exact .e6 fun e=>(h1 e).elim hz fun hn=>absurd rfl hn
  .refine .bt g1 g2 rfl ?_ g4 fun e=>(h1 e).elim g5 fun hn hxs=>hn (by subst hxs;rfl)
   exact aH.Fx g3
 .rename_i t xs k off u ys k' off';obtain⟨h1,rfl,rfl⟩:=h;obtain⟨e,rfl⟩:=Ai h1;subst e;obtain⟨b,o,A,g1,g2,g3,g4,rfl⟩:=hd.zJ;exact .ff g1 g2 rfl (aH.Fx g3) g4
 .rename_i e t i k n c e' u j k' n' c';obtain⟨h1,rfl,rfl,rfl⟩:=iZ h;simp only [ae,bA]at h1;obtain⟨h1,rfl,h3⟩:=h1;rcases hd.jt with⟨rfl,a,rfl⟩|⟨b,c2,kc,g1,g2,g3,rfl⟩
  .exact .qi
  .exact .bT (xW h3 g1) g2 g3
 .rename_i e t i k off e' u j k' off';obtain⟨h1,rfl,rfl⟩:=iZ h;simp only [ae,bA]at h1;obtain⟨h1,rfl,h3⟩:=h1;obtain⟨b,c,g1,rfl⟩:=hd.xw;exact .dA (xW h3 g1)
 .exact h.elim
def Aj (hk:∀j p,look σ j=some p->64<=j):∀{v v':List af} {x:List Value},rW σ v v'->aH ρ v x->aH (ren σ ρ) v' x:=by
 intro v v' x h hd;unfold rW at h;split at h
 .cases hd;exact .nil
 .cases hd with
  |cons h1 h2=>exact .cons (ui hk h.1 h1) (Aj hk h.2 h2)
 .exact h.elim
end
def Sq {T:au af}:∀(l:List (Nat×af)) (t:Nat),(Fu T l).get t=match l.find? (fun p=>Nat.beq p.1 t)with |some p=>some p.2|none=>T.get t
 |[],t=>rfl
 |p::l,t=>by
  show((Fu T l).set p.1 (some p.2)).get t=_;rw [au.fY,List.find?_cons];by_cases h:p.1=t
  .subst h;simp
  .rw [if_neg h,tH h];exact Sq l t
def KO {T:au bq}:∀(l:List (Nat×fE)) (t:Nat),(Ae T l).get t=match l.find? (fun p=>Nat.beq p.1 t)with |some p=>p.2.val|none=>T.get t
 |[],t=>rfl
 |p::l,t=>by
  show((Ae T l).set p.1 p.2.val).get t=_;rw [au.fY,List.find?_cons];by_cases h:p.1=t
  .subst h;simp
  .rw [if_neg h,tH h];exact KO l t
def Sr:∀(n t:Nat),(Ft n).get t=if t<n then some .bot else none
 |0,t=>au.get_nil t
 |n+1,t=>by
  show((Ft n).set n (some .bot)).get t=_;rw [au.fY,Sr n t];by_cases h:n=t
  .subst h;simp
  .rw [if_neg h];by_cases h2:t<n
   .rw [if_pos h2,if_pos ω]
   .rw [if_neg h2,if_neg ω]
def KP {T:au af} {K:Prop}:∀{l:List (Nat×af)},Fw σ T K l->K/\∀p∈l,vI σ ((T.get p.1).getD (.raw undef)) p.2
 |[],h=>⟨h,fun _ h=>by cases h⟩
 |p::l,h=>by
  obtain⟨h1,h2⟩:=KP h.2;refine⟨h1,fun q hq=> ?_⟩;rcases ek.1 hq with rfl |hq
  .exact h.1
  .exact h2 q hq
def KQ {K:Prop}:∀{l:List (Nat×fE)},CC P σ H K l->K/\∀p∈l,Ah P σ H p
 |[],h=>⟨h,fun _ h=>by cases h⟩
 |p::l,h=>by
  obtain⟨h1,h2⟩:=KQ h.2;refine⟨h1,fun q hq=> ?_⟩;rcases ek.1 hq with rfl |hq
  .exact h.1
  .exact h2 q hq
def CD {next:Nat}:∀{σ:Ren},vJ σ next=true->∀{j i:Nat} {m:Option Nat},look σ j=some (i,m)->64<=j/\j<next
 |[],_,j,i,m,h=>by cases h
 |p::l,ho,j,i,m,h=>by
  simp only [vJ,ae]at ho;obtain⟨h1,h2,_,h4⟩:=ho;unfold look at h;cases hb:Nat.beq p.1 j with
  |true=>
   have:=ac hb;subst this;exact⟨bU h1,bU h2⟩
  |false=>rw [hb]at h;exact CD h4 h
def Ss:∀{σ:Ren} {j i:Nat} {m:Option Nat},look σ j=some (i,m)->(j,i,m)∈σ
 |[],j,i,m,h=>by cases h
 |p::l,j,i,m,h=>by
  unfold look at h;cases hb:Nat.beq p.1 j with
  |true=>
   rw [hb]at h;have:=ac hb;subst this;have e:=jP h;rw [<-e];exact lW
  |false=>rw [hb]at h;exact lV _ (Ss h)
def St {next:Nat}:∀{σ:Ren},vJ σ next=true->∀{j j' i:Nat} {m m':Option Nat},look σ j=some (i,m)->look σ j'=some (i,m')->j=j'
 |[],_,j,j',i,m,m',h,_=>by cases h
 |p::l,ho,j,j',i,m,m',h,h'=>by
  simp only [vJ,ae]at ho;obtain⟨_,_,h3,h4⟩:=ho;have key:∀{x:Nat} {mx:Option Nat},look l x=some (i,mx)->p.2.1≠i:=fun hx e=>by
   have:=List.all_eq_true.1 h3 _ (Ss hx);rw [e]at this;simp at this
  unfold look at h h';cases hb:Nat.beq p.1 j<;>cases hb':Nat.beq p.1 j'<;>rw [hb]at h<;>rw [hb']at h'<;>simp only [cond_true,cond_false]at h h'
  .exact St h4 h h'
  .exact absurd (congrArg Prod.fst (jP h')) (key h)
  .exact absurd (congrArg Prod.fst (jP h)) (key h')
  .rw [<-ac hb,<-ac hb']
def KR {j i b c:Nat} {mode:Option Nat} (hl:look σ j=some (i,mode)) (jx:64<=j) (hr:ρ i=some (b,c)):ren σ ρ j=some (b,mode.getD c):=by
 show(if j<64 then ρ j else _)=_;rw [if_neg ω,hl];simp only [hr]
def acR {e:TypeId} {t:av} {xs:List t.den} {k:bq} (h:a7 e t xs=some k):k= .own e t xs:=by
 cases xs with
 |nil=>cases h
 |cons x l=>cases h;rfl
def Su {mode:Option Nat} {e:TypeId} {t:av} {xs:List t.den} {i j:Nat} (h:rX P mode (H.get i) e t xs) (hH:bh P B ρ H w) (hl:look σ j=some (i,mode)) (jx:64<=j):
  ∃k b c o,H.get i=some k/\ρ i=some (b,c)/\w.heap[b]? =some o/\ren σ ρ j=some (b,mode.getD c)/\gK P (ren σ ρ) j (.own e t xs) o/\k.eO=false/\(k.eO=false->B<=b):=by
 unfold rX at h;split at h
 .rename_i e' u ys hi;obtain⟨h1,h2⟩:=iZ h;have h1:=ac h1;obtain⟨e0,h2⟩:=Ai h2;subst h1;subst e0;subst h2;obtain⟨b,c,o,g1,g2,⟨⟨zs,fz,k1,k2,dG,mg,o7⟩,xD,Fy⟩,g4⟩:=hH.blk i _ hi;have hr:=KR hl jx g1;refine⟨_,b,c,o,hi,g1,g2,hr,⟨⟨zs,fz,k1,k2,aH.Fx dG,mg,fun hx=> ?_⟩,xD,Fy⟩,rfl,g4⟩;obtain⟨b',c',q1,aQ⟩:=o7 hx;rw [g1]at q1;cases q1;exact⟨b,c,hr,aQ⟩
 .rename_i e' cs Q5 m hi;obtain⟨h1,h2,h3⟩:=iZ h;simp only [ae]at h1;obtain⟨h1,h4,h5⟩:=h1;have h1:=ac h1;have h4:=ac h4;have h5:=bU h5;subst h1;subst h2;obtain⟨b,c,o,g1,g2,⟨zs,fz,k1,k2,dG,mg,o7⟩,g4⟩:=hH.blk i _ hi;have hr:=KR hl jx g1;refine⟨_,b,c,o,hi,g1,g2,hr,⟨⟨zs,fz,k1,k2,aH.Fx dG,(fun hx=>by cases hx),fun _=> ?_⟩,h4,h5⟩,rfl,g4⟩;split at h3
  .subst h3;exact⟨b,_,hr,by rw [mg rfl,t.iW,h4];rfl⟩
  .obtain⟨b',c',q1,aQ⟩:=o7 rfl;rw [g1]at q1;cases q1;exact⟨b,c,hr,aQ⟩
  .exact h3.elim
 .exact h.elim
def Sw (hH:bh P B ρ H w) {s:bH} (hr:vJ σ s.next=true) (he:∀p∈s.bJ,Ah P σ H p) {j:Nat} {k':bq} (hj:s.H.get j=some k'):
  ∃i mode k b c o,look σ j=some (i,mode)/\64<=j/\j<s.next/\H.get i=some k/\ρ i=some (b,c)/\w.heap[b]? =some o/\ren σ ρ j=some (b,mode.getD c)/\gK P (ren σ ρ) j k' o/\k'.eO=k.eO/\(k.eO=false->B<=b):=by
 have hj:(Ae .nil s.bJ).get j=some k':=hj;rw [KO]at hj;split at hj
 .rename_i p hp;have hm:=List.mem_of_find?_eq_some hp;have acS:p.1=j:=ac (List.find?_some (p:=fun(q:Nat×fE)=>Nat.beq q.1 j) hp);have fR:=he p hm;unfold Ah at fR;rw [acS]at fR;split at fR
  .split at fR
   .rename_i e t xs hp2;rw [hp2,fR]at hj;cases hj
   .exact fR.elim
  .rename_i i mode hl;obtain⟨l1,l2⟩:=CD hr hl;refine⟨i,mode, ?_⟩;split at fR
   .rename_i e t xs hp2;rw [hp2]at hj;have fR:rX P mode (H.get i) e t xs:=by
     unfold Ag at fR;split at fR
     .split at fR
      .subst fR;cases hj
      .exact fR.elim
     .rename_i hi;rw [hi];exact fR
    obtain rfl:=acR hj;obtain⟨k,b,c,o,q1,aQ,b8,eo,qC,qD,qE⟩:=Su fR hH hl l1;exact⟨k,b,c,o,hl,l1,l2,q1,aQ,b8,eo,qC,qD.symm,qE⟩
   .rename_i e t xs hp2;rw [hp2]at hj;cases hj;obtain⟨k,b,c,o,q1,aQ,b8,eo,qC,qD,qE⟩:=Su fR hH hl l1;exact⟨k,b,c,o,hl,l1,l2,q1,aQ,b8,eo,qC,qD.symm,qE⟩
   .rename_i e cs x f r hp2;rw [hp2]at hj;cases hj;split at fR
    .rename_i e' cs' x' f' r' hi;obtain⟨h1,h2⟩:=iZ fR;simp only [ae,fP]at h1;obtain⟨h1,h3,h4,h5⟩:=h1;have h1:=ac h1;subst h1;subst h3;subst h4;subst h5;obtain⟨b,c,o,g1,g2,⟨zs,fz,k1,k2,dG,mg,o7⟩,g4⟩:=hH.blk i _ hi;have gM:=KR hl l1 g1;have hd:=Aj (fun j p hq=>(CD hr (j:=j) (i:=p.1) (m:=p.2) hq).1) h2 dG;have hlen:cs'.length=cs.length:=by
      have e1:=dG.length;have e2:=hd.length;omega
     refine⟨_,b,c,o,hl,l1,l2,hi,g1,g2,gM,⟨zs,fz,k1,k2,by rw [<-hlen];exact hd,fun hx=>by rw [mg hx,hlen],fun hx=> ?_⟩,rfl,g4⟩;obtain⟨b',c',q1,aQ⟩:=o7 hx;rw [g1]at q1;cases q1;exact⟨b,c,gM,aQ⟩
    .exact fR.elim
   .exact fR.elim
 .rw [au.get_nil]at hj;cases hj
def acT {n:Nat} {T:au af} {a:Act} {s:bH} (aR:ez P B ρ n T H a w) (h:fit P σ n T H s):ez P B (ren σ ρ) n s.T s.H a w/\∀i,s.next<=i->ren σ ρ i=none:=by
 obtain⟨h1,h2⟩:=iZ h;simp only [ae]at h1;obtain⟨h1,h3,h4,h5,h6⟩:=h1;have h1:=ac h1;have h6:=bU h6;obtain⟨h7,h8⟩:=KP h2;obtain⟨_,h9⟩:=KQ h7;have old:=fun {j:Nat} {k':bq} (hj:s.H.get j=some k')=>Sw aR.H h3 h9 hj
 refine⟨⟨⟨aR.T.size,fun t=> ?_⟩,⟨fun j k' hj=> ?_,fun j1 j2 k1 k2 b c1 c2 acU hj2 r1 r2=> ?_,fun j k' hj=> ?_,aR.H.base,fun b A hb=>⟨(aR.H.fz b A hb).1,fun j k' c hj hr=> ?_⟩⟩,⟨fun g hg=> ?_,aR.G.zS⟩⟩,fun i hi=> ?_⟩
 .have e:s.T=Fu (Ft s.n) s.sl:=rfl;rw [e,Sq];split
  .rename_i p hp;have hm:=List.mem_of_find?_eq_some hp;have hpt:p.1=t:=ac (List.find?_some (p:=fun(q:Nat×af)=>Nat.beq q.1 t) hp);have:=aR.T.get p.1;rw [hpt]at this;have hv:=h8 p hm;rw [hpt]at hv;exact ui (fun j q hq=>(CD h3 (j:=j) (i:=q.1) (m:=q.2) hq).1) hv this
  .rw [Sr,h1];by_cases ht:t<n
   .rw [if_pos ht];exact .bot _
   .rw [if_neg ht];have:a.tmps.getD t undef=undef:=by
     rw [Array.getD_eq_getD_getElem?,Array.getElem?_eq_none (by rw [aR.T.size];omega)];rfl
    rw [this];exact .raw _
 .obtain⟨i,mode,k,b,c,o,q1,aQ,b8,eo,qC,qD,qE,KS,CE,KT⟩:=old hj;exact⟨b,_,o,qE,qD,KS,fun e=>KT (CE ▸ e)⟩
 .obtain⟨i1,m1,acV,b1,d1,o1,p1,p2,p3,dS,kO,pz,xX,_⟩:=old acU;obtain⟨i2,m2,acW,b2,d2,o2,q1,aQ,b8,eo,qC,qD,qE,_⟩:=old hj2;rw [xX]at r1;cases r1;rw [qE]at r2;cases r2;have:=aR.H.inj i1 i2 acV acW b d1 d2 dS eo kO qC;subst this;exact St h3 p1 q1
 .obtain⟨i,mode,k,b,c,o,q1,aQ,b8,_⟩:=old hj;exact b8
 .obtain⟨i,mode,k,b',c',o,q1,aQ,b8,eo,qC,qD,qE,KS,CE,KT⟩:=old hj;rw [qE]at hr;cases hr;rw [CE];exact(aR.H.fz b A hb).2 i k c' eo qC
 .obtain⟨c,hc⟩:=aR.G.at' g hg;refine⟨c, ?_⟩;show(if g<64 then ρ g else _)=_;rw [if_pos hg];exact hc
 .show(if i<64 then ρ i else _)=_;rw [if_neg ω];cases hl:look σ i with
  |none=>rfl
  |some p=>exact absurd (CD h3 (j:=i) (i:=p.1) (m:=p.2) hl).2 ω
def Sy {n:Nat} {T:au af} {a:Act} {s:bH} (aR:ez P B ρ n T H a w) (h:fit P σ n T H s) {b:Nat} (hb:Own (ren σ ρ) s.H b):Own ρ H b:=by
 obtain⟨h1,h2⟩:=iZ h;simp only [ae]at h1;obtain⟨_,h3,_⟩:=h1;obtain⟨h7,_⟩:=KP h2;obtain⟨_,h9⟩:=KQ h7;obtain⟨j,k',c',hj,hro,hr⟩:=hb;obtain⟨i,mode,k,b',d,o,q1,aQ,b8,eo,qC,qD,qE,KS,CE,KT⟩:=Sw aR.H h3 h9 hj;rw [qE]at hr;cases hr;exact⟨i,k,_,eo,by rw [<-hro,CE],qC⟩
end
end
end
end Go.Proofs.YtibikmmdbdlafaaGreatDoor.Sv
