import Derived.Test.YtibikmmdbdlafaaGreatDoorZcSvDraw6
set_option linter.defProp false
set_option linter.unusedSectionVars false
set_option linter.unusedSimpArgs false
namespace Go.Proofs.YtibikmmdbdlafaaGreatDoor.Sv
open Go.RowKit
def at1 (r:aL):Bool:=match r with | .ok (.raw (.bool b)) _=>b|_=>false
end Go.Proofs.YtibikmmdbdlafaaGreatDoor.Sv
namespace Go.Proofs.YtibikmmdbdlafaaGreatDoor.Sv
noncomputable section
inductive aD (α:Type) where
 |ret (a:α)
 |must (b:Bool) (k:aD α)
 |ask (b:Bool) (k:Bool->aD α)
 |opt (b:Bool) (k l:aD α)
def aD.gr {α:Type}:aD α->Option α
 | .ret a=>some a
 | .must b k=>cond b k.gr none
 | .ask b k=>(k b).gr
 | .opt b k l=>cond b k.gr l.gr
def aD.bind {α β:Type} (x:aD α) (f:α->aD β):aD β:=match x with
 | .ret a=>f a
 | .must b k=> .must b (k.bind f)
 | .ask b k=> .ask b fun c=>(k c).bind f
 | .opt b k l=> .opt b (k.bind f) (l.bind f)
def aD.path {α:Type}:aD α->List Bool->(α->Prop)->Prop
 | .ret a,_,Q=>Q a
 | .must b k,D,Q=>b=true/\k.path D Q
 | .ask b k,[],Q=>(k b).path [] Q
 | .ask b k,c::D,Q=>b=c/\(k c).path D Q
 | .opt b k _,D,Q=>b=true/\k.path D Q
def aD.uh {α:Type}:aD α->List Bool->(α->Prop)->Prop
 | .ret a,_,Q=>Q a
 | .must b k,D,Q=>b=true/\k.uh D Q
 | .ask b k,[],Q=>(k b).uh [] Q
 | .ask b k,c::D,Q=>b=c/\(k c).uh D Q
 | .opt b _ l,D,Q=>b=false/\l.uh D Q
def aD.qJ {α β:Type}:∀(x:aD α) (f:α->aD β),(x.bind f).gr=x.gr.bind fun a=>(f a).gr
 | .ret a,f=>rfl
 | .must b k,f=>by cases b<;>simp [aD.bind,aD.gr,aD.qJ k f]
 | .ask b k,f=>by simp [aD.bind,aD.gr,aD.qJ (k b) f]
 | .opt b k l,f=>by cases b<;>simp [aD.bind,aD.gr,aD.qJ k f,aD.qJ l f]
def aD.uj {α:Type} {Q:α->Prop}:∀(x:aD α) (D:List Bool),x.path D Q->∃a,x.gr=some a/\Q a
 | .ret a,D,h=>⟨a,rfl,h⟩
 | .must b k,D,h=>by
   obtain⟨h1,h2⟩:=h;subst h1;exact uj k D h2
 | .ask b k,[],h=>uj (k b) [] h
 | .ask b k,c::D,h=>by
   obtain⟨h1,h2⟩:=h;subst h1;exact uj (k b) D h2
 | .opt b k l,D,h=>by
   obtain⟨h1,h2⟩:=h;subst h1;exact uj k D h2
def aD.CV {α:Type} {Q:α->Prop}:∀(x:aD α) (D:List Bool),x.uh D Q->∃a,x.gr=some a/\Q a
 | .ret a,D,h=>⟨a,rfl,h⟩
 | .must b k,D,h=>by
   obtain⟨h1,h2⟩:=h;subst h1;exact CV k D h2
 | .ask b k,[],h=>CV (k b) [] h
 | .ask b k,c::D,h=>by
   obtain⟨h1,h2⟩:=h;subst h1;exact CV (k b) D h2
 | .opt b k l,D,h=>by
   obtain⟨h1,h2⟩:=h;subst h1;exact CV l D h2
abbrev d8:=Program->Oper->dP->ai->aD aL
def fits (k:IntKind) (r:Int):Bool:=decide (k.min<=r)&&decide (r<=k.max)
def uk (k:IntKind) (r:Int) (H:ai):aD aL:=match k.signed with
 |true=> .opt (fits k r) (.ret (.ok (.raw (.int k r)) H)) (.ret (.ok (.raw (.int k (k.wrap r))) H))
 |false=> .ret (.ok (.raw (.int k (k.wrap r))) H)
def R9 (op:BinOp) (k:IntKind) (a b:Int) (H:ai):Option (aD aL):=match op with
 | .add=>some (uk k (a+b) H)
 | .sub=>some (uk k (a-b) H)
 | .mul=>some (uk k (a*b) H)
 | .quo=>some (.must (decide (b≠0)) (uk k (a.tdiv b) H))
 | .rem=>some (.must (decide (b≠0)) (.ret (.ok (.raw (.int k (a.tmod b))) H)))
 | .eql=>some (.ret (.ok (.raw (.bool (a==b))) H))
 | .neq=>some (.ret (.ok (.raw (.bool (a != b))) H))
 | .lss=>some (.ret (.ok (.raw (.bool (decide (a<b)))) H))
 | .leq=>some (.ret (.ok (.raw (.bool (decide (a<=b)))) H))
 | .gtr=>some (.ret (.ok (.raw (.bool (decide (a>b)))) H))
 | .geq=>some (.ret (.ok (.raw (.bool (decide (a>=b)))) H))
 |_=>none
def Ko (op:BinOp) (t:TypeId) (x y:Operand) (ah:TypeId):d8:=fun P o ev H=>match iI (ev x),iI (ev y)with
 | .int k a, .int k' b=>(match k==k' with
   |true=>(match R9 op k a b H with |some r=>r|none=> .ret (ag H (oS P o ev op k k' a b)))
   |false=> .ret .no)
 |_,_=> .ret (iZ op t x y ah P o ev H)
def Kq (c a b:Operand):d8:=fun _ _ ev H=>match gK (ev c)with
 | .mk q=> .ask q fun r=>match r with |true=> .ret (.ok (ev a) H)|false=> .ret (.ok (ev b) H)
 | .no=> .ret .no
def yo (v:aa) (f:Nat->aD aL):aD aL:=match iI v with
 | .int _ z=> .must (decide (0<=z)) (f z.toNat)
 | .no=> .ret .no
def Kr (k s:Nat) (x:aa) (H:ai):aD aL:=match x with
 | .bn _ t xs=>(match Nat.beq t.size s with
   |true=> .must (decide (k<xs.length)) (.ret (.ok (.fy t xs k 0) H))
   |false=> .ret .no)
 | .bR e t i k0 len _=>(match Nat.beq t.size s with
   |true=> .must (decide (k<len)) (.ret (.ok (.dL e t i (k0+k) 0) H))
   |false=> .ret .no)
 |_=> .ret .no
def Ks:aa->Bool
 | .bn _ _ _=>true
 | .bR _ _ _ _ _ _=>true
 |_=>false
def Kt (t:TypeId) (x ix:Operand):d8:=fun P o ev H=>match Ks (ev x),nV P t with
 |true, .sl s=>yo (ev ix) fun k=>Kr k s (ev x) H
 |_,_=> .ret (nt t x ix P o ev H)
def Sa (P:Program) (t:TypeId) (x:aa) (H:ai) (d:aL):aD aL:=match x with
 | .dL e u i k off=> .must (bz e u (H.get i) k) (.ret (ag H (oQ P t (elemAt u (bN u (H.get i)) k) off)))
 |_=> .ret d
def Ku (t:TypeId) (x:Operand):d8:=fun P o ev H=>Sa P t (ev x) H (nY t x P o ev H)
def Sb (P:Program) (t:TypeId) (x y:aa) (H:ai) (d:aL):aD aL:=match x with
 | .dL e u i k off=> .must (bz e u (H.get i) k) (match eW y.cells&&tK P t y.cells.length with
   |true=>(match(lj (elemAt u (bN u (H.get i)) k) off y.cells).bind u.read with
    |some d=> .ret (.ok (.raw undef) (H.set i (.own e u ((bN u (H.get i)).set k d))))
    |none=> .ret .no)
   |false=> .ret .no)
 |_=> .ret d
def Kv (t:TypeId) (x y:Operand):d8:=fun P o ev H=>Sb P t (ev x) (ev y) H (qp t x y P o ev H)
def Hm (v:Option aa) (d:Nat) (f:Nat->aD aL):aD aL:=match v with
 |none=>f d
 |some v=>yo v f
def FB (P:Program) (e:TypeId) (s n:Nat) (lo hi mx:Option aa) (_:ai) (k:Nat->Nat->aD aL):aD aL:=
 match mx with
 |none=>(match ey P e with
  |some s'=>(match Nat.beq s s' with
   |true=>Hm hi n fun h=>Hm lo 0 fun l=> .must (decide (l<=h)) (.must (decide (h<=n)) (k l h))
   |false=> .ret .no)
  |none=> .ret .no)
 |_=> .ret .no
def Sc (P:Program) (t:TypeId) (x:aa) (lo hi mx:Option aa) (H:ai) (d:aL):aD aL:=match P.underlying t,x with
 |some (.slice e), .bn _ u xs=>FB P e u.size xs.length lo hi mx H fun l h=> .ret (.ok (.bn false u ((xs.take h).drop l)) H)
 |some (.slice e), .bR e' u i k len cap=>FB P e u.size len lo hi mx H fun l h=> .ask (Nat.beq l 0) fun c=>match c with
  |true=> .ret (.ok (.bR e' u i k h cap) H)
  |false=> .ask (decide (l<h)) fun c=>match c with
   |true=> .ret (.ok (.bR e' u i (k+l) (h-l) .any) H)
   |false=> .ret (.ok (.bn false u []) H)
 |_,_=> .ret d
def Kw (t:TypeId) (x:Operand) (lo hi mx:Option Operand):d8:=fun P o ev H=>match Ks (ev x)with
 |true=>Sc P t (ev x) (lo.map ev) (hi.map ev) (mx.map ev) H .no
 |false=> .ret (oT t x lo hi mx P o ev H)
def Ky (H:ai) (ty:av) (s:Nat) (x:aa) (f:List ty.den->Nat->aD aL):aD aL:=match x with
 | .bR e u j k len _=>(match decide (u=ty)with
   |true=> .must (Nat.beq len 0||bz e ty (H.get j) (k+len-1)) (f (((bN ty (H.get j)).drop k).take len) len)
   |false=> .ret .no)
 |x=>match zW H ty s x with |some (ds,n)=>f ds n|none=> .ret .no
def CW (P:Program) (t:TypeId) (e:TypeId) (ty:av) (i k len:Nat) (cap:aX) (sk:Bool) (x:aa) (H:ai):aD aL:=
 match il P t with
 |some el=>(match P.info? el with
  |some inf=>(match inf.zero with
   |some z=>(match Nat.beq z.cells.size inf.size&&Nat.ble 1 inf.size&&Nat.beq el e&&Nat.beq ty.size inf.size with
    |true=> .must (Nat.beq k 0) (Ky H ty inf.size x fun ds n=> .ask (Nat.beq n 0) fun c=>match c with
     |true=> .ret (.ok (.bR e ty i k len cap) (cond sk H.skip H))
     |false=> .must (wt e ty (H.get i) len cap) (.must (bounded (len+n) inf.bytes)
       (.ret (.ok (.bR e ty H.next 0 (len+n) .full) ((H.drop i).new (.own e ty (bN ty (H.get i)++ds)))))))
    |false=> .ret .no)
   |none=> .ret .no)
  |none=> .ret .no)
 |none=> .ret .no
def acz:aa->Bool
 | .bR _ _ _ _ _ _=>true
 |_=>false
def FC (P:Program) (t:TypeId) (s x:aa) (H:ai) (d:aL):aD aL:=match s with
 | .bR e ty i k len cap=>(match xL ty x H with
   |some (b,H')=> .must b (CW P t e ty i k len cap false x H')
   |none=>CW P t e ty i k len cap false x H)
 |s=>match x with
  | .bn z ty ys=>(match EP s with
    |true=>(match il P t with
     |some e=>CW P t e ty H.next 0 0 (.known 0) true (.bn z ty ys) H
     |none=> .ret .no)
    |false=> .ret .no)
  |_=> .ret d
def Sd (P:Program) (pt:TypeId) (x n:aa) (H:ai) (d:aL):aD aL:=match x with
 | .dL e' u i 0 0=>(match EY P pt e' u with
   |true=>(match n with
    | .raw (.int .i64 (.ofNat n))=> .must (Nat.ble 1 n) (.must (Nat.ble n 140737488355328) (.must (bz e' (.int .u8) (H.get i) (n-1)) (.must (Jg ((bN (.int .u8) (H.get i)).take n))
      (.ret (.ok (.raw (.string (oX ((bN (.int .u8) (H.get i)).take n)))) (H.drop i))))))
    |_=> .ret .no)
   |false=> .ret .no)
 |_=> .ret d
def Kz (c:Call):d8:=fun P o ev H=>match c.callee,c.args.toList.map ev,c.argTypes.toList with
 | .builtin .append,[s,x],[t,t']=>(match P.underlying t' with
   |some (.slice _)=>FC P t s x H (fj c P o ev H)
   |some .string=>(match acz s with
    |true=>FC P t s x H (fj c P o ev H)
    |false=> .ret (fj c P o ev H))
   |_=> .ret (fj c P o ev H))
 | .builtin .unsafeString,[x,n],[pt,_]=>Sd P pt x n H (fj c P o ev H)
 | .builtin .unsafeSliceData,[.bR e u i k len _],_=> .must (Nat.ble 1 len) (.ret (.ok (.dL e u i k 0) H))
 |_,_,_=> .ret (fj c P o ev H)
def KA (t:TypeId) (l c:Operand):d8:=fun P _ ev H=>match il P t with
 |some e=>(match P.info? e with
  |some inf=>(match inf.zero with
   |some z=>yo (ev l) fun n=>yo (ev c) fun m=>(match Nat.ble 1 inf.size&&Nat.beq z.cells.size inf.size with
    |true=> .must (decide (n<=m)) (.must (bounded m inf.bytes) (.ret (.ok (.slice H.next 0 n (.known m)) (H.new (.cells e (List.replicate m (ic z.cells)).flatten true false false)))))
    |false=> .ret .no)
   |none=> .ret .no)
  |none=> .ret .no)
 |none=> .ret .no
def FD (s:AT) (k:Nat):Int:=((s.data.toList.getD k 0).toNat:Nat)
def AA (a b:AT):Bool:=decide (a.data.toList=b.data.toList)
def Hn (v:aa):Option AT:=match v with
 | .raw (.string s)=>some s
 |_=>none
def KB (t:TypeId) (x ix:Operand):d8:=fun P o ev H=>match Hn (ev x)with
 |some s=>(match P.underlying t with
  |some .string=>yo (ev ix) fun k=> .must (decide (k<s.size)) (.ret (.ok (.raw (.int .u8 (FD s k))) H))
  |_=> .ret .no)
 |none=> .ret (mm t x ix P o ev H)
def Se (P:Program) (t:TypeId) (s:AT) (lo hi mx:Option aa) (H:ai):aD aL:=match P.underlying t,mx with
 |some .string,none=>Hm hi s.size fun h=>Hm lo 0 fun l=> .must (decide (l<=h)) (.must (decide (h<=s.size)) (.ret (.ok (.raw (.string (s.extract l h))) H)))
 |_,_=> .ret .no
def KC (t:TypeId) (x:Operand) (lo hi mx:Option Operand):d8:=fun P o ev H=>match Hn (ev x)with
 |some s=>Se P t s (lo.map ev) (hi.map ev) (mx.map ev) H
 |none=>Kw t x lo hi mx P o ev H
def Sf (op:BinOp) (a b:AT) (H:ai) (d:aL):aD aL:=match op with
 | .add=> .must (decide (a.size+b.size<=9223372036854775807)) (.ret (.ok (.raw (.string (a++b))) H))
 | .eql=> .ret (.ok (.raw (.bool (AA a b))) H)
 | .neq=> .ret (.ok (.raw (.bool (!AA a b))) H)
 |_=> .ret d
def acA:BinOp->Bool
 | .shl=>true
 | .shr=>true
 |_=>false
def acB (op:BinOp) (k:IntKind) (a b:Int) (H:ai):aD aL:= .must (decide (0<=b)) (match op with
 | .shl=> .ret (.ok (.raw (.int k (k.wrap (a*2^(min b.toNat k.bits))))) H)
 | .shr=> .ret (.ok (.raw (.int k (a.fdiv (2^(min b.toNat k.bits))))) H)
 |_=> .ret .no)
def KD (op:BinOp) (t:TypeId) (x y:Operand) (ah:TypeId):d8:=fun P o ev H=>match Hn (ev x),Hn (ev y)with
 |some a,some b=>Sf op a b H (iZ op t x y ah P o ev H)
 |_,_=>(match acA op,iI (ev x),iI (ev y)with
  |true, .int k a, .int _ b=>acB op k a b H
  |_,_,_=>Ko op t x y ah P o ev H)
def CX (op:Op):d8:=match op with
 | .binOp op t x y ah=>KD op t x y ah
 | .pick c a b=>Kq c a b
 | .indexAddr t x ix=>Kt t x ix
 | .load t x=>Ku t x
 | .store t x y=>Kv t x y
 | .slice t x lo hi mx=>KC t x lo hi mx
 | .index t x ix=>KB t x ix
 | .call c=>Kz c
 | .makeSlice t l c=>KA t l c
 |op=>fun P o ev H=> .ret (e9 op P o ev H)
def Ref (t:aD aL) (r:aL):Prop:=∀a,t.gr=some a->a≠ .no->r=a
def Ref.ret {r:aL}:Ref (.ret r) r:=fun a h _=>by cases h;rfl
def Ref.no {r:aL}:Ref (.ret .no) r:=fun a h hn=>by cases h;exact absurd rfl hn
def Ref.must {b:Bool} {k:aD aL} {r:aL} (h:b=true->Ref k r):Ref (.must b k) r:=fun a ha hn=>by
 cases b with
 |false=>cases ha
 |true=>exact h rfl a ha hn
def Ref.opt {b:Bool} {k l:aD aL} {r:aL} (h:b=true->Ref k r) (g:b=false->Ref l r):Ref (.opt b k l) r:=fun a ha hn=>by
 cases b with
 |false=>exact g rfl a ha hn
 |true=>exact h rfl a ha hn
def Ref.ask {b:Bool} {k:Bool->aD aL} {r:aL} (h:Ref (k b) r):Ref (.ask b k) r:=h
section
variable {P:Program} {o:Oper} {ev:dP} {H:ai}
def Sg {k:IntKind} {r:Int} (h:fits k r=true):k.wrap r=r:=by
 unfold fits at h;rw [ae]at h;have h1:=ap h.1;have h2:=ap h.2;cases k<;>simp [IntKind.wrap,IntKind.min,IntKind.max,IntKind.signed,IntKind.bits]at h1 h2 ⊢ <;>omega
def acC {op:BinOp} {k:IntKind} {a b r:Int} (hop:op= .add/\r=a+b\/op= .sub/\r=a-b\/op= .mul/\r=a*b):tF P op k a b=some (.int k (k.wrap r)):=by
 rcases hop with⟨rfl,rfl⟩|⟨rfl,rfl⟩|⟨rfl,rfl⟩<;>rfl
def Sh {k:IntKind} {r:Int} {d:aL} (h:d= .ok (.raw (.int k (k.wrap r))) H):Ref (uk k r H) d:=by
 subst h;unfold uk;split
 .exact .opt (fun hb=>by rw [Sg hb];exact .ret) fun _=> .ret
 .exact .ret
def KE {op:BinOp} {t:TypeId} {x y:Operand} {ah:TypeId} {k k':IntKind} {a b:Int} (hx:iI (ev x)= .int k a) (hy:iI (ev y)= .int k' b):
  iZ op t x y ah P o ev H=(match ju op k k' a b with |some v=> .ok v H|none=>ag H (oS P o ev op k k' a b)):=by
 unfold iZ;rw [hx,hy];show(@Option.rec aa (fun _=>aL) (ag H (oS P o ev op k k' a b)) (fun v=> .ok v H) (ju op k k' a b))=_
 cases ju op k k' a b<;>rfl
def FE {op:BinOp} {k:IntKind} {a b:Int} {v:Value} (h:tF P op k a b=some v):oS P o ev op k k a b=some (.raw v):=by
 unfold oS;rw [h];simp
section
variable {op:BinOp} {t:TypeId} {x y:Operand} {ah:TypeId}
def acD {k:IntKind} {a b:Int} {r:aD aL} (hx:iI (ev x)= .int k a) (hy:iI (ev y)= .int k b) (h:R9 op k a b H=some r):Ref r (iZ op t x y ah P o ev H):=by
 rw [KE hx hy];have arith:∀c:Int,(op= .add/\c=a+b\/op= .sub/\c=a-b\/op= .mul/\c=a*b)->r=uk k c H->Ref r (match ju op k k a b with |some v=> .ok v H|none=>ag H (oS P o ev op k k a b)):=by
  intro c hc hr;subst hr;cases hf:ju op k k a b with
  |none=>simp only;rw [FE (acC hc)];exact Sh rfl
  |some v=>
   obtain⟨m,n,rfl,_,rfl,rfl,hn⟩:=xZ hf;simp only;have hs:∀{q:Nat},small q=some v->c=q->Ref (uk .i64 c H) (.ok v H):=fun {q} h1 h2=>by
    obtain⟨h3,h4⟩:=ns h1;subst h2;subst h4;unfold uk;refine .opt (fun _=> .ret) fun hf=> ?_
    have:fits .i64 (q:Int)=true:=by
     unfold fits;rw [ae];exact⟨az (by show(-9223372036854775808:Int)<=_;omega),az (by show(q:Int)<=9223372036854775807;omega)⟩
    rw [this]at hf;cases hf
   rcases hc with⟨rfl,rfl⟩|⟨rfl,rfl⟩|⟨rfl,rfl⟩
   .exact hs (q:=m+n) hn ω
   .have hn:(@Bool.rec (fun _=>Option aa) none (small (Nat.sub m n)) (Nat.ble n m))=some v:=hn;cases hb:Nat.ble n m with
    |false=>rw [hb]at hn;cases hn
    |true=>
     rw [hb]at hn;have hb:=bT hb;have e:Nat.sub m n=m-n:=rfl;rw [e]at hn;exact hs hn ω
   .cases hn
 have cmp:∀c:Bool,tF P op k a b=some (.bool c)->(∀m n:Nat,a=m->b=n->zY op m n=some (.raw (.bool c))\/zY op m n=none)->r= .ret (.ok (.raw (.bool c)) H)->Ref r (match ju op k k a b with |some v=> .ok v H|none=>ag H (oS P o ev op k k a b)):=by
  intro c hc hn hr;subst hr;cases hf:ju op k k a b with
  |none=>simp only;rw [FE hc];exact .ret
  |some v=>
   obtain⟨m,n,rfl,_,rfl,rfl,hv⟩:=xZ hf;simp only;rcases hn m n rfl rfl with h1|h1<;>rw [h1]at hv
   .cases hv;exact .ret
   .cases hv
 cases op with
 |add=>cases h;exact arith _ (.inl ⟨rfl,rfl⟩) rfl
 |sub=>cases h;exact arith _ (.inr (.inl ⟨rfl,rfl⟩)) rfl
 |mul=>cases h;exact arith _ (.inr (.inr ⟨rfl,rfl⟩)) rfl
 |quo=>
  cases h;refine .must fun hb=> ?_
  have hb:=ap hb;have hf:ju .quo k k a b=none:=by
   cases hf:ju .quo k k a b with
   |none=>rfl
   |some v=>obtain⟨m,n,_,_,_,_,hv⟩:=xZ hf;cases hv
  rw [hf];simp only;rw [FE (v:= .int k (k.wrap (a.tdiv b))) (by unfold tF Op.intDiv;simp only [if_neg hb];rfl)];exact Sh rfl
 |rem=>
  cases h;refine .must fun hb=> ?_
  have hb:=ap hb;have hf:ju .rem k k a b=none:=by
   cases hf:ju .rem k k a b with
   |none=>rfl
   |some v=>obtain⟨m,n,_,_,_,_,hv⟩:=xZ hf;cases hv
  rw [hf];simp only;rw [FE (v:= .int k (a.tmod b)) (by unfold tF Op.intDiv;simp only [if_neg hb];rfl)];exact .ret
 |and=>cases h
 |or=>cases h
 |xor=>cases h
 |shl=>cases h
 |shr=>cases h
 |andNot=>cases h
 |eql=>
  cases h;refine cmp _ rfl (fun m n h1 h2=> .inl ?_) rfl;subst h1;subst h2;show some (aa.raw (.bool (Nat.beq m n)))=_;congr 3;rw [Bool.eq_iff_iff];simp;omega
 |neq=>
  cases h;refine cmp _ rfl (fun m n h1 h2=> .inl ?_) rfl;subst h1;subst h2;show some (aa.raw (.bool (!(Nat.beq m n))))=_;congr 3;by_cases e:m=n
  .subst e;simp
  .rw [tT e];simp;omega
 |lss=>
  cases h;refine cmp _ rfl (fun m n h1 h2=> .inl ?_) rfl;subst h1;subst h2;show some (aa.raw (.bool (Nat.ble (m+1) n)))=_;rw [xW];congr 3;rw [Bool.eq_iff_iff,decide_eq_true_iff,decide_eq_true_iff];omega
 |leq=>
  cases h;refine cmp _ rfl (fun m n h1 h2=> .inl ?_) rfl;subst h1;subst h2;show some (aa.raw (.bool (Nat.ble m n)))=_;rw [xW];congr 3;rw [Bool.eq_iff_iff,decide_eq_true_iff,decide_eq_true_iff];omega
 |gtr=>
  cases h;refine cmp _ rfl (fun m n h1 h2=> .inl ?_) rfl;subst h1;subst h2;show some (aa.raw (.bool (Nat.ble (n+1) m)))=_;rw [xW];congr 3;rw [Bool.eq_iff_iff,decide_eq_true_iff,decide_eq_true_iff];omega
 |geq=>
  cases h;refine cmp _ rfl (fun m n h1 h2=> .inl ?_) rfl;subst h1;subst h2;show some (aa.raw (.bool (Nat.ble n m)))=_;rw [xW];congr 3;rw [Bool.eq_iff_iff,decide_eq_true_iff,decide_eq_true_iff];omega
def acE:Ref (Ko op t x y ah P o ev H) (iZ op t x y ah P o ev H):=by
 unfold Ko;split
 .rename_i k a k' b hx hy;split
  .rename_i hk;have hk:k=k':=by simpa using hk
   subst hk;split
   .rename_i r hr;exact acD hx hy hr
   .rename_i hn;rw [KE hx hy];cases hf:ju op k k a b with
    |none=>exact .ret
    |some v=>
     obtain⟨m,n,_,_,_,_,hv⟩:=xZ hf;cases op<;>first |(cases hn;done)|(change (none:Option aa)=some v at hv;cases hv)
  .exact .no
 .exact .ret
end
def acF {c a b:Operand}:Ref (Kq c a b P o ev H) (nX c a b P o ev H):=by
 unfold Kq nX;cases gK (ev c)with
 |no=>exact .no
 |mk q=>cases q<;>exact .ret
def CY {v:aa} {f:Nat->aD aL} {r:aL} (h:∀k,nW v= .mk k->Ref (f k) r):Ref (yo v f) r:=by
 unfold yo;split
 .rename_i k z hz;refine .must fun hb=>h _ ?_
  have hb:=ap hb;unfold nW;rw [hz];cases z with
  |ofNat m=>rfl
  |negSucc m=>exact absurd hb ω
 .exact .no
def acG {k s:Nat} {x:aa}:Ref (Kr k s x H) (rK k s x H):=by
 unfold Kr rK;split
 .rename_i z t xs;split
  .rename_i hs;refine .must fun hb=> ?_
   have hb:=ap hb;simp only [hs,Bool.true_and];rw [fF (show k+1<=xs.length from hb)];exact .ret
  .exact .no
 .rename_i e t i k0 len cap;split
  .rename_i hs;refine .must fun hb=> ?_
   have hb:=ap hb;simp only [hs,Bool.true_and];rw [fF (show k+1<=len from hb)];exact .ret
  .exact .no
 .exact .no
def acH {v:aa} (h:Ks v=true):iJ v= .no/\xJ v= .no:=by
 cases v<;>first |exact⟨rfl,rfl⟩|cases h
def acI {t:TypeId} {x ix:Operand}:Ref (Kt t x ix P o ev H) (nt t x ix P o ev H):=by
 unfold Kt;split
 .rename_i s hx ht;refine CY fun k hk=> ?_
  unfold nt;simp only [hk,ht,(acH hx).2];exact acG
 .exact .ret
def acJ {t:TypeId} {x:Operand}:Ref (Ku t x P o ev H) (nY t x P o ev H):=by
 unfold Ku Sa;split
 .rename_i e u i k off hx;refine .must fun hb=> ?_
  unfold nY;rw [hx];show Ref _ (tH P t (.dL e u i k off) H);unfold tH;simp only [hb,cond_true];exact .ret
 .exact .ret
def acK {t:TypeId} {x y:Operand}:Ref (Kv t x y P o ev H) (qp t x y P o ev H):=by
 unfold Kv Sb;split
 .rename_i e u i k off hx;refine .must fun hb=> ?_
  unfold qp;rw [hx];show Ref _ (nn P t (.dL e u i k off) (ev y) H);unfold nn;simp only [hb,cond_true];cases (eW (ev y).cells&&tK P t (ev y).cells.length)with
  |false=>exact .no
  |true=>
   simp only [cond_true];cases (lj (elemAt u (bN u (H.get i)) k) off (ev y).cells).bind u.read with
   |none=>exact .no
   |some d=>exact .ret
 .exact .ret
def FF {v:Option aa} {d:Nat} {f:Nat->aD aL} {r:aL} (h:∀k,nm v d=some k->Ref (f k) r):Ref (Hm v d f) r:=by
 unfold Hm;split
 .exact h _ rfl
 .rename_i v;exact CY fun k hk=>h k (by show mh v=some k;unfold mh;rw [hk])
def Si {e:TypeId} {s n:Nat} {lo hi mx:Option aa} {k:Nat->Nat->aD aL} {k2:Nat->Nat->aa} (h:∀l h,l<=h->h<=n->Ref (k l h) (.ok (k2 l h) H)):Ref (FB P e s n lo hi mx H k) (ag H (zV P e s n lo hi mx k2)):=by
 unfold FB;split
 .split
  .rename_i s' hs;split
   .rename_i acL;refine FF fun hh hhi=>FF fun l hlo=> .must fun h1=> .must fun h2=> ?_
    have h1:=ap h1;have h2:=ap h2;unfold zV;simp only [hs,Option.bind_some,hhi,hlo,acL,Option.isNone_none,Bool.true_and,fF h1,fF h2,cond_true];exact h l hh h1 h2
   .exact .no
  .exact .no
 .exact .no
def acM {t:TypeId} {x:Operand} {lo hi mx:Option Operand}:Ref (Kw t x lo hi mx P o ev H) (oT t x lo hi mx P o ev H):=by
 unfold Kw;split
 .rename_i hx;have hp:oT t x lo hi mx P o ev H=ag H (Cd P t (ev x) (lo.map ev) (hi.map ev) (mx.map ev)):=by
   unfold oT Cj;cases hv:ev x<;>first |rfl |(rw [hv]at hx;cases hx)
  rw [hp];unfold Sc;split
  .rename_i e z u xs hu gx;unfold Cd;rw [hu,gx];refine Si fun l h h1 h2=> ?_
   cases hb:Nat.ble (l+1) h with
   |true=>exact .ret
   |false=>
    have:¬l+1<=h:=fun hh=>by rw [fF hh]at hb;cases hb
    have e:(xs.take h).drop l=[]:=by rw [List.drop_eq_nil_iff];simp;omega
    rw [e];exact .ret
  .rename_i e e' u i k len cap hu gx;unfold Cd;rw [hu,gx];refine Si fun l h h1 h2=> .ask ?_
   cases hb:Nat.beq l 0 with
   |true=>exact .ret
   |false=>
    refine .ask ?_;by_cases hlt:l<h
    .simp only [hlt,decide_true,cond_false,fF (show l+1<=h from hlt),cond_true];exact .ret
    .have kO:Nat.ble (l+1) h=false:=by rw [xW];exact ab hlt
     simp only [hlt,decide_false,cond_false,kO];exact .ret
  .exact .no
 .exact .ret
def acN {ty:av} {s:Nat} {x:aa} {f:List ty.den->Nat->aD aL} {r:aL} (h:∀ds n,zW H ty s x=some (ds,n)->Ref (f ds n) r):Ref (Ky H ty s x f) r:=by
 unfold Ky;split
 .rename_i e u j k len cap;split
  .rename_i hu;refine .must fun hb=>h _ _ ?_
   unfold zW;simp only [hu,hb,Bool.true_and,cond_true]
  .exact .no
 .split
  .rename_i ds n hs;exact h ds n hs
  .exact .no
def KF {t e:TypeId} {ty:av} {i k len:Nat} {cap:aX} {sk:Bool} {x:aa}:Ref (CW P t e ty i k len cap sk x H) (eS (rO P t e ty i k len cap sk x H)):=by
  unfold CW;split
  .rename_i el hel;split
   .rename_i inf acO;split
    .rename_i z hz;split
     .rename_i hc;refine .must fun hk=>acN fun ds n hs=> .ask ?_
      unfold rO;simp only [hel,acO,hz,Option.bind_some,hc,hk,Bool.true_and,cond_true,hs];cases Nat.beq n 0 with
      |true=>exact .ret
      |false=>
       refine .must fun h1=> .must fun h2=> ?_
       simp only [h1,h2,Bool.true_and,cond_true,cond_false];exact .ret
     .exact .no
    .exact .no
   .exact .no
  .exact .no
def Sj {t:TypeId} {s x:aa} {d:aL} (hd:d=eS (dT P t s x H)):Ref (FC P t s x H d) (eS (dT P t s x H)):=by
 unfold FC;split
 .rename_i e ty i k len cap;have e0:dT P t (.bR e ty i k len cap) x H=ll P t e ty i k len cap x H:=rfl;rw [e0];unfold ll;cases xL ty x H with
  |none=>exact KF
  |some p=>
   obtain⟨b,H'⟩:=p;refine .must fun hb=> ?_
   subst hb;exact KF
 .rename_i hn;split
  .rename_i z ty ys;split
   .rename_i he;split
    .rename_i e hel;have:dT P t s (.bn z ty ys) H=rO P t e ty H.next 0 0 (.known 0) true (.bn z ty ys) H:=by
      unfold dT;split
      .rename_i a1 a2 a3 a4 a5 a6;exact absurd rfl (hn a1 a2 a3 a4 a5 a6)
      .simp only [he,cond_true];unfold ER;rw [hel]
     rw [this];exact KF
    .exact .no
   .exact .no
  .subst hd;exact .ret
def acP {c:Call}:Ref (Kz c P o ev H) (fj c P o ev H):=by
 unfold Kz;split
 .rename_i s x t t' hc ha ht;split
  .rename_i el hu;have e:fj c P o ev H=eS (dT P t s x H):=by
    unfold fj;rw [hc];simp only [ha];unfold nZ;simp only [ht,hu]
   rw [e];exact Sj rfl
  .rename_i hu;split
   .have e:fj c P o ev H=eS (dT P t s x H):=by
     unfold fj;rw [hc];simp only [ha];unfold nZ;simp only [ht,hu]
    rw [e];exact Sj rfl
   .exact .ret
  .exact .ret
 .rename_i x n pt it hc ha ht;have e:fj c P o ev H=eS (vI P pt x n H):=by
   unfold fj;rw [hc];simp only [ha];unfold nZ;simp only [ht]
  rw [e];unfold Sd;split
  .rename_i e' u i;split
   .rename_i hu;split
    .rename_i m;refine .must fun h1=> .must fun h2=> .must fun h3=> .must fun h4=> ?_
     have e2:vI P pt (.dL e' u i 0 0) (.raw (.int .i64 (.ofNat m))) H=some (.raw (.string (oX ((bN (.int .u8) (H.get i)).take m))),H.drop i):=by
      show cond (EY P pt e' u&&_) _ none=_;rw [hu,h1,h2,h3,h4];rfl
     rw [e2];exact .ret
    .exact .no
   .exact .no
  .exact .ret
 .rename_i ts el u i k len cap hc ha;have e:fj c P o ev H= @Bool.rec (fun _=>aL) .no (.ok (.dL el u i k 0) H) (Nat.ble 1 len):=by
   unfold fj;rw [hc];simp only [ha];unfold nZ;rfl
  rw [e];refine .must fun h1=> ?_
  rw [h1];exact .ret
 .exact .ret
def acQ {t:TypeId} {l c:Operand}:Ref (KA t l c P o ev H) (tJ t l c P o ev H):=by
 unfold KA;split
 .rename_i e he;split
  .rename_i inf hi;split
   .rename_i z hz;refine CY fun n hn=>CY fun m hm=> ?_
    split
    .rename_i hb;refine .must fun h1=> .must fun h2=> ?_
     rw [ae]at hb;have e1:mh (ev l)=some n:=by unfold mh;rw [hn]
     have e2:mh (ev c)=some m:=by unfold mh;rw [hm]
     have e3:tJ t l c P o ev H= .ok (.slice H.next 0 n (.known m)) (H.new (.cells e (List.replicate m (ic z.cells)).flatten true false false)):=by
      unfold tJ qo;rw [he,Option.bind_some,hi,Option.bind_some,hz,Option.bind_some,e1,Option.bind_some,e2,Option.bind_some,fF (ap h1),hb.1,h2,hb.2];rfl
     rw [e3];exact .ret
    .exact .no
   .exact .no
  .exact .no
 .exact .no
def FG {v:aa} {s:AT} (h:Hn v=some s):v= .raw (.string s):=by
 unfold Hn at h;split at h
 .cases h;rfl
 .cases h
def Sk {v:aa} {k:Nat} (h:nW v= .mk k):∃q,v= .raw (.int q k):=by
 unfold nW at h;cases hw:iI v with
 |no=>rw [hw]at h;cases h
 |int q z=>
  rw [hw]at h;have h:vG z= .mk k:=h;cases z with
  |ofNat m=>cases h;exact⟨q,Af hw⟩
  |negSucc m=>cases h
def nC {x:Operand} {v:Value} (h:ev x= .raw v):m6 ev x=v:=by unfold m6;rw [h];rfl
def acR {s:AT} {k:Nat} (h:k<s.size):s[k]? =some (s.data.toList.getD k 0):=by
 have h2:k<s.data.size:=h;rw [show s[k]? =some s[k]from getElem?_pos s k h];congr 1;rw [ao,Array.getElem?_toList,Array.getElem?_eq_getElem h2];rfl
def acS {t:TypeId} {x ix:Operand} (ho:o.op= .index t x ix):Ref (KB t x ix P o ev H) (mm t x ix P o ev H):=by
 unfold KB;split
 .rename_i s hs;have hx:=FG hs;split
  .rename_i hu;refine CY fun k hk=> .must fun hb=> ?_
   have hb:=ap hb;obtain⟨q,hi⟩:=Sk hk;have e1:mm t x ix P o ev H=ag H (gen P o ev):=by unfold mm;rw [hx];rfl
   have e2:gen P o ev=some (.raw (.int .u8 (FD s k))):=by
    unfold gen;rw [ho];have e3:((Op.index t x ix).operands.toList.all fun x=>(ev x).fA.isSome)=true:=by simp [Op.operands,hx,hi,aa.fA]
    rw [e3];have bV:bm P (execOp (m6 ev) o)=some (.value (.int .u8 (FD s k))):=by
     unfold execOp;rw [ho];simp only [nC hx,nC hi];simp [Instr.index,asIntOf,underlying,program,bm,hu,bind,Sem.bind,pure,acR hb,FD]
    rw [bV];rfl
   rw [e1,e2];exact .ret
  .exact .no
 .exact .ret
def FH {α β:Type} (f:α->β):∀{s:Sem α} {a:α},bm P s=some a->bm P (do let r <-s;pure (f r))=some (f a)
 | .pure a,_,h=>by
   have h:some a=some _:=h;cases h;rfl
 | .program k,_,h=>FH f (s:=k P) h
 | .mark _ k,_,h=>FH f (s:=k) h
 | .load ..,_,h=>by cases h
 | .store ..,_,h=>by cases h
 | .new ..,_,h=>by cases h
 | .shape ..,_,h=>by cases h
 | .freeze ..,_,h=>by cases h
 | .frozen ..,_,h=>by cases h
 | .getObj ..,_,h=>by cases h
 | .setObj ..,_,h=>by cases h
 | .choose ..,_,h=>by cases h
 | .sys ..,_,h=>by cases h
 | .halt ..,_,h=>by cases h
def KG {v:Option Operand} {d k:Nat} (h:nm (v.map ev) d=some k):(v=none/\k=d)\/∃y q,v=some y/\ev y= .raw (.int q k):=by
 cases v with
 |none=>cases h;exact .inl ⟨rfl,rfl⟩
 |some y=>
  have h:mh (ev y)=some k:=h;unfold mh at h;cases hn:nW (ev y)with
  |no=>rw [hn]at h;cases h
  |mk m=>
   rw [hn]at h;cases h;obtain⟨q,hq⟩:=Sk hn;exact .inr ⟨y,q,rfl,hq⟩
def acT {t:TypeId} {x:Operand} {lo hi mx:Option Operand} (ho:o.op= .slice t x lo hi mx):Ref (KC t x lo hi mx P o ev H) (oT t x lo hi mx P o ev H):=by
 unfold KC;split
 .rename_i s hs;have hx:=FG hs;unfold Se;split
  .rename_i hu hm;have hm:mx=none:=by cases mx<;>first |rfl |cases hm
   subst hm;refine FF fun h hh=>FF fun l hl=> .must fun h1=> .must fun h2=> ?_
   have h1:=ap h1;have h2:=ap h2;have e1:oT t x lo hi none P o ev H=ag H (gen P o ev):=by unfold oT Cj;rw [hx]
   have e2:gen P o ev=some (.raw (.string (s.extract l h))):=by
    unfold gen;rw [ho];rcases KG hh with⟨rfl,rfl⟩|⟨y,q,rfl,hy⟩
    .rcases KG hl with⟨rfl,rfl⟩|⟨y2,aQ,rfl,hy2⟩
     .have e3:((Op.slice t x none none none).operands.toList.all fun x=>(ev x).fA.isSome)=true:=by simp [Op.operands,hx,aa.fA]
      rw [e3];unfold execOp;rw [ho];simp only [nC hx,Option.map_none];simp [Instr.sliceAt,Instr.slice,Instr.sliceBounds,underlying,program,bm,hu,bind,Sem.bind,pure]
     .have e3:((Op.slice t x (some y2) none none).operands.toList.all fun x=>(ev x).fA.isSome)=true:=by simp [Op.operands,hx,hy2,aa.fA]
      rw [e3];unfold execOp;rw [ho];simp only [nC hx,Option.map_none,Option.map_some,nC hy2];simp [Instr.sliceAt,Instr.slice,Instr.sliceBounds,Instr.sliceBound,asIntOf,underlying,program,bm,hu,bind,Sem.bind,pure,h1]
    .rcases KG hl with⟨rfl,rfl⟩|⟨y2,aQ,rfl,hy2⟩
     .have e3:((Op.slice t x none (some y) none).operands.toList.all fun x=>(ev x).fA.isSome)=true:=by simp [Op.operands,hx,hy,aa.fA]
      rw [e3];unfold execOp;rw [ho];simp only [nC hx,Option.map_none,Option.map_some,nC hy];simp [Instr.sliceAt,Instr.slice,Instr.sliceBounds,Instr.sliceBound,asIntOf,underlying,program,bm,hu,bind,Sem.bind,pure,h2]
     .have e3:((Op.slice t x (some y2) (some y) none).operands.toList.all fun x=>(ev x).fA.isSome)=true:=by simp [Op.operands,hx,hy,hy2,aa.fA]
      rw [e3];unfold execOp;rw [ho];simp only [nC hx,Option.map_some,Option.map_none,nC hy,nC hy2];simp [Instr.sliceAt,Instr.slice,Instr.sliceBounds,Instr.sliceBound,asIntOf,underlying,program,bm,hu,bind,Sem.bind,pure,h1,h2]
   rw [e1,e2];exact .ret
  .exact .no
 .exact acM
def Sl (a b:AT):(a.toList==b.toList)=AA a b:=by
 rw [ByteArray.toList_eq,ByteArray.toList_eq];unfold AA;rw [Bool.eq_iff_iff];simp
def acU {op:BinOp} {t:TypeId} {x y:Operand} {ah:TypeId} (ho:o.op= .binOp op t x y ah):Ref (KD op t x y ah P o ev H) (iZ op t x y ah P o ev H):=by
 unfold KD;split
 .rename_i a b ha hb;have hx:=FG ha;have hy:=FG hb;have e0:iZ op t x y ah P o ev H=ag H (xN P o ev op t (ev x) (ev y)):=by unfold iZ;rw [hx];rfl
  have e3:((Op.binOp op t x y ah).operands.toList.all fun x=>(ev x).fA.isSome)=true:=by simp [Op.operands,hx,hy,aa.fA]
  have eg:∀v,bm P (do eqGuard op t x y (.string a) (.string b);binOp op t (.string a) (.string b))=some v->gen P o ev=some (.raw v):=fun v hv=>by
   unfold gen;rw [ho,e3];unfold execOp;rw [ho];simp only [nC hx,nC hy];have:bm P (do let r <-(do eqGuard op t x y (.string a) (.string b);binOp op t (.string a) (.string b));pure (Next.value r))=some (.value v):=FH _ hv;simp only [cond_true];rw [this]
  unfold Sf;split
  .refine .must fun hl=> ?_
   have hl:=ap hl;have:xN P o ev .add t (ev x) (ev y)=some (.raw (.string (a++b))):=eg _ (by
    have:¬(9223372036854775807:Int)<(a.size:Int)+(b.size:Int):=by omega
    simp [eqGuard,binOp,Op.stringOp,bm,bind,Sem.bind,pure,IntKind.max,IntKind.bits,IntKind.signed,this])
   rw [e0,this];exact .ret
  .have:xN P o ev .eql t (ev x) (ev y)=some (.raw (.bool (AA a b))):=by
    rw [hx,hy];exact eg _ (by rw [<-Sl];simp [eqGuard,binOp,Op.stringOp,bm,bind,Sem.bind,pure])
   rw [e0,this];exact .ret
  .have:xN P o ev .neq t (ev x) (ev y)=some (.raw (.bool (!AA a b))):=by
    rw [hx,hy];exact eg _ (by rw [<-Sl];simp [eqGuard,binOp,Op.stringOp,bm,bind,Sem.bind,pure])
   rw [e0,this];exact .ret
  .exact .ret
 .split
  .rename_i k a k' b hs ha hb;refine .must fun h0=> ?_
   have h0:=ap h0;have hx:=Af ha;have hy:=Af hb;have hf:ju op k k' a b=none:=by
    cases hf:ju op k k' a b with
    |none=>rfl
    |some v=>obtain⟨m,n,_,_,_,_,hv⟩:=xZ hf;cases op<;>first |(cases hs;done)|(change (none:Option aa)=some v at hv;cases hv)
   have hp:oS P o ev op k k' a b=gen P o ev:=by
    unfold oS;have:tF P op k a b=none:=by cases op<;>first |rfl |(cases hs;done)
    rw [this];cases (k==k')<;>rfl
   have e0:iZ op t x y ah P o ev H=ag H (gen P o ev):=by rw [KE ha hb,hf,hp]
   have e3:((Op.binOp op t x y ah).operands.toList.all fun x=>(ev x).fA.isSome)=true:=by simp [Op.operands,hx,hy,aa.fA]
   have eg:∀v,bm P (do eqGuard op t x y (.int k a) (.int k' b);binOp op t (.int k a) (.int k' b))=some v->gen P o ev=some (.raw v):=fun v hv=>by
    unfold gen;rw [ho,e3];unfold execOp;rw [ho];simp only [nC hx,nC hy];have:bm P (do let r <-(do eqGuard op t x y (.int k a) (.int k' b);binOp op t (.int k a) (.int k' b));pure (Next.value r))=some (.value v):=FH _ hv;simp only [cond_true];rw [this]
   have hneg:¬b<0:=by omega
   split
   .rw [e0,eg _ (by simp only [eqGuard,binOp,Op.shift,hneg,if_false];rfl)];exact .ret
   .rw [e0,eg _ (by simp only [eqGuard,binOp,Op.shift,hneg,if_false];rfl)];exact .ret
   .exact .no
  .exact acE
def FI:Ref (CX o.op P o ev H) (e9 o.op P o ev H):=by
 cases ho:o.op with
 |binOp op t x y ah=>exact acU ho
 |pick c a b=>exact acF (P:=P) (o:=o)
 |indexAddr t x ix=>exact acI
 |load t x=>exact acJ
 |store t x y=>exact acK
 |slice t x lo hi mx=>exact acT ho
 |index t x ix=>exact acS ho
 |call c=>exact acP
 |makeSlice t l c=>exact acQ (o:=o)
 |_=>exact .ret
end
end
noncomputable section
abbrev bG:=FuncId->List aa->ai->aD aL
abbrev yp:=Code->(n:Nat)->(aN:Bool)->au aa->ai->List Nat->aD R
def FJ {β:Type} (T:au aa) (ops:Array Oper) (o:Oper) (no:aD β) (f:Bool->aD β):aD β:=match o.guard with
 |none=>f true
 |some g=>match(ops[g.1]?).bind (·.dst)with
  |some d=>(match T.get d with |some (.raw (.bool b))=> .ask (b==g.2) f|some .bot=>no|_=>f false)
  |none=>no
def FK (P:Program) (call:bG) (o:Oper) (ev:dP) (H:ai):aD aL:=
 (CX o.op P o ev H).bind fun r=>match r with
   | .ok v H=> .ret (.ok v H)
   | .enter f args H=>call f args H
   |_=> .ret .no
def FL (T:au aa) (n:Nat) (dst:Option Tmp) (v:aa) (k:au aa->aD eX):aD eX:=match iK T n dst v with
 |some T=>k T
 |none=> .ret .no
def Sm (P:Program) (call:bG) (ops:Array Oper) (n:Nat) (o:Oper) (T:au aa) (H:ai) (k:au aa->ai->aD eX):aD eX:=
 FJ T ops o (.ret .no) fun b=>match b with
  |false=>FL T n o.dst (.raw undef) fun T=>k T H
  |true=>(FK P call o (cl T) H).bind fun r=>match r with
   | .ok v H=>FL T n o.dst v fun T=>k T H
   |_=> .ret .no
def KH (P:Program) (call:bG) (ops:Array Oper) (n:Nat):List Oper->au aa->ai->aD eX
 |[],T,H=> .ret (.mk T H)
 |o::l,T,H=>Sm P call ops n o T H (KH P call ops n l)
def KI {β:Type} (P:Program) (o:Oper) (ev:dP) (v:aa) (H:ai) (no k:aD β):aD β:=
 (CX o.op P o ev H).bind fun r=>match r with
   | .ok v' _=> .must (aa.same v' v) k
   |_=>no
def KJ {β:Type} (P:Program) (o:Oper) (ev:dP) (v:aa) (no k:aD β):List ai->aD β
 |[]=>k
 |H::l=>KI P o ev v H no (KJ P o ev v no k l)
def FM {β:Type} (P:Program) (H:ai) (no k:aD β):List o9->aD β
 |[]=>k
 |q::l=>KI P q.o (cl q.T) q.v H no (FM P H no k l)
def Sn (P:Program) (call:bG) (ops:Array Oper) (n:Nat) (o:Oper) (s:gp):aD (Option gp):=
 FJ s.T ops o (.ret none) fun b=>match b with
  |false=> .ret (mG n o s (.raw undef) fun T=>{s with i:=s.i+1,T:=T,bP:=s.bP.set s.i (some (level s.bP (bi o)))})
  |true=>match nF P o.op with
   | .p=>(CX o.op P o (cl s.T) s.cur).bind fun r=>match r with
     | .ok v _=> .ret (mG n o s v fun T=>{s with i:=s.i+1,T:=T,bP:=s.bP.set s.i (some (level s.bP (bi o)))})
     |_=> .ret none
   | .r=>match s.hs with
     |H::_=>(CX o.op P o (cl s.T) H).bind fun r=>match r with
      | .ok v _=>KJ P o (cl s.T) v (.ret none) (.ret (mG n o s v fun T=>{s with i:=s.i+1,T:=T,bP:=s.bP.set s.i (some (level s.bP (bi o))),dM:=⟨s.i,o,s.T,v⟩::s.dM})) (s.hs.take (s.k+1-level s.bP (bi o)))
      |_=> .ret none
     |[]=> .ret none
   | .a=>match e9 o.op P o (cl s.T) s.cur with
     | .ok v H=> .ret (mG n o s v fun T=>{s with i:=s.i+1,T:=T,cur:=H,bP:=s.bP.set s.i (some (level s.bP (bi o))),dw:=s.i::s.dw})
     |_=> .ret none
   | .e=>match Nat.beq (level s.bP (bi o)) s.k&&ua s.dw (bi o)with
     |true=>(FK P call o (cl s.T) s.cur).bind fun r=>match r with
      | .ok v H=>FM P H (.ret none) (.ret (mG n o s v fun T=>{i:=s.i+1,k:=s.k+1,T:=T,cur:=H,hs:=H::s.hs,bP:=s.bP.set s.i (some (s.k+1)),dM:=jA (bi o) s.dM,dw:=[]})) (jA (bi o) s.dM)
      |_=> .ret none
     |false=> .ret none
   | .b=>match Nat.beq (level s.bP (bi o)) s.k&&ua s.dw (bi o)with
     |true=>(FK P call o (cl s.T) s.cur).bind fun r=>match r with
      | .ok v H=>FM P H (.ret none) (.ret (mG n o s v fun T=>{i:=s.i+1,k:=s.k+1,T:=T,cur:=H,hs:=H::s.hs,bP:=s.bP.set s.i (some (s.k+1)),dM:=jA (bi o) s.dM,dw:=[]})) (jA (bi o) s.dM)
      |_=> .ret none
     |false=>match e9 o.op P o (cl s.T) s.cur with
      | .ok v H=> .ret (mG n o s v fun T=>{s with i:=s.i+1,T:=T,cur:=H,bP:=s.bP.set s.i (some (level s.bP (bi o))),dw:=s.i::s.dw})
      |_=> .ret none
def KK (P:Program) (call:bG) (ops:Array Oper) (n:Nat):List Oper->gp->aD eX
 |[],s=> .ret (.mk s.T s.cur)
 |o::l,s=>(Sn P call ops n o s).bind fun r=>match r with
  |some s=>KK P call ops n l s
  |none=> .ret .no
def KL (P:Program) (call:bG) (ops:Array Oper) (n:Nat) (T:au aa) (H:ai):aD eX:=
 match rY ops.toList ops.toList 0 with
 |true=>KK P call ops n ops.toList {i:=0,k:=0,T:=T,cur:=H,hs:=[H],bP:= .nil,dM:=[],dw:=[]}
 |false=> .ret .no
def AB (bu:bG) (call:bG):bG:=fun f args H=>(bu f args H).bind fun r=>match r with
 | .no=>call f args H
 |r=> .ret r
def ul (P:Program) (ih:yp):bG:=fun f args H=>match P.funcs[f]? with
 |some fn=>(match fn.body with
  |some c=>(match Nat.ble args.length fn.ntmps with
   |true=>(ih c fn.ntmps false (dq args .nil 0) H []).bind fun r=>match r with
    | .normal T H m=> .ret (kj P fn T H m)
    | .ret T H m=> .ret (kj P fn T H m)
    |_=> .ret .no
   |false=> .ret .no)
  |none=> .ret .no)
 |none=> .ret .no
def acV (m:List Nat) (r:eX):aD R:=match r with
 | .mk T H=> .ret (.normal T H m)
 | .no=> .ret .no
def AD (P:Program) (call:bG) (ih:yp) (c:Code):(n:Nat)->(aN:Bool)->au aa->ai->List Nat->aD R:=fun n aN T H m=>match c with
 | .skip=> .ret (.normal T H m)
 | .label _=> .ret (.normal T H m)
 | .region _ ops d=>(match d with |true=>KL P call ops n T H|false=>KH P call ops n ops.toList T H).bind fun r=>acV m r
 | .seq a b=>(ih a n aN T H m).bind fun r=>match r with
   | .normal T H m=>ih b n aN T H m
   |r=> .ret r
 | .cond x a b=>match gK (cl T x)with
   | .mk q=> .ask q fun r=>match r with |true=>ih a n aN T H m|false=>ih b n aN T H m
   | .no=> .ret .no
 | .block id b=>(ih b n aN T H m).bind fun r=>match r with
   | .exit i T H m=>(match Nat.beq i id with |true=> .ret (.normal T H m)|false=> .ret (.exit i T H m))
   |r=> .ret r
 | .exit id=> .ret (.exit id T H m)
 | .scope b=>(ih b n aN T H m).bind fun r=>match r with
   | .goto _ _ _ _=> .ret .no
   |r=> .ret r
 | .goto l=> .ret (.goto l T H m)
 | .ret=> .ret (.ret T H m)
 |_=> .ret .no
def lP (P:Program) (bu:bG) (fuel:Nat):yp:=
 @Nat.rec (fun _=>yp) (fun _ _ _ _ _ _=> .ret .no) (fun _ ih c=>AD P (AB bu (ul P ih)) ih c) fuel
def bF (bu:bG):eC:=fun f args H=>((bu f args H).gr).getD .no
def yq (t:aD eX) (r:eX):Prop:=∀a,t.gr=some a->a≠ .no->r=a
def acW (t:aD R) (r:R):Prop:=∀a,t.gr=some a->a≠ .no->r=a
def acX (t:aD (Option gp)) (r:Option gp):Prop:=∀a,t.gr=some (some a)->r=some a
def wb (vc:bG) (call:eC):Prop:=∀f args H,Ref (vc f args H) (call f args H)
def mI {α β:Type} {x:aD α} {f:α->aD β} {b:β} (h:(x.bind f).gr=some b):∃a,x.gr=some a/\(f a).gr=some b:=by
 rw [aD.qJ]at h;cases hx:x.gr with
 |none=>rw [hx]at h;cases h
 |some a=>rw [hx]at h;exact⟨a,rfl,h⟩
section
variable {P:Program} {call:eC} {vc:bG} {round:jW}
def Sq {β:Type} {T:au aa} {ops:Array Oper} {o:Oper} {no:aD β} {f:Bool->aD β} {b:β} (h:(FJ T ops o no f).gr=some b):no.gr=some b\/∃c,gL T ops o=some c/\(f c).gr=some b:=by
 unfold FJ at h;split at h
 .rename_i hg;refine .inr ⟨true, ?_,h⟩;unfold gL;rw [hg]
 .rename_i g hg;have e:gL T ops o=xO T ops g:=by unfold gL;rw [hg]
  rw [e];unfold xO;split at h
  .rename_i d hd;rw [hd];simp only;split at h
   .rename_i q hq;rw [hq];exact .inr ⟨_,rfl,h⟩
   .exact .inl h
   .rename_i h1 h2;refine .inr ⟨false, ?_,h⟩;split
    .rename_i q hq;exact absurd hq (h1 q)
    .rename_i hq;exact absurd hq h2
    .rfl
  .exact .inl h
def KM (hc:wb vc call) {o:Oper} {ev:dP} {H:ai}:Ref (FK P vc o ev H) (ja P call round o ev H):=by
 intro a ha hn;obtain⟨r,h1,h2⟩:=mI ha;have hr:r≠ .no->e9 o.op P o ev H=r:=FI r h1;unfold ja;cases r with
 |no=>cases h2;exact absurd rfl hn
 |ok v H1=>rw [hr τ];cases h2;rfl
 |enter f args H1=>rw [hr τ];exact hc f args H1 a h2 hn
 |round _ _ _=>cases h2;exact absurd rfl hn
def Sr {T:au aa} {n:Nat} {dst:Option Tmp} {v:aa} {k:au aa->aD eX} {k2:au aa->ai->eX} {H:ai} (h:∀T,yq (k T) (k2 T H)):yq (FL T n dst v k) (qq k2 H (iK T n dst v)):=by
 unfold FL;cases iK T n dst v with
 |none=>intro a ha hn;cases ha;exact absurd rfl hn
 |some T1=>exact h T1
def acY (hc:wb vc call) {ops:Array Oper} {n:Nat} {o:Oper} {T:au aa} {H:ai} {k:au aa->ai->aD eX} {k2:au aa->ai->eX} (h:∀T H,yq (k T H) (k2 T H)):
  yq (Sm P vc ops n o T H k) (xP P call round ops n o T H k2):=by
 intro a ha hn;rcases Sq ha with h1|⟨c,h1,h2⟩
 .cases h1;exact absurd rfl hn
 .unfold xP;rw [h1];cases c with
  |false=>exact Sr (fun T=>h T H) a h2 hn
  |true=>
   obtain⟨r,g1,g2⟩:=mI h2;have hr:r≠ .no->ja P call round o (cl T) H=r:=KM hc r g1;cases r with
   |no=>cases g2;exact absurd rfl hn
   |ok v H1=>
    simp only;rw [hr τ];exact Sr (fun T=>h T H1) a g2 hn
   |enter _ _ _=>cases g2;exact absurd rfl hn
   |round _ _ _=>cases g2;exact absurd rfl hn
def Ss (hc:wb vc call) {ops:Array Oper} {n:Nat}:∀(l:List Oper) (T:au aa) (H:ai),yq (KH P vc ops n l T H) (xQ P call round ops n l T H)
 |[],T,H=>fun a ha _=>by cases ha;rfl
 |o::l,T,H=>acY hc fun T H=>Ss hc l T H
def St {β:Type} {o:Oper} {ev:dP} {v:aa} {H:ai} {no k:aD β} {b:β} (h:(KI P o ev v H no k).gr=some b):no.gr=some b\/(o8 P o ev v H=true/\k.gr=some b):=by
 obtain⟨r,h1,h2⟩:=mI h;have hr:r≠ .no->e9 o.op P o ev H=r:=FI r h1;cases r with
 |ok v' H1=>
  right;simp only [aD.gr]at h2;unfold o8;rw [hr τ];cases hs:aa.same v' v with
  |false=>rw [hs]at h2;cases h2
  |true=>rw [hs]at h2;exact⟨hs,h2⟩
 |no=>exact .inl h2
 |enter _ _ _=>exact .inl h2
 |round _ _ _=>exact .inl h2
def Su {β:Type} {o:Oper} {ev:dP} {v:aa} {no k:aD β} {b:β}:∀{l:List ai},(KJ P o ev v no k l).gr=some b->no.gr=some b\/(wa P o ev v l=true/\k.gr=some b)
 |[],h=> .inr ⟨rfl,h⟩
 |H::l,h=>by
  rcases St h with h|⟨h1,h2⟩
  .exact .inl h
  .rcases Su h2 with h|⟨h3,h4⟩
   .exact .inl h
   .exact .inr ⟨by unfold wa;rw [h1];exact h3,h4⟩
def KN {β:Type} {H:ai} {no k:aD β} {b:β}:∀{l:List o9},(FM P H no k l).gr=some b->no.gr=some b\/(iS P H l=true/\k.gr=some b)
 |[],h=> .inr ⟨rfl,h⟩
 |q::l,h=>by
  rcases St h with h|⟨h1,h2⟩
  .exact .inl h
  .rcases KN h2 with h|⟨h3,h4⟩
   .exact .inl h
   .exact .inr ⟨by unfold iS;rw [h1];exact h3,h4⟩
def acZ (hc:wb vc call) {ops:Array Oper} {n:Nat} {o:Oper} {s:gp}:acX (Sn P vc ops n o s) (ud P call round ops n o s):=by
 intro a ha;rcases Sq ha with h1|⟨c,h1,h2⟩
 .cases h1
 .unfold ud;simp only [h1];cases c with
  |false=>exact jV h2
  |true=>
   simp only at h2 ⊢;cases hk:nF P o.op with
   |p=>
    rw [hk]at h2;obtain⟨r,g1,g2⟩:=mI h2;have hr:r≠ .no->_=r:=FI r g1;cases r with
    |ok v H1=>simp only;rw [hr τ];exact jV g2
    |no=>cases g2
    |enter _ _ _=>cases g2
    |round _ _ _=>cases g2
   |r=>
    rw [hk]at h2;simp only at h2 ⊢;cases hs:s.hs with
    |nil=>rw [hs]at h2;cases h2
    |cons H l=>
     rw [hs]at h2;simp only at h2 ⊢;obtain⟨r,g1,g2⟩:=mI h2;have hr:r≠ .no->_=r:=FI r g1;cases r with
     |ok v H1=>
      rw [hr τ];simp only at g2 ⊢;rcases Su g2 with q|⟨q1,aQ⟩
      .cases q
      .rw [q1];exact jV aQ
     |no=>cases g2
     |enter _ _ _=>cases g2
     |round _ _ _=>cases g2
   |a=>
    rw [hk]at h2;simp only at h2 ⊢;cases hop:e9 o.op P o (cl s.T) s.cur with
    |ok v H1=>rw [hop]at h2;exact jV h2
    |no=>rw [hop]at h2;cases h2
    |enter _ _ _=>rw [hop]at h2;cases h2
    |round _ _ _=>rw [hop]at h2;cases h2
   |e=>
    rw [hk]at h2;simp only at h2 ⊢;cases hb:(Nat.beq (level s.bP (bi o)) s.k&&ua s.dw (bi o))with
    |false=>rw [hb]at h2;cases h2
    |true=>
     rw [hb]at h2;simp only [cond_true]at h2 ⊢;obtain⟨r,g1,g2⟩:=mI h2;have hr:r≠ .no->ja P call round o (cl s.T) s.cur=r:=KM hc r g1;cases r with
     |ok v H1=>
      rw [hr τ];simp only at g2 ⊢;rcases KN g2 with q|⟨q1,aQ⟩
      .cases q
      .rw [q1];exact jV aQ
     |no=>cases g2
     |enter _ _ _=>cases g2
     |round _ _ _=>cases g2
   |b=>
    rw [hk]at h2;simp only at h2 ⊢;cases hb:(Nat.beq (level s.bP (bi o)) s.k&&ua s.dw (bi o))with
    |false=>
     rw [hb]at h2;simp only [cond_false]at h2 ⊢;cases hop:e9 o.op P o (cl s.T) s.cur with
     |ok v H1=>rw [hop]at h2;exact jV h2
     |no=>rw [hop]at h2;cases h2
     |enter _ _ _=>rw [hop]at h2;cases h2
     |round _ _ _=>rw [hop]at h2;cases h2
    |true=>
     rw [hb]at h2;simp only [cond_true]at h2 ⊢;obtain⟨r,g1,g2⟩:=mI h2;have hr:r≠ .no->ja P call round o (cl s.T) s.cur=r:=KM hc r g1;cases r with
     |ok v H1=>
      rw [hr τ];simp only at g2 ⊢;rcases KN g2 with q|⟨q1,aQ⟩
      .cases q
      .rw [q1];exact jV aQ
     |no=>cases g2
     |enter _ _ _=>cases g2
     |round _ _ _=>cases g2
def Sw (hc:wb vc call) {ops:Array Oper} {n:Nat}:∀(l:List Oper) (s:gp),yq (KK P vc ops n l s) (yj P call round ops n l s)
 |[],s=>fun a ha _=>by cases ha;rfl
 |o::l,s=>fun a ha hn=>by
  obtain⟨r,h1,h2⟩:=mI ha;cases r with
  |none=>cases h2;exact absurd rfl hn
  |some s1=>
   have:=acZ (P:=P) (round:=round) hc s1 h1;unfold yj;rw [this];exact Sw hc l s1 a h2 hn
def ac0 (hc:wb vc call) {ops:Array Oper} {n:Nat} {T:au aa} {H:ai}:yq (KL P vc ops n T H) (Ar P call round ops n T H):=by
 unfold KL Ar;cases rY ops.toList ops.toList 0 with
 |true=>exact Sw hc _ _
 |false=>intro a ha hn;cases ha;exact absurd rfl hn
def ac1 {bu:bG} (hc:wb vc call):wb (AB bu vc) (vJ (bF bu) call):=fun f args H a ha hn=>by
 obtain⟨r,h1,h2⟩:=mI ha;have hS:bF bu f args H=r:=by unfold bF;rw [h1];rfl
 unfold vJ;rw [hS];cases r with
 |no=>exact hc f args H a h2 hn
 |ok v H1=>cases h2;rfl
 |enter _ _ _=>cases h2;rfl
 |round _ _ _=>cases h2;rfl
def FN (v:yp) (ih:gW):Prop:=∀c n aN T H m,acW (v c n aN T H m) (ih c n aN T H m)
def ac2 {v:yp} {ih:gW} (hi:FN v ih):wb (ul P v) (nu P ih):=fun f args H a ha hn=>by
 unfold ul at ha;unfold nu;cases hf:P.funcs[f]? with
 |none=>rw [hf]at ha;cases ha;exact absurd rfl hn
 |some fn=>
  rw [hf]at ha;simp only at ha ⊢;cases hb:fn.body with
  |none=>rw [hb]at ha;cases ha;exact absurd rfl hn
  |some c=>
   rw [hb]at ha;simp only at ha ⊢;unfold Jj;cases hl:Nat.ble args.length fn.ntmps with
   |false=>rw [hl]at ha;cases ha;exact absurd rfl hn
   |true=>
    rw [hl]at ha;simp only at ha ⊢;obtain⟨r,h1,h2⟩:=mI ha;have hr:r≠ .no->_=r:=hi _ _ _ _ _ _ r h1;cases r with
    |no=>cases h2;exact absurd rfl hn
    |normal T1 H1 m1=>rw [hr τ];cases h2;rfl
    |exit _ _ _ _=>cases h2;exact absurd rfl hn
    |goto _ _ _ _=>cases h2;exact absurd rfl hn
    |ret T1 H1 m1=>rw [hr τ];cases h2;rfl
def ac3 {bu:bG} {v:yp} {ih:gW} (hi:FN v ih):FN (AD P (AB bu (ul P v)) v) (fun c=>Aa c P (n9 P (bF bu)) ih):=by
 have hc:wb (AB bu (ul P v)) (vJ (bF bu) (nu P ih)):=ac1 (ac2 hi);intro c n aN T H m a ha hn;unfold AD at ha;cases c with
 |skip=>cases ha;rfl
 |label l=>cases ha;rfl
 |region id ops d=>
  simp only at ha;obtain⟨r,h1,h2⟩:=mI ha;have hr:r≠ .no->n9 P (bF bu) d (nu P ih) (tO ih) ops n T H=r:=by
   cases d with
   |true=>exact ac0 hc r h1
   |false=>exact Ss hc _ _ _ r h1
  show z8 m (n9 P (bF bu) d (nu P ih) (tO ih) ops n T H)=a;cases r with
  |no=>cases h2;exact absurd rfl hn
  |mk T1 H1=>rw [hr τ];cases h2;rfl
 |seq x y=>
  simp only at ha;obtain⟨r,h1,h2⟩:=mI ha;have hr:r≠ .no->ih x n aN T H m=r:=hi _ _ _ _ _ _ r h1;show(@R.rec (fun _=>R) .no (fun T H m=>ih y n aN T H m) .exit .goto .ret (ih x n aN T H m))=a
  cases r with
  |no=>cases h2;exact absurd rfl hn
  |normal T1 H1 m1=>rw [hr τ];exact hi _ _ _ _ _ _ a h2 hn
  |exit _ _ _ _=>rw [hr τ];cases h2;rfl
  |goto _ _ _ _=>rw [hr τ];cases h2;rfl
  |ret _ _ _=>rw [hr τ];cases h2;rfl
 |cond x y z=>
  simp only at ha;show(@nr.rec (fun _=>R) .no (fun b=> @Bool.rec (fun _=>R) (ih z n aN T H m) (ih y n aN T H m) b) (gK (cl T x)))=a
  cases hb:gK (cl T x)with
  |no=>rw [hb]at ha;cases ha;exact absurd rfl hn
  |mk q=>
   rw [hb]at ha;cases q with
   |true=>exact hi _ _ _ _ _ _ a ha hn
   |false=>exact hi _ _ _ _ _ _ a ha hn
 |block id b=>
  simp only at ha;obtain⟨r,h1,h2⟩:=mI ha;have hr:r≠ .no->ih b n aN T H m=r:=hi _ _ _ _ _ _ r h1;show(@R.rec (fun _=>R) .no .normal (fun i T H m=> @Bool.rec (fun _=>R) (.exit i T H m) (.normal T H m) (Nat.beq i id)) .goto .ret (ih b n aN T H m))=a
  cases r with
  |no=>cases h2;exact absurd rfl hn
  |normal _ _ _=>rw [hr τ];cases h2;rfl
  |exit i T1 H1 m1=>
   rw [hr τ];simp only at h2 ⊢;cases hb:Nat.beq i id with
   |true=>rw [hb]at h2;cases h2;rfl
   |false=>rw [hb]at h2;cases h2;rfl
  |goto _ _ _ _=>rw [hr τ];cases h2;rfl
  |ret _ _ _=>rw [hr τ];cases h2;rfl
 |loop b=>cases ha;exact absurd rfl hn
 |rangeFunc f ps x y=>cases ha;exact absurd rfl hn
 |exit id=>cases ha;rfl
 |scope b=>
  simp only at ha;obtain⟨r,h1,h2⟩:=mI ha;have hr:r≠ .no->ih b n aN T H m=r:=hi _ _ _ _ _ _ r h1;show(@R.rec (fun _=>R) .no .normal .exit (fun _ _ _ _=> .no) .ret (ih b n aN T H m))=a
  cases r with
  |no=>cases h2;exact absurd rfl hn
  |normal _ _ _=>rw [hr τ];cases h2;rfl
  |exit _ _ _ _=>rw [hr τ];cases h2;rfl
  |goto _ _ _ _=>cases h2;exact absurd rfl hn
  |ret _ _ _=>rw [hr τ];cases h2;rfl
 |goto l=>cases ha;rfl
 |ret=>cases ha;rfl
 |refuse w=>cases ha;exact absurd rfl hn
def KO {bu:bG}:∀fuel,FN (lP P bu fuel) (qs P (n9 P (bF bu)) fuel)
 |0=>fun _ _ _ _ _ _ a ha hn=>by cases ha;exact absurd rfl hn
 |f+1=>ac3 (KO f)
end
end
section
open Go.RowKit
variable [Ground]
noncomputable section
inductive fJ where
 |blk (k:bl)
 |opt (e:TypeId) (t:av) (xs:List t.den)
def fJ.val:fJ->Option bl
 | .blk k=>some k
 | .opt e t xs=>bU e t xs
structure bD where
 n:Nat
 sl:List (Nat×aa)
 bJ:List (Nat×fJ)
 next:Nat
def FO (n:Nat):au aa:= @Nat.rec (fun _=>au aa) .nil (fun k T=>T.set k (some .bot)) n
def FP (T:au aa) (l:List (Nat×aa)):au aa:= @List.rec (Nat×aa) (fun _=>au aa) T (fun p _ ih=>ih.set p.1 (some p.2)) l
def AE (T:au bl) (l:List (Nat×fJ)):au bl:= @List.rec (Nat×fJ) (fun _=>au bl) T (fun p _ ih=>ih.set p.1 p.2.val) l
def bD.T (s:bD):au aa:=FP (FO s.n) s.sl
def bD.H (s:bD):ai:=⟨AE .nil s.bJ,s.next⟩
abbrev Ren:=List (Nat×Nat×Option Nat)
def look:Ren->Nat->Option (Nat×Option Nat)
 |[],_=>none
 |p::l,j=>cond (Nat.beq p.1 j) (some p.2) (look l j)
def gY (b:Bool) (p:Prop):Prop:=match b with |true=>p|false=>False
def oa (σ:Ren) (j i:Nat):Bool:=cond (Nat.ble (j+1) 64) (Nat.beq i j) (match look σ j with |some (i',none)=>Nat.beq i i'|_=>false)
def pn (t u:av) (xs:List t.den) (ys:List u.den):Prop:=if h:t=u then h ▸ xs=ys else False
def FQ (z z':Bool) (n:Nat) (p:Prop):Prop:=match z',z with
 |true,false=>p/\Nat.ble 1 n=true
 |_,_=>p
def yt:Value->Value->Prop
 | .int k a, .int k' b=>gY (decide (k=k')) (a=b)
 | .bool a, .bool b=>a=b
 | .string a, .string b=>a=b
 |a,b=>a=b
def Sy (mode:Option Nat) (c c':aX):Prop:=match mode with
 |none=>c=c'
 |some m=>c= .known m/\c'=bH m
def AF (σ:Ren) (i n:Nat) (cap:aX) (j n':Nat) (cap':aX):Prop:=match look σ j with
 |some (i',mode)=>gY (Nat.beq i i') (n=n'/\Sy mode cap cap')
 |none=>False
mutual
def wk (σ:Ren):aa->aa->Prop
 |_, .bot=>True
 | .raw (.slice none 0 0), .bR _ _ _ _ n _=>n=0
 | .raw (.slice none 0 0), .bn _ _ ys=>ys=[]
 | .raw a, .raw b=>yt a b
 | .ptr i off, .ptr j off'=>gY (oa σ j i) (off=off')
 | .slice i off n c, .slice j off' n' c'=>gY (oa σ j i) (off=off'/\n=n'/\c=c')
 | .slice i 0 n c, .bR _ _ j 0 n' c'=>AF σ i n c j n' c'
 | .func f a b, .func f' a' b'=>gY (decide (f=f')) (r5 σ a a'/\r5 σ b b')
 | .map i, .map j=>gY (oa σ j i) True
 | .iface t v, .iface t' v'=>gY (Nat.beq t t') (wk σ v v')
 | .agg l, .agg l'=>r5 σ l l'
 | .tuple l, .tuple l'=>r5 σ l l'
 | .bn z t xs, .bn z' u ys=>FQ z z' ys.length (pn t u xs ys)
 | .fy t xs k off, .fy u ys k' off'=>pn t u xs ys/\k=k'/\off=off'
 | .bR e t i k n c, .bR e' u j k' n' c'=>gY (Nat.beq e e'&&(decide (t=u)&&oa σ j i)) (k=k'/\n=n'/\c=c')
 | .dL e t i k off, .dL e' u j k' off'=>gY (Nat.beq e e'&&(decide (t=u)&&oa σ j i)) (k=k'/\off=off')
 |_,_=>False
def r5 (σ:Ren):List aa->List aa->Prop
 |[],[]=>True
 |v::l,v'::l'=>wk σ v v'/\r5 σ l l'
 |_,_=>False
end
section
variable (P:Program) (mode:Option Nat) (b:Option bl) (e:TypeId) (t:av) (xs:List t.den)
def r6:Prop:=match b,mode with
 |some (.own e' u ys),none=>gY (Nat.beq e e') (pn u t ys xs)
 |some (.cells e' cs exact false false),mode=>gY (Nat.beq e e'&&(Nat.beq (P.cellsOf e) t.size&&Nat.ble 1 t.size)) (cs=t.flat xs/\match exact,mode with
  |true,some m=>m=xs.length
  |false,none=>True
  |_,_=>False)
 |_,_=>False
def AG:Prop:=match b with
 |none=>(match mode with |none=>xs=[]|some _=>False)
 |some k=>r6 P mode (some k) e t xs
end
def ac4 (P:Program) (e:TypeId) (t:av) (xs:List t.den):AG P none (bU e t xs) e t xs:=by
 cases xs with
 |nil=>exact rfl
 |cons x l=>simp [bU,AG,r6,gY,pn]
def AH (P:Program) (σ:Ren) (H:ai) (p:Nat×fJ):Prop:=match look σ p.1 with
 |none=>(match p.2 with | .opt _ _ xs=>xs=[]| .blk _=>False)
 |some (i,mode)=>match p.2 with
  | .opt e t xs=>AG P mode (H.get i) e t xs
  | .blk (.own e t xs)=>r6 P mode (H.get i) e t xs
  | .blk (.cells e cs x f r)=>(match H.get i,mode with
    |some (.cells e' cs' x' f' r'),none=>gY (Nat.beq e e'&&(x==x'&&(f==f'&&r==r'))) (r5 σ cs' cs)
    |_,_=>False)
  | .blk _=>False
def FR (σ:Ren) (T:au aa) (K:Prop):List (Nat×aa)->Prop
 |[]=>K
 |p::l=>wk σ ((T.get p.1).getD (.raw undef)) p.2/\FR σ T K l
def CZ (P:Program) (σ:Ren) (H:ai) (K:Prop):List (Nat×fJ)->Prop
 |[]=>K
 |p::l=>AH P σ H p/\CZ P σ H K l
def wm (σ:Ren) (next:Nat):Bool:=match σ with
 |[]=>true
 |p::l=>Nat.ble 64 p.1&&(Nat.ble (p.1+1) next&&(l.all (fun q=> !Nat.beq q.2.1 p.2.1)&&wm l next))
def Sz (next:Nat) (l:List (Nat×fJ)):Bool:=l.all fun p=>Nat.ble 64 p.1&&Nat.ble (p.1+1) next
def SA (n:Nat) (l:List (Nat×aa)):Bool:=l.all fun p=>Nat.ble (p.1+1) n
def fit (P:Program) (σ:Ren) (n:Nat) (T:au aa) (H:ai) (s:bD):Prop:=
 gY (Nat.beq s.n n&&(wm σ s.next&&(Sz s.next s.bJ&&(SA n s.sl&&Nat.ble 64 s.next)))) (FR σ T (CZ P σ H True s.bJ) s.sl)
def je {b:Bool} {p:Prop} (h:gY b p):b=true/\p:=by cases b<;>first |exact h.elim|exact⟨rfl,h⟩
def SB {z z':Bool} {n:Nat} {p:Prop} (h:FQ z z' n p):p/\(z'=true->z=true\/n≠0):=by
 cases z' with
 |false=>exact⟨h,fun e=>by cases e⟩
 |true=>
  cases z with
  |true=>exact⟨h,fun _=> .inl rfl⟩
  |false=>exact⟨h.1,fun _=> .inr (by have:=bT h.2;omega)⟩
def AI {t u:av} {xs:List t.den} {ys:List u.den} (h:pn t u xs ys):∃e:t=u,e ▸ xs=ys:=by
 unfold pn at h;split at h
 .exact⟨_,h⟩
 .exact h.elim
def SC {a b:Value} (h:yt a b):a=b:=by
 unfold yt at h;split at h
 .obtain⟨h1,rfl⟩:=je h;rw [ap h1]
 .rw [h]
 .rw [h]
 .exact h
def ren (σ:Ren) (ρ:Env):Env:=⟨fun j=>if j<64 then ρ j else match look σ j with
 |some (i,mode)=>(match ρ i with |some (b,c)=>some (b,mode.getD c)|none=>none)
 |none=>none,ρ.fz⟩
section
variable {P:Program} {B:Nat} {ρ:Env} {H:ai} {w:World} {σ:Ren}
def yu {i j b c:Nat} (h:oa σ j i=true) (hr:ρ i=some (b,c)):ren σ ρ j=some (b,c):=by
 show(if j<64 then ρ j else _)=_;unfold oa at h;cases hb:Nat.ble (j+1) 64 with
 |true=>
  rw [hb]at h;have h:=ac h;subst h;have hlt:i<64:=bT hb;rw [if_pos hlt];exact hr
 |false=>
  rw [hb]at h;have hn:¬j<64:=fun hh=>by rw [fF (show j+1<=64 from hh)]at hb;cases hb
  rw [if_neg hn];simp only [cond_false]at h;split at h
  .rename_i i' hl;have h:=ac h;subst h;rw [hl];simp only [hr];rfl
  .cases h
def Den.ac5 {e:TypeId} {t:av} {i j n n':Nat} {cap cap':aX} {x:Value} (h:AF σ i n cap j n' cap') (hd:Den ρ (.slice i 0 n cap) x) (jD:64<=j):Den (ren σ ρ) (.bR e t j 0 n' cap') x:=by
 unfold AF at h;split at h
 .rename_i i' mode hl;obtain⟨h1,rfl,h3⟩:=je h;have h1:=ac h1;subst h1;obtain⟨b,c,k,g1,g2,g3,rfl⟩:=hd.ig;have hr:ren σ ρ j=some (b,mode.getD c):=by
   show(if j<64 then ρ j else _)=_;rw [if_neg ω,hl];simp only [g1]
  refine JJ hr ?_ g3;unfold Sy at h3;cases mode with
  |none=>subst h3;exact g2
  |some m=>obtain⟨rfl,rfl⟩:=h3;cases m<;>exact g2
 .exact h.elim
def aG.split {ρ:Env}:∀{a b:List aa} {ys:List Value},aG ρ (a++b) ys->∃y1 y2,ys=y1++y2/\aG ρ a y1/\aG ρ b y2
 |[],b,ys,h=>⟨[],ys,rfl, .nil,h⟩
 |v::a,b,_, .cons h1 h2=>by
  obtain⟨y1,y2,rfl,h3,h4⟩:=aG.split h2;exact⟨_::y1,y2,rfl, .cons h1 h3,h4⟩
def ob {ρ ρ':Env} {t:av} (hc:∀(d:t.den) ys,aG ρ (t.cells d) ys->aG ρ' (t.cells d) ys):∀(xs:List t.den) ys,aG ρ (t.flat xs) ys->aG ρ' (t.flat xs) ys
 |[],ys,h=>by cases h;exact .nil
 |d::xs,ys,h=>by
  rw [av.Ad]at h ⊢;obtain⟨y1,y2,rfl,h1,h2⟩:=aG.split h;exact(hc d y1 h1).append (ob hc xs y2 h2)
def qK {ρ ρ':Env} (hf:∀b A,ρ.fz b=some A->ρ'.fz b=some A):∀(t:av) (d:t.den) ys,aG ρ (t.cells d) ys->aG ρ' (t.cells d) ys
 | .int _,d,ys,h=>by cases h with |cons h1 h2=>cases h2;rw [h1.cg];exact .cons (.raw _) .nil
 | .bool,d,ys,h=>by cases h with |cons h1 h2=>cases h2;rw [h1.cg];exact .cons (.raw _) .nil
 | .str,d,ys,h=>by cases h with |cons h1 h2=>cases h2;rw [h1.cg];exact .cons (.raw _) .nil
 | .list z t,d,ys,h=>by
   cases h with
   |cons h1 h2=>
    cases h2;refine .cons ?_ .nil;rcases Den.tR (t:=t) (xs:=d) h1 with⟨e,a,k,rfl,hz⟩|⟨b,off,k,A,g1,g2,g3,g4,rfl,g5⟩
    .have e:d=([]:List t.den):=e;subst e;exact .fc hz
    .exact .bn (hf _ _ g1) g2 rfl (ob (fun d ys=>qK hf t d ys) _ _ g3) g4 g5
 | .pair a b,d,ys,h=>by
   obtain⟨y1,y2,rfl,h1,h2⟩:=aG.split (a:=a.cells d.1) (b:=b.cells d.2) h;exact(qK hf a d.1 y1 h1).append (qK hf b d.2 y2 h2)
 | .ptr t,d,ys,h=>by
   cases h with
   |cons h1 h2=>
    cases h2;refine .cons ?_ .nil;obtain⟨b,o,A,g1,g2,g3,g4,rfl⟩:=Den.Ae (t:=t) (xs:=[d]) h1;exact .fy (hf _ _ g1) g2 rfl (ob (fun d ys=>qK hf t d ys) _ _ g3) g4
 | .unit,d,ys,h=>by cases h;exact .nil
def aG.FT {t:av} {xs:List t.den} {ys:List Value} (h:aG ρ (t.flat xs) ys):aG (ren σ ρ) (t.flat xs) ys:=ob (ρ:=ρ) (ρ':=ren σ ρ) (fun d ys=>qK (ρ:=ρ) (ρ':=ren σ ρ) (fun _ _ h=>h) t d ys) xs ys h
mutual
def KP (hk:∀j p,look σ j=some p->64<=j):∀{v v':aa} {x:Value},wk σ v v'->Den ρ v x->Den (ren σ ρ) v' x:=by
 intro v v' x h hd;unfold wk at h;split at h
 .exact .bot x
 .subst h;rw [hd.cg];exact .qt
 .subst h;rw [hd.cg];exact .fc fun _=>⟨rfl,rfl⟩
 .rw [hd.cg,SC h];exact .raw _
 .obtain⟨h1,rfl⟩:=je h;obtain⟨b,c,g1,rfl⟩:=hd.kN;exact .ptr (yu h1 g1)
 .obtain⟨h1,rfl,rfl,rfl⟩:=je h;obtain⟨b,c,k,g1,g2,g3,rfl⟩:=hd.ig;exact .slice (yu h1 g1) g2 g3
 .rename_i i n c e t j n' c';refine Den.ac5 h hd ?_;unfold AF at h;split at h
  .rename_i hl;exact hk _ _ hl
  .exact h.elim
 .obtain⟨h1,h2,h3⟩:=je h;have h1:=ap h1;subst h1;obtain⟨xs,ys,g1,g2,rfl⟩:=hd.Ct;exact .func (AJ hk h2 g1) (AJ hk h3 g2)
 .obtain⟨h1,_⟩:=je h;obtain⟨b,c,g1,rfl⟩:=hd.vK;exact .map (yu h1 g1)
 .obtain⟨h1,h2⟩:=je h;rw [<-ac h1];obtain⟨y,g1,rfl⟩:=hd.Qw;exact .iface (KP hk h2 g1)
 .obtain⟨xs,g1,rfl⟩:=hd.tP;exact .agg (AJ hk h g1)
 .obtain⟨xs,g1,rfl⟩:=hd.Cu;exact .tuple (AJ hk h g1)
 .rename_i z t xs z' u ys;obtain⟨h2,h1⟩:=SB h;obtain⟨e,rfl⟩:=AI h2;subst e;rcases hd.tR with⟨rfl,a,k,rfl,hz⟩|⟨b,off,k,A,g1,g2,g3,g4,rfl,g5⟩
  .exact .fc fun e=>(h1 e).elim hz fun hn=>absurd rfl hn
  .refine .bn g1 g2 rfl ?_ g4 fun e=>(h1 e).elim g5 fun hn hxs=>hn (by subst hxs;rfl)
   exact aG.FT g3
 .rename_i t xs k off u ys k' off';obtain⟨h1,rfl,rfl⟩:=h;obtain⟨e,rfl⟩:=AI h1;subst e;obtain⟨b,o,A,g1,g2,g3,g4,rfl⟩:=hd.Ae;exact .fy g1 g2 rfl (aG.FT g3) g4
 .rename_i e t i k n c e' u j k' n' c';obtain⟨h1,rfl,rfl,rfl⟩:=je h;simp only [ae,bE]at h1;obtain⟨h1,rfl,h3⟩:=h1;rcases hd.jx with⟨rfl,a,rfl⟩|⟨b,c2,kc,g1,g2,g3,rfl⟩
  .exact .qt
  .exact .bR (yu h3 g1) g2 g3
 .rename_i e t i k off e' u j k' off';obtain⟨h1,rfl,rfl⟩:=je h;simp only [ae,bE]at h1;obtain⟨h1,rfl,h3⟩:=h1;obtain⟨b,c,g1,rfl⟩:=hd.xV;exact .dL (yu h3 g1)
 .exact h.elim
def AJ (hk:∀j p,look σ j=some p->64<=j):∀{v v':List aa} {x:List Value},r5 σ v v'->aG ρ v x->aG (ren σ ρ) v' x:=by
 intro v v' x h hd;unfold r5 at h;split at h
 .cases hd;exact .nil
 .cases hd with
  |cons h1 h2=>exact .cons (KP hk h.1 h1) (AJ hk h.2 h2)
 .exact h.elim
end
def SD {T:au aa}:∀(l:List (Nat×aa)) (t:Nat),(FP T l).get t=match l.find? (fun p=>Nat.beq p.1 t)with |some p=>some p.2|none=>T.get t
 |[],t=>rfl
 |p::l,t=>by
  show((FP T l).set p.1 (some p.2)).get t=_;rw [au.gj,List.find?_cons];by_cases h:p.1=t
  .subst h;simp
  .rw [if_neg h,tT h];exact SD l t
def KQ {T:au bl}:∀(l:List (Nat×fJ)) (t:Nat),(AE T l).get t=match l.find? (fun p=>Nat.beq p.1 t)with |some p=>p.2.val|none=>T.get t
 |[],t=>rfl
 |p::l,t=>by
  show((AE T l).set p.1 p.2.val).get t=_;rw [au.gj,List.find?_cons];by_cases h:p.1=t
  .subst h;simp
  .rw [if_neg h,tT h];exact KQ l t
def SE:∀(n t:Nat),(FO n).get t=if t<n then some .bot else none
 |0,t=>au.get_nil t
 |n+1,t=>by
  show((FO n).set n (some .bot)).get t=_;rw [au.gj,SE n t];by_cases h:n=t
  .subst h;simp
  .rw [if_neg h];by_cases h2:t<n
   .rw [if_pos h2,if_pos ω]
   .rw [if_neg h2,if_neg ω]
def KR {T:au aa} {K:Prop}:∀{l:List (Nat×aa)},FR σ T K l->K/\∀p∈l,wk σ ((T.get p.1).getD (.raw undef)) p.2
 |[],h=>⟨h,fun _ h=>by cases h⟩
 |p::l,h=>by
  obtain⟨h1,h2⟩:=KR h.2;refine⟨h1,fun q hq=> ?_⟩;rcases en.1 hq with rfl |hq
  .exact h.1
  .exact h2 q hq
def KS {K:Prop}:∀{l:List (Nat×fJ)},CZ P σ H K l->K/\∀p∈l,AH P σ H p
 |[],h=>⟨h,fun _ h=>by cases h⟩
 |p::l,h=>by
  obtain⟨h1,h2⟩:=KS h.2;refine⟨h1,fun q hq=> ?_⟩;rcases en.1 hq with rfl |hq
  .exact h.1
  .exact h2 q hq
def C0 {next:Nat}:∀{σ:Ren},wm σ next=true->∀{j i:Nat} {m:Option Nat},look σ j=some (i,m)->64<=j/\j<next
 |[],_,j,i,m,h=>by cases h
 |p::l,ho,j,i,m,h=>by
  simp only [wm,ae]at ho;obtain⟨h1,h2,_,h4⟩:=ho;unfold look at h;cases hb:Nat.beq p.1 j with
  |true=>
   have:=ac hb;subst this;exact⟨bT h1,bT h2⟩
  |false=>rw [hb]at h;exact C0 h4 h
def SF:∀{σ:Ren} {j i:Nat} {m:Option Nat},look σ j=some (i,m)->(j,i,m)∈σ
 |[],j,i,m,h=>by cases h
 |p::l,j,i,m,h=>by
  unfold look at h;cases hb:Nat.beq p.1 j with
  |true=>
   rw [hb]at h;have:=ac hb;subst this;have e:=jV h;rw [<-e];exact kK
  |false=>rw [hb]at h;exact kJ _ (SF h)
def SG {next:Nat}:∀{σ:Ren},wm σ next=true->∀{j j' i:Nat} {m m':Option Nat},look σ j=some (i,m)->look σ j'=some (i,m')->j=j'
 |[],_,j,j',i,m,m',h,_=>by cases h
 |p::l,ho,j,j',i,m,m',h,h'=>by
  simp only [wm,ae]at ho;obtain⟨_,_,h3,h4⟩:=ho;have key:∀{x:Nat} {mx:Option Nat},look l x=some (i,mx)->p.2.1≠i:=fun hx e=>by
   have:=List.all_eq_true.1 h3 _ (SF hx);rw [e]at this;simp at this
  unfold look at h h';cases hb:Nat.beq p.1 j<;>cases hb':Nat.beq p.1 j'<;>rw [hb]at h<;>rw [hb']at h'<;>simp only [cond_true,cond_false]at h h'
  .exact SG h4 h h'
  .exact absurd (congrArg Prod.fst (jV h')) (key h)
  .exact absurd (congrArg Prod.fst (jV h)) (key h')
  .rw [<-ac hb,<-ac hb']
def KT {j i b c:Nat} {mode:Option Nat} (hl:look σ j=some (i,mode)) (jD:64<=j) (hr:ρ i=some (b,c)):ren σ ρ j=some (b,mode.getD c):=by
 show(if j<64 then ρ j else _)=_;rw [if_neg ω,hl];simp only [hr]
def ac6 {e:TypeId} {t:av} {xs:List t.den} {k:bl} (h:bU e t xs=some k):k= .own e t xs:=by
 cases xs with
 |nil=>cases h
 |cons x l=>cases h;rfl
def SH {mode:Option Nat} {e:TypeId} {t:av} {xs:List t.den} {i j:Nat} (h:r6 P mode (H.get i) e t xs) (hH:aZ P B ρ H w) (hl:look σ j=some (i,mode)) (jD:64<=j):
  ∃k b c o,H.get i=some k/\ρ i=some (b,c)/\w.heap[b]? =some o/\ren σ ρ j=some (b,mode.getD c)/\gM P (ren σ ρ) j (.own e t xs) o/\k.eT=false/\(k.eT=false->B<=b):=by
 unfold r6 at h;split at h
 .rename_i e' u ys hi;obtain⟨h1,h2⟩:=je h;have h1:=ac h1;obtain⟨e0,h2⟩:=AI h2;subst h1;subst e0;subst h2;obtain⟨b,c,o,g1,g2,⟨⟨zs,fz,k1,k2,dN,mC,o7⟩,x7,FU⟩,g4⟩:=hH.blk i _ hi;have hr:=KT hl jD g1;refine⟨_,b,c,o,hi,g1,g2,hr,⟨⟨zs,fz,k1,k2,aG.FT dN,mC,fun hx=> ?_⟩,x7,FU⟩,rfl,g4⟩;obtain⟨b',c',q1,aQ⟩:=o7 hx;rw [g1]at q1;cases q1;exact⟨b,c,hr,aQ⟩
 .rename_i e' cs Re m hi;obtain⟨h1,h2,h3⟩:=je h;simp only [ae]at h1;obtain⟨h1,h4,h5⟩:=h1;have h1:=ac h1;have h4:=ac h4;have h5:=bT h5;subst h1;subst h2;obtain⟨b,c,o,g1,g2,⟨zs,fz,k1,k2,dN,mC,o7⟩,g4⟩:=hH.blk i _ hi;have hr:=KT hl jD g1;refine⟨_,b,c,o,hi,g1,g2,hr,⟨⟨zs,fz,k1,k2,aG.FT dN,(fun hx=>by cases hx),fun _=> ?_⟩,h4,h5⟩,rfl,g4⟩;split at h3
  .subst h3;exact⟨b,_,hr,by rw [mC rfl,t.jb,h4];rfl⟩
  .obtain⟨b',c',q1,aQ⟩:=o7 rfl;rw [g1]at q1;cases q1;exact⟨b,c,hr,aQ⟩
  .exact h3.elim
 .exact h.elim
def SI (hH:aZ P B ρ H w) {s:bD} (hr:wm σ s.next=true) (he:∀p∈s.bJ,AH P σ H p) {j:Nat} {k':bl} (hj:s.H.get j=some k'):
  ∃i mode k b c o,look σ j=some (i,mode)/\64<=j/\j<s.next/\H.get i=some k/\ρ i=some (b,c)/\w.heap[b]? =some o/\ren σ ρ j=some (b,mode.getD c)/\gM P (ren σ ρ) j k' o/\k'.eT=k.eT/\(k.eT=false->B<=b):=by
 have hj:(AE .nil s.bJ).get j=some k':=hj;rw [KQ]at hj;split at hj
 .rename_i p hp;have hm:=List.mem_of_find?_eq_some hp;have ac7:p.1=j:=ac (List.find?_some (p:=fun(q:Nat×fJ)=>Nat.beq q.1 j) hp);have fW:=he p hm;unfold AH at fW;rw [ac7]at fW;split at fW
  .split at fW
   .rename_i e t xs hp2;rw [hp2,fW]at hj;cases hj
   .exact fW.elim
  .rename_i i mode hl;obtain⟨l1,l2⟩:=C0 hr hl;refine⟨i,mode, ?_⟩;split at fW
   .rename_i e t xs hp2;rw [hp2]at hj;have fW:r6 P mode (H.get i) e t xs:=by
     unfold AG at fW;split at fW
     .split at fW
      .subst fW;cases hj
      .exact fW.elim
     .rename_i hi;rw [hi];exact fW
    obtain rfl:=ac6 hj;obtain⟨k,b,c,o,q1,aQ,b7,ez,qL,qM,qN⟩:=SH fW hH hl l1;exact⟨k,b,c,o,hl,l1,l2,q1,aQ,b7,ez,qL,qM.symm,qN⟩
   .rename_i e t xs hp2;rw [hp2]at hj;cases hj;obtain⟨k,b,c,o,q1,aQ,b7,ez,qL,qM,qN⟩:=SH fW hH hl l1;exact⟨k,b,c,o,hl,l1,l2,q1,aQ,b7,ez,qL,qM.symm,qN⟩
   .rename_i e cs x f r hp2;rw [hp2]at hj;cases hj;split at fW
    .rename_i e' cs' x' f' r' hi;obtain⟨h1,h2⟩:=je fW;simp only [ae,fU]at h1;obtain⟨h1,h3,h4,h5⟩:=h1;have h1:=ac h1;subst h1;subst h3;subst h4;subst h5;obtain⟨b,c,o,g1,g2,⟨zs,fz,k1,k2,dN,mC,o7⟩,g4⟩:=hH.blk i _ hi;have gO:=KT hl l1 g1;have hd:=AJ (fun j p hq=>(C0 hr (j:=j) (i:=p.1) (m:=p.2) hq).1) h2 dN;have hlen:cs'.length=cs.length:=by
      have e1:=dN.length;have e2:=hd.length;omega
     refine⟨_,b,c,o,hl,l1,l2,hi,g1,g2,gO,⟨zs,fz,k1,k2,by rw [<-hlen];exact hd,fun hx=>by rw [mC hx,hlen],fun hx=> ?_⟩,rfl,g4⟩;obtain⟨b',c',q1,aQ⟩:=o7 hx;rw [g1]at q1;cases q1;exact⟨b,c,gO,aQ⟩
    .exact fW.elim
   .exact fW.elim
 .rw [au.get_nil]at hj;cases hj
def ac8 {n:Nat} {T:au aa} {a:Act} {s:bD} (aR:eE P B ρ n T H a w) (h:fit P σ n T H s):eE P B (ren σ ρ) n s.T s.H a w/\∀i,s.next<=i->ren σ ρ i=none:=by
 obtain⟨h1,h2⟩:=je h;simp only [ae]at h1;obtain⟨h1,h3,h4,h5,h6⟩:=h1;have h1:=ac h1;have h6:=bT h6;obtain⟨h7,h8⟩:=KR h2;obtain⟨_,h9⟩:=KS h7;have old:=fun {j:Nat} {k':bl} (hj:s.H.get j=some k')=>SI aR.H h3 h9 hj
 refine⟨⟨⟨aR.T.size,fun t=> ?_⟩,⟨fun j k' hj=> ?_,fun j1 j2 k1 k2 b c1 c2 ac9 hj2 r1 r2=> ?_,fun j k' hj=> ?_,aR.H.base,fun b A hb=>⟨(aR.H.fz b A hb).1,fun j k' c hj hr=> ?_⟩⟩,⟨fun g hg=> ?_,aR.G.Al⟩⟩,fun i hi=> ?_⟩
 .have e:s.T=FP (FO s.n) s.sl:=rfl;rw [e,SD];split
  .rename_i p hp;have hm:=List.mem_of_find?_eq_some hp;have hpt:p.1=t:=ac (List.find?_some (p:=fun(q:Nat×aa)=>Nat.beq q.1 t) hp);have:=aR.T.get p.1;rw [hpt]at this;have hv:=h8 p hm;rw [hpt]at hv;exact KP (fun j q hq=>(C0 h3 (j:=j) (i:=q.1) (m:=q.2) hq).1) hv this
  .rw [SE,h1];by_cases ht:t<n
   .rw [if_pos ht];exact .bot _
   .rw [if_neg ht];have:a.tmps.getD t undef=undef:=by
     rw [Array.getD_eq_getD_getElem?,Array.getElem?_eq_none (by rw [aR.T.size];omega)];rfl
    rw [this];exact .raw _
 .obtain⟨i,mode,k,b,c,o,q1,aQ,b7,ez,qL,qM,qN,KU,C1,KV⟩:=old hj;exact⟨b,_,o,qN,qM,KU,fun e=>KV (C1 ▸ e)⟩
 .obtain⟨i1,m1,ada,b1,d1,o1,p1,p2,p3,ec,kU,pq,yw,_⟩:=old ac9;obtain⟨i2,m2,adb,b2,d2,o2,q1,aQ,b7,ez,qL,qM,qN,_⟩:=old hj2;rw [yw]at r1;cases r1;rw [qN]at r2;cases r2;have:=aR.H.inj i1 i2 ada adb b d1 d2 ec ez kU qL;subst this;exact SG h3 p1 q1
 .obtain⟨i,mode,k,b,c,o,q1,aQ,b7,_⟩:=old hj;exact b7
 .obtain⟨i,mode,k,b',c',o,q1,aQ,b7,ez,qL,qM,qN,KU,C1,KV⟩:=old hj;rw [qN]at hr;cases hr;rw [C1];exact(aR.H.fz b A hb).2 i k c' ez qL
 .obtain⟨c,hc⟩:=aR.G.at' g hg;refine⟨c, ?_⟩;show(if g<64 then ρ g else _)=_;rw [if_pos hg];exact hc
 .show(if i<64 then ρ i else _)=_;rw [if_neg ω];cases hl:look σ i with
  |none=>rfl
  |some p=>exact absurd (C0 h3 (j:=i) (i:=p.1) (m:=p.2) hl).2 ω
def SJ {n:Nat} {T:au aa} {a:Act} {s:bD} (aR:eE P B ρ n T H a w) (h:fit P σ n T H s) {b:Nat} (hb:Own (ren σ ρ) s.H b):Own ρ H b:=by
 obtain⟨h1,h2⟩:=je h;simp only [ae]at h1;obtain⟨_,h3,_⟩:=h1;obtain⟨h7,_⟩:=KR h2;obtain⟨_,h9⟩:=KS h7;obtain⟨j,k',c',hj,hro,hr⟩:=hb;obtain⟨i,mode,k,b',d,o,q1,aQ,b7,ez,qL,qM,qN,KU,C1,KV⟩:=SI aR.H h3 h9 hj;rw [qN]at hr;cases hr;exact⟨i,k,_,ez,by rw [<-hro,C1],qL⟩
end
end
end
end Go.Proofs.YtibikmmdbdlafaaGreatDoor.Sv
