import Derived.Test.YtibikmmdbdlafaaGreatDoorZnSvDraw6
set_option linter.defProp false
set_option linter.unusedSectionVars false
set_option linter.unusedSimpArgs false
namespace Go.Proofs.YtibikmmdbdlafaaGreatDoor.Sv
open Go.RowKit
def aug (r:aM):Bool:=match r with | .ok (.raw (.bool b)) _=>b|_=>false
end Go.Proofs.YtibikmmdbdlafaaGreatDoor.Sv
namespace Go.Proofs.YtibikmmdbdlafaaGreatDoor.Sv
noncomputable section
inductive aE (α:Type) where
 |ret (a:α)
 |must (b:Bool) (k:aE α)
 |ask (b:Bool) (k:Bool->aE α)
 |opt (b:Bool) (k l:aE α)
def aE.gr {α:Type}:aE α->Option α
 | .ret a=>some a
 | .must b k=>cond b k.gr none
 | .ask b k=>(k b).gr
 | .opt b k l=>cond b k.gr l.gr
def aE.bind {α β:Type} (x:aE α) (f:α->aE β):aE β:=match x with
 | .ret a=>f a
 | .must b k=> .must b (k.bind f)
 | .ask b k=> .ask b fun c=>(k c).bind f
 | .opt b k l=> .opt b (k.bind f) (l.bind f)
def aE.path {α:Type}:aE α->List Bool->(α->Prop)->Prop
 | .ret a,_,Q=>Q a
 | .must b k,D,Q=>b=true/\k.path D Q
 | .ask b k,[],Q=>(k b).path [] Q
 | .ask b k,c::D,Q=>b=c/\(k c).path D Q
 | .opt b k _,D,Q=>b=true/\k.path D Q
def aE.tW {α:Type}:aE α->List Bool->(α->Prop)->Prop
 | .ret a,_,Q=>Q a
 | .must b k,D,Q=>b=true/\k.tW D Q
 | .ask b k,[],Q=>(k b).tW [] Q
 | .ask b k,c::D,Q=>b=c/\(k c).tW D Q
 | .opt b _ l,D,Q=>b=false/\l.tW D Q
def aE.qy {α β:Type}:∀(x:aE α) (f:α->aE β),(x.bind f).gr=x.gr.bind fun a=>(f a).gr
 | .ret a,f=>rfl
 | .must b k,f=>by cases b<;>simp [aE.bind,aE.gr,aE.qy k f]
 | .ask b k,f=>by simp [aE.bind,aE.gr,aE.qy (k b) f]
 | .opt b k l,f=>by cases b<;>simp [aE.bind,aE.gr,aE.qy k f,aE.qy l f]
def aE.tX {α:Type} {Q:α->Prop}:∀(x:aE α) (D:List Bool),x.path D Q->∃a,x.gr=some a/\Q a
 | .ret a,D,h=>⟨a,rfl,h⟩
 | .must b k,D,h=>by
   obtain⟨h1,h2⟩:=h;subst h1;exact tX k D h2
 | .ask b k,[],h=>tX (k b) [] h
 | .ask b k,c::D,h=>by
   obtain⟨h1,h2⟩:=h;subst h1;exact tX (k b) D h2
 | .opt b k l,D,h=>by
   obtain⟨h1,h2⟩:=h;subst h1;exact tX k D h2
def aE.Cx {α:Type} {Q:α->Prop}:∀(x:aE α) (D:List Bool),x.tW D Q->∃a,x.gr=some a/\Q a
 | .ret a,D,h=>⟨a,rfl,h⟩
 | .must b k,D,h=>by
   obtain⟨h1,h2⟩:=h;subst h1;exact Cx k D h2
 | .ask b k,[],h=>Cx (k b) [] h
 | .ask b k,c::D,h=>by
   obtain⟨h1,h2⟩:=h;subst h1;exact Cx (k b) D h2
 | .opt b k l,D,h=>by
   obtain⟨h1,h2⟩:=h;subst h1;exact Cx l D h2
abbrev pE:=Program->Oper->dO->ai->aE aM
def fits (k:IntKind) (r:Int):Bool:=decide (k.min<=r)&&decide (r<=k.max)
def tY (k:IntKind) (r:Int) (H:ai):aE aM:=match k.signed with
 |true=> .opt (fits k r) (.ret (.ok (.raw (.int k r)) H)) (.ret (.ok (.raw (.int k (k.wrap r))) H))
 |false=> .ret (.ok (.raw (.int k (k.wrap r))) H)
def RN (op:BinOp) (k:IntKind) (a b:Int) (H:ai):Option (aE aM):=match op with
 | .add=>some (tY k (a+b) H)
 | .sub=>some (tY k (a-b) H)
 | .mul=>some (tY k (a*b) H)
 | .quo=>some (.must (decide (b≠0)) (tY k (a.tdiv b) H))
 | .rem=>some (.must (decide (b≠0)) (.ret (.ok (.raw (.int k (a.tmod b))) H)))
 | .eql=>some (.ret (.ok (.raw (.bool (a==b))) H))
 | .neq=>some (.ret (.ok (.raw (.bool (a != b))) H))
 | .lss=>some (.ret (.ok (.raw (.bool (decide (a<b)))) H))
 | .leq=>some (.ret (.ok (.raw (.bool (decide (a<=b)))) H))
 | .gtr=>some (.ret (.ok (.raw (.bool (decide (a>b)))) H))
 | .geq=>some (.ret (.ok (.raw (.bool (decide (a>=b)))) H))
 |_=>none
def Ki (op:BinOp) (t:TypeId) (x y:Operand) (ah:TypeId):pE:=fun P o ev H=>match iN (ev x),iN (ev y)with
 | .int k a, .int k' b=>(match k==k' with
   |true=>(match RN op k a b H with |some r=>r|none=> .ret (ag H (oW P o ev op k k' a b)))
   |false=> .ret .no)
 |_,_=> .ret (je op t x y ah P o ev H)
def Kj (c a b:Operand):pE:=fun _ _ ev H=>match gR (ev c)with
 | .mk q=> .ask q fun r=>match r with |true=> .ret (.ok (ev a) H)|false=> .ret (.ok (ev b) H)
 | .no=> .ret .no
def xP (v:af) (f:Nat->aE aM):aE aM:=match iN v with
 | .int _ z=> .must (decide (0<=z)) (f z.toNat)
 | .no=> .ret .no
def Kk (k s:Nat) (x:af) (H:ai):aE aM:=match x with
 | .bu _ t xs=>(match Nat.beq t.size s with
   |true=> .must (decide (k<xs.length)) (.ret (.ok (.fB t xs k 0) H))
   |false=> .ret .no)
 | .bU e t i k0 len _=>(match Nat.beq t.size s with
   |true=> .must (decide (k<len)) (.ret (.ok (.dH e t i (k0+k) 0) H))
   |false=> .ret .no)
 |_=> .ret .no
def Kl:af->Bool
 | .bu _ _ _=>true
 | .bU _ _ _ _ _ _=>true
 |_=>false
def Km (t:TypeId) (x ix:Operand):pE:=fun P o ev H=>match Kl (ev x),nV P t with
 |true, .sl s=>xP (ev ix) fun k=>Kk k s (ev x) H
 |_,_=> .ret (nj t x ix P o ev H)
def RO (P:Program) (t:TypeId) (x:af) (H:ai) (d:aM):aE aM:=match x with
 | .dH e u i k off=> .must (bA e u (H.get i) k) (.ret (ag H (li P t (elemAt u (bP u (H.get i)) k) off)))
 |_=> .ret d
def Kn (t:TypeId) (x:Operand):pE:=fun P o ev H=>RO P t (ev x) H (nY t x P o ev H)
def RP (P:Program) (t:TypeId) (x y:af) (H:ai) (d:aM):aE aM:=match x with
 | .dH e u i k off=> .must (bA e u (H.get i) k) (match co y.cells&&tD P t y.cells.length with
   |true=>(match(kQ (elemAt u (bP u (H.get i)) k) off y.cells).bind u.read with
    |some d=> .ret (.ok (.raw undef) (H.set i (.own e u ((bP u (H.get i)).set k d))))
    |none=> .ret .no)
   |false=> .ret .no)
 |_=> .ret d
def Ko (t:TypeId) (x y:Operand):pE:=fun P o ev H=>RP P t (ev x) (ev y) H (qi t x y P o ev H)
def Hc (v:Option af) (d:Nat) (f:Nat->aE aM):aE aM:=match v with
 |none=>f d
 |some v=>xP v f
def Ff (P:Program) (e:TypeId) (s n:Nat) (lo hi mx:Option af) (_:ai) (k:Nat->Nat->aE aM):aE aM:=
 match mx with
 |none=>(match ey P e with
  |some s'=>(match Nat.beq s s' with
   |true=>Hc hi n fun h=>Hc lo 0 fun l=> .must (decide (l<=h)) (.must (decide (h<=n)) (k l h))
   |false=> .ret .no)
  |none=> .ret .no)
 |_=> .ret .no
def RQ (P:Program) (t:TypeId) (x:af) (lo hi mx:Option af) (H:ai) (d:aM):aE aM:=match P.underlying t,x with
 |some (.slice e), .bu _ u xs=>Ff P e u.size xs.length lo hi mx H fun l h=> .ret (.ok (.bu false u ((xs.take h).drop l)) H)
 |some (.slice e), .bU e' u i k len cap=>Ff P e u.size len lo hi mx H fun l h=> .ask (Nat.beq l 0) fun c=>match c with
  |true=> .ret (.ok (.bU e' u i k h cap) H)
  |false=> .ask (decide (l<h)) fun c=>match c with
   |true=> .ret (.ok (.bU e' u i (k+l) (h-l) .any) H)
   |false=> .ret (.ok (.bu false u []) H)
 |_,_=> .ret d
def Kq (t:TypeId) (x:Operand) (lo hi mx:Option Operand):pE:=fun P o ev H=>match Kl (ev x)with
 |true=>RQ P t (ev x) (lo.map ev) (hi.map ev) (mx.map ev) H .no
 |false=> .ret (oX t x lo hi mx P o ev H)
def Kr (H:ai) (ty:av) (s:Nat) (x:af) (f:List ty.den->Nat->aE aM):aE aM:=match x with
 | .bU e u j k len _=>(match decide (u=ty)with
   |true=> .must (Nat.beq len 0||bA e ty (H.get j) (k+len-1)) (f (((bP ty (H.get j)).drop k).take len) len)
   |false=> .ret .no)
 |x=>match zo H ty s x with |some (ds,n)=>f ds n|none=> .ret .no
def Cy (P:Program) (t:TypeId) (e:TypeId) (ty:av) (i k len:Nat) (cap:bh) (sk:Bool) (x:af) (H:ai):aE aM:=
 match lG P t with
 |some el=>(match P.info? el with
  |some inf=>(match inf.zero with
   |some z=>(match Nat.beq z.cells.size inf.size&&Nat.ble 1 inf.size&&Nat.beq el e&&Nat.beq ty.size inf.size with
    |true=> .must (Nat.beq k 0) (Kr H ty inf.size x fun ds n=> .ask (Nat.beq n 0) fun c=>match c with
     |true=> .ret (.ok (.bU e ty i k len cap) (cond sk H.skip H))
     |false=> .must (zk e ty (H.get i) len cap) (.must (bounded (len+n) inf.bytes)
       (.ret (.ok (.bU e ty H.next 0 (len+n) .full) ((H.drop i).new (.own e ty (bP ty (H.get i)++ds)))))))
    |false=> .ret .no)
   |none=> .ret .no)
  |none=> .ret .no)
 |none=> .ret .no
def acf:af->Bool
 | .bU _ _ _ _ _ _=>true
 |_=>false
def Fg (P:Program) (t:TypeId) (s x:af) (H:ai) (d:aM):aE aM:=match s with
 | .bU e ty i k len cap=>(match w5 ty x H with
   |some (b,H')=> .must b (Cy P t e ty i k len cap false x H')
   |none=>Cy P t e ty i k len cap false x H)
 |s=>match x with
  | .bu z ty ys=>(match Ev s with
    |true=>(match lG P t with
     |some e=>Cy P t e ty H.next 0 0 (.known 0) true (.bu z ty ys) H
     |none=> .ret .no)
    |false=> .ret .no)
  |_=> .ret d
def Rd (P:Program) (pt:TypeId) (x n:af) (H:ai) (d:aM):aE aM:=match x with
 | .dH e' u i 0 0=>(match EB P pt e' u with
   |true=>(match n with
    | .raw (.int .i64 (.ofNat n))=> .must (Nat.ble 1 n) (.must (Nat.ble n 140737488355328) (.must (bA e' (.int .u8) (H.get i) (n-1)) (.must (I2 ((bP (.int .u8) (H.get i)).take n))
      (.ret (.ok (.raw (.string (o5 ((bP (.int .u8) (H.get i)).take n)))) (H.drop i))))))
    |_=> .ret .no)
   |false=> .ret .no)
 |_=> .ret d
def Ks (c:Call):pE:=fun P o ev H=>match c.callee,c.args.toList.map ev,c.argTypes.toList with
 | .builtin .append,[s,x],[t,t']=>(match P.underlying t' with
   |some (.slice _)=>Fg P t s x H (fw c P o ev H)
   |some .string=>(match acf s with
    |true=>Fg P t s x H (fw c P o ev H)
    |false=> .ret (fw c P o ev H))
   |_=> .ret (fw c P o ev H))
 | .builtin .unsafeString,[x,n],[pt,_]=>Rd P pt x n H (fw c P o ev H)
 | .builtin .unsafeSliceData,[.bU e u i k len _],_=> .must (Nat.ble 1 len) (.ret (.ok (.dH e u i k 0) H))
 |_,_,_=> .ret (fw c P o ev H)
def Kt (t:TypeId) (l c:Operand):pE:=fun P _ ev H=>match lG P t with
 |some e=>(match P.info? e with
  |some inf=>(match inf.zero with
   |some z=>xP (ev l) fun n=>xP (ev c) fun m=>(match Nat.ble 1 inf.size&&Nat.beq z.cells.size inf.size with
    |true=> .must (decide (n<=m)) (.must (bounded m inf.bytes) (.ret (.ok (.slice H.next 0 n (.known m)) (H.new (.cells e (List.replicate m (iS z.cells)).flatten true false false)))))
    |false=> .ret .no)
   |none=> .ret .no)
  |none=> .ret .no)
 |none=> .ret .no
def Fh (s:AT) (k:Nat):Int:=((s.data.toList.getD k 0).toNat:Nat)
def z7 (a b:AT):Bool:=decide (a.data.toList=b.data.toList)
def Hd (v:af):Option AT:=match v with
 | .raw (.string s)=>some s
 |_=>none
def Ku (t:TypeId) (x ix:Operand):pE:=fun P o ev H=>match Hd (ev x)with
 |some s=>(match P.underlying t with
  |some .string=>xP (ev ix) fun k=> .must (decide (k<s.size)) (.ret (.ok (.raw (.int .u8 (Fh s k))) H))
  |_=> .ret .no)
 |none=> .ret (mA t x ix P o ev H)
def RR (P:Program) (t:TypeId) (s:AT) (lo hi mx:Option af) (H:ai):aE aM:=match P.underlying t,mx with
 |some .string,none=>Hc hi s.size fun h=>Hc lo 0 fun l=> .must (decide (l<=h)) (.must (decide (h<=s.size)) (.ret (.ok (.raw (.string (s.extract l h))) H)))
 |_,_=> .ret .no
def Kv (t:TypeId) (x:Operand) (lo hi mx:Option Operand):pE:=fun P o ev H=>match Hd (ev x)with
 |some s=>RR P t s (lo.map ev) (hi.map ev) (mx.map ev) H
 |none=>Kq t x lo hi mx P o ev H
def RS (op:BinOp) (a b:AT) (H:ai) (d:aM):aE aM:=match op with
 | .add=> .must (decide (a.size+b.size<=9223372036854775807)) (.ret (.ok (.raw (.string (a++b))) H))
 | .eql=> .ret (.ok (.raw (.bool (z7 a b))) H)
 | .neq=> .ret (.ok (.raw (.bool (!z7 a b))) H)
 |_=> .ret d
def acg:BinOp->Bool
 | .shl=>true
 | .shr=>true
 |_=>false
def ach (op:BinOp) (k:IntKind) (a b:Int) (H:ai):aE aM:= .must (decide (0<=b)) (match op with
 | .shl=> .ret (.ok (.raw (.int k (k.wrap (a*2^(min b.toNat k.bits))))) H)
 | .shr=> .ret (.ok (.raw (.int k (a.fdiv (2^(min b.toNat k.bits))))) H)
 |_=> .ret .no)
def Kw (op:BinOp) (t:TypeId) (x y:Operand) (ah:TypeId):pE:=fun P o ev H=>match Hd (ev x),Hd (ev y)with
 |some a,some b=>RS op a b H (je op t x y ah P o ev H)
 |_,_=>(match acg op,iN (ev x),iN (ev y)with
  |true, .int k a, .int _ b=>ach op k a b H
  |_,_,_=>Ki op t x y ah P o ev H)
def Cz (op:Op):pE:=match op with
 | .binOp op t x y ah=>Kw op t x y ah
 | .pick c a b=>Kj c a b
 | .indexAddr t x ix=>Km t x ix
 | .load t x=>Kn t x
 | .store t x y=>Ko t x y
 | .slice t x lo hi mx=>Kv t x lo hi mx
 | .index t x ix=>Ku t x ix
 | .call c=>Ks c
 | .makeSlice t l c=>Kt t l c
 |op=>fun P o ev H=> .ret (fc op P o ev H)
def Ref (t:aE aM) (r:aM):Prop:=∀a,t.gr=some a->a≠ .no->r=a
def Ref.ret {r:aM}:Ref (.ret r) r:=fun a h _=>by cases h;rfl
def Ref.no {r:aM}:Ref (.ret .no) r:=fun a h hn=>by cases h;exact absurd rfl hn
def Ref.must {b:Bool} {k:aE aM} {r:aM} (h:b=true->Ref k r):Ref (.must b k) r:=fun a ha hn=>by
 cases b with
 |false=>cases ha
 |true=>exact h rfl a ha hn
def Ref.opt {b:Bool} {k l:aE aM} {r:aM} (h:b=true->Ref k r) (g:b=false->Ref l r):Ref (.opt b k l) r:=fun a ha hn=>by
 cases b with
 |false=>exact g rfl a ha hn
 |true=>exact h rfl a ha hn
def Ref.ask {b:Bool} {k:Bool->aE aM} {r:aM} (h:Ref (k b) r):Ref (.ask b k) r:=h
section
variable {P:Program} {o:Oper} {ev:dO} {H:ai}
def RT {k:IntKind} {r:Int} (h:fits k r=true):k.wrap r=r:=by
 unfold fits at h;rw [ae]at h;have h1:=ap h.1;have h2:=ap h.2;cases k<;>simp [IntKind.wrap,IntKind.min,IntKind.max,IntKind.signed,IntKind.bits]at h1 h2 ⊢ <;>omega
def aci {op:BinOp} {k:IntKind} {a b r:Int} (hop:op= .add/\r=a+b\/op= .sub/\r=a-b\/op= .mul/\r=a*b):tv P op k a b=some (.int k (k.wrap r)):=by
 rcases hop with⟨rfl,rfl⟩|⟨rfl,rfl⟩|⟨rfl,rfl⟩<;>rfl
def RU {k:IntKind} {r:Int} {d:aM} (h:d= .ok (.raw (.int k (k.wrap r))) H):Ref (tY k r H) d:=by
 subst h;unfold tY;split
 .exact .opt (fun hb=>by rw [RT hb];exact .ret) fun _=> .ret
 .exact .ret
def Ky {op:BinOp} {t:TypeId} {x y:Operand} {ah:TypeId} {k k':IntKind} {a b:Int} (hx:iN (ev x)= .int k a) (hy:iN (ev y)= .int k' b):
  je op t x y ah P o ev H=(match jx op k k' a b with |some v=> .ok v H|none=>ag H (oW P o ev op k k' a b)):=by
 unfold je;rw [hx,hy];show(@Option.rec af (fun _=>aM) (ag H (oW P o ev op k k' a b)) (fun v=> .ok v H) (jx op k k' a b))=_
 cases jx op k k' a b<;>rfl
def Fi {op:BinOp} {k:IntKind} {a b:Int} {v:Value} (h:tv P op k a b=some v):oW P o ev op k k a b=some (.raw v):=by
 unfold oW;rw [h];simp
section
variable {op:BinOp} {t:TypeId} {x y:Operand} {ah:TypeId}
def acj {k:IntKind} {a b:Int} {r:aE aM} (hx:iN (ev x)= .int k a) (hy:iN (ev y)= .int k b) (h:RN op k a b H=some r):Ref r (je op t x y ah P o ev H):=by
 rw [Ky hx hy];have arith:∀c:Int,(op= .add/\c=a+b\/op= .sub/\c=a-b\/op= .mul/\c=a*b)->r=tY k c H->Ref r (match jx op k k a b with |some v=> .ok v H|none=>ag H (oW P o ev op k k a b)):=by
  intro c hc hr;subst hr;cases hf:jx op k k a b with
  |none=>simp only;rw [Fi (aci hc)];exact RU rfl
  |some v=>
   obtain⟨m,n,rfl,_,rfl,rfl,hn⟩:=xx hf;simp only;have hs:∀{q:Nat},small q=some v->c=q->Ref (tY .i64 c H) (.ok v H):=fun {q} h1 h2=>by
    obtain⟨h3,h4⟩:=Jk h1;subst h2;subst h4;unfold tY;refine .opt (fun _=> .ret) fun hf=> ?_
    have:fits .i64 (q:Int)=true:=by
     unfold fits;rw [ae];exact⟨az (by show(-9223372036854775808:Int)<=_;omega),az (by show(q:Int)<=9223372036854775807;omega)⟩
    rw [this]at hf;cases hf
   rcases hc with⟨rfl,rfl⟩|⟨rfl,rfl⟩|⟨rfl,rfl⟩
   .exact hs (q:=m+n) hn (by omega)
   .have hn:(@Bool.rec (fun _=>Option af) none (small (Nat.sub m n)) (Nat.ble n m))=some v:=hn;cases hb:Nat.ble n m with
    |false=>rw [hb]at hn;cases hn
    |true=>
     rw [hb]at hn;have hb:=bV hb;have e:Nat.sub m n=m-n:=rfl;rw [e]at hn;exact hs hn (by omega)
   .cases hn
 have cmp:∀c:Bool,tv P op k a b=some (.bool c)->(∀m n:Nat,a=m->b=n->zw op m n=some (.raw (.bool c))\/zw op m n=none)->r= .ret (.ok (.raw (.bool c)) H)->Ref r (match jx op k k a b with |some v=> .ok v H|none=>ag H (oW P o ev op k k a b)):=by
  intro c hc hn hr;subst hr;cases hf:jx op k k a b with
  |none=>simp only;rw [Fi hc];exact .ret
  |some v=>
   obtain⟨m,n,rfl,_,rfl,rfl,hv⟩:=xx hf;simp only;rcases hn m n rfl rfl with h1|h1<;>rw [h1]at hv
   .cases hv;exact .ret
   .cases hv
 cases op with
 |add=>cases h;exact arith _ (.inl ⟨rfl,rfl⟩) rfl
 |sub=>cases h;exact arith _ (.inr (.inl ⟨rfl,rfl⟩)) rfl
 |mul=>cases h;exact arith _ (.inr (.inr ⟨rfl,rfl⟩)) rfl
 |quo=>
  cases h;refine .must fun hb=> ?_
  have hb:=ap hb;have hf:jx .quo k k a b=none:=by
   cases hf:jx .quo k k a b with
   |none=>rfl
   |some v=>obtain⟨m,n,_,_,_,_,hv⟩:=xx hf;cases hv
  rw [hf];simp only;rw [Fi (v:= .int k (k.wrap (a.tdiv b))) (by unfold tv Op.intDiv;simp only [if_neg hb];rfl)];exact RU rfl
 |rem=>
  cases h;refine .must fun hb=> ?_
  have hb:=ap hb;have hf:jx .rem k k a b=none:=by
   cases hf:jx .rem k k a b with
   |none=>rfl
   |some v=>obtain⟨m,n,_,_,_,_,hv⟩:=xx hf;cases hv
  rw [hf];simp only;rw [Fi (v:= .int k (a.tmod b)) (by unfold tv Op.intDiv;simp only [if_neg hb];rfl)];exact .ret
 |and=>cases h
 |or=>cases h
 |xor=>cases h
 |shl=>cases h
 |shr=>cases h
 |andNot=>cases h
 |eql=>
  cases h;refine cmp _ rfl (fun m n h1 h2=> .inl ?_) rfl;subst h1;subst h2;show some (af.raw (.bool (Nat.beq m n)))=_;congr 3;rw [Bool.eq_iff_iff];simp;omega
 |neq=>
  cases h;refine cmp _ rfl (fun m n h1 h2=> .inl ?_) rfl;subst h1;subst h2;show some (af.raw (.bool (!(Nat.beq m n))))=_;congr 3;by_cases e:m=n
  .subst e;simp
  .rw [tK e];simp;omega
 |lss=>
  cases h;refine cmp _ rfl (fun m n h1 h2=> .inl ?_) rfl;subst h1;subst h2;show some (af.raw (.bool (Nat.ble (m+1) n)))=_;rw [xp];congr 3;rw [Bool.eq_iff_iff,decide_eq_true_iff,decide_eq_true_iff];omega
 |leq=>
  cases h;refine cmp _ rfl (fun m n h1 h2=> .inl ?_) rfl;subst h1;subst h2;show some (af.raw (.bool (Nat.ble m n)))=_;rw [xp];congr 3;rw [Bool.eq_iff_iff,decide_eq_true_iff,decide_eq_true_iff];omega
 |gtr=>
  cases h;refine cmp _ rfl (fun m n h1 h2=> .inl ?_) rfl;subst h1;subst h2;show some (af.raw (.bool (Nat.ble (n+1) m)))=_;rw [xp];congr 3;rw [Bool.eq_iff_iff,decide_eq_true_iff,decide_eq_true_iff];omega
 |geq=>
  cases h;refine cmp _ rfl (fun m n h1 h2=> .inl ?_) rfl;subst h1;subst h2;show some (af.raw (.bool (Nat.ble n m)))=_;rw [xp];congr 3;rw [Bool.eq_iff_iff,decide_eq_true_iff,decide_eq_true_iff];omega
def ack:Ref (Ki op t x y ah P o ev H) (je op t x y ah P o ev H):=by
 unfold Ki;split
 .rename_i k a k' b hx hy;split
  .rename_i hk;have hk:k=k':=by simpa using hk
   subst hk;split
   .rename_i r hr;exact acj hx hy hr
   .rename_i hn;rw [Ky hx hy];cases hf:jx op k k a b with
    |none=>exact .ret
    |some v=>
     obtain⟨m,n,_,_,_,_,hv⟩:=xx hf;cases op<;>first |(cases hn;done)|(change (none:Option af)=some v at hv;cases hv)
  .exact .no
 .exact .ret
end
def acm {c a b:Operand}:Ref (Kj c a b P o ev H) (nX c a b P o ev H):=by
 unfold Kj nX;cases gR (ev c)with
 |no=>exact .no
 |mk q=>cases q<;>exact .ret
def CA {v:af} {f:Nat->aE aM} {r:aM} (h:∀k,nW v= .mk k->Ref (f k) r):Ref (xP v f) r:=by
 unfold xP;split
 .rename_i k z hz;refine .must fun hb=>h _ ?_
  have hb:=ap hb;unfold nW;rw [hz];cases z with
  |ofNat m=>rfl
  |negSucc m=>exact absurd hb (by omega)
 .exact .no
def acn {k s:Nat} {x:af}:Ref (Kk k s x H) (rB k s x H):=by
 unfold Kk rB;split
 .rename_i z t xs;split
  .rename_i hs;refine .must fun hb=> ?_
   have hb:=ap hb;simp only [hs,Bool.true_and];rw [fK (show k+1<=xs.length from hb)];exact .ret
  .exact .no
 .rename_i e t i k0 len cap;split
  .rename_i hs;refine .must fun hb=> ?_
   have hb:=ap hb;simp only [hs,Bool.true_and];rw [fK (show k+1<=len from hb)];exact .ret
  .exact .no
 .exact .no
def aco {v:af} (h:Kl v=true):iO v= .no/\wZ v= .no:=by
 cases v<;>first |exact⟨rfl,rfl⟩|cases h
def acp {t:TypeId} {x ix:Operand}:Ref (Km t x ix P o ev H) (nj t x ix P o ev H):=by
 unfold Km;split
 .rename_i s hx ht;refine CA fun k hk=> ?_
  unfold nj;simp only [hk,ht,(aco hx).2];exact acn
 .exact .ret
def acq {t:TypeId} {x:Operand}:Ref (Kn t x P o ev H) (nY t x P o ev H):=by
 unfold Kn RO;split
 .rename_i e u i k off hx;refine .must fun hb=> ?_
  unfold nY;rw [hx];show Ref _ (tB P t (.dH e u i k off) H);unfold tB;simp only [hb,cond_true];exact .ret
 .exact .ret
def acr {t:TypeId} {x y:Operand}:Ref (Ko t x y P o ev H) (qi t x y P o ev H):=by
 unfold Ko RP;split
 .rename_i e u i k off hx;refine .must fun hb=> ?_
  unfold qi;rw [hx];show Ref _ (xb P t (.dH e u i k off) (ev y) H);unfold xb;simp only [hb,cond_true];cases (co (ev y).cells&&tD P t (ev y).cells.length)with
  |false=>exact .no
  |true=>
   simp only [cond_true];cases (kQ (elemAt u (bP u (H.get i)) k) off (ev y).cells).bind u.read with
   |none=>exact .no
   |some d=>exact .ret
 .exact .ret
def Fj {v:Option af} {d:Nat} {f:Nat->aE aM} {r:aM} (h:∀k,mo v d=some k->Ref (f k) r):Ref (Hc v d f) r:=by
 unfold Hc;split
 .exact h _ rfl
 .rename_i v;exact CA fun k hk=>h k (by show nz v=some k;unfold nz;rw [hk])
def RV {e:TypeId} {s n:Nat} {lo hi mx:Option af} {k:Nat->Nat->aE aM} {k2:Nat->Nat->af} (h:∀l h,l<=h->h<=n->Ref (k l h) (.ok (k2 l h) H)):Ref (Ff P e s n lo hi mx H k) (ag H (zm P e s n lo hi mx k2)):=by
 unfold Ff;split
 .split
  .rename_i s' hs;split
   .rename_i acs;refine Fj fun hh hhi=>Fj fun l hlo=> .must fun h1=> .must fun h2=> ?_
    have h1:=ap h1;have h2:=ap h2;unfold zm;simp only [hs,Option.bind_some,hhi,hlo,acs,Option.isNone_none,Bool.true_and,fK h1,fK h2,cond_true];exact h l hh h1 h2
   .exact .no
  .exact .no
 .exact .no
def acu {t:TypeId} {x:Operand} {lo hi mx:Option Operand}:Ref (Kq t x lo hi mx P o ev H) (oX t x lo hi mx P o ev H):=by
 unfold Kq;split
 .rename_i hx;have hp:oX t x lo hi mx P o ev H=ag H (BL P t (ev x) (lo.map ev) (hi.map ev) (mx.map ev)):=by
   unfold oX BR;cases hv:ev x<;>first |rfl |(rw [hv]at hx;cases hx)
  rw [hp];unfold RQ;split
  .rename_i e z u xs hu gD;unfold BL;rw [hu,gD];refine RV fun l h h1 h2=> ?_
   cases hb:Nat.ble (l+1) h with
   |true=>exact .ret
   |false=>
    have:¬l+1<=h:=fun hh=>by rw [fK hh]at hb;cases hb
    have e:(xs.take h).drop l=[]:=by rw [List.drop_eq_nil_iff];simp;omega
    rw [e];exact .ret
  .rename_i e e' u i k len cap hu gD;unfold BL;rw [hu,gD];refine RV fun l h h1 h2=> .ask ?_
   cases hb:Nat.beq l 0 with
   |true=>exact .ret
   |false=>
    refine .ask ?_;by_cases hlt:l<h
    .simp only [hlt,decide_true,cond_false,fK (show l+1<=h from hlt),cond_true];exact .ret
    .have kS:Nat.ble (l+1) h=false:=by rw [xp];exact ab hlt
     simp only [hlt,decide_false,cond_false,kS];exact .ret
  .exact .no
 .exact .ret
def acv {ty:av} {s:Nat} {x:af} {f:List ty.den->Nat->aE aM} {r:aM} (h:∀ds n,zo H ty s x=some (ds,n)->Ref (f ds n) r):Ref (Kr H ty s x f) r:=by
 unfold Kr;split
 .rename_i e u j k len cap;split
  .rename_i hu;refine .must fun hb=>h _ _ ?_
   unfold zo;simp only [hu,hb,Bool.true_and,cond_true]
  .exact .no
 .split
  .rename_i ds n hs;exact h ds n hs
  .exact .no
def Kz {t e:TypeId} {ty:av} {i k len:Nat} {cap:bh} {sk:Bool} {x:af}:Ref (Cy P t e ty i k len cap sk x H) (eT (rE P t e ty i k len cap sk x H)):=by
  unfold Cy;split
  .rename_i el hel;split
   .rename_i inf acw;split
    .rename_i z hz;split
     .rename_i hc;refine .must fun hk=>acv fun ds n hs=> .ask ?_
      unfold rE;simp only [hel,acw,hz,Option.bind_some,hc,hk,Bool.true_and,cond_true,hs];cases Nat.beq n 0 with
      |true=>exact .ret
      |false=>
       refine .must fun h1=> .must fun h2=> ?_
       simp only [h1,h2,Bool.true_and,cond_true,cond_false];exact .ret
     .exact .no
    .exact .no
   .exact .no
  .exact .no
def RW {t:TypeId} {s x:af} {d:aM} (hd:d=eT (mq P t s x H)):Ref (Fg P t s x H d) (eT (mq P t s x H)):=by
 unfold Fg;split
 .rename_i e ty i k len cap;have e0:mq P t (.bU e ty i k len cap) x H=BM P t e ty i k len cap x H:=rfl;rw [e0];unfold BM;cases w5 ty x H with
  |none=>exact Kz
  |some p=>
   obtain⟨b,H'⟩:=p;refine .must fun hb=> ?_
   subst hb;exact Kz
 .rename_i hn;split
  .rename_i z ty ys;split
   .rename_i he;split
    .rename_i e hel;have:mq P t s (.bu z ty ys) H=rE P t e ty H.next 0 0 (.known 0) true (.bu z ty ys) H:=by
      unfold mq;split
      .rename_i a1 a2 a3 a4 a5 a6;exact absurd rfl (hn a1 a2 a3 a4 a5 a6)
      .simp only [he,cond_true];unfold sT;rw [hel]
     rw [this];exact Kz
    .exact .no
   .exact .no
  .subst hd;exact .ret
def acy {c:Call}:Ref (Ks c P o ev H) (fw c P o ev H):=by
 unfold Ks;split
 .rename_i s x t t' hc ha ht;split
  .rename_i el hu;have e:fw c P o ev H=eT (mq P t s x H):=by
    unfold fw;rw [hc];simp only [ha];unfold nZ;simp only [ht,hu]
   rw [e];exact RW rfl
  .rename_i hu;split
   .have e:fw c P o ev H=eT (mq P t s x H):=by
     unfold fw;rw [hc];simp only [ha];unfold nZ;simp only [ht,hu]
    rw [e];exact RW rfl
   .exact .ret
  .exact .ret
 .rename_i x n pt it hc ha ht;have e:fw c P o ev H=eT (vh P pt x n H):=by
   unfold fw;rw [hc];simp only [ha];unfold nZ;simp only [ht]
  rw [e];unfold Rd;split
  .rename_i e' u i;split
   .rename_i hu;split
    .rename_i m;refine .must fun h1=> .must fun h2=> .must fun h3=> .must fun h4=> ?_
     have e2:vh P pt (.dH e' u i 0 0) (.raw (.int .i64 (.ofNat m))) H=some (.raw (.string (o5 ((bP (.int .u8) (H.get i)).take m))),H.drop i):=by
      show cond (EB P pt e' u&&_) _ none=_;rw [hu,h1,h2,h3,h4];rfl
     rw [e2];exact .ret
    .exact .no
   .exact .no
  .exact .ret
 .rename_i ts el u i k len cap hc ha;have e:fw c P o ev H= @Bool.rec (fun _=>aM) .no (.ok (.dH el u i k 0) H) (Nat.ble 1 len):=by
   unfold fw;rw [hc];simp only [ha];unfold nZ;rfl
  rw [e];refine .must fun h1=> ?_
  rw [h1];exact .ret
 .exact .ret
def acz {t:TypeId} {l c:Operand}:Ref (Kt t l c P o ev H) (d8 t l c P o ev H):=by
 unfold Kt;split
 .rename_i e he;split
  .rename_i inf hi;split
   .rename_i z hz;refine CA fun n hn=>CA fun m hm=> ?_
    split
    .rename_i hb;refine .must fun h1=> .must fun h2=> ?_
     rw [ae]at hb;have e1:nz (ev l)=some n:=by unfold nz;rw [hn]
     have e2:nz (ev c)=some m:=by unfold nz;rw [hm]
     have e3:d8 t l c P o ev H= .ok (.slice H.next 0 n (.known m)) (H.new (.cells e (List.replicate m (iS z.cells)).flatten true false false)):=by
      unfold d8 dj;rw [he,Option.bind_some,hi,Option.bind_some,hz,Option.bind_some,e1,Option.bind_some,e2,Option.bind_some,fK (ap h1),hb.1,h2,hb.2];rfl
     rw [e3];exact .ret
    .exact .no
   .exact .no
  .exact .no
 .exact .no
def Fk {v:af} {s:AT} (h:Hd v=some s):v= .raw (.string s):=by
 unfold Hd at h;split at h
 .cases h;rfl
 .cases h
def RX {v:af} {k:Nat} (h:nW v= .mk k):∃q,v= .raw (.int q k):=by
 unfold nW at h;cases hw:iN v with
 |no=>rw [hw]at h;cases h
 |int q z=>
  rw [hw]at h;have h:ve z= .mk k:=h;cases z with
  |ofNat m=>cases h;exact⟨q,zL hw⟩
  |negSucc m=>cases h
def nA {x:Operand} {v:Value} (h:ev x= .raw v):np ev x=v:=by unfold np;rw [h];rfl
def acA {s:AT} {k:Nat} (h:k<s.size):s[k]? =some (s.data.toList.getD k 0):=by
 have h2:k<s.data.size:=h;rw [show s[k]? =some s[k]from getElem?_pos s k h];congr 1;rw [ao,Array.getElem?_toList,Array.getElem?_eq_getElem h2];rfl
def acB {t:TypeId} {x ix:Operand} (ho:o.op= .index t x ix):Ref (Ku t x ix P o ev H) (mA t x ix P o ev H):=by
 unfold Ku;split
 .rename_i s hs;have hx:=Fk hs;split
  .rename_i hu;refine CA fun k hk=> .must fun hb=> ?_
   have hb:=ap hb;obtain⟨q,hi⟩:=RX hk;have e1:mA t x ix P o ev H=ag H (gen P o ev):=by unfold mA;rw [hx];rfl
   have e2:gen P o ev=some (.raw (.int .u8 (Fh s k))):=by
    unfold gen;rw [ho];have e3:((Op.index t x ix).operands.toList.all fun x=>(ev x).fC.isSome)=true:=by simp [Op.operands,hx,hi,af.fC]
    rw [e3];have bW:dz P (execOp (np ev) o)=some (.value (.int .u8 (Fh s k))):=by
     unfold execOp;rw [ho];simp only [nA hx,nA hi];simp [Instr.index,asIntOf,underlying,program,dz,hu,bind,Sem.bind,pure,acA hb,Fh]
    rw [bW];rfl
   rw [e1,e2];exact .ret
  .exact .no
 .exact .ret
def Fl {α β:Type} (f:α->β):∀{s:Sem α} {a:α},dz P s=some a->dz P (do let r <-s;pure (f r))=some (f a)
 | .pure a,_,h=>by
   have h:some a=some _:=h;cases h;rfl
 | .program k,_,h=>Fl f (s:=k P) h
 | .mark _ k,_,h=>Fl f (s:=k) h
 | .load ..,_,h=>by cases h
 | .store ..,_,h=>by cases h
 | .new ..,_,h=>by cases h
 | .shape ..,_,h=>by cases h
 | .freeze ..,_,h=>by cases h
 | .frozen ..,_,h=>by cases h
 | .getObj ..,_,h=>by cases h
 | .setObj ..,_,h=>by cases h
 | .choose ..,_,h=>by cases h
 | .sys ..,_,h=>by cases h
 | .halt ..,_,h=>by cases h
def KA {v:Option Operand} {d k:Nat} (h:mo (v.map ev) d=some k):(v=none/\k=d)\/∃y q,v=some y/\ev y= .raw (.int q k):=by
 cases v with
 |none=>cases h;exact .inl ⟨rfl,rfl⟩
 |some y=>
  have h:nz (ev y)=some k:=h;unfold nz at h;cases hn:nW (ev y)with
  |no=>rw [hn]at h;cases h
  |mk m=>
   rw [hn]at h;cases h;obtain⟨q,hq⟩:=RX hn;exact .inr ⟨y,q,rfl,hq⟩
def acC {t:TypeId} {x:Operand} {lo hi mx:Option Operand} (ho:o.op= .slice t x lo hi mx):Ref (Kv t x lo hi mx P o ev H) (oX t x lo hi mx P o ev H):=by
 unfold Kv;split
 .rename_i s hs;have hx:=Fk hs;unfold RR;split
  .rename_i hu hm;have hm:mx=none:=by cases mx<;>first |rfl |cases hm
   subst hm;refine Fj fun h hh=>Fj fun l hl=> .must fun h1=> .must fun h2=> ?_
   have h1:=ap h1;have h2:=ap h2;have e1:oX t x lo hi none P o ev H=ag H (gen P o ev):=by unfold oX BR;rw [hx]
   have e2:gen P o ev=some (.raw (.string (s.extract l h))):=by
    unfold gen;rw [ho];rcases KA hh with⟨rfl,rfl⟩|⟨y,q,rfl,hy⟩
    .rcases KA hl with⟨rfl,rfl⟩|⟨y2,aP,rfl,hy2⟩
     .have e3:((Op.slice t x none none none).operands.toList.all fun x=>(ev x).fC.isSome)=true:=by simp [Op.operands,hx,af.fC]
      rw [e3];unfold execOp;rw [ho];simp only [nA hx,Option.map_none];simp [Instr.sliceAt,Instr.slice,Instr.sliceBounds,underlying,program,dz,hu,bind,Sem.bind,pure]
     .have e3:((Op.slice t x (some y2) none none).operands.toList.all fun x=>(ev x).fC.isSome)=true:=by simp [Op.operands,hx,hy2,af.fC]
      rw [e3];unfold execOp;rw [ho];simp only [nA hx,Option.map_none,Option.map_some,nA hy2];simp [Instr.sliceAt,Instr.slice,Instr.sliceBounds,Instr.sliceBound,asIntOf,underlying,program,dz,hu,bind,Sem.bind,pure,h1]
    .rcases KA hl with⟨rfl,rfl⟩|⟨y2,aP,rfl,hy2⟩
     .have e3:((Op.slice t x none (some y) none).operands.toList.all fun x=>(ev x).fC.isSome)=true:=by simp [Op.operands,hx,hy,af.fC]
      rw [e3];unfold execOp;rw [ho];simp only [nA hx,Option.map_none,Option.map_some,nA hy];simp [Instr.sliceAt,Instr.slice,Instr.sliceBounds,Instr.sliceBound,asIntOf,underlying,program,dz,hu,bind,Sem.bind,pure,h2]
     .have e3:((Op.slice t x (some y2) (some y) none).operands.toList.all fun x=>(ev x).fC.isSome)=true:=by simp [Op.operands,hx,hy,hy2,af.fC]
      rw [e3];unfold execOp;rw [ho];simp only [nA hx,Option.map_some,Option.map_none,nA hy,nA hy2];simp [Instr.sliceAt,Instr.slice,Instr.sliceBounds,Instr.sliceBound,asIntOf,underlying,program,dz,hu,bind,Sem.bind,pure,h1,h2]
   rw [e1,e2];exact .ret
  .exact .no
 .exact acu
def RY (a b:AT):(a.toList==b.toList)=z7 a b:=by
 rw [ByteArray.toList_eq,ByteArray.toList_eq];unfold z7;rw [Bool.eq_iff_iff];simp
def Hk {op:BinOp} {t:TypeId} {x y:Operand} {ah:TypeId} (ho:o.op= .binOp op t x y ah):Ref (Kw op t x y ah P o ev H) (je op t x y ah P o ev H):=by
 unfold Kw;split
 .rename_i a b ha hb;have hx:=Fk ha;have hy:=Fk hb;have e0:je op t x y ah P o ev H=ag H (w8 P o ev op t (ev x) (ev y)):=by unfold je;rw [hx];rfl
  have e3:((Op.binOp op t x y ah).operands.toList.all fun x=>(ev x).fC.isSome)=true:=by simp [Op.operands,hx,hy,af.fC]
  have eg:∀v,dz P (do eqGuard op t x y (.string a) (.string b);binOp op t (.string a) (.string b))=some v->gen P o ev=some (.raw v):=fun v hv=>by
   unfold gen;rw [ho,e3];unfold execOp;rw [ho];simp only [nA hx,nA hy];have:dz P (do let r <-(do eqGuard op t x y (.string a) (.string b);binOp op t (.string a) (.string b));pure (Next.value r))=some (.value v):=Fl _ hv;simp only [cond_true];rw [this]
  unfold RS;split
  .refine .must fun hl=> ?_
   have hl:=ap hl;have:w8 P o ev .add t (ev x) (ev y)=some (.raw (.string (a++b))):=eg _ (by
    have:¬(9223372036854775807:Int)<(a.size:Int)+(b.size:Int):=by omega
    simp [eqGuard,binOp,Op.stringOp,dz,bind,Sem.bind,pure,IntKind.max,IntKind.bits,IntKind.signed,this])
   rw [e0,this];exact .ret
  .have:w8 P o ev .eql t (ev x) (ev y)=some (.raw (.bool (z7 a b))):=by
    rw [hx,hy];exact eg _ (by rw [<-RY];simp [eqGuard,binOp,Op.stringOp,dz,bind,Sem.bind,pure])
   rw [e0,this];exact .ret
  .have:w8 P o ev .neq t (ev x) (ev y)=some (.raw (.bool (!z7 a b))):=by
    rw [hx,hy];exact eg _ (by rw [<-RY];simp [eqGuard,binOp,Op.stringOp,dz,bind,Sem.bind,pure])
   rw [e0,this];exact .ret
  .exact .ret
 .split
  .rename_i k a k' b hs ha hb;refine .must fun h0=> ?_
   have h0:=ap h0;have hx:=zL ha;have hy:=zL hb;have hf:jx op k k' a b=none:=by
    cases hf:jx op k k' a b with
    |none=>rfl
    |some v=>obtain⟨m,n,_,_,_,_,hv⟩:=xx hf;cases op<;>first |(cases hs;done)|(change (none:Option af)=some v at hv;cases hv)
   have hp:oW P o ev op k k' a b=gen P o ev:=by
    unfold oW;have:tv P op k a b=none:=by cases op<;>first |rfl |(cases hs;done)
    rw [this];cases (k==k')<;>rfl
   have e0:je op t x y ah P o ev H=ag H (gen P o ev):=by rw [Ky ha hb,hf,hp]
   have e3:((Op.binOp op t x y ah).operands.toList.all fun x=>(ev x).fC.isSome)=true:=by simp [Op.operands,hx,hy,af.fC]
   have eg:∀v,dz P (do eqGuard op t x y (.int k a) (.int k' b);binOp op t (.int k a) (.int k' b))=some v->gen P o ev=some (.raw v):=fun v hv=>by
    unfold gen;rw [ho,e3];unfold execOp;rw [ho];simp only [nA hx,nA hy];have:dz P (do let r <-(do eqGuard op t x y (.int k a) (.int k' b);binOp op t (.int k a) (.int k' b));pure (Next.value r))=some (.value v):=Fl _ hv;simp only [cond_true];rw [this]
   have hneg:¬b<0:=by omega
   split
   .rw [e0,eg _ (by simp only [eqGuard,binOp,Op.shift,hneg,if_false];rfl)];exact .ret
   .rw [e0,eg _ (by simp only [eqGuard,binOp,Op.shift,hneg,if_false];rfl)];exact .ret
   .exact .no
  .exact ack
def Fm:Ref (Cz o.op P o ev H) (fc o.op P o ev H):=by
 cases ho:o.op with
 |binOp op t x y ah=>exact Hk ho
 |pick c a b=>exact acm (P:=P) (o:=o)
 |indexAddr t x ix=>exact acp
 |load t x=>exact acq
 |store t x y=>exact acr
 |slice t x lo hi mx=>exact acC ho
 |index t x ix=>exact acB ho
 |call c=>exact acy
 |makeSlice t l c=>exact acz (o:=o)
 |_=>exact .ret
end
end
noncomputable section
abbrev bG:=FuncId->List af->ai->aE aM
abbrev xQ:=Code->(n:Nat)->(aN:Bool)->au af->ai->List Nat->aE R
def Fo {β:Type} (T:au af) (ops:Array Oper) (o:Oper) (no:aE β) (f:Bool->aE β):aE β:=match o.guard with
 |none=>f true
 |some g=>match(ops[g.1]?).bind (·.dst)with
  |some d=>(match T.get d with |some (.raw (.bool b))=> .ask (b==g.2) f|some .bot=>no|_=>f false)
  |none=>no
def Fp (P:Program) (call:bG) (o:Oper) (ev:dO) (H:ai):aE aM:=
 (Cz o.op P o ev H).bind fun r=>match r with
   | .ok v H=> .ret (.ok v H)
   | .enter f args H=>call f args H
   |_=> .ret .no
def Fq (T:au af) (n:Nat) (dst:Option Tmp) (v:af) (k:au af->aE e4):aE e4:=match iP T n dst v with
 |some T=>k T
 |none=> .ret .no
def RZ (P:Program) (call:bG) (ops:Array Oper) (n:Nat) (o:Oper) (T:au af) (H:ai) (k:au af->ai->aE e4):aE e4:=
 Fo T ops o (.ret .no) fun b=>match b with
  |false=>Fq T n o.dst (.raw undef) fun T=>k T H
  |true=>(Fp P call o (cq T) H).bind fun r=>match r with
   | .ok v H=>Fq T n o.dst v fun T=>k T H
   |_=> .ret .no
def KB (P:Program) (call:bG) (ops:Array Oper) (n:Nat):List Oper->au af->ai->aE e4
 |[],T,H=> .ret (.mk T H)
 |o::l,T,H=>RZ P call ops n o T H (KB P call ops n l)
def KC {β:Type} (P:Program) (o:Oper) (ev:dO) (v:af) (H:ai) (no k:aE β):aE β:=
 (Cz o.op P o ev H).bind fun r=>match r with
   | .ok v' _=> .must (af.same v' v) k
   |_=>no
def KD {β:Type} (P:Program) (o:Oper) (ev:dO) (v:af) (no k:aE β):List ai->aE β
 |[]=>k
 |H::l=>KC P o ev v H no (KD P o ev v no k l)
def Fs {β:Type} (P:Program) (H:ai) (no k:aE β):List pq->aE β
 |[]=>k
 |q::l=>KC P q.o (cq q.T) q.v H no (Fs P H no k l)
def R1 (P:Program) (call:bG) (ops:Array Oper) (n:Nat) (o:Oper) (s:gu):aE (Option gu):=
 Fo s.T ops o (.ret none) fun b=>match b with
  |false=> .ret (mH n o s (.raw undef) fun T=>{s with i:=s.i+1,T:=T,bQ:=s.bQ.set s.i (some (level s.bQ (cB o)))})
  |true=>match mG P o.op with
   | .p=>(Cz o.op P o (cq s.T) s.cur).bind fun r=>match r with
     | .ok v _=> .ret (mH n o s v fun T=>{s with i:=s.i+1,T:=T,bQ:=s.bQ.set s.i (some (level s.bQ (cB o)))})
     |_=> .ret none
   | .r=>match s.hs with
     |H::_=>(Cz o.op P o (cq s.T) H).bind fun r=>match r with
      | .ok v _=>KD P o (cq s.T) v (.ret none) (.ret (mH n o s v fun T=>{s with i:=s.i+1,T:=T,bQ:=s.bQ.set s.i (some (level s.bQ (cB o))),dJ:=⟨s.i,o,s.T,v⟩::s.dJ})) (s.hs.take (s.k+1-level s.bQ (cB o)))
      |_=> .ret none
     |[]=> .ret none
   | .a=>match fc o.op P o (cq s.T) s.cur with
     | .ok v H=> .ret (mH n o s v fun T=>{s with i:=s.i+1,T:=T,cur:=H,bQ:=s.bQ.set s.i (some (level s.bQ (cB o))),dm:=s.i::s.dm})
     |_=> .ret none
   | .e=>match Nat.beq (level s.bQ (cB o)) s.k&&tR s.dm (cB o)with
     |true=>(Fp P call o (cq s.T) s.cur).bind fun r=>match r with
      | .ok v H=>Fs P H (.ret none) (.ret (mH n o s v fun T=>{i:=s.i+1,k:=s.k+1,T:=T,cur:=H,hs:=H::s.hs,bQ:=s.bQ.set s.i (some (s.k+1)),dJ:=jC (cB o) s.dJ,dm:=[]})) (jC (cB o) s.dJ)
      |_=> .ret none
     |false=> .ret none
   | .b=>match Nat.beq (level s.bQ (cB o)) s.k&&tR s.dm (cB o)with
     |true=>(Fp P call o (cq s.T) s.cur).bind fun r=>match r with
      | .ok v H=>Fs P H (.ret none) (.ret (mH n o s v fun T=>{i:=s.i+1,k:=s.k+1,T:=T,cur:=H,hs:=H::s.hs,bQ:=s.bQ.set s.i (some (s.k+1)),dJ:=jC (cB o) s.dJ,dm:=[]})) (jC (cB o) s.dJ)
      |_=> .ret none
     |false=>match fc o.op P o (cq s.T) s.cur with
      | .ok v H=> .ret (mH n o s v fun T=>{s with i:=s.i+1,T:=T,cur:=H,bQ:=s.bQ.set s.i (some (level s.bQ (cB o))),dm:=s.i::s.dm})
      |_=> .ret none
def KE (P:Program) (call:bG) (ops:Array Oper) (n:Nat):List Oper->gu->aE e4
 |[],s=> .ret (.mk s.T s.cur)
 |o::l,s=>(R1 P call ops n o s).bind fun r=>match r with
  |some s=>KE P call ops n l s
  |none=> .ret .no
def KF (P:Program) (call:bG) (ops:Array Oper) (n:Nat) (T:au af) (H:ai):aE e4:=
 match rO ops.toList ops.toList 0 with
 |true=>KE P call ops n ops.toList {i:=0,k:=0,T:=T,cur:=H,hs:=[H],bQ:= .nil,dJ:=[],dm:=[]}
 |false=> .ret .no
def z8 (bw:bG) (call:bG):bG:=fun f args H=>(bw f args H).bind fun r=>match r with
 | .no=>call f args H
 |r=> .ret r
def xR (P:Program) (ih:xQ):bG:=fun f args H=>match P.funcs[f]? with
 |some fn=>(match fn.body with
  |some c=>(match Nat.ble args.length fn.ntmps with
   |true=>(ih c fn.ntmps false (fX args .nil 0) H []).bind fun r=>match r with
    | .normal T H m=> .ret (ko P fn T H m)
    | .ret T H m=> .ret (ko P fn T H m)
    |_=> .ret .no
   |false=> .ret .no)
  |none=> .ret .no)
 |none=> .ret .no
def acD (m:List Nat) (r:e4):aE R:=match r with
 | .mk T H=> .ret (.normal T H m)
 | .no=> .ret .no
def Aa (P:Program) (call:bG) (ih:xQ) (c:Code):(n:Nat)->(aN:Bool)->au af->ai->List Nat->aE R:=fun n aN T H m=>match c with
 | .skip=> .ret (.normal T H m)
 | .label _=> .ret (.normal T H m)
 | .region _ ops d=>(match d with |true=>KF P call ops n T H|false=>KB P call ops n ops.toList T H).bind fun r=>acD m r
 | .seq a b=>(ih a n aN T H m).bind fun r=>match r with
   | .normal T H m=>ih b n aN T H m
   |r=> .ret r
 | .cond x a b=>match gR (cq T x)with
   | .mk q=> .ask q fun r=>match r with |true=>ih a n aN T H m|false=>ih b n aN T H m
   | .no=> .ret .no
 | .block id b=>(ih b n aN T H m).bind fun r=>match r with
   | .exit i T H m=>(match Nat.beq i id with |true=> .ret (.normal T H m)|false=> .ret (.exit i T H m))
   |r=> .ret r
 | .exit id=> .ret (.exit id T H m)
 | .scope b=>(ih b n aN T H m).bind fun r=>match r with
   | .goto _ _ _ _=> .ret .no
   |r=> .ret r
 | .goto l=> .ret (.goto l T H m)
 | .ret=> .ret (.ret T H m)
 |_=> .ret .no
def qz (P:Program) (bw:bG) (fuel:Nat):xQ:=
 @Nat.rec (fun _=>xQ) (fun _ _ _ _ _ _=> .ret .no) (fun _ ih c=>Aa P (z8 bw (xR P ih)) ih c) fuel
def bF (bw:bG):eC:=fun f args H=>((bw f args H).gr).getD .no
def xS (t:aE e4) (r:e4):Prop:=∀a,t.gr=some a->a≠ .no->r=a
def acE (t:aE R) (r:R):Prop:=∀a,t.gr=some a->a≠ .no->r=a
def acF (t:aE (Option gu)) (r:Option gu):Prop:=∀a,t.gr=some (some a)->r=some a
def rT (vc:bG) (call:eC):Prop:=∀f args H,Ref (vc f args H) (call f args H)
def mJ {α β:Type} {x:aE α} {f:α->aE β} {b:β} (h:(x.bind f).gr=some b):∃a,x.gr=some a/\(f a).gr=some b:=by
 rw [aE.qy]at h;cases hx:x.gr with
 |none=>rw [hx]at h;cases h
 |some a=>rw [hx]at h;exact⟨a,rfl,h⟩
section
variable {P:Program} {call:eC} {vc:bG} {round:jW}
def R2 {β:Type} {T:au af} {ops:Array Oper} {o:Oper} {no:aE β} {f:Bool->aE β} {b:β} (h:(Fo T ops o no f).gr=some b):no.gr=some b\/∃c,gS T ops o=some c/\(f c).gr=some b:=by
 unfold Fo at h;split at h
 .rename_i hg;refine .inr ⟨true, ?_,h⟩;unfold gS;rw [hg]
 .rename_i g hg;have e:gS T ops o=xd T ops g:=by unfold gS;rw [hg]
  rw [e];unfold xd;split at h
  .rename_i d hd;rw [hd];simp only;split at h
   .rename_i q hq;rw [hq];exact .inr ⟨_,rfl,h⟩
   .exact .inl h
   .rename_i h1 h2;refine .inr ⟨false, ?_,h⟩;split
    .rename_i q hq;exact absurd hq (h1 q)
    .rename_i hq;exact absurd hq h2
    .rfl
  .exact .inl h
def KG (hc:rT vc call) {o:Oper} {ev:dO} {H:ai}:Ref (Fp P vc o ev H) (fx P call round o ev H):=by
 intro a ha hn;obtain⟨r,h1,h2⟩:=mJ ha;have hr:r≠ .no->fc o.op P o ev H=r:=Fm r h1;unfold fx;cases r with
 |no=>cases h2;exact absurd rfl hn
 |ok v H1=>rw [hr (by simp)];cases h2;rfl
 |enter f args H1=>rw [hr (by simp)];exact hc f args H1 a h2 hn
 |round _ _ _=>cases h2;exact absurd rfl hn
def R3 {T:au af} {n:Nat} {dst:Option Tmp} {v:af} {k:au af->aE e4} {k2:au af->ai->e4} {H:ai} (h:∀T,xS (k T) (k2 T H)):xS (Fq T n dst v k) (n4 k2 H (iP T n dst v)):=by
 unfold Fq;cases iP T n dst v with
 |none=>intro a ha hn;cases ha;exact absurd rfl hn
 |some T1=>exact h T1
def Hm (hc:rT vc call) {ops:Array Oper} {n:Nat} {o:Oper} {T:au af} {H:ai} {k:au af->ai->aE e4} {k2:au af->ai->e4} (h:∀T H,xS (k T H) (k2 T H)):
  xS (RZ P vc ops n o T H k) (xe P call round ops n o T H k2):=by
 intro a ha hn;rcases R2 ha with h1|⟨c,h1,h2⟩
 .cases h1;exact absurd rfl hn
 .unfold xe;rw [h1];cases c with
  |false=>exact R3 (fun T=>h T H) a h2 hn
  |true=>
   obtain⟨r,g1,g2⟩:=mJ h2;have hr:r≠ .no->fx P call round o (cq T) H=r:=KG hc r g1;cases r with
   |no=>cases g2;exact absurd rfl hn
   |ok v H1=>
    simp only;rw [hr (by simp)];exact R3 (fun T=>h T H1) a g2 hn
   |enter _ _ _=>cases g2;exact absurd rfl hn
   |round _ _ _=>cases g2;exact absurd rfl hn
def R4 (hc:rT vc call) {ops:Array Oper} {n:Nat}:∀(l:List Oper) (T:au af) (H:ai),xS (KB P vc ops n l T H) (xg P call round ops n l T H)
 |[],T,H=>fun a ha _=>by cases ha;rfl
 |o::l,T,H=>Hm hc fun T H=>R4 hc l T H
def R5 {β:Type} {o:Oper} {ev:dO} {v:af} {H:ai} {no k:aE β} {b:β} (h:(KC P o ev v H no k).gr=some b):no.gr=some b\/(ll P o ev v H=true/\k.gr=some b):=by
 obtain⟨r,h1,h2⟩:=mJ h;have hr:r≠ .no->fc o.op P o ev H=r:=Fm r h1;cases r with
 |ok v' H1=>
  right;simp only [aE.gr]at h2;unfold ll;rw [hr (by simp)];cases hs:af.same v' v with
  |false=>rw [hs]at h2;cases h2
  |true=>rw [hs]at h2;exact⟨hs,h2⟩
 |no=>exact .inl h2
 |enter _ _ _=>exact .inl h2
 |round _ _ _=>exact .inl h2
def R6 {β:Type} {o:Oper} {ev:dO} {v:af} {no k:aE β} {b:β}:∀{l:List ai},(KD P o ev v no k l).gr=some b->no.gr=some b\/(rP P o ev v l=true/\k.gr=some b)
 |[],h=> .inr ⟨rfl,h⟩
 |H::l,h=>by
  rcases R5 h with h|⟨h1,h2⟩
  .exact .inl h
  .rcases R6 h2 with h|⟨h3,h4⟩
   .exact .inl h
   .exact .inr ⟨by unfold rP;rw [h1];exact h3,h4⟩
def KH {β:Type} {H:ai} {no k:aE β} {b:β}:∀{l:List pq},(Fs P H no k l).gr=some b->no.gr=some b\/(qw P H l=true/\k.gr=some b)
 |[],h=> .inr ⟨rfl,h⟩
 |q::l,h=>by
  rcases R5 h with h|⟨h1,h2⟩
  .exact .inl h
  .rcases KH h2 with h|⟨h3,h4⟩
   .exact .inl h
   .exact .inr ⟨by unfold qw;rw [h1];exact h3,h4⟩
def acG (hc:rT vc call) {ops:Array Oper} {n:Nat} {o:Oper} {s:gu}:acF (R1 P vc ops n o s) (tS P call round ops n o s):=by
 intro a ha;rcases R2 ha with h1|⟨c,h1,h2⟩
 .cases h1
 .unfold tS;simp only [h1];cases c with
  |false=>exact jV h2
  |true=>
   simp only at h2 ⊢;cases hk:mG P o.op with
   |p=>
    rw [hk]at h2;obtain⟨r,g1,g2⟩:=mJ h2;have hr:r≠ .no->_=r:=Fm r g1;cases r with
    |ok v H1=>simp only;rw [hr (by simp)];exact jV g2
    |no=>cases g2
    |enter _ _ _=>cases g2
    |round _ _ _=>cases g2
   |r=>
    rw [hk]at h2;simp only at h2 ⊢;cases hs:s.hs with
    |nil=>rw [hs]at h2;cases h2
    |cons H l=>
     rw [hs]at h2;simp only at h2 ⊢;obtain⟨r,g1,g2⟩:=mJ h2;have hr:r≠ .no->_=r:=Fm r g1;cases r with
     |ok v H1=>
      rw [hr (by simp)];simp only at g2 ⊢;rcases R6 g2 with q|⟨q1,aP⟩
      .cases q
      .rw [q1];exact jV aP
     |no=>cases g2
     |enter _ _ _=>cases g2
     |round _ _ _=>cases g2
   |a=>
    rw [hk]at h2;simp only at h2 ⊢;cases hop:fc o.op P o (cq s.T) s.cur with
    |ok v H1=>rw [hop]at h2;exact jV h2
    |no=>rw [hop]at h2;cases h2
    |enter _ _ _=>rw [hop]at h2;cases h2
    |round _ _ _=>rw [hop]at h2;cases h2
   |e=>
    rw [hk]at h2;simp only at h2 ⊢;cases hb:(Nat.beq (level s.bQ (cB o)) s.k&&tR s.dm (cB o))with
    |false=>rw [hb]at h2;cases h2
    |true=>
     rw [hb]at h2;simp only [cond_true]at h2 ⊢;obtain⟨r,g1,g2⟩:=mJ h2;have hr:r≠ .no->fx P call round o (cq s.T) s.cur=r:=KG hc r g1;cases r with
     |ok v H1=>
      rw [hr (by simp)];simp only at g2 ⊢;rcases KH g2 with q|⟨q1,aP⟩
      .cases q
      .rw [q1];exact jV aP
     |no=>cases g2
     |enter _ _ _=>cases g2
     |round _ _ _=>cases g2
   |b=>
    rw [hk]at h2;simp only at h2 ⊢;cases hb:(Nat.beq (level s.bQ (cB o)) s.k&&tR s.dm (cB o))with
    |false=>
     rw [hb]at h2;simp only [cond_false]at h2 ⊢;cases hop:fc o.op P o (cq s.T) s.cur with
     |ok v H1=>rw [hop]at h2;exact jV h2
     |no=>rw [hop]at h2;cases h2
     |enter _ _ _=>rw [hop]at h2;cases h2
     |round _ _ _=>rw [hop]at h2;cases h2
    |true=>
     rw [hb]at h2;simp only [cond_true]at h2 ⊢;obtain⟨r,g1,g2⟩:=mJ h2;have hr:r≠ .no->fx P call round o (cq s.T) s.cur=r:=KG hc r g1;cases r with
     |ok v H1=>
      rw [hr (by simp)];simp only at g2 ⊢;rcases KH g2 with q|⟨q1,aP⟩
      .cases q
      .rw [q1];exact jV aP
     |no=>cases g2
     |enter _ _ _=>cases g2
     |round _ _ _=>cases g2
def R7 (hc:rT vc call) {ops:Array Oper} {n:Nat}:∀(l:List Oper) (s:gu),xS (KE P vc ops n l s) (xL P call round ops n l s)
 |[],s=>fun a ha _=>by cases ha;rfl
 |o::l,s=>fun a ha hn=>by
  obtain⟨r,h1,h2⟩:=mJ ha;cases r with
  |none=>cases h2;exact absurd rfl hn
  |some s1=>
   have:=acG (P:=P) (round:=round) hc s1 h1;unfold xL;rw [this];exact R7 hc l s1 a h2 hn
def Hn (hc:rT vc call) {ops:Array Oper} {n:Nat} {T:au af} {H:ai}:xS (KF P vc ops n T H) (zW P call round ops n T H):=by
 unfold KF zW;cases rO ops.toList ops.toList 0 with
 |true=>exact R7 hc _ _
 |false=>intro a ha hn;cases ha;exact absurd rfl hn
def acH {bw:bG} (hc:rT vc call):rT (z8 bw vc) (vk (bF bw) call):=fun f args H a ha hn=>by
 obtain⟨r,h1,h2⟩:=mJ ha;have hS:bF bw f args H=r:=by unfold bF;rw [h1];rfl
 unfold vk;rw [hS];cases r with
 |no=>exact hc f args H a h2 hn
 |ok v H1=>cases h2;rfl
 |enter _ _ _=>cases h2;rfl
 |round _ _ _=>cases h2;rfl
def Ft (v:xQ) (ih:hU):Prop:=∀c n aN T H m,acE (v c n aN T H m) (ih c n aN T H m)
def acI {v:xQ} {ih:hU} (hi:Ft v ih):rT (xR P v) (nk P ih):=fun f args H a ha hn=>by
 unfold xR at ha;unfold nk;cases hf:P.funcs[f]? with
 |none=>rw [hf]at ha;cases ha;exact absurd rfl hn
 |some fn=>
  rw [hf]at ha;simp only at ha ⊢;cases hb:fn.body with
  |none=>rw [hb]at ha;cases ha;exact absurd rfl hn
  |some c=>
   rw [hb]at ha;simp only at ha ⊢;unfold I6;cases hl:Nat.ble args.length fn.ntmps with
   |false=>rw [hl]at ha;cases ha;exact absurd rfl hn
   |true=>
    rw [hl]at ha;simp only at ha ⊢;obtain⟨r,h1,h2⟩:=mJ ha;have hr:r≠ .no->_=r:=hi _ _ _ _ _ _ r h1;cases r with
    |no=>cases h2;exact absurd rfl hn
    |normal T1 H1 m1=>rw [hr (by simp)];cases h2;rfl
    |exit _ _ _ _=>cases h2;exact absurd rfl hn
    |goto _ _ _ _=>cases h2;exact absurd rfl hn
    |ret T1 H1 m1=>rw [hr (by simp)];cases h2;rfl
def acJ {bw:bG} {v:xQ} {ih:hU} (hi:Ft v ih):Ft (Aa P (z8 bw (xR P v)) v) (fun c=>zE c P (oa P (bF bw)) ih):=by
 have hc:rT (z8 bw (xR P v)) (vk (bF bw) (nk P ih)):=acH (acI hi);intro c n aN T H m a ha hn;unfold Aa at ha;cases c with
 |skip=>cases ha;rfl
 |label l=>cases ha;rfl
 |region id ops d=>
  simp only at ha;obtain⟨r,h1,h2⟩:=mJ ha;have hr:r≠ .no->oa P (bF bw) d (nk P ih) (tF ih) ops n T H=r:=by
   cases d with
   |true=>exact Hn hc r h1
   |false=>exact R4 hc _ _ _ r h1
  show zD m (oa P (bF bw) d (nk P ih) (tF ih) ops n T H)=a;cases r with
  |no=>cases h2;exact absurd rfl hn
  |mk T1 H1=>rw [hr (by simp)];cases h2;rfl
 |seq x y=>
  simp only at ha;obtain⟨r,h1,h2⟩:=mJ ha;have hr:r≠ .no->ih x n aN T H m=r:=hi _ _ _ _ _ _ r h1;show(@R.rec (fun _=>R) .no (fun T H m=>ih y n aN T H m) .exit .goto .ret (ih x n aN T H m))=a
  cases r with
  |no=>cases h2;exact absurd rfl hn
  |normal T1 H1 m1=>rw [hr (by simp)];exact hi _ _ _ _ _ _ a h2 hn
  |exit _ _ _ _=>rw [hr (by simp)];cases h2;rfl
  |goto _ _ _ _=>rw [hr (by simp)];cases h2;rfl
  |ret _ _ _=>rw [hr (by simp)];cases h2;rfl
 |cond x y z=>
  simp only at ha;show(@ni.rec (fun _=>R) .no (fun b=> @Bool.rec (fun _=>R) (ih z n aN T H m) (ih y n aN T H m) b) (gR (cq T x)))=a
  cases hb:gR (cq T x)with
  |no=>rw [hb]at ha;cases ha;exact absurd rfl hn
  |mk q=>
   rw [hb]at ha;cases q with
   |true=>exact hi _ _ _ _ _ _ a ha hn
   |false=>exact hi _ _ _ _ _ _ a ha hn
 |block id b=>
  simp only at ha;obtain⟨r,h1,h2⟩:=mJ ha;have hr:r≠ .no->ih b n aN T H m=r:=hi _ _ _ _ _ _ r h1;show(@R.rec (fun _=>R) .no .normal (fun i T H m=> @Bool.rec (fun _=>R) (.exit i T H m) (.normal T H m) (Nat.beq i id)) .goto .ret (ih b n aN T H m))=a
  cases r with
  |no=>cases h2;exact absurd rfl hn
  |normal _ _ _=>rw [hr (by simp)];cases h2;rfl
  |exit i T1 H1 m1=>
   rw [hr (by simp)];simp only at h2 ⊢;cases hb:Nat.beq i id with
   |true=>rw [hb]at h2;cases h2;rfl
   |false=>rw [hb]at h2;cases h2;rfl
  |goto _ _ _ _=>rw [hr (by simp)];cases h2;rfl
  |ret _ _ _=>rw [hr (by simp)];cases h2;rfl
 |loop b=>cases ha;exact absurd rfl hn
 |rangeFunc f ps x y=>cases ha;exact absurd rfl hn
 |exit id=>cases ha;rfl
 |scope b=>
  simp only at ha;obtain⟨r,h1,h2⟩:=mJ ha;have hr:r≠ .no->ih b n aN T H m=r:=hi _ _ _ _ _ _ r h1;show(@R.rec (fun _=>R) .no .normal .exit (fun _ _ _ _=> .no) .ret (ih b n aN T H m))=a
  cases r with
  |no=>cases h2;exact absurd rfl hn
  |normal _ _ _=>rw [hr (by simp)];cases h2;rfl
  |exit _ _ _ _=>rw [hr (by simp)];cases h2;rfl
  |goto _ _ _ _=>cases h2;exact absurd rfl hn
  |ret _ _ _=>rw [hr (by simp)];cases h2;rfl
 |goto l=>cases ha;rfl
 |ret=>cases ha;rfl
 |refuse w=>cases ha;exact absurd rfl hn
def KI {bw:bG}:∀fuel,Ft (qz P bw fuel) (qj P (oa P (bF bw)) fuel)
 |0=>fun _ _ _ _ _ _ a ha hn=>by cases ha;exact absurd rfl hn
 |f+1=>acJ (KI f)
end
end
section
open Go.RowKit
variable [Ground]
noncomputable section
inductive fS where
 |blk (k:bq)
 |opt (e:TypeId) (t:av) (xs:List t.den)
def fS.val:fS->Option bq
 | .blk k=>some k
 | .opt e t xs=>a8 e t xs
structure bI where
 n:Nat
 sl:List (Nat×af)
 bH:List (Nat×fS)
 next:Nat
def Fu (n:Nat):au af:= @Nat.rec (fun _=>au af) .nil (fun k T=>T.set k (some .bot)) n
def Fv (T:au af) (l:List (Nat×af)):au af:= @List.rec (Nat×af) (fun _=>au af) T (fun p _ ih=>ih.set p.1 (some p.2)) l
def Ab (T:au bq) (l:List (Nat×fS)):au bq:= @List.rec (Nat×fS) (fun _=>au bq) T (fun p _ ih=>ih.set p.1 p.2.val) l
def bI.T (s:bI):au af:=Fv (Fu s.n) s.sl
def bI.H (s:bI):ai:=⟨Ab .nil s.bH,s.next⟩
abbrev Ren:=List (Nat×Nat×Option Nat)
def look:Ren->Nat->Option (Nat×Option Nat)
 |[],_=>none
 |p::l,j=>cond (Nat.beq p.1 j) (some p.2) (look l j)
def ic (b:Bool) (p:Prop):Prop:=match b with |true=>p|false=>False
def ob (σ:Ren) (j i:Nat):Bool:=cond (Nat.ble (j+1) 64) (Nat.beq i j) (match look σ j with |some (i',none)=>Nat.beq i i'|_=>false)
def pF (t u:av) (xs:List t.den) (ys:List u.den):Prop:=if h:t=u then h ▸ xs=ys else False
def Fw (z z':Bool) (n:Nat) (p:Prop):Prop:=match z',z with
 |true,false=>p/\Nat.ble 1 n=true
 |_,_=>p
def xT:Value->Value->Prop
 | .int k a, .int k' b=>ic (decide (k=k')) (a=b)
 | .bool a, .bool b=>a=b
 | .string a, .string b=>a=b
 |a,b=>a=b
def R8 (mode:Option Nat) (c c':bh):Prop:=match mode with
 |none=>c=c'
 |some m=>c= .known m/\c'=bM m
def Ac (σ:Ren) (i n:Nat) (cap:bh) (j n':Nat) (cap':bh):Prop:=match look σ j with
 |some (i',mode)=>ic (Nat.beq i i') (n=n'/\R8 mode cap cap')
 |none=>False
mutual
def vJ (σ:Ren):af->af->Prop
 |_, .bot=>True
 | .raw (.slice none 0 0), .bU _ _ _ _ n _=>n=0
 | .raw (.slice none 0 0), .bu _ _ ys=>ys=[]
 | .raw a, .raw b=>xT a b
 | .ptr i off, .ptr j off'=>ic (ob σ j i) (off=off')
 | .slice i off n c, .slice j off' n' c'=>ic (ob σ j i) (off=off'/\n=n'/\c=c')
 | .slice i 0 n c, .bU _ _ j 0 n' c'=>Ac σ i n c j n' c'
 | .func f a b, .func f' a' b'=>ic (decide (f=f')) (rU σ a a'/\rU σ b b')
 | .map i, .map j=>ic (ob σ j i) True
 | .iface t v, .iface t' v'=>ic (Nat.beq t t') (vJ σ v v')
 | .agg l, .agg l'=>rU σ l l'
 | .tuple l, .tuple l'=>rU σ l l'
 | .bu z t xs, .bu z' u ys=>Fw z z' ys.length (pF t u xs ys)
 | .fB t xs k off, .fB u ys k' off'=>pF t u xs ys/\k=k'/\off=off'
 | .bU e t i k n c, .bU e' u j k' n' c'=>ic (Nat.beq e e'&&(decide (t=u)&&ob σ j i)) (k=k'/\n=n'/\c=c')
 | .dH e t i k off, .dH e' u j k' off'=>ic (Nat.beq e e'&&(decide (t=u)&&ob σ j i)) (k=k'/\off=off')
 |_,_=>False
def rU (σ:Ren):List af->List af->Prop
 |[],[]=>True
 |v::l,v'::l'=>vJ σ v v'/\rU σ l l'
 |_,_=>False
end
section
variable (P:Program) (mode:Option Nat) (b:Option bq) (e:TypeId) (t:av) (xs:List t.den)
def rV:Prop:=match b,mode with
 |some (.own e' u ys),none=>ic (Nat.beq e e') (pF u t ys xs)
 |some (.cells e' cs exact false false),mode=>ic (Nat.beq e e'&&(Nat.beq (P.cellsOf e) t.size&&Nat.ble 1 t.size)) (cs=t.flat xs/\match exact,mode with
  |true,some m=>m=xs.length
  |false,none=>True
  |_,_=>False)
 |_,_=>False
def Ad:Prop:=match b with
 |none=>(match mode with |none=>xs=[]|some _=>False)
 |some k=>rV P mode (some k) e t xs
end
def acK (P:Program) (e:TypeId) (t:av) (xs:List t.den):Ad P none (a8 e t xs) e t xs:=by
 cases xs with
 |nil=>exact rfl
 |cons x l=>simp [a8,Ad,rV,ic,pF]
def Ae (P:Program) (σ:Ren) (H:ai) (p:Nat×fS):Prop:=match look σ p.1 with
 |none=>(match p.2 with | .opt _ _ xs=>xs=[]| .blk _=>False)
 |some (i,mode)=>match p.2 with
  | .opt e t xs=>Ad P mode (H.get i) e t xs
  | .blk (.own e t xs)=>rV P mode (H.get i) e t xs
  | .blk (.cells e cs x f r)=>(match H.get i,mode with
    |some (.cells e' cs' x' f' r'),none=>ic (Nat.beq e e'&&(x==x'&&(f==f'&&r==r'))) (rU σ cs' cs)
    |_,_=>False)
  | .blk _=>False
def Fx (σ:Ren) (T:au af) (K:Prop):List (Nat×af)->Prop
 |[]=>K
 |p::l=>vJ σ ((T.get p.1).getD (.raw undef)) p.2/\Fx σ T K l
def CB (P:Program) (σ:Ren) (H:ai) (K:Prop):List (Nat×fS)->Prop
 |[]=>K
 |p::l=>Ae P σ H p/\CB P σ H K l
def vK (σ:Ren) (next:Nat):Bool:=match σ with
 |[]=>true
 |p::l=>Nat.ble 64 p.1&&(Nat.ble (p.1+1) next&&(l.all (fun q=> !Nat.beq q.2.1 p.2.1)&&vK l next))
def R9 (next:Nat) (l:List (Nat×fS)):Bool:=l.all fun p=>Nat.ble 64 p.1&&Nat.ble (p.1+1) next
def Sa (n:Nat) (l:List (Nat×af)):Bool:=l.all fun p=>Nat.ble (p.1+1) n
def fit (P:Program) (σ:Ren) (n:Nat) (T:au af) (H:ai) (s:bI):Prop:=
 ic (Nat.beq s.n n&&(vK σ s.next&&(R9 s.next s.bH&&(Sa n s.sl&&Nat.ble 64 s.next)))) (Fx σ T (CB P σ H True s.bH) s.sl)
def jk {b:Bool} {p:Prop} (h:ic b p):b=true/\p:=by cases b<;>first |exact h.elim|exact⟨rfl,h⟩
def Sb {z z':Bool} {n:Nat} {p:Prop} (h:Fw z z' n p):p/\(z'=true->z=true\/n≠0):=by
 cases z' with
 |false=>exact⟨h,fun e=>by cases e⟩
 |true=>
  cases z with
  |true=>exact⟨h,fun _=> .inl rfl⟩
  |false=>exact⟨h.1,fun _=> .inr (by have:=bV h.2;omega)⟩
def Af {t u:av} {xs:List t.den} {ys:List u.den} (h:pF t u xs ys):∃e:t=u,e ▸ xs=ys:=by
 unfold pF at h;split at h
 .exact⟨_,h⟩
 .exact h.elim
def Sc {a b:Value} (h:xT a b):a=b:=by
 unfold xT at h;split at h
 .obtain⟨h1,rfl⟩:=jk h;rw [ap h1]
 .rw [h]
 .rw [h]
 .exact h
def ren (σ:Ren) (ρ:Env):Env:=⟨fun j=>if j<64 then ρ j else match look σ j with
 |some (i,mode)=>(match ρ i with |some (b,c)=>some (b,mode.getD c)|none=>none)
 |none=>none,ρ.fz⟩
section
variable {P:Program} {B:Nat} {ρ:Env} {H:ai} {w:World} {σ:Ren}
def xU {i j b c:Nat} (h:ob σ j i=true) (hr:ρ i=some (b,c)):ren σ ρ j=some (b,c):=by
 show(if j<64 then ρ j else _)=_;unfold ob at h;cases hb:Nat.ble (j+1) 64 with
 |true=>
  rw [hb]at h;have h:=ac h;subst h;have hlt:i<64:=bV hb;rw [if_pos hlt];exact hr
 |false=>
  rw [hb]at h;have hn:¬j<64:=fun hh=>by rw [fK (show j+1<=64 from hh)]at hb;cases hb
  rw [if_neg hn];simp only [cond_false]at h;split at h
  .rename_i i' hl;have h:=ac h;subst h;rw [hl];simp only [hr];rfl
  .cases h
def Den.acL {e:TypeId} {t:av} {i j n n':Nat} {cap cap':bh} {x:Value} (h:Ac σ i n cap j n' cap') (hd:Den ρ (.slice i 0 n cap) x) (jE:64<=j):Den (ren σ ρ) (.bU e t j 0 n' cap') x:=by
 unfold Ac at h;split at h
 .rename_i i' mode hl;obtain⟨h1,rfl,h3⟩:=jk h;have h1:=ac h1;subst h1;obtain⟨b,c,k,g1,g2,g3,rfl⟩:=hd.iz;have hr:ren σ ρ j=some (b,mode.getD c):=by
   show(if j<64 then ρ j else _)=_;rw [if_neg (by omega),hl];simp only [g1]
  refine JB hr ?_ g3;unfold R8 at h3;cases mode with
  |none=>subst h3;exact g2
  |some m=>obtain⟨rfl,rfl⟩:=h3;cases m<;>exact g2
 .exact h.elim
def aI.split {ρ:Env}:∀{a b:List af} {ys:List Value},aI ρ (a++b) ys->∃y1 y2,ys=y1++y2/\aI ρ a y1/\aI ρ b y2
 |[],b,ys,h=>⟨[],ys,rfl, .nil,h⟩
 |v::a,b,_, .cons h1 h2=>by
  obtain⟨y1,y2,rfl,h3,h4⟩:=aI.split h2;exact⟨_::y1,y2,rfl, .cons h1 h3,h4⟩
def oc {ρ ρ':Env} {t:av} (hc:∀(d:t.den) ys,aI ρ (t.cells d) ys->aI ρ' (t.cells d) ys):∀(xs:List t.den) ys,aI ρ (t.flat xs) ys->aI ρ' (t.flat xs) ys
 |[],ys,h=>by cases h;exact .nil
 |d::xs,ys,h=>by
  rw [av.zI]at h ⊢;obtain⟨y1,y2,rfl,h1,h2⟩:=aI.split h;exact(hc d y1 h1).append (oc hc xs y2 h2)
def pG {ρ ρ':Env} (hf:∀b A,ρ.fz b=some A->ρ'.fz b=some A):∀(t:av) (d:t.den) ys,aI ρ (t.cells d) ys->aI ρ' (t.cells d) ys
 | .int _,d,ys,h=>by cases h with |cons h1 h2=>cases h2;rw [h1.cc];exact .cons (.raw _) .nil
 | .bool,d,ys,h=>by cases h with |cons h1 h2=>cases h2;rw [h1.cc];exact .cons (.raw _) .nil
 | .str,d,ys,h=>by cases h with |cons h1 h2=>cases h2;rw [h1.cc];exact .cons (.raw _) .nil
 | .list z t,d,ys,h=>by
   cases h with
   |cons h1 h2=>
    cases h2;refine .cons ?_ .nil;rcases Den.tI (t:=t) (xs:=d) h1 with⟨e,a,k,rfl,hz⟩|⟨b,off,k,A,g1,g2,g3,g4,rfl,g5⟩
    .have e:d=([]:List t.den):=e;subst e;exact .fe hz
    .exact .bu (hf _ _ g1) g2 rfl (oc (fun d ys=>pG hf t d ys) _ _ g3) g4 g5
 | .pair a b,d,ys,h=>by
   obtain⟨y1,y2,rfl,h1,h2⟩:=aI.split (a:=a.cells d.1) (b:=b.cells d.2) h;exact(pG hf a d.1 y1 h1).append (pG hf b d.2 y2 h2)
 | .ptr t,d,ys,h=>by
   cases h with
   |cons h1 h2=>
    cases h2;refine .cons ?_ .nil;obtain⟨b,o,A,g1,g2,g3,g4,rfl⟩:=Den.zJ (t:=t) (xs:=[d]) h1;exact .fB (hf _ _ g1) g2 rfl (oc (fun d ys=>pG hf t d ys) _ _ g3) g4
 | .unit,d,ys,h=>by cases h;exact .nil
def aI.Fy {t:av} {xs:List t.den} {ys:List Value} (h:aI ρ (t.flat xs) ys):aI (ren σ ρ) (t.flat xs) ys:=oc (ρ:=ρ) (ρ':=ren σ ρ) (fun d ys=>pG (ρ:=ρ) (ρ':=ren σ ρ) (fun _ _ h=>h) t d ys) xs ys h
mutual
def KJ (hk:∀j p,look σ j=some p->64<=j):∀{v v':af} {x:Value},vJ σ v v'->Den ρ v x->Den (ren σ ρ) v' x:=by
 intro v v' x h hd;unfold vJ at h;split at h
 .exact .bot x
 .subst h;rw [hd.cc];exact .ql
 .subst h;rw [hd.cc];exact .fe fun _=>⟨rfl,rfl⟩
 .rw [hd.cc,Sc h];exact .raw _
 .obtain⟨h1,rfl⟩:=jk h;obtain⟨b,c,g1,rfl⟩:=hd.kR;exact .ptr (xU h1 g1)
 .obtain⟨h1,rfl,rfl,rfl⟩:=jk h;obtain⟨b,c,k,g1,g2,g3,rfl⟩:=hd.iz;exact .slice (xU h1 g1) g2 g3
 .rename_i i n c e t j n' c';refine Den.acL h hd ?_;unfold Ac at h;split at h
  .rename_i hl;exact hk _ _ hl
  .exact h.elim
 .obtain⟨h1,h2,h3⟩:=jk h;have h1:=ap h1;subst h1;obtain⟨xs,ys,g1,g2,rfl⟩:=hd.B3;exact .func (Ag hk h2 g1) (Ag hk h3 g2)
 .obtain⟨h1,_⟩:=jk h;obtain⟨b,c,g1,rfl⟩:=hd.vn;exact .map (xU h1 g1)
 .obtain⟨h1,h2⟩:=jk h;rw [<-ac h1];obtain⟨y,g1,rfl⟩:=hd.Qa;exact .iface (KJ hk h2 g1)
 .obtain⟨xs,g1,rfl⟩:=hd.tG;exact .agg (Ag hk h g1)
 .obtain⟨xs,g1,rfl⟩:=hd.B4;exact .tuple (Ag hk h g1)
 .rename_i z t xs z' u ys;obtain⟨h2,h1⟩:=Sb h;obtain⟨e,rfl⟩:=Af h2;subst e;rcases hd.tI with⟨rfl,a,k,rfl,hz⟩|⟨b,off,k,A,g1,g2,g3,g4,rfl,g5⟩
  .exact .fe fun e=>(h1 e).elim hz fun hn=>absurd rfl hn
  .refine .bu g1 g2 rfl ?_ g4 fun e=>(h1 e).elim g5 fun hn hxs=>hn (by subst hxs;rfl)
   exact aI.Fy g3
 .rename_i t xs k off u ys k' off';obtain⟨h1,rfl,rfl⟩:=h;obtain⟨e,rfl⟩:=Af h1;subst e;obtain⟨b,o,A,g1,g2,g3,g4,rfl⟩:=hd.zJ;exact .fB g1 g2 rfl (aI.Fy g3) g4
 .rename_i e t i k n c e' u j k' n' c';obtain⟨h1,rfl,rfl,rfl⟩:=jk h;simp only [ae,bE]at h1;obtain⟨h1,rfl,h3⟩:=h1;rcases hd.jA with⟨rfl,a,rfl⟩|⟨b,c2,kc,g1,g2,g3,rfl⟩
  .exact .ql
  .exact .bU (xU h3 g1) g2 g3
 .rename_i e t i k off e' u j k' off';obtain⟨h1,rfl,rfl⟩:=jk h;simp only [ae,bE]at h1;obtain⟨h1,rfl,h3⟩:=h1;obtain⟨b,c,g1,rfl⟩:=hd.xo;exact .dH (xU h3 g1)
 .exact h.elim
def Ag (hk:∀j p,look σ j=some p->64<=j):∀{v v':List af} {x:List Value},rU σ v v'->aI ρ v x->aI (ren σ ρ) v' x:=by
 intro v v' x h hd;unfold rU at h;split at h
 .cases hd;exact .nil
 .cases hd with
  |cons h1 h2=>exact .cons (KJ hk h.1 h1) (Ag hk h.2 h2)
 .exact h.elim
end
def Sd {T:au af}:∀(l:List (Nat×af)) (t:Nat),(Fv T l).get t=match l.find? (fun p=>Nat.beq p.1 t)with |some p=>some p.2|none=>T.get t
 |[],t=>rfl
 |p::l,t=>by
  show((Fv T l).set p.1 (some p.2)).get t=_;rw [au.gp,List.find?_cons];by_cases h:p.1=t
  .subst h;simp
  .rw [if_neg h,tK h];exact Sd l t
def KK {T:au bq}:∀(l:List (Nat×fS)) (t:Nat),(Ab T l).get t=match l.find? (fun p=>Nat.beq p.1 t)with |some p=>p.2.val|none=>T.get t
 |[],t=>rfl
 |p::l,t=>by
  show((Ab T l).set p.1 p.2.val).get t=_;rw [au.gp,List.find?_cons];by_cases h:p.1=t
  .subst h;simp
  .rw [if_neg h,tK h];exact KK l t
def Se:∀(n t:Nat),(Fu n).get t=if t<n then some .bot else none
 |0,t=>au.get_nil t
 |n+1,t=>by
  show((Fu n).set n (some .bot)).get t=_;rw [au.gp,Se n t];by_cases h:n=t
  .subst h;simp
  .rw [if_neg h];by_cases h2:t<n
   .rw [if_pos h2,if_pos (by omega)]
   .rw [if_neg h2,if_neg (by omega)]
def KL {T:au af} {K:Prop}:∀{l:List (Nat×af)},Fx σ T K l->K/\∀p∈l,vJ σ ((T.get p.1).getD (.raw undef)) p.2
 |[],h=>⟨h,fun _ h=>by cases h⟩
 |p::l,h=>by
  obtain⟨h1,h2⟩:=KL h.2;refine⟨h1,fun q hq=> ?_⟩;rcases ew.1 hq with rfl |hq
  .exact h.1
  .exact h2 q hq
def KM {K:Prop}:∀{l:List (Nat×fS)},CB P σ H K l->K/\∀p∈l,Ae P σ H p
 |[],h=>⟨h,fun _ h=>by cases h⟩
 |p::l,h=>by
  obtain⟨h1,h2⟩:=KM h.2;refine⟨h1,fun q hq=> ?_⟩;rcases ew.1 hq with rfl |hq
  .exact h.1
  .exact h2 q hq
def CC {next:Nat}:∀{σ:Ren},vK σ next=true->∀{j i:Nat} {m:Option Nat},look σ j=some (i,m)->64<=j/\j<next
 |[],_,j,i,m,h=>by cases h
 |p::l,ho,j,i,m,h=>by
  simp only [vK,ae]at ho;obtain⟨h1,h2,_,h4⟩:=ho;unfold look at h;cases hb:Nat.beq p.1 j with
  |true=>
   have:=ac hb;subst this;exact⟨bV h1,bV h2⟩
  |false=>rw [hb]at h;exact CC h4 h
def Sf:∀{σ:Ren} {j i:Nat} {m:Option Nat},look σ j=some (i,m)->(j,i,m)∈σ
 |[],j,i,m,h=>by cases h
 |p::l,j,i,m,h=>by
  unfold look at h;cases hb:Nat.beq p.1 j with
  |true=>
   rw [hb]at h;have:=ac hb;subst this;have e:=jV h;rw [<-e];exact mj
  |false=>rw [hb]at h;exact mh _ (Sf h)
def Sg {next:Nat}:∀{σ:Ren},vK σ next=true->∀{j j' i:Nat} {m m':Option Nat},look σ j=some (i,m)->look σ j'=some (i,m')->j=j'
 |[],_,j,j',i,m,m',h,_=>by cases h
 |p::l,ho,j,j',i,m,m',h,h'=>by
  simp only [vK,ae]at ho;obtain⟨_,_,h3,h4⟩:=ho;have key:∀{x:Nat} {mx:Option Nat},look l x=some (i,mx)->p.2.1≠i:=fun hx e=>by
   have:=List.all_eq_true.1 h3 _ (Sf hx);rw [e]at this;simp at this
  unfold look at h h';cases hb:Nat.beq p.1 j<;>cases hb':Nat.beq p.1 j'<;>rw [hb]at h<;>rw [hb']at h'<;>simp only [cond_true,cond_false]at h h'
  .exact Sg h4 h h'
  .exact absurd (congrArg Prod.fst (jV h')) (key h)
  .exact absurd (congrArg Prod.fst (jV h)) (key h')
  .rw [<-ac hb,<-ac hb']
def KN {j i b c:Nat} {mode:Option Nat} (hl:look σ j=some (i,mode)) (jE:64<=j) (hr:ρ i=some (b,c)):ren σ ρ j=some (b,mode.getD c):=by
 show(if j<64 then ρ j else _)=_;rw [if_neg (by omega),hl];simp only [hr]
def acM {e:TypeId} {t:av} {xs:List t.den} {k:bq} (h:a8 e t xs=some k):k= .own e t xs:=by
 cases xs with
 |nil=>cases h
 |cons x l=>cases h;rfl
def Sh {mode:Option Nat} {e:TypeId} {t:av} {xs:List t.den} {i j:Nat} (h:rV P mode (H.get i) e t xs) (hH:bk P B ρ H w) (hl:look σ j=some (i,mode)) (jE:64<=j):
  ∃k b c o,H.get i=some k/\ρ i=some (b,c)/\w.heap[b]? =some o/\ren σ ρ j=some (b,mode.getD c)/\gT P (ren σ ρ) j (.own e t xs) o/\k.eU=false/\(k.eU=false->B<=b):=by
 unfold rV at h;split at h
 .rename_i e' u ys hi;obtain⟨h1,h2⟩:=jk h;have h1:=ac h1;obtain⟨e0,h2⟩:=Af h2;subst h1;subst e0;subst h2;obtain⟨b,c,o,g1,g2,⟨⟨zs,fz,k1,k2,c8,jh,pn⟩,xB,Fz⟩,g4⟩:=hH.blk i _ hi;have hr:=KN hl jE g1;refine⟨_,b,c,o,hi,g1,g2,hr,⟨⟨zs,fz,k1,k2,aI.Fy c8,jh,fun hx=> ?_⟩,xB,Fz⟩,rfl,g4⟩;obtain⟨b',c',q1,aP⟩:=pn hx;rw [g1]at q1;cases q1;exact⟨b,c,hr,aP⟩
 .rename_i e' cs QT m hi;obtain⟨h1,h2,h3⟩:=jk h;simp only [ae]at h1;obtain⟨h1,h4,h5⟩:=h1;have h1:=ac h1;have h4:=ac h4;have h5:=bV h5;subst h1;subst h2;obtain⟨b,c,o,g1,g2,⟨zs,fz,k1,k2,c8,jh,pn⟩,g4⟩:=hH.blk i _ hi;have hr:=KN hl jE g1;refine⟨_,b,c,o,hi,g1,g2,hr,⟨⟨zs,fz,k1,k2,aI.Fy c8,(fun hx=>by cases hx),fun _=> ?_⟩,h4,h5⟩,rfl,g4⟩;split at h3
  .subst h3;exact⟨b,_,hr,by rw [jh rfl,t.jf,h4];rfl⟩
  .obtain⟨b',c',q1,aP⟩:=pn rfl;rw [g1]at q1;cases q1;exact⟨b,c,hr,aP⟩
  .exact h3.elim
 .exact h.elim
def Si (hH:bk P B ρ H w) {s:bI} (hr:vK σ s.next=true) (he:∀p∈s.bH,Ae P σ H p) {j:Nat} {k':bq} (hj:s.H.get j=some k'):
  ∃i mode k b c o,look σ j=some (i,mode)/\64<=j/\j<s.next/\H.get i=some k/\ρ i=some (b,c)/\w.heap[b]? =some o/\ren σ ρ j=some (b,mode.getD c)/\gT P (ren σ ρ) j k' o/\k'.eU=k.eU/\(k.eU=false->B<=b):=by
 have hj:(Ab .nil s.bH).get j=some k':=hj;rw [KK]at hj;split at hj
 .rename_i p hp;have hm:=List.mem_of_find?_eq_some hp;have acN:p.1=j:=ac (List.find?_some (p:=fun(q:Nat×fS)=>Nat.beq q.1 j) hp);have fZ:=he p hm;unfold Ae at fZ;rw [acN]at fZ;split at fZ
  .split at fZ
   .rename_i e t xs hp2;rw [hp2,fZ]at hj;cases hj
   .exact fZ.elim
  .rename_i i mode hl;obtain⟨l1,l2⟩:=CC hr hl;refine⟨i,mode, ?_⟩;split at fZ
   .rename_i e t xs hp2;rw [hp2]at hj;have fZ:rV P mode (H.get i) e t xs:=by
     unfold Ad at fZ;split at fZ
     .split at fZ
      .subst fZ;cases hj
      .exact fZ.elim
     .rename_i hi;rw [hi];exact fZ
    obtain rfl:=acM hj;obtain⟨k,b,c,o,q1,aP,b8,ez,qA,qC,qD⟩:=Sh fZ hH hl l1;exact⟨k,b,c,o,hl,l1,l2,q1,aP,b8,ez,qA,qC.symm,qD⟩
   .rename_i e t xs hp2;rw [hp2]at hj;cases hj;obtain⟨k,b,c,o,q1,aP,b8,ez,qA,qC,qD⟩:=Sh fZ hH hl l1;exact⟨k,b,c,o,hl,l1,l2,q1,aP,b8,ez,qA,qC.symm,qD⟩
   .rename_i e cs x f r hp2;rw [hp2]at hj;cases hj;split at fZ
    .rename_i e' cs' x' f' r' hi;obtain⟨h1,h2⟩:=jk fZ;simp only [ae,fW]at h1;obtain⟨h1,h3,h4,h5⟩:=h1;have h1:=ac h1;subst h1;subst h3;subst h4;subst h5;obtain⟨b,c,o,g1,g2,⟨zs,fz,k1,k2,c8,jh,pn⟩,g4⟩:=hH.blk i _ hi;have gV:=KN hl l1 g1;have hd:=Ag (fun j p hq=>(CC hr (j:=j) (i:=p.1) (m:=p.2) hq).1) h2 c8;have hlen:cs'.length=cs.length:=by
      have e1:=c8.length;have e2:=hd.length;omega
     refine⟨_,b,c,o,hl,l1,l2,hi,g1,g2,gV,⟨zs,fz,k1,k2,by rw [<-hlen];exact hd,fun hx=>by rw [jh hx,hlen],fun hx=> ?_⟩,rfl,g4⟩;obtain⟨b',c',q1,aP⟩:=pn hx;rw [g1]at q1;cases q1;exact⟨b,c,gV,aP⟩
    .exact fZ.elim
   .exact fZ.elim
 .rw [au.get_nil]at hj;cases hj
def acO {n:Nat} {T:au af} {a:Act} {s:bI} (aR:eE P B ρ n T H a w) (h:fit P σ n T H s):eE P B (ren σ ρ) n s.T s.H a w/\∀i,s.next<=i->ren σ ρ i=none:=by
 obtain⟨h1,h2⟩:=jk h;simp only [ae]at h1;obtain⟨h1,h3,h4,h5,h6⟩:=h1;have h1:=ac h1;have h6:=bV h6;obtain⟨h7,h8⟩:=KL h2;obtain⟨_,h9⟩:=KM h7;have old:=fun {j:Nat} {k':bq} (hj:s.H.get j=some k')=>Si aR.H h3 h9 hj
 refine⟨⟨⟨aR.T.size,fun t=> ?_⟩,⟨fun j k' hj=> ?_,fun j1 j2 k1 k2 b c1 c2 acP hj2 r1 r2=> ?_,fun j k' hj=> ?_,aR.H.base,fun b A hb=>⟨(aR.H.fz b A hb).1,fun j k' c hj hr=> ?_⟩⟩,⟨fun g hg=> ?_,aR.G.zR⟩⟩,fun i hi=> ?_⟩
 .have e:s.T=Fv (Fu s.n) s.sl:=rfl;rw [e,Sd];split
  .rename_i p hp;have hm:=List.mem_of_find?_eq_some hp;have hpt:p.1=t:=ac (List.find?_some (p:=fun(q:Nat×af)=>Nat.beq q.1 t) hp);have:=aR.T.get p.1;rw [hpt]at this;have hv:=h8 p hm;rw [hpt]at hv;exact KJ (fun j q hq=>(CC h3 (j:=j) (i:=q.1) (m:=q.2) hq).1) hv this
  .rw [Se,h1];by_cases ht:t<n
   .rw [if_pos ht];exact .bot _
   .rw [if_neg ht];have:a.tmps.getD t undef=undef:=by
     rw [Array.getD_eq_getD_getElem?,Array.getElem?_eq_none (by rw [aR.T.size];omega)];rfl
    rw [this];exact .raw _
 .obtain⟨i,mode,k,b,c,o,q1,aP,b8,ez,qA,qC,qD,KO,CD,KP⟩:=old hj;exact⟨b,_,o,qD,qC,KO,fun e=>KP (CD ▸ e)⟩
 .obtain⟨i1,m1,acQ,b1,d1,o1,p1,p2,p3,dM,kX,pH,xV,_⟩:=old acP;obtain⟨i2,m2,acR,b2,d2,o2,q1,aP,b8,ez,qA,qC,qD,_⟩:=old hj2;rw [xV]at r1;cases r1;rw [qD]at r2;cases r2;have:=aR.H.inj i1 i2 acQ acR b d1 d2 dM ez kX qA;subst this;exact Sg h3 p1 q1
 .obtain⟨i,mode,k,b,c,o,q1,aP,b8,_⟩:=old hj;exact b8
 .obtain⟨i,mode,k,b',c',o,q1,aP,b8,ez,qA,qC,qD,KO,CD,KP⟩:=old hj;rw [qD]at hr;cases hr;rw [CD];exact(aR.H.fz b A hb).2 i k c' ez qA
 .obtain⟨c,hc⟩:=aR.G.at' g hg;refine⟨c, ?_⟩;show(if g<64 then ρ g else _)=_;rw [if_pos hg];exact hc
 .show(if i<64 then ρ i else _)=_;rw [if_neg (by omega)];cases hl:look σ i with
  |none=>rfl
  |some p=>exact absurd (CC h3 (j:=i) (i:=p.1) (m:=p.2) hl).2 (by omega)
def Sj {n:Nat} {T:au af} {a:Act} {s:bI} (aR:eE P B ρ n T H a w) (h:fit P σ n T H s) {b:Nat} (hb:Own (ren σ ρ) s.H b):Own ρ H b:=by
 obtain⟨h1,h2⟩:=jk h;simp only [ae]at h1;obtain⟨_,h3,_⟩:=h1;obtain⟨h7,_⟩:=KL h2;obtain⟨_,h9⟩:=KM h7;obtain⟨j,k',c',hj,hro,hr⟩:=hb;obtain⟨i,mode,k,b',d,o,q1,aP,b8,ez,qA,qC,qD,KO,CD,KP⟩:=Si aR.H h3 h9 hj;rw [qD]at hr;cases hr;exact⟨i,k,_,ez,by rw [<-hro,CD],qA⟩
end
end
end
end Go.Proofs.YtibikmmdbdlafaaGreatDoor.Sv
