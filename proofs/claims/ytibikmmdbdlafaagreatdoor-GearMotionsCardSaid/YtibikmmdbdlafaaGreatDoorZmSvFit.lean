import Derived.Test.YtibikmmdbdlafaaGreatDoorZmSvDraw6
set_option linter.unusedSectionVars false
set_option linter.unusedSimpArgs false
namespace Go.Proofs.YtibikmmdbdlafaaGreatDoor.Sv
open Go.RowKit
def asg (r:aK):Bool:=match r with | .ok (.raw (.bool b)) _=>b|_=>false
end Go.Proofs.YtibikmmdbdlafaaGreatDoor.Sv
namespace Go.Proofs.YtibikmmdbdlafaaGreatDoor.Sv
noncomputable section
inductive aC (α:Type) where
 |ret (a:α)
 |must (b:Bool) (k:aC α)
 |ask (b:Bool) (k:Bool->aC α)
 |opt (b:Bool) (k l:aC α)
def aC.gr {α:Type}:aC α->Option α
 | .ret a=>some a
 | .must b k=>cond b k.gr none
 | .ask b k=>(k b).gr
 | .opt b k l=>cond b k.gr l.gr
def aC.bind {α β:Type} (x:aC α) (f:α->aC β):aC β:=match x with
 | .ret a=>f a
 | .must b k=> .must b (k.bind f)
 | .ask b k=> .ask b fun c=>(k c).bind f
 | .opt b k l=> .opt b (k.bind f) (l.bind f)
def aC.path {α:Type}:aC α->List Bool->(α->Prop)->Prop
 | .ret a,_,Q=>Q a
 | .must b k,D,Q=>b=true/\k.path D Q
 | .ask b k,[],Q=>(k b).path [] Q
 | .ask b k,c::D,Q=>b=c/\(k c).path D Q
 | .opt b k _,D,Q=>b=true/\k.path D Q
def aC.tI {α:Type}:aC α->List Bool->(α->Prop)->Prop
 | .ret a,_,Q=>Q a
 | .must b k,D,Q=>b=true/\k.tI D Q
 | .ask b k,[],Q=>(k b).tI [] Q
 | .ask b k,c::D,Q=>b=c/\(k c).tI D Q
 | .opt b _ l,D,Q=>b=false/\l.tI D Q
theorem aC.qo {α β:Type}:∀(x:aC α) (f:α->aC β),(x.bind f).gr=x.gr.bind fun a=>(f a).gr
 | .ret a,f=>rfl
 | .must b k,f=>by cases b<;>simp [aC.bind,aC.gr,aC.qo k f]
 | .ask b k,f=>by simp [aC.bind,aC.gr,aC.qo (k b) f]
 | .opt b k l,f=>by cases b<;>simp [aC.bind,aC.gr,aC.qo k f,aC.qo l f]
theorem aC.tJ {α:Type} {Q:α->Prop}:∀(x:aC α) (D:List Bool),x.path D Q->∃a,x.gr=some a/\Q a
 | .ret a,D,h=>⟨a,rfl,h⟩
 | .must b k,D,h=>by
   obtain⟨h1,h2⟩:=h;subst h1;exact tJ k D h2
 | .ask b k,[],h=>tJ (k b) [] h
 | .ask b k,c::D,h=>by
   obtain⟨h1,h2⟩:=h;subst h1;exact tJ (k b) D h2
 | .opt b k l,D,h=>by
   obtain⟨h1,h2⟩:=h;subst h1;exact tJ k D h2
theorem aC.B7 {α:Type} {Q:α->Prop}:∀(x:aC α) (D:List Bool),x.tI D Q->∃a,x.gr=some a/\Q a
 | .ret a,D,h=>⟨a,rfl,h⟩
 | .must b k,D,h=>by
   obtain⟨h1,h2⟩:=h;subst h1;exact B7 k D h2
 | .ask b k,[],h=>B7 (k b) [] h
 | .ask b k,c::D,h=>by
   obtain⟨h1,h2⟩:=h;subst h1;exact B7 (k b) D h2
 | .opt b k l,D,h=>by
   obtain⟨h1,h2⟩:=h;subst h1;exact B7 l D h2
abbrev oW:=Program->Oper->dJ->ai->aC aK
def fits (k:IntKind) (r:Int):Bool:=decide (k.min<=r)&&decide (r<=k.max)
def tK (k:IntKind) (r:Int) (H:ai):aC aK:=match k.signed with
 |true=> .opt (fits k r) (.ret (.ok (.raw (.int k r)) H)) (.ret (.ok (.raw (.int k (k.wrap r))) H))
 |false=> .ret (.ok (.raw (.int k (k.wrap r))) H)
def QB (op:BinOp) (k:IntKind) (a b:Int) (H:ai):Option (aC aK):=match op with
 | .add=>some (tK k (a+b) H)
 | .sub=>some (tK k (a-b) H)
 | .mul=>some (tK k (a*b) H)
 | .quo=>some (.must (decide (b≠0)) (tK k (a.tdiv b) H))
 | .rem=>some (.must (decide (b≠0)) (.ret (.ok (.raw (.int k (a.tmod b))) H)))
 | .eql=>some (.ret (.ok (.raw (.bool (a==b))) H))
 | .neq=>some (.ret (.ok (.raw (.bool (a != b))) H))
 | .lss=>some (.ret (.ok (.raw (.bool (decide (a<b)))) H))
 | .leq=>some (.ret (.ok (.raw (.bool (decide (a<=b)))) H))
 | .gtr=>some (.ret (.ok (.raw (.bool (decide (a>b)))) H))
 | .geq=>some (.ret (.ok (.raw (.bool (decide (a>=b)))) H))
 |_=>none
def Jy (op:BinOp) (t:TypeId) (x y:Operand) (ah:TypeId):oW:=fun P o ev H=>match iH (ev x),iH (ev y)with
 | .int k a, .int k' b=>(match k==k' with
   |true=>(match QB op k a b H with |some r=>r|none=> .ret (ag H (rx P o ev op k k' a b)))
   |false=> .ret .no)
 |_,_=> .ret (i7 op t x y ah P o ev H)
def Jz (c a b:Operand):oW:=fun _ _ ev H=>match gD (ev c)with
 | .mk q=> .ask q fun r=>match r with |true=> .ret (.ok (ev a) H)|false=> .ret (.ok (ev b) H)
 | .no=> .ret .no
def xQ (v:aa) (f:Nat->aC aK):aC aK:=match iH v with
 | .int _ z=> .must (decide (0<=z)) (f z.toNat)
 | .no=> .ret .no
def JA (k s:Nat) (x:aa) (H:ai):aC aK:=match x with
 | .bh _ t xs=>(match Nat.beq t.size s with
   |true=> .must (decide (k<xs.length)) (.ret (.ok (.e9 t xs k 0) H))
   |false=> .ret .no)
 | .bR e t i k0 len _=>(match Nat.beq t.size s with
   |true=> .must (decide (k<len)) (.ret (.ok (.dA e t i (k0+k) 0) H))
   |false=> .ret .no)
 |_=> .ret .no
def xn:aa->Bool
 | .bh _ _ _=>true
 | .bR _ _ _ _ _ _=>true
 |_=>false
def m7 (t:TypeId) (x ix:Operand):oW:=fun P o ev H=>match xn (ev x),nT P t with
 |true, .sl s=>xQ (ev ix) fun k=>JA k s (ev x) H
 |_,_=> .ret (mZ t x ix P o ev H)
def QC (P:Program) (t:TypeId) (x:aa) (H:ai) (d:aK):aC aK:=match x with
 | .dA e u i k off=> .must (bz e u (H.get i) k) (.ret (ag H (kw P t (elemAt u (bM u (H.get i)) k) off)))
 |_=> .ret d
def JB (t:TypeId) (x:Operand):oW:=fun P o ev H=>QC P t (ev x) H (nV t x P o ev H)
def QD (P:Program) (t:TypeId) (x y:aa) (H:ai) (d:aK):aC aK:=match x with
 | .dA e u i k off=> .must (bz e u (H.get i) k) (match eO y.cells&&s8 P t y.cells.length with
   |true=>(match(kM (elemAt u (bM u (H.get i)) k) off y.cells).bind u.read with
    |some d=> .ret (.ok (.raw undef) (H.set i (.own e u ((bM u (H.get i)).set k d))))
    |none=> .ret .no)
   |false=> .ret .no)
 |_=> .ret d
def JC (t:TypeId) (x y:Operand):oW:=fun P o ev H=>QD P t (ev x) (ev y) H (p6 t x y P o ev H)
def zO (v:Option aa) (d:Nat) (f:Nat->aC aK):aC aK:=match v with
 |none=>f d
 |some v=>xQ v f
def EJ (P:Program) (e:TypeId) (s n:Nat) (lo hi mx:Option aa) (_:ai) (k:Nat->Nat->aC aK):aC aK:=
 match mx with
 |none=>(match ek P e with
  |some s'=>(match Nat.beq s s' with
   |true=>zO hi n fun h=>zO lo 0 fun l=> .must (decide (l<=h)) (.must (decide (h<=n)) (k l h))
   |false=> .ret .no)
  |none=> .ret .no)
 |_=> .ret .no
def QE (P:Program) (t:TypeId) (x:aa) (lo hi mx:Option aa) (H:ai) (d:aK):aC aK:=match P.underlying t,x with
 |some (.slice e), .bh _ u xs=>EJ P e u.size xs.length lo hi mx H fun l h=> .ret (.ok (.bh false u ((xs.take h).drop l)) H)
 |some (.slice e), .bR e' u i k len cap=>EJ P e u.size len lo hi mx H fun l h=> .ask (Nat.beq l 0) fun c=>match c with
  |true=> .ret (.ok (.bR e' u i k h cap) H)
  |false=> .ask (decide (l<h)) fun c=>match c with
   |true=> .ret (.ok (.bR e' u i (k+l) (h-l) .any) H)
   |false=> .ret (.ok (.bh false u []) H)
 |_,_=> .ret d
def JD (t:TypeId) (x:Operand) (lo hi mx:Option Operand):oW:=fun P o ev H=>match xn (ev x)with
 |true=>QE P t (ev x) (lo.map ev) (hi.map ev) (mx.map ev) H .no
 |false=> .ret (oI t x lo hi mx P o ev H)
def JE (H:ai) (ty:av) (s:Nat) (x:aa) (f:List ty.den->Nat->aC aK):aC aK:=match x with
 | .bR e u j k len _=>(match decide (u=ty)with
   |true=> .must (Nat.beq len 0||bz e ty (H.get j) (k+len-1)) (f (((bM ty (H.get j)).drop k).take len) len)
   |false=> .ret .no)
 |x=>match ze H ty s x with |some (ds,n)=>f ds n|none=> .ret .no
def B8 (P:Program) (t:TypeId) (e:TypeId) (ty:av) (i k len:Nat) (cap:aZ) (sk:Bool) (x:aa) (H:ai):aC aK:=
 match lz P t with
 |some el=>(match P.info? el with
  |some inf=>(match inf.zero with
   |some z=>(match Nat.beq z.cells.size inf.size&&Nat.ble 1 inf.size&&Nat.beq el e&&Nat.beq ty.size inf.size with
    |true=> .must (Nat.beq k 0) (JE H ty inf.size x fun ds n=> .ask (Nat.beq n 0) fun c=>match c with
     |true=> .ret (.ok (.bR e ty i k len cap) (cond sk H.skip H))
     |false=> .must (y8 e ty (H.get i) len cap) (.must (bounded (len+n) inf.bytes)
       (.ret (.ok (.bR e ty H.next 0 (len+n) .full) ((H.drop i).new (.own e ty (bM ty (H.get i)++ds)))))))
    |false=> .ret .no)
   |none=> .ret .no)
  |none=> .ret .no)
 |none=> .ret .no
def aaD:aa->Bool
 | .bR _ _ _ _ _ _=>true
 |_=>false
def EK (P:Program) (t:TypeId) (s x:aa) (H:ai) (d:aK):aC aK:=match s with
 | .bR e ty i k len cap=>(match xb ty x H with
   |some (b,H')=> .must b (B8 P t e ty i k len cap false x H')
   |none=>B8 P t e ty i k len cap false x H)
 |s=>match x with
  | .bh z ty ys=>(match D0 s with
    |true=>(match lz P t with
     |some e=>B8 P t e ty H.next 0 0 (.known 0) true (.bh z ty ys) H
     |none=> .ret .no)
    |false=> .ret .no)
  |_=> .ret d
def QF (P:Program) (pt:TypeId) (x n:aa) (H:ai) (d:aK):aC aK:=match x with
 | .dA e' u i 0 0=>(match D8 P pt e' u with
   |true=>(match n with
    | .raw (.int .i64 (.ofNat n))=> .must (Nat.ble 1 n) (.must (Nat.ble n 140737488355328) (.must (bz e' (.int .u8) (H.get i) (n-1)) (.must (Ig ((bM (.int .u8) (H.get i)).take n))
      (.ret (.ok (.raw (.string (oM ((bM (.int .u8) (H.get i)).take n)))) (H.drop i))))))
    |_=> .ret .no)
   |false=> .ret .no)
 |_=> .ret d
def JF (c:Call):oW:=fun P o ev H=>match c.callee,c.args.toList.map ev,c.argTypes.toList with
 | .builtin .append,[s,x],[t,t']=>(match P.underlying t' with
   |some (.slice _)=>EK P t s x H (iY c P o ev H)
   |some .string=>(match aaD s with
    |true=>EK P t s x H (iY c P o ev H)
    |false=> .ret (iY c P o ev H))
   |_=> .ret (iY c P o ev H))
 | .builtin .unsafeString,[x,n],[pt,_]=>QF P pt x n H (iY c P o ev H)
 | .builtin .unsafeSliceData,[.bR e u i k len _],_=> .must (Nat.ble 1 len) (.ret (.ok (.dA e u i k 0) H))
 |_,_,_=> .ret (iY c P o ev H)
def JG (t:TypeId) (l c:Operand):oW:=fun P _ ev H=>match lz P t with
 |some e=>(match P.info? e with
  |some inf=>(match inf.zero with
   |some z=>xQ (ev l) fun n=>xQ (ev c) fun m=>(match Nat.ble 1 inf.size&&Nat.beq z.cells.size inf.size with
    |true=> .must (decide (n<=m)) (.must (bounded m inf.bytes) (.ret (.ok (.slice H.next 0 n (.known m)) (H.new (.cells e (List.replicate m (io z.cells)).flatten true false false)))))
    |false=> .ret .no)
   |none=> .ret .no)
  |none=> .ret .no)
 |none=> .ret .no
def EL (s:ByteArray) (k:Nat):Int:=((s.data.toList.getD k 0).toNat:Nat)
def zP (a b:ByteArray):Bool:=decide (a.data.toList=b.data.toList)
def zQ (v:aa):Option ByteArray:=match v with
 | .raw (.string s)=>some s
 |_=>none
def JH (t:TypeId) (x ix:Operand):oW:=fun P o ev H=>match zQ (ev x)with
 |some s=>(match P.underlying t with
  |some .string=>xQ (ev ix) fun k=> .must (decide (k<s.size)) (.ret (.ok (.raw (.int .u8 (EL s k))) H))
  |_=> .ret .no)
 |none=> .ret (mh t x ix P o ev H)
def QG (P:Program) (t:TypeId) (s:ByteArray) (lo hi mx:Option aa) (H:ai):aC aK:=match P.underlying t,mx with
 |some .string,none=>zO hi s.size fun h=>zO lo 0 fun l=> .must (decide (l<=h)) (.must (decide (h<=s.size)) (.ret (.ok (.raw (.string (s.extract l h))) H)))
 |_,_=> .ret .no
def JI (t:TypeId) (x:Operand) (lo hi mx:Option Operand):oW:=fun P o ev H=>match zQ (ev x)with
 |some s=>QG P t s (lo.map ev) (hi.map ev) (mx.map ev) H
 |none=>JD t x lo hi mx P o ev H
def QH (op:BinOp) (a b:ByteArray) (H:ai) (d:aK):aC aK:=match op with
 | .add=> .must (decide (a.size+b.size<=9223372036854775807)) (.ret (.ok (.raw (.string (a++b))) H))
 | .eql=> .ret (.ok (.raw (.bool (zP a b))) H)
 | .neq=> .ret (.ok (.raw (.bool (!zP a b))) H)
 |_=> .ret d
def aaE:BinOp->Bool
 | .shl=>true
 | .shr=>true
 |_=>false
def aaF (op:BinOp) (k:IntKind) (a b:Int) (H:ai):aC aK:= .must (decide (0<=b)) (match op with
 | .shl=> .ret (.ok (.raw (.int k (k.wrap (a*2^(min b.toNat k.bits))))) H)
 | .shr=> .ret (.ok (.raw (.int k (a.fdiv (2^(min b.toNat k.bits))))) H)
 |_=> .ret .no)
def JJ (op:BinOp) (t:TypeId) (x y:Operand) (ah:TypeId):oW:=fun P o ev H=>match zQ (ev x),zQ (ev y)with
 |some a,some b=>QH op a b H (i7 op t x y ah P o ev H)
 |_,_=>(match aaE op,iH (ev x),iH (ev y)with
  |true, .int k a, .int _ b=>aaF op k a b H
  |_,_,_=>Jy op t x y ah P o ev H)
def B9 (op:Op):oW:=match op with
 | .binOp op t x y ah=>JJ op t x y ah
 | .pick c a b=>Jz c a b
 | .indexAddr t x ix=>m7 t x ix
 | .load t x=>JB t x
 | .store t x y=>JC t x y
 | .slice t x lo hi mx=>JI t x lo hi mx
 | .index t x ix=>JH t x ix
 | .call c=>JF c
 | .makeSlice t l c=>JG t l c
 |op=>fun P o ev H=> .ret (eV op P o ev H)
def Ref (t:aC aK) (r:aK):Prop:=∀a,t.gr=some a->a≠ .no->r=a
theorem Ref.ret {r:aK}:Ref (.ret r) r:=fun a h _=>by cases h;rfl
theorem Ref.no {r:aK}:Ref (.ret .no) r:=fun a h hn=>by cases h;exact absurd rfl hn
theorem Ref.must {b:Bool} {k:aC aK} {r:aK} (h:b=true->Ref k r):Ref (.must b k) r:=fun a ha hn=>by
 cases b with
 |false=>cases ha
 |true=>exact h rfl a ha hn
theorem Ref.opt {b:Bool} {k l:aC aK} {r:aK} (h:b=true->Ref k r) (g:b=false->Ref l r):Ref (.opt b k l) r:=fun a ha hn=>by
 cases b with
 |false=>exact g rfl a ha hn
 |true=>exact h rfl a ha hn
theorem Ref.ask {b:Bool} {k:Bool->aC aK} {r:aK} (h:Ref (k b) r):Ref (.ask b k) r:=h
section
variable {P:Program} {o:Oper} {ev:dJ} {H:ai}
theorem QI {k:IntKind} {r:Int} (h:fits k r=true):k.wrap r=r:=by
 unfold fits at h;rw [ae]at h;have h1:=ap h.1;have h2:=ap h.2;cases k<;>simp [IntKind.wrap,IntKind.min,IntKind.max,IntKind.signed,IntKind.bits]at h1 h2 ⊢ <;>omega
theorem aaG {op:BinOp} {k:IntKind} {a b r:Int} (hop:op= .add/\r=a+b\/op= .sub/\r=a-b\/op= .mul/\r=a*b):sZ P op k a b=some (.int k (k.wrap r)):=by
 rcases hop with⟨rfl,rfl⟩|⟨rfl,rfl⟩|⟨rfl,rfl⟩<;>rfl
theorem QJ {k:IntKind} {r:Int} {d:aK} (h:d= .ok (.raw (.int k (k.wrap r))) H):Ref (tK k r H) d:=by
 subst h;unfold tK;split
 .exact .opt (fun hb=>by rw [QI hb];exact .ret) fun _=> .ret
 .exact .ret
theorem JK {op:BinOp} {t:TypeId} {x y:Operand} {ah:TypeId} {k k':IntKind} {a b:Int} (hx:iH (ev x)= .int k a) (hy:iH (ev y)= .int k' b):
  i7 op t x y ah P o ev H=(match ju op k k' a b with |some v=> .ok v H|none=>ag H (rx P o ev op k k' a b)):=by
 unfold i7;rw [hx,hy];show(@Option.rec aa (fun _=>aK) (ag H (rx P o ev op k k' a b)) (fun v=> .ok v H) (ju op k k' a b))=_
 cases ju op k k' a b<;>rfl
theorem EM {op:BinOp} {k:IntKind} {a b:Int} {v:Value} (h:sZ P op k a b=some v):rx P o ev op k k a b=some (.raw v):=by
 unfold rx;rw [h];simp
theorem aaH {op:BinOp} {t:TypeId} {x y:Operand} {ah:TypeId} {k:IntKind} {a b:Int} {r:aC aK} (hx:iH (ev x)= .int k a) (hy:iH (ev y)= .int k b) (h:QB op k a b H=some r):Ref r (i7 op t x y ah P o ev H):=by
 rw [JK hx hy];have arith:∀c:Int,(op= .add/\c=a+b\/op= .sub/\c=a-b\/op= .mul/\c=a*b)->r=tK k c H->Ref r (match ju op k k a b with |some v=> .ok v H|none=>ag H (rx P o ev op k k a b)):=by
  intro c hc hr;subst hr;cases hf:ju op k k a b with
  |none=>simp only;rw [EM (aaG hc)];exact QJ rfl
  |some v=>
   obtain⟨m,n,rfl,_,rfl,rfl,hn⟩:=xz hf;simp only;have hs:∀{q:Nat},small q=some v->c=q->Ref (tK .i64 c H) (.ok v H):=fun {q} h1 h2=>by
    obtain⟨h3,h4⟩:=Iz h1;subst h2;subst h4;unfold tK;refine .opt (fun _=> .ret) fun hf=> ?_
    have:fits .i64 (q:Int)=true:=by
     unfold fits;rw [ae];exact⟨ax (by show(-9223372036854775808:Int)<=_;omega),ax (by show(q:Int)<=9223372036854775807;omega)⟩
    rw [this]at hf;cases hf
   rcases hc with⟨rfl,rfl⟩|⟨rfl,rfl⟩|⟨rfl,rfl⟩
   .exact hs (q:=m+n) hn (by omega)
   .have hn:(@Bool.rec (fun _=>Option aa) none (small (Nat.sub m n)) (Nat.ble n m))=some v:=hn;cases hb:Nat.ble n m with
    |false=>rw [hb]at hn;cases hn
    |true=>
     rw [hb]at hn;have hb:=bS hb;have e:Nat.sub m n=m-n:=rfl;rw [e]at hn;exact hs hn (by omega)
   .cases hn
 have cmp:∀c:Bool,sZ P op k a b=some (.bool c)->(∀m n:Nat,a=m->b=n->zh op m n=some (.raw (.bool c))\/zh op m n=none)->r= .ret (.ok (.raw (.bool c)) H)->Ref r (match ju op k k a b with |some v=> .ok v H|none=>ag H (rx P o ev op k k a b)):=by
  intro c hc hn hr;subst hr;cases hf:ju op k k a b with
  |none=>simp only;rw [EM hc];exact .ret
  |some v=>
   obtain⟨m,n,rfl,_,rfl,rfl,hv⟩:=xz hf;simp only;rcases hn m n rfl rfl with h1|h1<;>rw [h1]at hv
   .cases hv;exact .ret
   .cases hv
 cases op with
 |add=>cases h;exact arith _ (.inl ⟨rfl,rfl⟩) rfl
 |sub=>cases h;exact arith _ (.inr (.inl ⟨rfl,rfl⟩)) rfl
 |mul=>cases h;exact arith _ (.inr (.inr ⟨rfl,rfl⟩)) rfl
 |quo=>
  cases h;refine .must fun hb=> ?_
  have hb:=ap hb;have hf:ju .quo k k a b=none:=by
   cases hf:ju .quo k k a b with
   |none=>rfl
   |some v=>obtain⟨m,n,_,_,_,_,hv⟩:=xz hf;cases hv
  rw [hf];simp only;rw [EM (v:= .int k (k.wrap (a.tdiv b))) (by unfold sZ Op.intDiv;simp only [if_neg hb];rfl)];exact QJ rfl
 |rem=>
  cases h;refine .must fun hb=> ?_
  have hb:=ap hb;have hf:ju .rem k k a b=none:=by
   cases hf:ju .rem k k a b with
   |none=>rfl
   |some v=>obtain⟨m,n,_,_,_,_,hv⟩:=xz hf;cases hv
  rw [hf];simp only;rw [EM (v:= .int k (a.tmod b)) (by unfold sZ Op.intDiv;simp only [if_neg hb];rfl)];exact .ret
 |and=>cases h
 |or=>cases h
 |xor=>cases h
 |shl=>cases h
 |shr=>cases h
 |andNot=>cases h
 |eql=>
  cases h;refine cmp _ rfl (fun m n h1 h2=> .inl ?_) rfl;subst h1;subst h2;show some (aa.raw (.bool (Nat.beq m n)))=_;congr 3;rw [Bool.eq_iff_iff];simp;omega
 |neq=>
  cases h;refine cmp _ rfl (fun m n h1 h2=> .inl ?_) rfl;subst h1;subst h2;show some (aa.raw (.bool (!(Nat.beq m n))))=_;congr 3;by_cases e:m=n
  .subst e;simp
  .rw [xa e];simp;omega
 |lss=>
  cases h;refine cmp _ rfl (fun m n h1 h2=> .inl ?_) rfl;subst h1;subst h2;show some (aa.raw (.bool (Nat.ble (m+1) n)))=_;rw [xx];congr 3;rw [Bool.eq_iff_iff,decide_eq_true_iff,decide_eq_true_iff];omega
 |leq=>
  cases h;refine cmp _ rfl (fun m n h1 h2=> .inl ?_) rfl;subst h1;subst h2;show some (aa.raw (.bool (Nat.ble m n)))=_;rw [xx];congr 3;rw [Bool.eq_iff_iff,decide_eq_true_iff,decide_eq_true_iff];omega
 |gtr=>
  cases h;refine cmp _ rfl (fun m n h1 h2=> .inl ?_) rfl;subst h1;subst h2;show some (aa.raw (.bool (Nat.ble (n+1) m)))=_;rw [xx];congr 3;rw [Bool.eq_iff_iff,decide_eq_true_iff,decide_eq_true_iff];omega
 |geq=>
  cases h;refine cmp _ rfl (fun m n h1 h2=> .inl ?_) rfl;subst h1;subst h2;show some (aa.raw (.bool (Nat.ble n m)))=_;rw [xx];congr 3;rw [Bool.eq_iff_iff,decide_eq_true_iff,decide_eq_true_iff];omega
theorem aaI {op:BinOp} {t:TypeId} {x y:Operand} {ah:TypeId}:Ref (Jy op t x y ah P o ev H) (i7 op t x y ah P o ev H):=by
 unfold Jy;split
 .rename_i k a k' b hx hy;split
  .rename_i hk;have hk:k=k':=by simpa using hk
   subst hk;split
   .rename_i r hr;exact aaH hx hy hr
   .rename_i hn;rw [JK hx hy];cases hf:ju op k k a b with
    |none=>exact .ret
    |some v=>
     obtain⟨m,n,_,_,_,_,hv⟩:=xz hf;cases op<;>first |(cases hn;done)|(change (none:Option aa)=some v at hv;cases hv)
  .exact .no
 .exact .ret
theorem aaJ {c a b:Operand}:Ref (Jz c a b P o ev H) (jn c a b P o ev H):=by
 unfold Jz jn;cases gD (ev c)with
 |no=>exact .no
 |mk q=>cases q<;>exact .ret
theorem Ca {v:aa} {f:Nat->aC aK} {r:aK} (h:∀k,nU v= .mk k->Ref (f k) r):Ref (xQ v f) r:=by
 unfold xQ;split
 .rename_i k z hz;refine .must fun hb=>h _ ?_
  have hb:=ap hb;unfold nU;rw [hz];cases z with
  |ofNat m=>rfl
  |negSucc m=>exact absurd hb (by omega)
 .exact .no
theorem aaK {k s:Nat} {x:aa}:Ref (JA k s x H) (q6 k s x H):=by
 unfold JA q6;split
 .rename_i z t xs;split
  .rename_i hs;refine .must fun hb=> ?_
   have hb:=ap hb;simp only [hs,Bool.true_and];rw [fo (show k+1<=xs.length from hb)];exact .ret
  .exact .no
 .rename_i e t i k0 len cap;split
  .rename_i hs;refine .must fun hb=> ?_
   have hb:=ap hb;simp only [hs,Bool.true_and];rw [fo (show k+1<=len from hb)];exact .ret
  .exact .no
 .exact .no
theorem aaL {v:aa} (h:xn v=true):iI v= .no/\w9 v= .no:=by
 cases v<;>first |exact⟨rfl,rfl⟩|cases h
theorem aaM {t:TypeId} {x ix:Operand}:Ref (m7 t x ix P o ev H) (mZ t x ix P o ev H):=by
 unfold m7;split
 .rename_i s hx ht;refine Ca fun k hk=> ?_
  unfold mZ;simp only [hk,ht,(aaL hx).2];exact aaK
 .exact .ret
theorem aaN {t:TypeId} {x:Operand}:Ref (JB t x P o ev H) (nV t x P o ev H):=by
 unfold JB QC;split
 .rename_i e u i k off hx;refine .must fun hb=> ?_
  unfold nV;rw [hx];show Ref _ (s5 P t (.dA e u i k off) H);unfold s5;simp only [hb,cond_true];exact .ret
 .exact .ret
theorem aaO {t:TypeId} {x y:Operand}:Ref (JC t x y P o ev H) (p6 t x y P o ev H):=by
 unfold JC QD;split
 .rename_i e u i k off hx;refine .must fun hb=> ?_
  unfold p6;rw [hx];show Ref _ (xg P t (.dA e u i k off) (ev y) H);unfold xg;simp only [hb,cond_true];cases (eO (ev y).cells&&s8 P t (ev y).cells.length)with
  |false=>exact .no
  |true=>
   simp only [cond_true];cases (kM (elemAt u (bM u (H.get i)) k) off (ev y).cells).bind u.read with
   |none=>exact .no
   |some d=>exact .ret
 .exact .ret
theorem EN {v:Option aa} {d:Nat} {f:Nat->aC aK} {r:aK} (h:∀k,l9 v d=some k->Ref (f k) r):Ref (zO v d f) r:=by
 unfold zO;split
 .exact h _ rfl
 .rename_i v;exact Ca fun k hk=>h k (by show l8 v=some k;unfold l8;rw [hk])
theorem QK {e:TypeId} {s n:Nat} {lo hi mx:Option aa} {k:Nat->Nat->aC aK} {k2:Nat->Nat->aa} (h:∀l h,l<=h->h<=n->Ref (k l h) (.ok (k2 l h) H)):Ref (EJ P e s n lo hi mx H k) (ag H (zb P e s n lo hi mx k2)):=by
 unfold EJ;split
 .split
  .rename_i s' hs;split
   .rename_i aaP;refine EN fun hh hhi=>EN fun l hlo=> .must fun h1=> .must fun h2=> ?_
    have h1:=ap h1;have h2:=ap h2;unfold zb;simp only [hs,Option.bind_some,hhi,hlo,aaP,Option.isNone_none,Bool.true_and,fo h1,fo h2,cond_true];exact h l hh h1 h2
   .exact .no
  .exact .no
 .exact .no
theorem aaQ {t:TypeId} {x:Operand} {lo hi mx:Option Operand}:Ref (JD t x lo hi mx P o ev H) (oI t x lo hi mx P o ev H):=by
 unfold JD;split
 .rename_i hx;have hp:oI t x lo hi mx P o ev H=ag H (Bm P t (ev x) (lo.map ev) (hi.map ev) (mx.map ev)):=by
   unfold oI Bs;cases hv:ev x<;>first |rfl |(rw [hv]at hx;cases hx)
  rw [hp];unfold QE;split
  .rename_i e z u xs hu gh;unfold Bm;rw [hu,gh];refine QK fun l h h1 h2=> ?_
   cases hb:Nat.ble (l+1) h with
   |true=>exact .ret
   |false=>
    have:¬l+1<=h:=fun hh=>by rw [fo hh]at hb;cases hb
    have e:(xs.take h).drop l=[]:=by rw [List.drop_eq_nil_iff];simp;omega
    rw [e];exact .ret
  .rename_i e e' u i k len cap hu gh;unfold Bm;rw [hu,gh];refine QK fun l h h1 h2=> .ask ?_
   cases hb:Nat.beq l 0 with
   |true=>exact .ret
   |false=>
    refine .ask ?_;by_cases hlt:l<h
    .simp only [hlt,decide_true,cond_false,fo (show l+1<=h from hlt),cond_true];exact .ret
    .have kO:Nat.ble (l+1) h=false:=by rw [xx];exact ab hlt
     simp only [hlt,decide_false,cond_false,kO];exact .ret
  .exact .no
 .exact .ret
theorem aaR {ty:av} {s:Nat} {x:aa} {f:List ty.den->Nat->aC aK} {r:aK} (h:∀ds n,ze H ty s x=some (ds,n)->Ref (f ds n) r):Ref (JE H ty s x f) r:=by
 unfold JE;split
 .rename_i e u j k len cap;split
  .rename_i hu;refine .must fun hb=>h _ _ ?_
   unfold ze;simp only [hu,hb,Bool.true_and,cond_true]
  .exact .no
 .split
  .rename_i ds n hs;exact h ds n hs
  .exact .no
theorem JL {t e:TypeId} {ty:av} {i k len:Nat} {cap:aZ} {sk:Bool} {x:aa}:Ref (B8 P t e ty i k len cap sk x H) (eH (rj P t e ty i k len cap sk x H)):=by
  unfold B8;split
  .rename_i el hel;split
   .rename_i inf aaS;split
    .rename_i z hz;split
     .rename_i hc;refine .must fun hk=>aaR fun ds n hs=> .ask ?_
      unfold rj;simp only [hel,aaS,hz,Option.bind_some,hc,hk,Bool.true_and,cond_true,hs];cases Nat.beq n 0 with
      |true=>exact .ret
      |false=>
       refine .must fun h1=> .must fun h2=> ?_
       simp only [h1,h2,Bool.true_and,cond_true,cond_false];exact .ret
     .exact .no
    .exact .no
   .exact .no
  .exact .no
theorem QL {t:TypeId} {s x:aa} {d:aK} (hd:d=eH (mb P t s x H)):Ref (EK P t s x H d) (eH (mb P t s x H)):=by
 unfold EK;split
 .rename_i e ty i k len cap;have e0:mb P t (.bR e ty i k len cap) x H=Bn P t e ty i k len cap x H:=rfl;rw [e0];unfold Bn;cases xb ty x H with
  |none=>exact JL
  |some p=>
   obtain⟨b,H'⟩:=p;refine .must fun hb=> ?_
   subst hb;exact JL
 .rename_i hn;split
  .rename_i z ty ys;split
   .rename_i he;split
    .rename_i e hel;have:mb P t s (.bh z ty ys) H=rj P t e ty H.next 0 0 (.known 0) true (.bh z ty ys) H:=by
      unfold mb;split
      .rename_i a1 a2 a3 a4 a5 a6;exact absurd rfl (hn a1 a2 a3 a4 a5 a6)
      .simp only [he,cond_true];unfold D1;rw [hel]
     rw [this];exact JL
    .exact .no
   .exact .no
  .subst hd;exact .ret
theorem aaT {c:Call}:Ref (JF c P o ev H) (iY c P o ev H):=by
 unfold JF;split
 .rename_i s x t t' hc ha ht;split
  .rename_i el hu;have e:iY c P o ev H=eH (mb P t s x H):=by
    unfold iY;rw [hc];simp only [ha];unfold nW;simp only [ht,hu]
   rw [e];exact QL rfl
  .rename_i hu;split
   .have e:iY c P o ev H=eH (mb P t s x H):=by
     unfold iY;rw [hc];simp only [ha];unfold nW;simp only [ht,hu]
    rw [e];exact QL rfl
   .exact .ret
  .exact .ret
 .rename_i x n pt it hc ha ht;have e:iY c P o ev H=eH (vg P pt x n H):=by
   unfold iY;rw [hc];simp only [ha];unfold nW;simp only [ht]
  rw [e];unfold QF;split
  .rename_i e' u i;split
   .rename_i hu;split
    .rename_i m;refine .must fun h1=> .must fun h2=> .must fun h3=> .must fun h4=> ?_
     have e2:vg P pt (.dA e' u i 0 0) (.raw (.int .i64 (.ofNat m))) H=some (.raw (.string (oM ((bM (.int .u8) (H.get i)).take m))),H.drop i):=by
      show cond (D8 P pt e' u&&_) _ none=_;rw [hu,h1,h2,h3,h4];rfl
     rw [e2];exact .ret
    .exact .no
   .exact .no
  .exact .ret
 .rename_i ts el u i k len cap hc ha;have e:iY c P o ev H= @Bool.rec (fun _=>aK) .no (.ok (.dA el u i k 0) H) (Nat.ble 1 len):=by
   unfold iY;rw [hc];simp only [ha];unfold nW;rfl
  rw [e];refine .must fun h1=> ?_
  rw [h1];exact .ret
 .exact .ret
theorem aaU {t:TypeId} {l c:Operand}:Ref (JG t l c P o ev H) (s7 t l c P o ev H):=by
 unfold JG;split
 .rename_i e he;split
  .rename_i inf hi;split
   .rename_i z hz;refine Ca fun n hn=>Ca fun m hm=> ?_
    split
    .rename_i hb;refine .must fun h1=> .must fun h2=> ?_
     rw [ae]at hb;have e1:l8 (ev l)=some n:=by unfold l8;rw [hn]
     have e2:l8 (ev c)=some m:=by unfold l8;rw [hm]
     have e3:s7 t l c P o ev H= .ok (.slice H.next 0 n (.known m)) (H.new (.cells e (List.replicate m (io z.cells)).flatten true false false)):=by
      unfold s7 p5;rw [he,Option.bind_some,hi,Option.bind_some,hz,Option.bind_some,e1,Option.bind_some,e2,Option.bind_some,fo (ap h1),hb.1,h2,hb.2];rfl
     rw [e3];exact .ret
    .exact .no
   .exact .no
  .exact .no
 .exact .no
theorem mc {v:aa} {s:ByteArray} (h:zQ v=some s):v= .raw (.string s):=by
 unfold zQ at h;split at h
 .cases h;rfl
 .cases h
theorem QM {v:aa} {k:Nat} (h:nU v= .mk k):∃q,v= .raw (.int q k):=by
 unfold nU at h;cases hw:iH v with
 |no=>rw [hw]at h;cases h
 |int q z=>
  rw [hw]at h;have h:u9 z= .mk k:=h;cases z with
  |ofNat m=>cases h;exact⟨q,zw hw⟩
  |negSucc m=>cases h
theorem nv {x:Operand} {v:Value} (h:ev x= .raw v):ri ev x=v:=by unfold ri;rw [h];rfl
theorem aaV {s:ByteArray} {k:Nat} (h:k<s.size):s[k]? =some (s.data.toList.getD k 0):=by
 have h2:k<s.data.size:=h;rw [show s[k]? =some s[k]from getElem?_pos s k h];congr 1;rw [ao,Array.getElem?_toList,Array.getElem?_eq_getElem h2];rfl
theorem aaW {t:TypeId} {x ix:Operand} (ho:o.op= .index t x ix):Ref (JH t x ix P o ev H) (mh t x ix P o ev H):=by
 unfold JH;split
 .rename_i s hs;have hx:=mc hs;split
  .rename_i hu;refine Ca fun k hk=> .must fun hb=> ?_
   have hb:=ap hb;obtain⟨q,hi⟩:=QM hk;have e1:mh t x ix P o ev H=ag H (gen P o ev):=by unfold mh;rw [hx];rfl
   have e2:gen P o ev=some (.raw (.int .u8 (EL s k))):=by
    unfold gen;rw [ho];have e3:((Op.index t x ix).operands.toList.all fun x=>(ev x).fc.isSome)=true:=by simp [Op.operands,hx,hi,aa.fc]
    rw [e3];have bU:bm P (execOp (ri ev) o)=some (.value (.int .u8 (EL s k))):=by
     unfold execOp;rw [ho];simp only [nv hx,nv hi];simp [Instr.index,asIntOf,underlying,program,bm,hu,bind,Sem.bind,pure,aaV hb,EL]
    rw [bU];rfl
   rw [e1,e2];exact .ret
  .exact .no
 .exact .ret
theorem EO {α β:Type} (f:α->β):∀{s:Sem α} {a:α},bm P s=some a->bm P (do let r <-s;pure (f r))=some (f a)
 | .pure a,_,h=>by
   have h:some a=some _:=h;cases h;rfl
 | .program k,_,h=>EO f (s:=k P) h
 | .mark _ k,_,h=>EO f (s:=k) h
 | .load ..,_,h=>by cases h
 | .store ..,_,h=>by cases h
 | .new ..,_,h=>by cases h
 | .shape ..,_,h=>by cases h
 | .freeze ..,_,h=>by cases h
 | .frozen ..,_,h=>by cases h
 | .getObj ..,_,h=>by cases h
 | .setObj ..,_,h=>by cases h
 | .choose ..,_,h=>by cases h
 | .sys ..,_,h=>by cases h
 | .halt ..,_,h=>by cases h
theorem JM {v:Option Operand} {d k:Nat} (h:l9 (v.map ev) d=some k):(v=none/\k=d)\/∃y q,v=some y/\ev y= .raw (.int q k):=by
 cases v with
 |none=>cases h;exact .inl ⟨rfl,rfl⟩
 |some y=>
  have h:l8 (ev y)=some k:=h;unfold l8 at h;cases hn:nU (ev y)with
  |no=>rw [hn]at h;cases h
  |mk m=>
   rw [hn]at h;cases h;obtain⟨q,hq⟩:=QM hn;exact .inr ⟨y,q,rfl,hq⟩
theorem aaX {t:TypeId} {x:Operand} {lo hi mx:Option Operand} (ho:o.op= .slice t x lo hi mx):Ref (JI t x lo hi mx P o ev H) (oI t x lo hi mx P o ev H):=by
 unfold JI;split
 .rename_i s hs;have hx:=mc hs;unfold QG;split
  .rename_i hu hm;have hm:mx=none:=by cases mx<;>first |rfl |cases hm
   subst hm;refine EN fun h hh=>EN fun l hl=> .must fun h1=> .must fun h2=> ?_
   have h1:=ap h1;have h2:=ap h2;have e1:oI t x lo hi none P o ev H=ag H (gen P o ev):=by unfold oI Bs;rw [hx]
   have e2:gen P o ev=some (.raw (.string (s.extract l h))):=by
    unfold gen;rw [ho];rcases JM hh with⟨rfl,rfl⟩|⟨y,q,rfl,hy⟩
    .rcases JM hl with⟨rfl,rfl⟩|⟨y2,aO,rfl,hy2⟩
     .have e3:((Op.slice t x none none none).operands.toList.all fun x=>(ev x).fc.isSome)=true:=by simp [Op.operands,hx,aa.fc]
      rw [e3];unfold execOp;rw [ho];simp only [nv hx,Option.map_none];simp [Instr.sliceAt,Instr.slice,Instr.sliceBounds,underlying,program,bm,hu,bind,Sem.bind,pure]
     .have e3:((Op.slice t x (some y2) none none).operands.toList.all fun x=>(ev x).fc.isSome)=true:=by simp [Op.operands,hx,hy2,aa.fc]
      rw [e3];unfold execOp;rw [ho];simp only [nv hx,Option.map_none,Option.map_some,nv hy2];simp [Instr.sliceAt,Instr.slice,Instr.sliceBounds,Instr.sliceBound,asIntOf,underlying,program,bm,hu,bind,Sem.bind,pure,h1]
    .rcases JM hl with⟨rfl,rfl⟩|⟨y2,aO,rfl,hy2⟩
     .have e3:((Op.slice t x none (some y) none).operands.toList.all fun x=>(ev x).fc.isSome)=true:=by simp [Op.operands,hx,hy,aa.fc]
      rw [e3];unfold execOp;rw [ho];simp only [nv hx,Option.map_none,Option.map_some,nv hy];simp [Instr.sliceAt,Instr.slice,Instr.sliceBounds,Instr.sliceBound,asIntOf,underlying,program,bm,hu,bind,Sem.bind,pure,h2]
     .have e3:((Op.slice t x (some y2) (some y) none).operands.toList.all fun x=>(ev x).fc.isSome)=true:=by simp [Op.operands,hx,hy,hy2,aa.fc]
      rw [e3];unfold execOp;rw [ho];simp only [nv hx,Option.map_some,Option.map_none,nv hy,nv hy2];simp [Instr.sliceAt,Instr.slice,Instr.sliceBounds,Instr.sliceBound,asIntOf,underlying,program,bm,hu,bind,Sem.bind,pure,h1,h2]
   rw [e1,e2];exact .ret
  .exact .no
 .exact aaQ
theorem QN (a b:ByteArray):(a.toList==b.toList)=zP a b:=by
 rw [ByteArray.toList_eq,ByteArray.toList_eq];unfold zP;rw [Bool.eq_iff_iff];simp
theorem aaY {op:BinOp} {t:TypeId} {x y:Operand} {ah:TypeId} (ho:o.op= .binOp op t x y ah):Ref (JJ op t x y ah P o ev H) (i7 op t x y ah P o ev H):=by
 unfold JJ;split
 .rename_i a b ha hb;have hx:=mc ha;have hy:=mc hb;have e0:i7 op t x y ah P o ev H=ag H (xe P o ev op t (ev x) (ev y)):=by unfold i7;rw [hx];rfl
  have e3:((Op.binOp op t x y ah).operands.toList.all fun x=>(ev x).fc.isSome)=true:=by simp [Op.operands,hx,hy,aa.fc]
  have eg:∀v,bm P (do eqGuard op t x y (.string a) (.string b);binOp op t (.string a) (.string b))=some v->gen P o ev=some (.raw v):=fun v hv=>by
   unfold gen;rw [ho,e3];unfold execOp;rw [ho];simp only [nv hx,nv hy];have:bm P (do let r <-(do eqGuard op t x y (.string a) (.string b);binOp op t (.string a) (.string b));pure (Next.value r))=some (.value v):=EO _ hv;simp only [cond_true];rw [this]
  unfold QH;split
  .refine .must fun hl=> ?_
   have hl:=ap hl;have:xe P o ev .add t (ev x) (ev y)=some (.raw (.string (a++b))):=eg _ (by
    have:¬(9223372036854775807:Int)<(a.size:Int)+(b.size:Int):=by omega
    simp [eqGuard,binOp,Op.stringOp,bm,bind,Sem.bind,pure,IntKind.max,IntKind.bits,IntKind.signed,this])
   rw [e0,this];exact .ret
  .have:xe P o ev .eql t (ev x) (ev y)=some (.raw (.bool (zP a b))):=by
    rw [hx,hy];exact eg _ (by rw [<-QN];simp [eqGuard,binOp,Op.stringOp,bm,bind,Sem.bind,pure])
   rw [e0,this];exact .ret
  .have:xe P o ev .neq t (ev x) (ev y)=some (.raw (.bool (!zP a b))):=by
    rw [hx,hy];exact eg _ (by rw [<-QN];simp [eqGuard,binOp,Op.stringOp,bm,bind,Sem.bind,pure])
   rw [e0,this];exact .ret
  .exact .ret
 .split
  .rename_i k a k' b hs ha hb;refine .must fun h0=> ?_
   have h0:=ap h0;have hx:=zw ha;have hy:=zw hb;have hf:ju op k k' a b=none:=by
    cases hf:ju op k k' a b with
    |none=>rfl
    |some v=>obtain⟨m,n,_,_,_,_,hv⟩:=xz hf;cases op<;>first |(cases hs;done)|(change (none:Option aa)=some v at hv;cases hv)
   have hp:rx P o ev op k k' a b=gen P o ev:=by
    unfold rx;have:sZ P op k a b=none:=by cases op<;>first |rfl |(cases hs;done)
    rw [this];cases (k==k')<;>rfl
   have e0:i7 op t x y ah P o ev H=ag H (gen P o ev):=by rw [JK ha hb,hf,hp]
   have e3:((Op.binOp op t x y ah).operands.toList.all fun x=>(ev x).fc.isSome)=true:=by simp [Op.operands,hx,hy,aa.fc]
   have eg:∀v,bm P (do eqGuard op t x y (.int k a) (.int k' b);binOp op t (.int k a) (.int k' b))=some v->gen P o ev=some (.raw v):=fun v hv=>by
    unfold gen;rw [ho,e3];unfold execOp;rw [ho];simp only [nv hx,nv hy];have:bm P (do let r <-(do eqGuard op t x y (.int k a) (.int k' b);binOp op t (.int k a) (.int k' b));pure (Next.value r))=some (.value v):=EO _ hv;simp only [cond_true];rw [this]
   have hneg:¬b<0:=by omega
   split
   .rw [e0,eg _ (by simp only [eqGuard,binOp,Op.shift,hneg,if_false];rfl)];exact .ret
   .rw [e0,eg _ (by simp only [eqGuard,binOp,Op.shift,hneg,if_false];rfl)];exact .ret
   .exact .no
  .exact aaI
theorem EP:Ref (B9 o.op P o ev H) (eV o.op P o ev H):=by
 cases ho:o.op with
 |binOp op t x y ah=>exact aaY ho
 |pick c a b=>exact aaJ (P:=P) (o:=o)
 |indexAddr t x ix=>exact aaM
 |load t x=>exact aaN
 |store t x y=>exact aaO
 |slice t x lo hi mx=>exact aaX ho
 |index t x ix=>exact aaW ho
 |call c=>exact aaT
 |makeSlice t l c=>exact aaU (o:=o)
 |_=>exact .ret
end
end
noncomputable section
abbrev bI:=FuncId->List aa->ai->aC aK
abbrev xR:=Code->(n:Nat)->(aL:Bool)->aq aa->ai->List Nat->aC R
def ER {β:Type} (T:aq aa) (ops:Array Oper) (o:Oper) (no:aC β) (f:Bool->aC β):aC β:=match o.guard with
 |none=>f true
 |some g=>match(ops[g.1]?).bind (·.dst)with
  |some d=>(match T.get d with |some (.raw (.bool b))=> .ask (b==g.2) f|some .bot=>no|_=>f false)
  |none=>no
def ES (P:Program) (call:bI) (o:Oper) (ev:dJ) (H:ai):aC aK:=
 (B9 o.op P o ev H).bind fun r=>match r with
   | .ok v H=> .ret (.ok v H)
   | .enter f args H=>call f args H
   |_=> .ret .no
def ET (T:aq aa) (n:Nat) (dst:Option Tmp) (v:aa) (k:aq aa->aC eP):aC eP:=match iJ T n dst v with
 |some T=>k T
 |none=> .ret .no
def QO (P:Program) (call:bI) (ops:Array Oper) (n:Nat) (o:Oper) (T:aq aa) (H:ai) (k:aq aa->ai->aC eP):aC eP:=
 ER T ops o (.ret .no) fun b=>match b with
  |false=>ET T n o.dst (.raw undef) fun T=>k T H
  |true=>(ES P call o (ck T) H).bind fun r=>match r with
   | .ok v H=>ET T n o.dst v fun T=>k T H
   |_=> .ret .no
def JN (P:Program) (call:bI) (ops:Array Oper) (n:Nat):List Oper->aq aa->ai->aC eP
 |[],T,H=> .ret (.mk T H)
 |o::l,T,H=>QO P call ops n o T H (JN P call ops n l)
def JO {β:Type} (P:Program) (o:Oper) (ev:dJ) (v:aa) (H:ai) (no k:aC β):aC β:=
 (B9 o.op P o ev H).bind fun r=>match r with
   | .ok v' _=> .must (aa.same v' v) k
   |_=>no
def JP {β:Type} (P:Program) (o:Oper) (ev:dJ) (v:aa) (no k:aC β):List ai->aC β
 |[]=>k
 |H::l=>JO P o ev v H no (JP P o ev v no k l)
def EU {β:Type} (P:Program) (H:ai) (no k:aC β):List oU->aC β
 |[]=>k
 |q::l=>JO P q.o (ck q.T) q.v H no (EU P H no k l)
def QS (P:Program) (call:bI) (ops:Array Oper) (n:Nat) (o:Oper) (s:fV):aC (Option fV):=
 ER s.T ops o (.ret none) fun b=>match b with
  |false=> .ret (m5 n o s (.raw undef) fun T=>{s with i:=s.i+1,T:=T,bN:=s.bN.set s.i (some (level s.bN (cA o)))})
  |true=>match m0 P o.op with
   | .p=>(B9 o.op P o (ck s.T) s.cur).bind fun r=>match r with
     | .ok v _=> .ret (m5 n o s v fun T=>{s with i:=s.i+1,T:=T,bN:=s.bN.set s.i (some (level s.bN (cA o)))})
     |_=> .ret none
   | .r=>match s.hs with
     |H::_=>(B9 o.op P o (ck s.T) H).bind fun r=>match r with
      | .ok v _=>JP P o (ck s.T) v (.ret none) (.ret (m5 n o s v fun T=>{s with i:=s.i+1,T:=T,bN:=s.bN.set s.i (some (level s.bN (cA o))),dB:=⟨s.i,o,s.T,v⟩::s.dB})) (s.hs.take (s.k+1-level s.bN (cA o)))
      |_=> .ret none
     |[]=> .ret none
   | .a=>match eV o.op P o (ck s.T) s.cur with
     | .ok v H=> .ret (m5 n o s v fun T=>{s with i:=s.i+1,T:=T,cur:=H,bN:=s.bN.set s.i (some (level s.bN (cA o))),dh:=s.i::s.dh})
     |_=> .ret none
   | .e=>match Nat.beq (level s.bN (cA o)) s.k&&xi s.dh (cA o)with
     |true=>(ES P call o (ck s.T) s.cur).bind fun r=>match r with
      | .ok v H=>EU P H (.ret none) (.ret (m5 n o s v fun T=>{i:=s.i+1,k:=s.k+1,T:=T,cur:=H,hs:=H::s.hs,bN:=s.bN.set s.i (some (s.k+1)),dB:=jx (cA o) s.dB,dh:=[]})) (jx (cA o) s.dB)
      |_=> .ret none
     |false=> .ret none
   | .b=>match Nat.beq (level s.bN (cA o)) s.k&&xi s.dh (cA o)with
     |true=>(ES P call o (ck s.T) s.cur).bind fun r=>match r with
      | .ok v H=>EU P H (.ret none) (.ret (m5 n o s v fun T=>{i:=s.i+1,k:=s.k+1,T:=T,cur:=H,hs:=H::s.hs,bN:=s.bN.set s.i (some (s.k+1)),dB:=jx (cA o) s.dB,dh:=[]})) (jx (cA o) s.dB)
      |_=> .ret none
     |false=>match eV o.op P o (ck s.T) s.cur with
      | .ok v H=> .ret (m5 n o s v fun T=>{s with i:=s.i+1,T:=T,cur:=H,bN:=s.bN.set s.i (some (level s.bN (cA o))),dh:=s.i::s.dh})
      |_=> .ret none
def JQ (P:Program) (call:bI) (ops:Array Oper) (n:Nat):List Oper->fV->aC eP
 |[],s=> .ret (.mk s.T s.cur)
 |o::l,s=>(QS P call ops n o s).bind fun r=>match r with
  |some s=>JQ P call ops n l s
  |none=> .ret .no
def JR (P:Program) (call:bI) (ops:Array Oper) (n:Nat) (T:aq aa) (H:ai):aC eP:=
 match rE ops.toList ops.toList 0 with
 |true=>JQ P call ops n ops.toList {i:=0,k:=0,T:=T,cur:=H,hs:=[H],bN:= .nil,dB:=[],dh:=[]}
 |false=> .ret .no
def zR (bw:bI) (call:bI):bI:=fun f args H=>(bw f args H).bind fun r=>match r with
 | .no=>call f args H
 |r=> .ret r
def xS (P:Program) (ih:xR):bI:=fun f args H=>match P.funcs[f]? with
 |some fn=>(match fn.body with
  |some c=>(match Nat.ble args.length fn.ntmps with
   |true=>(ih c fn.ntmps false (de args .nil 0) H []).bind fun r=>match r with
    | .normal T H m=> .ret (j9 P fn T H m)
    | .ret T H m=> .ret (j9 P fn T H m)
    |_=> .ret .no
   |false=> .ret .no)
  |none=> .ret .no)
 |none=> .ret .no
def aaZ (m:List Nat) (r:eP):aC R:=match r with
 | .mk T H=> .ret (.normal T H m)
 | .no=> .ret .no
def zS (P:Program) (call:bI) (ih:xR) (c:Code):(n:Nat)->(aL:Bool)->aq aa->ai->List Nat->aC R:=fun n aL T H m=>match c with
 | .skip=> .ret (.normal T H m)
 | .label _=> .ret (.normal T H m)
 | .region _ ops d=>(match d with |true=>JR P call ops n T H|false=>JN P call ops n ops.toList T H).bind fun r=>aaZ m r
 | .seq a b=>(ih a n aL T H m).bind fun r=>match r with
   | .normal T H m=>ih b n aL T H m
   |r=> .ret r
 | .cond x a b=>match gD (ck T x)with
   | .mk q=> .ask q fun r=>match r with |true=>ih a n aL T H m|false=>ih b n aL T H m
   | .no=> .ret .no
 | .block id b=>(ih b n aL T H m).bind fun r=>match r with
   | .exit i T H m=>(match Nat.beq i id with |true=> .ret (.normal T H m)|false=> .ret (.exit i T H m))
   |r=> .ret r
 | .exit id=> .ret (.exit id T H m)
 | .scope b=>(ih b n aL T H m).bind fun r=>match r with
   | .goto _ _ _ _=> .ret .no
   |r=> .ret r
 | .goto l=> .ret (.goto l T H m)
 | .ret=> .ret (.ret T H m)
 |_=> .ret .no
def lh (P:Program) (bw:bI) (fuel:Nat):xR:=
 @Nat.rec (fun _=>xR) (fun _ _ _ _ _ _=> .ret .no) (fun _ ih c=>zS P (zR bw (xS P ih)) ih c) fuel
def bG (bw:bI):er:=fun f args H=>((bw f args H).gr).getD .no
def xT (t:aC eP) (r:eP):Prop:=∀a,t.gr=some a->a≠ .no->r=a
def aa0 (t:aC R) (r:R):Prop:=∀a,t.gr=some a->a≠ .no->r=a
def aa1 (t:aC (Option fV)) (r:Option fV):Prop:=∀a,t.gr=some (some a)->r=some a
def rK (vc:bI) (call:er):Prop:=∀f args H,Ref (vc f args H) (call f args H)
theorem mF {α β:Type} {x:aC α} {f:α->aC β} {b:β} (h:(x.bind f).gr=some b):∃a,x.gr=some a/\(f a).gr=some b:=by
 rw [aC.qo]at h;cases hx:x.gr with
 |none=>rw [hx]at h;cases h
 |some a=>rw [hx]at h;exact⟨a,rfl,h⟩
section
variable {P:Program} {call:er} {vc:bI} {round:jR}
theorem QT {β:Type} {T:aq aa} {ops:Array Oper} {o:Oper} {no:aC β} {f:Bool->aC β} {b:β} (h:(ER T ops o no f).gr=some b):no.gr=some b\/∃c,cf T ops o=some c/\(f c).gr=some b:=by
 unfold ER at h;split at h
 .rename_i hg;refine .inr ⟨true, ?_,h⟩;unfold cf;rw [hg]
 .rename_i g hg;have e:cf T ops o=xh T ops g:=by unfold cf;rw [hg]
  rw [e];unfold xh;split at h
  .rename_i d hd;rw [hd];simp only;split at h
   .rename_i q hq;rw [hq];exact .inr ⟨_,rfl,h⟩
   .exact .inl h
   .rename_i h1 h2;refine .inr ⟨false, ?_,h⟩;split
    .rename_i q hq;exact absurd hq (h1 q)
    .rename_i hq;exact absurd hq h2
    .rfl
  .exact .inl h
theorem JS (hc:rK vc call) {o:Oper} {ev:dJ} {H:ai}:Ref (ES P vc o ev H) (iZ P call round o ev H):=by
 intro a ha hn;obtain⟨r,h1,h2⟩:=mF ha;have hr:r≠ .no->eV o.op P o ev H=r:=EP r h1;unfold iZ;cases r with
 |no=>cases h2;exact absurd rfl hn
 |ok v H1=>rw [hr (by simp)];cases h2;rfl
 |enter f args H1=>rw [hr (by simp)];exact hc f args H1 a h2 hn
 |round _ _ _=>cases h2;exact absurd rfl hn
theorem QU {T:aq aa} {n:Nat} {dst:Option Tmp} {v:aa} {k:aq aa->aC eP} {k2:aq aa->ai->eP} {H:ai} (h:∀T,xT (k T) (k2 T H)):xT (ET T n dst v k) (p7 k2 H (iJ T n dst v)):=by
 unfold ET;cases iJ T n dst v with
 |none=>intro a ha hn;cases ha;exact absurd rfl hn
 |some T1=>exact h T1
theorem aa2 (hc:rK vc call) {ops:Array Oper} {n:Nat} {o:Oper} {T:aq aa} {H:ai} {k:aq aa->ai->aC eP} {k2:aq aa->ai->eP} (h:∀T H,xT (k T H) (k2 T H)):
  xT (QO P vc ops n o T H k) (xj P call round ops n o T H k2):=by
 intro a ha hn;rcases QT ha with h1|⟨c,h1,h2⟩
 .cases h1;exact absurd rfl hn
 .unfold xj;rw [h1];cases c with
  |false=>exact QU (fun T=>h T H) a h2 hn
  |true=>
   obtain⟨r,g1,g2⟩:=mF h2;have hr:r≠ .no->iZ P call round o (ck T) H=r:=JS hc r g1;cases r with
   |no=>cases g2;exact absurd rfl hn
   |ok v H1=>
    simp only;rw [hr (by simp)];exact QU (fun T=>h T H1) a g2 hn
   |enter _ _ _=>cases g2;exact absurd rfl hn
   |round _ _ _=>cases g2;exact absurd rfl hn
theorem QV (hc:rK vc call) {ops:Array Oper} {n:Nat}:∀(l:List Oper) (T:aq aa) (H:ai),xT (JN P vc ops n l T H) (xk P call round ops n l T H)
 |[],T,H=>fun a ha _=>by cases ha;rfl
 |o::l,T,H=>aa2 hc fun T H=>QV hc l T H
theorem QW {β:Type} {o:Oper} {ev:dJ} {v:aa} {H:ai} {no k:aC β} {b:β} (h:(JO P o ev v H no k).gr=some b):no.gr=some b\/(oT P o ev v H=true/\k.gr=some b):=by
 obtain⟨r,h1,h2⟩:=mF h;have hr:r≠ .no->eV o.op P o ev H=r:=EP r h1;cases r with
 |ok v' H1=>
  right;simp only [aC.gr]at h2;unfold oT;rw [hr (by simp)];cases hs:aa.same v' v with
  |false=>rw [hs]at h2;cases h2
  |true=>rw [hs]at h2;exact⟨hs,h2⟩
 |no=>exact .inl h2
 |enter _ _ _=>exact .inl h2
 |round _ _ _=>exact .inl h2
theorem QX {β:Type} {o:Oper} {ev:dJ} {v:aa} {no k:aC β} {b:β}:∀{l:List ai},(JP P o ev v no k l).gr=some b->no.gr=some b\/(rF P o ev v l=true/\k.gr=some b)
 |[],h=> .inr ⟨rfl,h⟩
 |H::l,h=>by
  rcases QW h with h|⟨h1,h2⟩
  .exact .inl h
  .rcases QX h2 with h|⟨h3,h4⟩
   .exact .inl h
   .exact .inr ⟨by unfold rF;rw [h1];exact h3,h4⟩
theorem JT {β:Type} {H:ai} {no k:aC β} {b:β}:∀{l:List oU},(EU P H no k l).gr=some b->no.gr=some b\/(qm P H l=true/\k.gr=some b)
 |[],h=> .inr ⟨rfl,h⟩
 |q::l,h=>by
  rcases QW h with h|⟨h1,h2⟩
  .exact .inl h
  .rcases JT h2 with h|⟨h3,h4⟩
   .exact .inl h
   .exact .inr ⟨by unfold qm;rw [h1];exact h3,h4⟩
theorem aa3 (hc:rK vc call) {ops:Array Oper} {n:Nat} {o:Oper} {s:fV}:aa1 (QS P vc ops n o s) (tE P call round ops n o s):=by
 intro a ha;rcases QT ha with h1|⟨c,h1,h2⟩
 .cases h1
 .unfold tE;simp only [h1];cases c with
  |false=>exact jQ h2
  |true=>
   simp only at h2 ⊢;cases hk:m0 P o.op with
   |p=>
    rw [hk]at h2;obtain⟨r,g1,g2⟩:=mF h2;have hr:r≠ .no->_=r:=EP r g1;cases r with
    |ok v H1=>simp only;rw [hr (by simp)];exact jQ g2
    |no=>cases g2
    |enter _ _ _=>cases g2
    |round _ _ _=>cases g2
   |r=>
    rw [hk]at h2;simp only at h2 ⊢;cases hs:s.hs with
    |nil=>rw [hs]at h2;cases h2
    |cons H l=>
     rw [hs]at h2;simp only at h2 ⊢;obtain⟨r,g1,g2⟩:=mF h2;have hr:r≠ .no->_=r:=EP r g1;cases r with
     |ok v H1=>
      rw [hr (by simp)];simp only at g2 ⊢;rcases QX g2 with q|⟨q1,aO⟩
      .cases q
      .rw [q1];exact jQ aO
     |no=>cases g2
     |enter _ _ _=>cases g2
     |round _ _ _=>cases g2
   |a=>
    rw [hk]at h2;simp only at h2 ⊢;cases hop:eV o.op P o (ck s.T) s.cur with
    |ok v H1=>rw [hop]at h2;exact jQ h2
    |no=>rw [hop]at h2;cases h2
    |enter _ _ _=>rw [hop]at h2;cases h2
    |round _ _ _=>rw [hop]at h2;cases h2
   |e=>
    rw [hk]at h2;simp only at h2 ⊢;cases hb:(Nat.beq (level s.bN (cA o)) s.k&&xi s.dh (cA o))with
    |false=>rw [hb]at h2;cases h2
    |true=>
     rw [hb]at h2;simp only [cond_true]at h2 ⊢;obtain⟨r,g1,g2⟩:=mF h2;have hr:r≠ .no->iZ P call round o (ck s.T) s.cur=r:=JS hc r g1;cases r with
     |ok v H1=>
      rw [hr (by simp)];simp only at g2 ⊢;rcases JT g2 with q|⟨q1,aO⟩
      .cases q
      .rw [q1];exact jQ aO
     |no=>cases g2
     |enter _ _ _=>cases g2
     |round _ _ _=>cases g2
   |b=>
    rw [hk]at h2;simp only at h2 ⊢;cases hb:(Nat.beq (level s.bN (cA o)) s.k&&xi s.dh (cA o))with
    |false=>
     rw [hb]at h2;simp only [cond_false]at h2 ⊢;cases hop:eV o.op P o (ck s.T) s.cur with
     |ok v H1=>rw [hop]at h2;exact jQ h2
     |no=>rw [hop]at h2;cases h2
     |enter _ _ _=>rw [hop]at h2;cases h2
     |round _ _ _=>rw [hop]at h2;cases h2
    |true=>
     rw [hb]at h2;simp only [cond_true]at h2 ⊢;obtain⟨r,g1,g2⟩:=mF h2;have hr:r≠ .no->iZ P call round o (ck s.T) s.cur=r:=JS hc r g1;cases r with
     |ok v H1=>
      rw [hr (by simp)];simp only at g2 ⊢;rcases JT g2 with q|⟨q1,aO⟩
      .cases q
      .rw [q1];exact jQ aO
     |no=>cases g2
     |enter _ _ _=>cases g2
     |round _ _ _=>cases g2
theorem QY (hc:rK vc call) {ops:Array Oper} {n:Nat}:∀(l:List Oper) (s:fV),xT (JQ P vc ops n l s) (xN P call round ops n l s)
 |[],s=>fun a ha _=>by cases ha;rfl
 |o::l,s=>fun a ha hn=>by
  obtain⟨r,h1,h2⟩:=mF ha;cases r with
  |none=>cases h2;exact absurd rfl hn
  |some s1=>
   have:=aa3 (P:=P) (round:=round) hc s1 h1;unfold xN;rw [this];exact QY hc l s1 a h2 hn
theorem aa4 (hc:rK vc call) {ops:Array Oper} {n:Nat} {T:aq aa} {H:ai}:xT (JR P vc ops n T H) (zI P call round ops n T H):=by
 unfold JR zI;cases rE ops.toList ops.toList 0 with
 |true=>exact QY hc _ _
 |false=>intro a ha hn;cases ha;exact absurd rfl hn
theorem aa5 {bw:bI} (hc:rK vc call):rK (zR bw vc) (vh (bG bw) call):=fun f args H a ha hn=>by
 obtain⟨r,h1,h2⟩:=mF ha;have hS:bG bw f args H=r:=by unfold bG;rw [h1];rfl
 unfold vh;rw [hS];cases r with
 |no=>exact hc f args H a h2 hn
 |ok v H1=>cases h2;rfl
 |enter _ _ _=>cases h2;rfl
 |round _ _ _=>cases h2;rfl
def EV (v:xR) (ih:gV):Prop:=∀c n aL T H m,aa0 (v c n aL T H m) (ih c n aL T H m)
theorem aa6 {v:xR} {ih:gV} (hi:EV v ih):rK (xS P v) (nc P ih):=fun f args H a ha hn=>by
 unfold xS at ha;unfold nc;cases hf:P.funcs[f]? with
 |none=>rw [hf]at ha;cases ha;exact absurd rfl hn
 |some fn=>
  rw [hf]at ha;simp only at ha ⊢;cases hb:fn.body with
  |none=>rw [hb]at ha;cases ha;exact absurd rfl hn
  |some c=>
   rw [hb]at ha;simp only at ha ⊢;unfold Ik;cases hl:Nat.ble args.length fn.ntmps with
   |false=>rw [hl]at ha;cases ha;exact absurd rfl hn
   |true=>
    rw [hl]at ha;simp only at ha ⊢;obtain⟨r,h1,h2⟩:=mF ha;have hr:r≠ .no->_=r:=hi _ _ _ _ _ _ r h1;cases r with
    |no=>cases h2;exact absurd rfl hn
    |normal T1 H1 m1=>rw [hr (by simp)];cases h2;rfl
    |exit _ _ _ _=>cases h2;exact absurd rfl hn
    |goto _ _ _ _=>cases h2;exact absurd rfl hn
    |ret T1 H1 m1=>rw [hr (by simp)];cases h2;rfl
theorem aa7 {bw:bI} {v:xR} {ih:gV} (hi:EV v ih):EV (zS P (zR bw (xS P v)) v) (fun c=>zn c P (n8 P (bG bw)) ih):=by
 have hc:rK (zR bw (xS P v)) (vh (bG bw) (nc P ih)):=aa5 (aa6 hi);intro c n aL T H m a ha hn;unfold zS at ha;cases c with
 |skip=>cases ha;rfl
 |label l=>cases ha;rfl
 |region id ops d=>
  simp only at ha;obtain⟨r,h1,h2⟩:=mF ha;have hr:r≠ .no->n8 P (bG bw) d (nc P ih) (th ih) ops n T H=r:=by
   cases d with
   |true=>exact aa4 hc r h1
   |false=>exact QV hc _ _ _ r h1
  show zm m (n8 P (bG bw) d (nc P ih) (th ih) ops n T H)=a;cases r with
  |no=>cases h2;exact absurd rfl hn
  |mk T1 H1=>rw [hr (by simp)];cases h2;rfl
 |seq x y=>
  simp only at ha;obtain⟨r,h1,h2⟩:=mF ha;have hr:r≠ .no->ih x n aL T H m=r:=hi _ _ _ _ _ _ r h1;show(@R.rec (fun _=>R) .no (fun T H m=>ih y n aL T H m) .exit .goto .ret (ih x n aL T H m))=a
  cases r with
  |no=>cases h2;exact absurd rfl hn
  |normal T1 H1 m1=>rw [hr (by simp)];exact hi _ _ _ _ _ _ a h2 hn
  |exit _ _ _ _=>rw [hr (by simp)];cases h2;rfl
  |goto _ _ _ _=>rw [hr (by simp)];cases h2;rfl
  |ret _ _ _=>rw [hr (by simp)];cases h2;rfl
 |cond x y z=>
  simp only at ha;show(@mY.rec (fun _=>R) .no (fun b=> @Bool.rec (fun _=>R) (ih z n aL T H m) (ih y n aL T H m) b) (gD (ck T x)))=a
  cases hb:gD (ck T x)with
  |no=>rw [hb]at ha;cases ha;exact absurd rfl hn
  |mk q=>
   rw [hb]at ha;cases q with
   |true=>exact hi _ _ _ _ _ _ a ha hn
   |false=>exact hi _ _ _ _ _ _ a ha hn
 |block id b=>
  simp only at ha;obtain⟨r,h1,h2⟩:=mF ha;have hr:r≠ .no->ih b n aL T H m=r:=hi _ _ _ _ _ _ r h1;show(@R.rec (fun _=>R) .no .normal (fun i T H m=> @Bool.rec (fun _=>R) (.exit i T H m) (.normal T H m) (Nat.beq i id)) .goto .ret (ih b n aL T H m))=a
  cases r with
  |no=>cases h2;exact absurd rfl hn
  |normal _ _ _=>rw [hr (by simp)];cases h2;rfl
  |exit i T1 H1 m1=>
   rw [hr (by simp)];simp only at h2 ⊢;cases hb:Nat.beq i id with
   |true=>rw [hb]at h2;cases h2;rfl
   |false=>rw [hb]at h2;cases h2;rfl
  |goto _ _ _ _=>rw [hr (by simp)];cases h2;rfl
  |ret _ _ _=>rw [hr (by simp)];cases h2;rfl
 |loop b=>cases ha;exact absurd rfl hn
 |rangeFunc f ps x y=>cases ha;exact absurd rfl hn
 |exit id=>cases ha;rfl
 |scope b=>
  simp only at ha;obtain⟨r,h1,h2⟩:=mF ha;have hr:r≠ .no->ih b n aL T H m=r:=hi _ _ _ _ _ _ r h1;show(@R.rec (fun _=>R) .no .normal .exit (fun _ _ _ _=> .no) .ret (ih b n aL T H m))=a
  cases r with
  |no=>cases h2;exact absurd rfl hn
  |normal _ _ _=>rw [hr (by simp)];cases h2;rfl
  |exit _ _ _ _=>rw [hr (by simp)];cases h2;rfl
  |goto _ _ _ _=>cases h2;exact absurd rfl hn
  |ret _ _ _=>rw [hr (by simp)];cases h2;rfl
 |goto l=>cases ha;rfl
 |ret=>cases ha;rfl
 |refuse w=>cases ha;exact absurd rfl hn
theorem pu {bw:bI}:∀fuel,EV (lh P bw fuel) (p8 P (n8 P (bG bw)) fuel)
 |0=>fun _ _ _ _ _ _ a ha hn=>by cases ha;exact absurd rfl hn
 |f+1=>aa7 (pu f)
end
end
section
open Go.RowKit
variable [Ground]
noncomputable section
inductive fG where
 |blk (k:bq)
 |opt (e:TypeId) (t:av) (xs:List t.den)
def fG.val:fG->Option bq
 | .blk k=>some k
 | .opt e t xs=>ba e t xs
structure bC where
 n:Nat
 sl:List (Nat×aa)
 bF:List (Nat×fG)
 next:Nat
def EW (n:Nat):aq aa:= @Nat.rec (fun _=>aq aa) .nil (fun k T=>T.set k (some .bot)) n
def EX (T:aq aa) (l:List (Nat×aa)):aq aa:= @List.rec (Nat×aa) (fun _=>aq aa) T (fun p _ ih=>ih.set p.1 (some p.2)) l
def zT (T:aq bq) (l:List (Nat×fG)):aq bq:= @List.rec (Nat×fG) (fun _=>aq bq) T (fun p _ ih=>ih.set p.1 p.2.val) l
def bC.T (s:bC):aq aa:=EX (EW s.n) s.sl
def bC.H (s:bC):ai:=⟨zT .nil s.bF,s.next⟩
abbrev Ren:=List (Nat×Nat×Option Nat)
def look:Ren->Nat->Option (Nat×Option Nat)
 |[],_=>none
 |p::l,j=>cond (Nat.beq p.1 j) (some p.2) (look l j)
def gZ (b:Bool) (p:Prop):Prop:=match b with |true=>p|false=>False
def pv (σ:Ren) (j i:Nat):Bool:=cond (Nat.ble (j+1) 64) (Nat.beq i j) (match look σ j with |some (i',none)=>Nat.beq i i'|_=>false)
def oX (t u:av) (xs:List t.den) (ys:List u.den):Prop:=if h:t=u then h ▸ xs=ys else False
def xt (z z':Bool) (n:Nat) (p:Prop):Prop:=match z',z with
 |true,false=>p/\Nat.ble 1 n=true
 |_,_=>p
def m8:Value->Value->Prop
 | .int k a, .int k' b=>gZ (decide (k=k')) (a=b)
 | .bool a, .bool b=>a=b
 | .string a, .string b=>a=b
 |a,b=>a=b
def QZ (mode:Option Nat) (c c':aZ):Prop:=match mode with
 |none=>c=c'
 |some m=>c= .known m/\c'=bJ m
def zU (σ:Ren) (i n:Nat) (cap:aZ) (j n':Nat) (cap':aZ):Prop:=match look σ j with
 |some (i',mode)=>gZ (Nat.beq i i') (n=n'/\QZ mode cap cap')
 |none=>False
mutual
def vI (σ:Ren):aa->aa->Prop
 |_, .bot=>True
 | .raw (.slice none 0 0), .bR _ _ _ _ n _=>n=0
 | .raw (.slice none 0 0), .bh _ _ ys=>ys=[]
 | .raw a, .raw b=>m8 a b
 | .ptr i off, .ptr j off'=>gZ (pv σ j i) (off=off')
 | .slice i off n c, .slice j off' n' c'=>gZ (pv σ j i) (off=off'/\n=n'/\c=c')
 | .slice i 0 n c, .bR _ _ j 0 n' c'=>zU σ i n c j n' c'
 | .func f a b, .func f' a' b'=>gZ (decide (f=f')) (rL σ a a'/\rL σ b b')
 | .map i, .map j=>gZ (pv σ j i) True
 | .iface t v, .iface t' v'=>gZ (Nat.beq t t') (vI σ v v')
 | .agg l, .agg l'=>rL σ l l'
 | .tuple l, .tuple l'=>rL σ l l'
 | .bh z t xs, .bh z' u ys=>xt z z' ys.length (oX t u xs ys)
 | .e9 t xs k off, .e9 u ys k' off'=>oX t u xs ys/\k=k'/\off=off'
 | .bR e t i k n c, .bR e' u j k' n' c'=>gZ (Nat.beq e e'&&(decide (t=u)&&pv σ j i)) (k=k'/\n=n'/\c=c')
 | .dA e t i k off, .dA e' u j k' off'=>gZ (Nat.beq e e'&&(decide (t=u)&&pv σ j i)) (k=k'/\off=off')
 |_,_=>False
def rL (σ:Ren):List aa->List aa->Prop
 |[],[]=>True
 |v::l,v'::l'=>vI σ v v'/\rL σ l l'
 |_,_=>False
end
def rM (P:Program) (mode:Option Nat) (b:Option bq) (e:TypeId) (t:av) (xs:List t.den):Prop:=match b,mode with
 |some (.own e' u ys),none=>gZ (Nat.beq e e') (oX u t ys xs)
 |some (.cells e' cs exact false false),mode=>gZ (Nat.beq e e'&&(Nat.beq (P.cellsOf e) t.size&&Nat.ble 1 t.size)) (cs=t.flat xs/\match exact,mode with
  |true,some m=>m=xs.length
  |false,none=>True
  |_,_=>False)
 |_,_=>False
def pw (P:Program) (mode:Option Nat) (b:Option bq) (e:TypeId) (t:av) (xs:List t.den):Prop:=match b with
 |none=>(match mode with |none=>xs=[]|some _=>False)
 |some k=>rM P mode (some k) e t xs
theorem aa8 (P:Program) (e:TypeId) (t:av) (xs:List t.den):pw P none (ba e t xs) e t xs:=by
 cases xs with
 |nil=>exact rfl
 |cons x l=>simp [ba,pw,rM,gZ,oX]
def zV (P:Program) (σ:Ren) (H:ai) (p:Nat×fG):Prop:=match look σ p.1 with
 |none=>(match p.2 with | .opt _ _ xs=>xs=[]| .blk _=>False)
 |some (i,mode)=>match p.2 with
  | .opt e t xs=>pw P mode (H.get i) e t xs
  | .blk (.own e t xs)=>rM P mode (H.get i) e t xs
  | .blk (.cells e cs x f r)=>(match H.get i,mode with
    |some (.cells e' cs' x' f' r'),none=>gZ (Nat.beq e e'&&(x==x'&&(f==f'&&r==r'))) (rL σ cs' cs)
    |_,_=>False)
  | .blk _=>False
def EY (σ:Ren) (T:aq aa) (K:Prop):List (Nat×aa)->Prop
 |[]=>K
 |p::l=>vI σ ((T.get p.1).getD (.raw undef)) p.2/\EY σ T K l
def Cb (P:Program) (σ:Ren) (H:ai) (K:Prop):List (Nat×fG)->Prop
 |[]=>K
 |p::l=>zV P σ H p/\Cb P σ H K l
def vJ (σ:Ren) (next:Nat):Bool:=match σ with
 |[]=>true
 |p::l=>Nat.ble 64 p.1&&(Nat.ble (p.1+1) next&&(l.all (fun q=> !Nat.beq q.2.1 p.2.1)&&vJ l next))
def Q0 (next:Nat) (l:List (Nat×fG)):Bool:=l.all fun p=>Nat.ble 64 p.1&&Nat.ble (p.1+1) next
def Q1 (n:Nat) (l:List (Nat×aa)):Bool:=l.all fun p=>Nat.ble (p.1+1) n
def fit (P:Program) (σ:Ren) (n:Nat) (T:aq aa) (H:ai) (s:bC):Prop:=
 gZ (Nat.beq s.n n&&(vJ σ s.next&&(Q0 s.next s.bF&&(Q1 n s.sl&&Nat.ble 64 s.next)))) (EY σ T (Cb P σ H True s.bF) s.sl)
theorem jc {b:Bool} {p:Prop} (h:gZ b p):b=true/\p:=by cases b<;>first |exact h.elim|exact⟨rfl,h⟩
theorem Q2 {z z':Bool} {n:Nat} {p:Prop} (h:xt z z' n p):p/\(z'=true->z=true\/n≠0):=by
 cases z' with
 |false=>exact⟨h,fun e=>by cases e⟩
 |true=>
  cases z with
  |true=>exact⟨h,fun _=> .inl rfl⟩
  |false=>exact⟨h.1,fun _=> .inr (by have:=bS h.2;omega)⟩
theorem px {t u:av} {xs:List t.den} {ys:List u.den} (h:oX t u xs ys):∃e:t=u,e ▸ xs=ys:=by
 unfold oX at h;split at h
 .exact⟨_,h⟩
 .exact h.elim
theorem Q3 {a b:Value} (h:m8 a b):a=b:=by
 unfold m8 at h;split at h
 .obtain⟨h1,rfl⟩:=jc h;rw [ap h1]
 .rw [h]
 .rw [h]
 .exact h
def ren (σ:Ren) (ρ:Env):Env:=⟨fun j=>if j<64 then ρ j else match look σ j with
 |some (i,mode)=>(match ρ i with |some (b,c)=>some (b,mode.getD c)|none=>none)
 |none=>none,ρ.fz⟩
section
variable {P:Program} {B:Nat} {ρ:Env} {H:ai} {w:World} {σ:Ren}
theorem m9 {i j b c:Nat} (h:pv σ j i=true) (hr:ρ i=some (b,c)):ren σ ρ j=some (b,c):=by
 show(if j<64 then ρ j else _)=_;unfold pv at h;cases hb:Nat.ble (j+1) 64 with
 |true=>
  rw [hb]at h;have h:=ac h;subst h;have hlt:i<64:=bS hb;rw [if_pos hlt];exact hr
 |false=>
  rw [hb]at h;have hn:¬j<64:=fun hh=>by rw [fo (show j+1<=64 from hh)]at hb;cases hb
  rw [if_neg hn];simp only [cond_false]at h;split at h
  .rename_i i' hl;have h:=ac h;subst h;rw [hl];simp only [hr];rfl
  .cases h
theorem Den.aa9 {e:TypeId} {t:av} {i j n n':Nat} {cap cap':aZ} {x:Value} (h:zU σ i n cap j n' cap') (hd:Den ρ (.slice i 0 n cap) x) (jz:64<=j):Den (ren σ ρ) (.bR e t j 0 n' cap') x:=by
 unfold zU at h;split at h
 .rename_i i' mode hl;obtain⟨h1,rfl,h3⟩:=jc h;have h1:=ac h1;subst h1;obtain⟨b,c,k,g1,g2,g3,rfl⟩:=hd.ic;have hr:ren σ ρ j=some (b,mode.getD c):=by
   show(if j<64 then ρ j else _)=_;rw [if_neg (by omega),hl];simp only [g1]
  refine IU hr ?_ g3;unfold QZ at h3;cases mode with
  |none=>subst h3;exact g2
  |some m=>obtain⟨rfl,rfl⟩:=h3;cases m<;>exact g2
 .exact h.elim
theorem aF.split {ρ:Env}:∀{a b:List aa} {ys:List Value},aF ρ (a++b) ys->∃y1 y2,ys=y1++y2/\aF ρ a y1/\aF ρ b y2
 |[],b,ys,h=>⟨[],ys,rfl, .nil,h⟩
 |v::a,b,_, .cons h1 h2=>by
  obtain⟨y1,y2,rfl,h3,h4⟩:=aF.split h2;exact⟨_::y1,y2,rfl, .cons h1 h3,h4⟩
theorem n9 {ρ ρ':Env} {t:av} (hc:∀(d:t.den) ys,aF ρ (t.cells d) ys->aF ρ' (t.cells d) ys):∀(xs:List t.den) ys,aF ρ (t.flat xs) ys->aF ρ' (t.flat xs) ys
 |[],ys,h=>by cases h;exact .nil
 |d::xs,ys,h=>by
  rw [av.zq]at h ⊢;obtain⟨y1,y2,rfl,h1,h2⟩:=aF.split h;exact(hc d y1 h1).append (n9 hc xs y2 h2)
theorem qp {ρ ρ':Env} (hf:∀b A,ρ.fz b=some A->ρ'.fz b=some A):∀(t:av) (d:t.den) ys,aF ρ (t.cells d) ys->aF ρ' (t.cells d) ys
 | .int _,d,ys,h=>by cases h with |cons h1 h2=>cases h2;rw [h1.b8];exact .cons (.raw _) .nil
 | .bool,d,ys,h=>by cases h with |cons h1 h2=>cases h2;rw [h1.b8];exact .cons (.raw _) .nil
 | .str,d,ys,h=>by cases h with |cons h1 h2=>cases h2;rw [h1.b8];exact .cons (.raw _) .nil
 | .list z t,d,ys,h=>by
   cases h with
   |cons h1 h2=>
    cases h2;refine .cons ?_ .nil;rcases Den.tr (t:=t) (xs:=d) h1 with⟨e,a,k,rfl,hz⟩|⟨b,off,k,A,g1,g2,g3,g4,rfl,g5⟩
    .have e:d=([]:List t.den):=e;subst e;exact .dW hz
    .exact .bh (hf _ _ g1) g2 rfl (n9 (fun d ys=>qp hf t d ys) _ _ g3) g4 g5
 | .pair a b,d,ys,h=>by
   obtain⟨y1,y2,rfl,h1,h2⟩:=aF.split (a:=a.cells d.1) (b:=b.cells d.2) h;exact(qp hf a d.1 y1 h1).append (qp hf b d.2 y2 h2)
 | .ptr t,d,ys,h=>by
   cases h with
   |cons h1 h2=>
    cases h2;refine .cons ?_ .nil;obtain⟨b,o,A,g1,g2,g3,g4,rfl⟩:=Den.zu (t:=t) (xs:=[d]) h1;exact .e9 (hf _ _ g1) g2 rfl (n9 (fun d ys=>qp hf t d ys) _ _ g3) g4
 | .unit,d,ys,h=>by cases h;exact .nil
theorem aF.EZ {t:av} {xs:List t.den} {ys:List Value} (h:aF ρ (t.flat xs) ys):aF (ren σ ρ) (t.flat xs) ys:=n9 (ρ:=ρ) (ρ':=ren σ ρ) (fun d ys=>qp (ρ:=ρ) (ρ':=ren σ ρ) (fun _ _ h=>h) t d ys) xs ys h
mutual
theorem JU (hk:∀j p,look σ j=some p->64<=j):∀{v v':aa} {x:Value},vI σ v v'->Den ρ v x->Den (ren σ ρ) v' x:=by
 intro v v' x h hd;unfold vI at h;split at h
 .exact .bot x
 .subst h;rw [hd.b8];exact .p9
 .subst h;rw [hd.b8];exact .dW fun _=>⟨rfl,rfl⟩
 .rw [hd.b8,Q3 h];exact .raw _
 .obtain⟨h1,rfl⟩:=jc h;obtain⟨b,c,g1,rfl⟩:=hd.kN;exact .ptr (m9 h1 g1)
 .obtain⟨h1,rfl,rfl,rfl⟩:=jc h;obtain⟨b,c,k,g1,g2,g3,rfl⟩:=hd.ic;exact .slice (m9 h1 g1) g2 g3
 .rename_i i n c e t j n' c';refine Den.aa9 h hd ?_;unfold zU at h;split at h
  .rename_i hl;exact hk _ _ hl
  .exact h.elim
 .obtain⟨h1,h2,h3⟩:=jc h;have h1:=ap h1;subst h1;obtain⟨xs,ys,g1,g2,rfl⟩:=hd.BC;exact .func (ik hk h2 g1) (ik hk h3 g2)
 .obtain⟨h1,_⟩:=jc h;obtain⟨b,c,g1,rfl⟩:=hd.vk;exact .map (m9 h1 g1)
 .obtain⟨h1,h2⟩:=jc h;rw [<-ac h1];obtain⟨y,g1,rfl⟩:=hd.OV;exact .iface (JU hk h2 g1)
 .obtain⟨xs,g1,rfl⟩:=hd.tj;exact .agg (ik hk h g1)
 .obtain⟨xs,g1,rfl⟩:=hd.BD;exact .tuple (ik hk h g1)
 .rename_i z t xs z' u ys;obtain⟨h2,h1⟩:=Q2 h;obtain⟨e,rfl⟩:=px h2;subst e;rcases hd.tr with⟨rfl,a,k,rfl,hz⟩|⟨b,off,k,A,g1,g2,g3,g4,rfl,g5⟩
  .exact .dW fun e=>(h1 e).elim hz fun hn=>absurd rfl hn
  .refine .bh g1 g2 rfl ?_ g4 fun e=>(h1 e).elim g5 fun hn hxs=>hn (by subst hxs;rfl)
   exact aF.EZ g3
 .rename_i t xs k off u ys k' off';obtain⟨h1,rfl,rfl⟩:=h;obtain⟨e,rfl⟩:=px h1;subst e;obtain⟨b,o,A,g1,g2,g3,g4,rfl⟩:=hd.zu;exact .e9 g1 g2 rfl (aF.EZ g3) g4
 .rename_i e t i k n c e' u j k' n' c';obtain⟨h1,rfl,rfl,rfl⟩:=jc h;simp only [ae,bB]at h1;obtain⟨h1,rfl,h3⟩:=h1;rcases hd.jv with⟨rfl,a,rfl⟩|⟨b,c2,kc,g1,g2,g3,rfl⟩
  .exact .p9
  .exact .bR (m9 h3 g1) g2 g3
 .rename_i e t i k off e' u j k' off';obtain⟨h1,rfl,rfl⟩:=jc h;simp only [ae,bB]at h1;obtain⟨h1,rfl,h3⟩:=h1;obtain⟨b,c,g1,rfl⟩:=hd.xw;exact .dA (m9 h3 g1)
 .exact h.elim
theorem ik (hk:∀j p,look σ j=some p->64<=j):∀{v v':List aa} {x:List Value},rL σ v v'->aF ρ v x->aF (ren σ ρ) v' x:=by
 intro v v' x h hd;unfold rL at h;split at h
 .cases hd;exact .nil
 .cases hd with
  |cons h1 h2=>exact .cons (JU hk h.1 h1) (ik hk h.2 h2)
 .exact h.elim
end
theorem Q4 {T:aq aa}:∀(l:List (Nat×aa)) (t:Nat),(EX T l).get t=match l.find? (fun p=>Nat.beq p.1 t)with |some p=>some p.2|none=>T.get t
 |[],t=>rfl
 |p::l,t=>by
  show((EX T l).set p.1 (some p.2)).get t=_;rw [aq.fU,List.find?_cons];by_cases h:p.1=t
  .subst h;simp
  .rw [if_neg h,xa h];exact Q4 l t
theorem pC {T:aq bq}:∀(l:List (Nat×fG)) (t:Nat),(zT T l).get t=match l.find? (fun p=>Nat.beq p.1 t)with |some p=>p.2.val|none=>T.get t
 |[],t=>rfl
 |p::l,t=>by
  show((zT T l).set p.1 p.2.val).get t=_;rw [aq.fU,List.find?_cons];by_cases h:p.1=t
  .subst h;simp
  .rw [if_neg h,xa h];exact pC l t
theorem Q5:∀(n t:Nat),(EW n).get t=if t<n then some .bot else none
 |0,t=>aq.get_nil t
 |n+1,t=>by
  show((EW n).set n (some .bot)).get t=_;rw [aq.fU,Q5 n t];by_cases h:n=t
  .subst h;simp
  .rw [if_neg h];by_cases h2:t<n
   .rw [if_pos h2,if_pos (by omega)]
   .rw [if_neg h2,if_neg (by omega)]
theorem JV {T:aq aa} {K:Prop}:∀{l:List (Nat×aa)},EY σ T K l->K/\∀p∈l,vI σ ((T.get p.1).getD (.raw undef)) p.2
 |[],h=>⟨h,fun _ h=>by cases h⟩
 |p::l,h=>by
  obtain⟨h1,h2⟩:=JV h.2;refine⟨h1,fun q hq=> ?_⟩;rcases ep.1 hq with rfl |hq
  .exact h.1
  .exact h2 q hq
theorem li {K:Prop}:∀{l:List (Nat×fG)},Cb P σ H K l->K/\∀p∈l,zV P σ H p
 |[],h=>⟨h,fun _ h=>by cases h⟩
 |p::l,h=>by
  obtain⟨h1,h2⟩:=li h.2;refine⟨h1,fun q hq=> ?_⟩;rcases ep.1 hq with rfl |hq
  .exact h.1
  .exact h2 q hq
theorem Cc {next:Nat}:∀{σ:Ren},vJ σ next=true->∀{j i:Nat} {m:Option Nat},look σ j=some (i,m)->64<=j/\j<next
 |[],_,j,i,m,h=>by cases h
 |p::l,ho,j,i,m,h=>by
  simp only [vJ,ae]at ho;obtain⟨h1,h2,_,h4⟩:=ho;unfold look at h;cases hb:Nat.beq p.1 j with
  |true=>
   have:=ac hb;subst this;exact⟨bS h1,bS h2⟩
  |false=>rw [hb]at h;exact Cc h4 h
theorem Q6:∀{σ:Ren} {j i:Nat} {m:Option Nat},look σ j=some (i,m)->(j,i,m)∈σ
 |[],j,i,m,h=>by cases h
 |p::l,j,i,m,h=>by
  unfold look at h;cases hb:Nat.beq p.1 j with
  |true=>
   rw [hb]at h;have:=ac hb;subst this;have e:=jQ h;rw [<-e];exact kK
  |false=>rw [hb]at h;exact j8 _ (Q6 h)
theorem Q7 {next:Nat}:∀{σ:Ren},vJ σ next=true->∀{j j' i:Nat} {m m':Option Nat},look σ j=some (i,m)->look σ j'=some (i,m')->j=j'
 |[],_,j,j',i,m,m',h,_=>by cases h
 |p::l,ho,j,j',i,m,m',h,h'=>by
  simp only [vJ,ae]at ho;obtain⟨_,_,h3,h4⟩:=ho;have key:∀{x:Nat} {mx:Option Nat},look l x=some (i,mx)->p.2.1≠i:=fun hx e=>by
   have:=List.all_eq_true.1 h3 _ (Q6 hx);rw [e]at this;simp at this
  unfold look at h h';cases hb:Nat.beq p.1 j<;>cases hb':Nat.beq p.1 j'<;>rw [hb]at h<;>rw [hb']at h'<;>simp only [cond_true,cond_false]at h h'
  .exact Q7 h4 h h'
  .exact absurd (congrArg Prod.fst (jQ h')) (key h)
  .exact absurd (congrArg Prod.fst (jQ h)) (key h')
  .rw [<-ac hb,<-ac hb']
theorem JW {j i b c:Nat} {mode:Option Nat} (hl:look σ j=some (i,mode)) (jz:64<=j) (hr:ρ i=some (b,c)):ren σ ρ j=some (b,mode.getD c):=by
 show(if j<64 then ρ j else _)=_;rw [if_neg (by omega),hl];simp only [hr]
theorem aba {e:TypeId} {t:av} {xs:List t.den} {k:bq} (h:ba e t xs=some k):k= .own e t xs:=by
 cases xs with
 |nil=>cases h
 |cons x l=>cases h;rfl
theorem Q8 {mode:Option Nat} {e:TypeId} {t:av} {xs:List t.den} {i j:Nat} (h:rM P mode (H.get i) e t xs) (hH:bf P B ρ H w) (hl:look σ j=some (i,mode)) (jz:64<=j):
  ∃k b c o,H.get i=some k/\ρ i=some (b,c)/\w.heap[b]? =some o/\ren σ ρ j=some (b,mode.getD c)/\gF P (ren σ ρ) j (.own e t xs) o/\k.eL=false/\(k.eL=false->B<=b):=by
 unfold rM at h;split at h
 .rename_i e' u ys hi;obtain⟨h1,h2⟩:=jc h;have h1:=ac h1;obtain⟨e0,h2⟩:=px h2;subst h1;subst e0;subst h2;obtain⟨b,c,o,g1,g2,⟨⟨zs,fz,k1,k2,dF,mA,oS⟩,xD,E0⟩,g4⟩:=hH.blk i _ hi;have hr:=JW hl jz g1;refine⟨_,b,c,o,hi,g1,g2,hr,⟨⟨zs,fz,k1,k2,aF.EZ dF,mA,fun hx=> ?_⟩,xD,E0⟩,rfl,g4⟩;obtain⟨b',c',q1,aO⟩:=oS hx;rw [g1]at q1;cases q1;exact⟨b,c,hr,aO⟩
 .rename_i e' cs PA m hi;obtain⟨h1,h2,h3⟩:=jc h;simp only [ae]at h1;obtain⟨h1,h4,h5⟩:=h1;have h1:=ac h1;have h4:=ac h4;have h5:=bS h5;subst h1;subst h2;obtain⟨b,c,o,g1,g2,⟨zs,fz,k1,k2,dF,mA,oS⟩,g4⟩:=hH.blk i _ hi;have hr:=JW hl jz g1;refine⟨_,b,c,o,hi,g1,g2,hr,⟨⟨zs,fz,k1,k2,aF.EZ dF,(fun hx=>by cases hx),fun _=> ?_⟩,h4,h5⟩,rfl,g4⟩;split at h3
  .subst h3;exact⟨b,_,hr,by rw [mA rfl,t.ig,h4];rfl⟩
  .obtain⟨b',c',q1,aO⟩:=oS rfl;rw [g1]at q1;cases q1;exact⟨b,c,hr,aO⟩
  .exact h3.elim
 .exact h.elim
theorem Q9 (hH:bf P B ρ H w) {s:bC} (hr:vJ σ s.next=true) (he:∀p∈s.bF,zV P σ H p) {j:Nat} {k':bq} (hj:s.H.get j=some k'):
  ∃i mode k b c o,look σ j=some (i,mode)/\64<=j/\j<s.next/\H.get i=some k/\ρ i=some (b,c)/\w.heap[b]? =some o/\ren σ ρ j=some (b,mode.getD c)/\gF P (ren σ ρ) j k' o/\k'.eL=k.eL/\(k.eL=false->B<=b):=by
 have hj:(zT .nil s.bF).get j=some k':=hj;rw [pC]at hj;split at hj
 .rename_i p hp;have hm:=List.mem_of_find?_eq_some hp;have abb:p.1=j:=ac (List.find?_some (p:=fun(q:Nat×fG)=>Nat.beq q.1 j) hp);have fM:=he p hm;unfold zV at fM;rw [abb]at fM;split at fM
  .split at fM
   .rename_i e t xs hp2;rw [hp2,fM]at hj;cases hj
   .exact fM.elim
  .rename_i i mode hl;obtain⟨l1,l2⟩:=Cc hr hl;refine⟨i,mode, ?_⟩;split at fM
   .rename_i e t xs hp2;rw [hp2]at hj;have fM:rM P mode (H.get i) e t xs:=by
     unfold pw at fM;split at fM
     .split at fM
      .subst fM;cases hj
      .exact fM.elim
     .rename_i hi;rw [hi];exact fM
    obtain rfl:=aba hj;obtain⟨k,b,c,o,q1,aO,bV,en,qq,qs,qt⟩:=Q8 fM hH hl l1;exact⟨k,b,c,o,hl,l1,l2,q1,aO,bV,en,qq,qs.symm,qt⟩
   .rename_i e t xs hp2;rw [hp2]at hj;cases hj;obtain⟨k,b,c,o,q1,aO,bV,en,qq,qs,qt⟩:=Q8 fM hH hl l1;exact⟨k,b,c,o,hl,l1,l2,q1,aO,bV,en,qq,qs.symm,qt⟩
   .rename_i e cs x f r hp2;rw [hp2]at hj;cases hj;split at fM
    .rename_i e' cs' x' f' r' hi;obtain⟨h1,h2⟩:=jc fM;simp only [ae,gT]at h1;obtain⟨h1,h3,h4,h5⟩:=h1;have h1:=ac h1;subst h1;subst h3;subst h4;subst h5;obtain⟨b,c,o,g1,g2,⟨zs,fz,k1,k2,dF,mA,oS⟩,g4⟩:=hH.blk i _ hi;have gI:=JW hl l1 g1;have hd:=ik (fun j p hq=>(Cc hr (j:=j) (i:=p.1) (m:=p.2) hq).1) h2 dF;have hlen:cs'.length=cs.length:=by
      have e1:=dF.length;have e2:=hd.length;omega
     refine⟨_,b,c,o,hl,l1,l2,hi,g1,g2,gI,⟨zs,fz,k1,k2,by rw [<-hlen];exact hd,fun hx=>by rw [mA hx,hlen],fun hx=> ?_⟩,rfl,g4⟩;obtain⟨b',c',q1,aO⟩:=oS hx;rw [g1]at q1;cases q1;exact⟨b,c,gI,aO⟩
    .exact fM.elim
   .exact fM.elim
 .rw [aq.get_nil]at hj;cases hj
theorem abc {n:Nat} {T:aq aa} {a:Act} {s:bC} (aQ:ey P B ρ n T H a w) (h:fit P σ n T H s):ey P B (ren σ ρ) n s.T s.H a w/\∀i,s.next<=i->ren σ ρ i=none:=by
 obtain⟨h1,h2⟩:=jc h;simp only [ae]at h1;obtain⟨h1,h3,h4,h5,h6⟩:=h1;have h1:=ac h1;have h6:=bS h6;obtain⟨h7,h8⟩:=JV h2;obtain⟨_,h9⟩:=li h7;have old:=fun {j:Nat} {k':bq} (hj:s.H.get j=some k')=>Q9 aQ.H h3 h9 hj
 refine⟨⟨⟨aQ.T.size,fun t=> ?_⟩,⟨fun j k' hj=> ?_,fun j1 j2 k1 k2 b c1 c2 abd hj2 r1 r2=> ?_,fun j k' hj=> ?_,aQ.H.base,fun b A hb=>⟨(aQ.H.fz b A hb).1,fun j k' c hj hr=> ?_⟩⟩,⟨fun g hg=> ?_,aQ.G.zC⟩⟩,fun i hi=> ?_⟩
 .have e:s.T=EX (EW s.n) s.sl:=rfl;rw [e,Q4];split
  .rename_i p hp;have hm:=List.mem_of_find?_eq_some hp;have hpt:p.1=t:=ac (List.find?_some (p:=fun(q:Nat×aa)=>Nat.beq q.1 t) hp);have:=aQ.T.get p.1;rw [hpt]at this;have hv:=h8 p hm;rw [hpt]at hv;exact JU (fun j q hq=>(Cc h3 (j:=j) (i:=q.1) (m:=q.2) hq).1) hv this
  .rw [Q5,h1];by_cases ht:t<n
   .rw [if_pos ht];exact .bot _
   .rw [if_neg ht];have:a.tmps.getD t undef=undef:=by
     rw [Array.getD_eq_getD_getElem?,Array.getElem?_eq_none (by rw [aQ.T.size];omega)];rfl
    rw [this];exact .raw _
 .obtain⟨i,mode,k,b,c,o,q1,aO,bV,en,qq,qs,qt,JX,Cd,JY⟩:=old hj;exact⟨b,_,o,qt,qs,JX,fun e=>JY (Cd ▸ e)⟩
 .obtain⟨i1,m1,abe,b1,d1,o1,p1,p2,p3,dY,kg,oY,xU,_⟩:=old abd;obtain⟨i2,m2,abf,b2,d2,o2,q1,aO,bV,en,qq,qs,qt,_⟩:=old hj2;rw [xU]at r1;cases r1;rw [qt]at r2;cases r2;have:=aQ.H.inj i1 i2 abe abf b d1 d2 dY en kg qq;subst this;exact Q7 h3 p1 q1
 .obtain⟨i,mode,k,b,c,o,q1,aO,bV,_⟩:=old hj;exact bV
 .obtain⟨i,mode,k,b',c',o,q1,aO,bV,en,qq,qs,qt,JX,Cd,JY⟩:=old hj;rw [qt]at hr;cases hr;rw [Cd];exact(aQ.H.fz b A hb).2 i k c' en qq
 .obtain⟨c,hc⟩:=aQ.G.at' g hg;refine⟨c, ?_⟩;show(if g<64 then ρ g else _)=_;rw [if_pos hg];exact hc
 .show(if i<64 then ρ i else _)=_;rw [if_neg (by omega)];cases hl:look σ i with
  |none=>rfl
  |some p=>exact absurd (Cc h3 (j:=i) (i:=p.1) (m:=p.2) hl).2 (by omega)
theorem Ra {n:Nat} {T:aq aa} {a:Act} {s:bC} (aQ:ey P B ρ n T H a w) (h:fit P σ n T H s) {b:Nat} (hb:Own (ren σ ρ) s.H b):Own ρ H b:=by
 obtain⟨h1,h2⟩:=jc h;simp only [ae]at h1;obtain⟨_,h3,_⟩:=h1;obtain⟨h7,_⟩:=JV h2;obtain⟨_,h9⟩:=li h7;obtain⟨j,k',c',hj,hro,hr⟩:=hb;obtain⟨i,mode,k,b',d,o,q1,aO,bV,en,qq,qs,qt,JX,Cd,JY⟩:=Q9 aQ.H h3 h9 hj;rw [qt]at hr;cases hr;exact⟨i,k,_,en,by rw [<-hro,Cd],qq⟩
end
end
end
end Go.Proofs.YtibikmmdbdlafaaGreatDoor.Sv
