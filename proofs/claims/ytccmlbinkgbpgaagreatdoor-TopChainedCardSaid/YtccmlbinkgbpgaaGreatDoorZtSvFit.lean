/- The runner over an abstract memory: a closed call comes true in every world. -/
import Derived.Test.YtccmlbinkgbpgaaGreatDoorZtSvDraw6
namespace Go.Proofs.YtccmlbinkgbpgaaGreatDoor.Sv
open Go.RowKit
def okv (r:VR):Bool:=match r with | .ok (.raw (.bool b)) _=>b|_=>false
noncomputable def H64:AHeap:={m:= .nil,next:=64}
end Go.Proofs.YtccmlbinkgbpgaaGreatDoor.Sv
/- The runner over an abstract memory, with data that are not known: its tests are gathered as it goes: definitions. -/
namespace Go.Proofs.YtccmlbinkgbpgaaGreatDoor.Sv
noncomputable section
inductive Tst (α:Type) where
 |ret (a:α)
 |must (b:Bool) (k:Tst α)
 |ask (b:Bool) (k:Bool→Tst α)
 |opt (b:Bool) (k l:Tst α)
def Tst.gr {α:Type}:Tst α→Option α
 | .ret a=>some a
 | .must b k=>cond b k.gr none
 | .ask b k=>(k b).gr
 | .opt b k l=>cond b k.gr l.gr
def Tst.bind {α β:Type} (x:Tst α) (f:α→Tst β):Tst β:=match x with
 | .ret a=>f a
 | .must b k=> .must b (k.bind f)
 | .ask b k=> .ask b fun c=>(k c).bind f
 | .opt b k l=> .opt b (k.bind f) (l.bind f)
def Tst.path {α:Type}:Tst α→List Bool→(α→Prop)→Prop
 | .ret a,_,Q=>Q a
 | .must b k,D,Q=>b=true∧k.path D Q
 | .ask b k,[],Q=>(k b).path [] Q
 | .ask b k,c::D,Q=>b=c∧(k c).path D Q
 | .opt b k _,D,Q=>b=true∧k.path D Q
def Tst.pathW {α:Type}:Tst α→List Bool→(α→Prop)→Prop
 | .ret a,_,Q=>Q a
 | .must b k,D,Q=>b=true∧k.pathW D Q
 | .ask b k,[],Q=>(k b).pathW [] Q
 | .ask b k,c::D,Q=>b=c∧(k c).pathW D Q
 | .opt b _ l,D,Q=>b=false∧l.pathW D Q
theorem Tst.gr_bind {α β:Type}:∀(x:Tst α) (f:α→Tst β),(x.bind f).gr=x.gr.bind fun a=>(f a).gr
 | .ret a,f=>rfl
 | .must b k,f=>by cases b<;>simp [Tst.bind,Tst.gr,Tst.gr_bind k f]
 | .ask b k,f=>by simp [Tst.bind,Tst.gr,Tst.gr_bind (k b) f]
 | .opt b k l,f=>by cases b<;>simp [Tst.bind,Tst.gr,Tst.gr_bind k f,Tst.gr_bind l f]
theorem Tst.path_gr {α:Type} {Q:α→Prop}:∀(x:Tst α) (D:List Bool),x.path D Q→∃a,x.gr=some a∧Q a
 | .ret a,D,h=>⟨a,rfl,h⟩
 | .must b k,D,h=>by
   obtain⟨h1,h2⟩:=h
   subst h1
   exact path_gr k D h2
 | .ask b k,[],h=>path_gr (k b) [] h
 | .ask b k,c::D,h=>by
   obtain⟨h1,h2⟩:=h
   subst h1
   exact path_gr (k b) D h2
 | .opt b k l,D,h=>by
   obtain⟨h1,h2⟩:=h
   subst h1
   exact path_gr k D h2
theorem Tst.pathW_gr {α:Type} {Q:α→Prop}:∀(x:Tst α) (D:List Bool),x.pathW D Q→∃a,x.gr=some a∧Q a
 | .ret a,D,h=>⟨a,rfl,h⟩
 | .must b k,D,h=>by
   obtain⟨h1,h2⟩:=h
   subst h1
   exact pathW_gr k D h2
 | .ask b k,[],h=>pathW_gr (k b) [] h
 | .ask b k,c::D,h=>by
   obtain⟨h1,h2⟩:=h
   subst h1
   exact pathW_gr (k b) D h2
 | .opt b k l,D,h=>by
   obtain⟨h1,h2⟩:=h
   subst h1
   exact pathW_gr l D h2
abbrev VHandler:=Program→Oper→Ev→AHeap→Tst VR
def fits (k:IntKind) (r:Int):Bool:=decide (k.min≤r)&&decide (r≤k.max)
def vInt (k:IntKind) (r:Int) (H:AHeap):Tst VR:=match k.signed with
 |true=> .opt (fits k r) (.ret (.ok (.raw (.int k r)) H)) (.ret (.ok (.raw (.int k (k.wrap r))) H))
 |false=> .ret (.ok (.raw (.int k (k.wrap r))) H)
def bin2 (op:BinOp) (k:IntKind) (a b:Int) (H:AHeap):Option (Tst VR):=match op with
 | .add=>some (vInt k (a+b) H)
 | .sub=>some (vInt k (a-b) H)
 | .mul=>some (vInt k (a*b) H)
 | .quo=>some (.must (decide (b≠0)) (vInt k (a.tdiv b) H))
 | .rem=>some (.must (decide (b≠0)) (.ret (.ok (.raw (.int k (a.tmod b))) H)))
 | .eql=>some (.ret (.ok (.raw (.bool (a==b))) H))
 | .neq=>some (.ret (.ok (.raw (.bool (a != b))) H))
 | .lss=>some (.ret (.ok (.raw (.bool (decide (a<b)))) H))
 | .leq=>some (.ret (.ok (.raw (.bool (decide (a≤b)))) H))
 | .gtr=>some (.ret (.ok (.raw (.bool (decide (a>b)))) H))
 | .geq=>some (.ret (.ok (.raw (.bool (decide (a≥b)))) H))
 |_=>none
def vBin (op:BinOp) (t:TypeId) (x y:Operand) (yt:TypeId):VHandler:=fun P o ev H=>match avW (ev x),avW (ev y)with
 | .int k a, .int k' b=>(match k==k' with
   |true=>(match bin2 op k a b H with |some r=>r|none=> .ret (vr H (pInt P o ev op k k' a b)))
   |false=> .ret .no)
 |_,_=> .ret (hBin op t x y yt P o ev H)
def vPick (c a b:Operand):VHandler:=fun _ _ ev H=>match boolV (ev c)with
 | .mk q=> .ask q fun r=>match r with |true=> .ret (.ok (ev a) H)|false=> .ret (.ok (ev b) H)
 | .no=> .ret .no
def vIdx (v:AV) (f:Nat→Tst VR):Tst VR:=match avW v with
 | .int _ z=> .must (decide (0≤z)) (f z.toNat)
 | .no=> .ret .no
def vPlace (k s:Nat) (x:AV) (H:AHeap):Tst VR:=match x with
 | .lst _ t xs=>(match Nat.beq t.size s with
   |true=> .must (decide (k<xs.length)) (.ret (.ok (.lptr t xs k 0) H))
   |false=> .ret .no)
 | .osl e t i k0 len _=>(match Nat.beq t.size s with
   |true=> .must (decide (k<len)) (.ret (.ok (.optr e t i (k0+k) 0) H))
   |false=> .ret .no)
 |_=> .ret .no
def isTyped:AV→Bool
 | .lst _ _ _=>true
 | .osl _ _ _ _ _ _=>true
 |_=>false
def vIndexAddr (t:TypeId) (x ix:Operand):VHandler:=fun P o ev H=>match isTyped (ev x),tv P t with
 |true, .sl s=>vIdx (ev ix) fun k=>vPlace k s (ev x) H
 |_,_=> .ret (hIndexAddr t x ix P o ev H)
def vLoadAt (P:Program) (t:TypeId) (x:AV) (H:AHeap) (d:VR):Tst VR:=match x with
 | .optr e u i k off=> .must (ownHas e u (H.get i) k) (.ret (vr H (aload P t (elemAt u (blkXs u (H.get i)) k) off)))
 |_=> .ret d
def vLoad (t:TypeId) (x:Operand):VHandler:=fun P o ev H=>vLoadAt P t (ev x) H (hLoad t x P o ev H)
def vStoreAt (P:Program) (t:TypeId) (x y:AV) (H:AHeap) (d:VR):Tst VR:=match x with
 | .optr e u i k off=> .must (ownHas e u (H.get i) k) (match allOne y.cells&&sizeIs P t y.cells.length with
   |true=>(match(aput (elemAt u (blkXs u (H.get i)) k) off y.cells).bind u.read with
    |some d=> .ret (.ok (.raw undef) (H.set i (.own e u ((blkXs u (H.get i)).set k d))))
    |none=> .ret .no)
   |false=> .ret .no)
 |_=> .ret d
def vStore (t:TypeId) (x y:Operand):VHandler:=fun P o ev H=>vStoreAt P t (ev x) (ev y) H (hStore t x y P o ev H)
def vNum (v:Option AV) (d:Nat) (f:Nat→Tst VR):Tst VR:=match v with
 |none=>f d
 |some v=>vIdx v f
def vPart (P:Program) (e:TypeId) (s n:Nat) (lo hi mx:Option AV) (_:AHeap) (k:Nat→Nat→Tst VR):Tst VR:=
 match mx with
 |none=>(match sizeB P e with
  |some s'=>(match Nat.beq s s' with
   |true=>vNum hi n fun h=>vNum lo 0 fun l=> .must (decide (l≤h)) (.must (decide (h≤n)) (k l h))
   |false=> .ret .no)
  |none=> .ret .no)
 |_=> .ret .no
def vSliceOf (P:Program) (t:TypeId) (x:AV) (lo hi mx:Option AV) (H:AHeap) (d:VR):Tst VR:=match P.underlying t,x with
 |some (.slice e), .lst _ u xs=>vPart P e u.size xs.length lo hi mx H fun l h=> .ret (.ok (.lst false u ((xs.take h).drop l)) H)
 |some (.slice e), .osl e' u i k len cap=>vPart P e u.size len lo hi mx H fun l h=> .ask (Nat.beq l 0) fun c=>match c with
  |true=> .ret (.ok (.osl e' u i k h cap) H)
  |false=> .ask (decide (l<h)) fun c=>match c with
   |true=> .ret (.ok (.osl e' u i (k+l) (h-l) .any) H)
   |false=> .ret (.ok (.lst false u []) H)
 |_,_=> .ret d
def vSlice (t:TypeId) (x:Operand) (lo hi mx:Option Operand):VHandler:=fun P o ev H=>match isTyped (ev x)with
 |true=>vSliceOf P t (ev x) (lo.map ev) (hi.map ev) (mx.map ev) H .no
 |false=> .ret (hSlice t x lo hi mx P o ev H)
def vTsrc (H:AHeap) (ty:Ty) (s:Nat) (x:AV) (f:List ty.den→Nat→Tst VR):Tst VR:=match x with
 | .osl e u j k len _=>(match decide (u=ty)with
   |true=> .must (Nat.beq len 0||ownHas e ty (H.get j) (k+len-1)) (f (((blkXs ty (H.get j)).drop k).take len) len)
   |false=> .ret .no)
 |x=>match tsrc H ty s x with |some (ds,n)=>f ds n|none=> .ret .no
def vAppendAt (P:Program) (t:TypeId) (e:TypeId) (ty:Ty) (i k len:Nat) (cap:Cap) (sk:Bool) (x:AV) (H:AHeap):Tst VR:=
 match elemB P t with
 |some el=>(match P.info? el with
  |some inf=>(match inf.zero with
   |some z=>(match Nat.beq z.cells.size inf.size&&Nat.ble 1 inf.size&&Nat.beq el e&&Nat.beq ty.size inf.size with
    |true=> .must (Nat.beq k 0) (vTsrc H ty inf.size x fun ds n=> .ask (Nat.beq n 0) fun c=>match c with
     |true=> .ret (.ok (.osl e ty i k len cap) (cond sk H.skip H))
     |false=> .must (blkIs e ty (H.get i) len cap) (.must (bounded (len+n) inf.bytes)
       (.ret (.ok (.osl e ty H.next 0 (len+n) .full) ((H.drop i).new (.own e ty (blkXs ty (H.get i)++ds)))))))
    |false=> .ret .no)
   |none=> .ret .no)
  |none=> .ret .no)
 |none=> .ret .no
def vAppend (P:Program) (t:TypeId) (s x:AV) (H:AHeap) (d:VR):Tst VR:=match s with
 | .osl e ty i k len cap=>(match thaw ty x H with
   |some (b,H')=> .must b (vAppendAt P t e ty i k len cap false x H')
   |none=>vAppendAt P t e ty i k len cap false x H)
 |s=>match x with
  | .lst z ty ys=>(match emptyS s with
    |true=>(match elemB P t with
     |some e=>vAppendAt P t e ty H.next 0 0 (.known 0) true (.lst z ty ys) H
     |none=> .ret .no)
    |false=> .ret .no)
  |_=> .ret d
def vCall (c:Call):VHandler:=fun P o ev H=>match c.callee,c.args.toList.map ev,c.argTypes.toList with
 | .builtin .append,[s,x],[t,t']=>(match P.underlying t' with
   |some (.slice _)=>vAppend P t s x H (hCall c P o ev H)
   |_=> .ret (hCall c P o ev H))
 |_,_,_=> .ret (hCall c P o ev H)
def vMake (t:TypeId) (l c:Operand):VHandler:=fun P _ ev H=>match elemB P t with
 |some e=>(match P.info? e with
  |some inf=>(match inf.zero with
   |some z=>vIdx (ev l) fun n=>vIdx (ev c) fun m=>(match Nat.ble 1 inf.size&&Nat.beq z.cells.size inf.size with
    |true=> .must (decide (n≤m)) (.must (bounded m inf.bytes) (.ret (.ok (.slice H.next 0 n (.known m)) (H.new (.cells e (List.replicate m (rawL z.cells)).flatten true false false)))))
    |false=> .ret .no)
   |none=> .ret .no)
  |none=> .ret .no)
 |none=> .ret .no
def byteI (s:ByteArray) (k:Nat):Int:=((s.data.toList.getD k 0).toNat:Nat)
def strEq (a b:ByteArray):Bool:=decide (a.data.toList=b.data.toList)
def strV (v:AV):Option ByteArray:=match v with
 | .raw (.string s)=>some s
 |_=>none
def vIndexS (t:TypeId) (x ix:Operand):VHandler:=fun P o ev H=>match strV (ev x)with
 |some s=>(match P.underlying t with
  |some .string=>vIdx (ev ix) fun k=> .must (decide (k<s.size)) (.ret (.ok (.raw (.int .u8 (byteI s k))) H))
  |_=> .ret .no)
 |none=> .ret (hIndex t x ix P o ev H)
def vSliceS (P:Program) (t:TypeId) (s:ByteArray) (lo hi mx:Option AV) (H:AHeap):Tst VR:=match P.underlying t,mx with
 |some .string,none=>vNum hi s.size fun h=>vNum lo 0 fun l=> .must (decide (l≤h)) (.must (decide (h≤s.size)) (.ret (.ok (.raw (.string (s.extract l h))) H)))
 |_,_=> .ret .no
def vSliceX (t:TypeId) (x:Operand) (lo hi mx:Option Operand):VHandler:=fun P o ev H=>match strV (ev x)with
 |some s=>vSliceS P t s (lo.map ev) (hi.map ev) (mx.map ev) H
 |none=>vSlice t x lo hi mx P o ev H
def strBin (op:BinOp) (a b:ByteArray) (H:AHeap) (d:VR):Tst VR:=match op with
 | .add=> .must (decide (a.size+b.size≤9223372036854775807)) (.ret (.ok (.raw (.string (a++b))) H))
 | .eql=> .ret (.ok (.raw (.bool (strEq a b))) H)
 | .neq=> .ret (.ok (.raw (.bool (!strEq a b))) H)
 |_=> .ret d
def isShift:BinOp→Bool
 | .shl=>true
 | .shr=>true
 |_=>false
def vShift (op:BinOp) (k:IntKind) (a b:Int) (H:AHeap):Tst VR:= .must (decide (0≤b)) (match op with
 | .shl=> .ret (.ok (.raw (.int k (k.wrap (a*2^(min b.toNat k.bits))))) H)
 | .shr=> .ret (.ok (.raw (.int k (a.fdiv (2^(min b.toNat k.bits))))) H)
 |_=> .ret .no)
def vBinX (op:BinOp) (t:TypeId) (x y:Operand) (yt:TypeId):VHandler:=fun P o ev H=>match strV (ev x),strV (ev y)with
 |some a,some b=>strBin op a b H (hBin op t x y yt P o ev H)
 |_,_=>(match isShift op,avW (ev x),avW (ev y)with
  |true, .int k a, .int _ b=>vShift op k a b H
  |_,_,_=>vBin op t x y yt P o ev H)
def vop (op:Op):VHandler:=match op with
 | .binOp op t x y yt=>vBinX op t x y yt
 | .pick c a b=>vPick c a b
 | .indexAddr t x ix=>vIndexAddr t x ix
 | .load t x=>vLoad t x
 | .store t x y=>vStore t x y
 | .slice t x lo hi mx=>vSliceX t x lo hi mx
 | .index t x ix=>vIndexS t x ix
 | .call c=>vCall c
 | .makeSlice t l c=>vMake t l c
 |op=>fun P o ev H=> .ret (aop op P o ev H)
def Ref (t:Tst VR) (r:VR):Prop:=∀a,t.gr=some a→a≠ .no→r=a
theorem Ref.ret {r:VR}:Ref (.ret r) r:=fun a h _=>by cases h;rfl
theorem Ref.no {r:VR}:Ref (.ret .no) r:=fun a h hn=>by cases h;exact absurd rfl hn
theorem Ref.must {b:Bool} {k:Tst VR} {r:VR} (h:b=true→Ref k r):Ref (.must b k) r:=fun a ha hn=>by
 cases b with
 |false=>cases ha
 |true=>exact h rfl a ha hn
theorem Ref.opt {b:Bool} {k l:Tst VR} {r:VR} (h:b=true→Ref k r) (g:b=false→Ref l r):Ref (.opt b k l) r:=fun a ha hn=>by
 cases b with
 |false=>exact g rfl a ha hn
 |true=>exact h rfl a ha hn
theorem Ref.ask {b:Bool} {k:Bool→Tst VR} {r:VR} (h:Ref (k b) r):Ref (.ask b k) r:=h
section
variable {P:Program} {o:Oper} {ev:Ev} {H:AHeap}
theorem wrap_fits {k:IntKind} {r:Int} (h:fits k r=true):k.wrap r=r:=by
 unfold fits at h
 rw [Bool.and_eq_true]at h
 have h1:=of_decide_eq_true h.1
 have h2:=of_decide_eq_true h.2
 cases k<;>simp [IntKind.wrap,IntKind.min,IntKind.max,IntKind.signed,IntKind.bits]at h1 h2 ⊢ <;>omega
theorem aint_arith {op:BinOp} {k:IntKind} {a b r:Int} (hop:op= .add∧r=a+b∨op= .sub∧r=a-b∨op= .mul∧r=a*b):aint P op k a b=some (.int k (k.wrap r)):=by
 rcases hop with⟨rfl,rfl⟩|⟨rfl,rfl⟩|⟨rfl,rfl⟩<;>rfl
theorem vInt_ref {k:IntKind} {r:Int} {d:VR} (h:d= .ok (.raw (.int k (k.wrap r))) H):Ref (vInt k r H) d:=by
 subst h
 unfold vInt
 split
 ·exact .opt (fun hb=>by rw [wrap_fits hb];exact .ret) fun _=> .ret
 ·exact .ret
theorem hBin_int {op:BinOp} {t:TypeId} {x y:Operand} {yt:TypeId} {k k':IntKind} {a b:Int} (hx:avW (ev x)= .int k a) (hy:avW (ev y)= .int k' b):
  hBin op t x y yt P o ev H=(match fastInt op k k' a b with |some v=> .ok v H|none=>vr H (pInt P o ev op k k' a b)):=by
 unfold hBin
 rw [hx,hy]
 show(@Option.rec AV (fun _=>VR) (vr H (pInt P o ev op k k' a b)) (fun v=> .ok v H) (fastInt op k k' a b))=_
 cases fastInt op k k' a b<;>rfl
theorem pInt_some {op:BinOp} {k:IntKind} {a b:Int} {v:Value} (h:aint P op k a b=some v):pInt P o ev op k k a b=some (.raw v):=by
 unfold pInt
 rw [h];simp
theorem bin2_ref {op:BinOp} {t:TypeId} {x y:Operand} {yt:TypeId} {k:IntKind} {a b:Int} {r:Tst VR} (hx:avW (ev x)= .int k a) (hy:avW (ev y)= .int k b) (h:bin2 op k a b H=some r):Ref r (hBin op t x y yt P o ev H):=by
 rw [hBin_int hx hy]
 have arith:∀c:Int,(op= .add∧c=a+b∨op= .sub∧c=a-b∨op= .mul∧c=a*b)→r=vInt k c H→Ref r (match fastInt op k k a b with |some v=> .ok v H|none=>vr H (pInt P o ev op k k a b)):=by
  intro c hc hr
  subst hr
  cases hf:fastInt op k k a b with
  |none=>simp only;rw [pInt_some (aint_arith hc)];exact vInt_ref rfl
  |some v=>
   obtain⟨m,n,rfl,_,rfl,rfl,hn⟩:=fastInt_some hf
   simp only
   have hs:∀{q:Nat},small q=some v→c=q→Ref (vInt .i64 c H) (.ok v H):=fun {q} h1 h2=>by
    obtain⟨h3,h4⟩:=small_some h1
    subst h2;subst h4
    unfold vInt
    refine .opt (fun _=> .ret) fun hf=> ?_
    have:fits .i64 (q:Int)=true:=by
     unfold fits
     rw [Bool.and_eq_true]
     exact⟨decide_eq_true (by show(-9223372036854775808:Int)≤_;omega),decide_eq_true (by show(q:Int)≤9223372036854775807;omega)⟩
    rw [this]at hf;cases hf
   rcases hc with⟨rfl,rfl⟩|⟨rfl,rfl⟩|⟨rfl,rfl⟩
   ·exact hs (q:=m+n) hn (by omega)
   ·have hn:(@Bool.rec (fun _=>Option AV) none (small (Nat.sub m n)) (Nat.ble n m))=some v:=hn
    cases hb:Nat.ble n m with
    |false=>rw [hb]at hn;cases hn
    |true=>
     rw [hb]at hn
     have hb:=Nat.le_of_ble_eq_true hb
     have e:Nat.sub m n=m-n:=rfl
     rw [e]at hn
     exact hs hn (by omega)
   ·cases hn
 have cmp:∀c:Bool,aint P op k a b=some (.bool c)→(∀m n:Nat,a=m→b=n→nBin op m n=some (.raw (.bool c))∨nBin op m n=none)→r= .ret (.ok (.raw (.bool c)) H)→Ref r (match fastInt op k k a b with |some v=> .ok v H|none=>vr H (pInt P o ev op k k a b)):=by
  intro c hc hn hr
  subst hr
  cases hf:fastInt op k k a b with
  |none=>simp only;rw [pInt_some hc];exact .ret
  |some v=>
   obtain⟨m,n,rfl,_,rfl,rfl,hv⟩:=fastInt_some hf
   simp only
   rcases hn m n rfl rfl with h1|h1<;>rw [h1]at hv
   ·cases hv;exact .ret
   ·cases hv
 cases op with
 |add=>cases h;exact arith _ (.inl ⟨rfl,rfl⟩) rfl
 |sub=>cases h;exact arith _ (.inr (.inl ⟨rfl,rfl⟩)) rfl
 |mul=>cases h;exact arith _ (.inr (.inr ⟨rfl,rfl⟩)) rfl
 |quo=>
  cases h
  refine .must fun hb=> ?_
  have hb:=of_decide_eq_true hb
  have hf:fastInt .quo k k a b=none:=by
   cases hf:fastInt .quo k k a b with
   |none=>rfl
   |some v=>obtain⟨m,n,_,_,_,_,hv⟩:=fastInt_some hf;cases hv
  rw [hf]
  simp only
  rw [pInt_some (v:= .int k (k.wrap (a.tdiv b))) (by unfold aint Op.intDiv;simp only [if_neg hb];rfl)]
  exact vInt_ref rfl
 |rem=>
  cases h
  refine .must fun hb=> ?_
  have hb:=of_decide_eq_true hb
  have hf:fastInt .rem k k a b=none:=by
   cases hf:fastInt .rem k k a b with
   |none=>rfl
   |some v=>obtain⟨m,n,_,_,_,_,hv⟩:=fastInt_some hf;cases hv
  rw [hf]
  simp only
  rw [pInt_some (v:= .int k (a.tmod b)) (by unfold aint Op.intDiv;simp only [if_neg hb];rfl)]
  exact .ret
 |and=>cases h
 |or=>cases h
 |xor=>cases h
 |shl=>cases h
 |shr=>cases h
 |andNot=>cases h
 |eql=>
  cases h
  refine cmp _ rfl (fun m n h1 h2=> .inl ?_) rfl
  subst h1;subst h2
  show some (AV.raw (.bool (Nat.beq m n)))=_
  congr 3
  rw [Bool.eq_iff_iff];simp;omega
 |neq=>
  cases h
  refine cmp _ rfl (fun m n h1 h2=> .inl ?_) rfl
  subst h1;subst h2
  show some (AV.raw (.bool (!(Nat.beq m n))))=_
  congr 3
  by_cases e:m=n
  ·subst e;simp
  ·rw [nbeq e];simp;omega
 |lss=>
  cases h
  refine cmp _ rfl (fun m n h1 h2=> .inl ?_) rfl
  subst h1;subst h2
  show some (AV.raw (.bool (Nat.ble (m+1) n)))=_
  rw [ble_dec]
  congr 3
  rw [Bool.eq_iff_iff,decide_eq_true_iff,decide_eq_true_iff];omega
 |leq=>
  cases h
  refine cmp _ rfl (fun m n h1 h2=> .inl ?_) rfl
  subst h1;subst h2
  show some (AV.raw (.bool (Nat.ble m n)))=_
  rw [ble_dec]
  congr 3
  rw [Bool.eq_iff_iff,decide_eq_true_iff,decide_eq_true_iff];omega
 |gtr=>
  cases h
  refine cmp _ rfl (fun m n h1 h2=> .inl ?_) rfl
  subst h1;subst h2
  show some (AV.raw (.bool (Nat.ble (n+1) m)))=_
  rw [ble_dec]
  congr 3
  rw [Bool.eq_iff_iff,decide_eq_true_iff,decide_eq_true_iff];omega
 |geq=>
  cases h
  refine cmp _ rfl (fun m n h1 h2=> .inl ?_) rfl
  subst h1;subst h2
  show some (AV.raw (.bool (Nat.ble n m)))=_
  rw [ble_dec]
  congr 3
  rw [Bool.eq_iff_iff,decide_eq_true_iff,decide_eq_true_iff];omega
theorem vBin_ref {op:BinOp} {t:TypeId} {x y:Operand} {yt:TypeId}:Ref (vBin op t x y yt P o ev H) (hBin op t x y yt P o ev H):=by
 unfold vBin
 split
 ·rename_i k a k' b hx hy
  split
  ·rename_i hk
   have hk:k=k':=by simpa using hk
   subst hk
   split
   ·rename_i r hr
    exact bin2_ref hx hy hr
   ·rename_i hn
    rw [hBin_int hx hy]
    cases hf:fastInt op k k a b with
    |none=>exact .ret
    |some v=>
     obtain⟨m,n,_,_,_,_,hv⟩:=fastInt_some hf
     cases op<;>first |(cases hn;done)|(change (none:Option AV)=some v at hv;cases hv)
  ·exact .no
 ·exact .ret
theorem vPick_ref {c a b:Operand}:Ref (vPick c a b P o ev H) (hPick c a b P o ev H):=by
 unfold vPick hPick
 cases boolV (ev c)with
 |no=>exact .no
 |mk q=>cases q<;>exact .ret
theorem vIdx_ref {v:AV} {f:Nat→Tst VR} {r:VR} (h:∀k,natV v= .mk k→Ref (f k) r):Ref (vIdx v f) r:=by
 unfold vIdx
 split
 ·rename_i k z hz
  refine .must fun hb=>h _ ?_
  have hb:=of_decide_eq_true hb
  unfold natV
  rw [hz]
  cases z with
  |ofNat m=>rfl
  |negSucc m=>exact absurd hb (by omega)
 ·exact .no
theorem vPlace_ref {k s:Nat} {x:AV}:Ref (vPlace k s x H) (xIdx k s x H):=by
 unfold vPlace xIdx
 split
 ·rename_i z t xs
  split
  ·rename_i hs
   refine .must fun hb=> ?_
   have hb:=of_decide_eq_true hb
   simp only [hs,Bool.true_and]
   rw [Nat.ble_eq_true_of_le (show k+1≤xs.length from hb)]
   exact .ret
  ·exact .no
 ·rename_i e t i k0 len cap
  split
  ·rename_i hs
   refine .must fun hb=> ?_
   have hb:=of_decide_eq_true hb
   simp only [hs,Bool.true_and]
   rw [Nat.ble_eq_true_of_le (show k+1≤len from hb)]
   exact .ret
  ·exact .no
 ·exact .no
theorem typed_views {v:AV} (h:isTyped v=true):ptrV v= .no∧sliceV v= .no:=by
 cases v<;>first |exact⟨rfl,rfl⟩|cases h
theorem vIndexAddr_ref {t:TypeId} {x ix:Operand}:Ref (vIndexAddr t x ix P o ev H) (hIndexAddr t x ix P o ev H):=by
 unfold vIndexAddr
 split
 ·rename_i s hx ht
  refine vIdx_ref fun k hk=> ?_
  unfold hIndexAddr
  simp only [hk,ht,(typed_views hx).2]
  exact vPlace_ref
 ·exact .ret
theorem vLoad_ref {t:TypeId} {x:Operand}:Ref (vLoad t x P o ev H) (hLoad t x P o ev H):=by
 unfold vLoad vLoadAt
 split
 ·rename_i e u i k off hx
  refine .must fun hb=> ?_
  unfold hLoad
  rw [hx]
  show Ref _ (xLoad P t (.optr e u i k off) H)
  unfold xLoad
  simp only [hb,cond_true]
  exact .ret
 ·exact .ret
theorem vStore_ref {t:TypeId} {x y:Operand}:Ref (vStore t x y P o ev H) (hStore t x y P o ev H):=by
 unfold vStore vStoreAt
 split
 ·rename_i e u i k off hx
  refine .must fun hb=> ?_
  unfold hStore
  rw [hx]
  show Ref _ (xStore P t (.optr e u i k off) (ev y) H)
  unfold xStore
  simp only [hb,cond_true]
  cases (allOne (ev y).cells&&sizeIs P t (ev y).cells.length)with
  |false=>exact .no
  |true=>
   simp only [cond_true]
   cases (aput (elemAt u (blkXs u (H.get i)) k) off (ev y).cells).bind u.read with
   |none=>exact .no
   |some d=>exact .ret
 ·exact .ret
theorem vNum_ref {v:Option AV} {d:Nat} {f:Nat→Tst VR} {r:VR} (h:∀k,numO v d=some k→Ref (f k) r):Ref (vNum v d f) r:=by
 unfold vNum
 split
 ·exact h _ rfl
 ·rename_i v
  exact vIdx_ref fun k hk=>h k (by show natO v=some k;unfold natO;rw [hk])
theorem vPart_ref {e:TypeId} {s n:Nat} {lo hi mx:Option AV} {k:Nat→Nat→Tst VR} {k2:Nat→Nat→AV} (h:∀l h,l≤h→h≤n→Ref (k l h) (.ok (k2 l h) H)):Ref (vPart P e s n lo hi mx H k) (vr H (xslice P e s n lo hi mx k2)):=by
 unfold vPart
 split
 ·split
  ·rename_i s' hs
   split
   ·rename_i hss
    refine vNum_ref fun hh hhi=>vNum_ref fun l hlo=> .must fun h1=> .must fun h2=> ?_
    have h1:=of_decide_eq_true h1
    have h2:=of_decide_eq_true h2
    unfold xslice
    simp only [hs,Option.bind_some,hhi,hlo,hss,Option.isNone_none,Bool.true_and,Nat.ble_eq_true_of_le h1,Nat.ble_eq_true_of_le h2,cond_true]
    exact h l hh h1 h2
   ·exact .no
  ·exact .no
 ·exact .no
theorem vSlice_ref {t:TypeId} {x:Operand} {lo hi mx:Option Operand}:Ref (vSlice t x lo hi mx P o ev H) (hSlice t x lo hi mx P o ev H):=by
 unfold vSlice
 split
 ·rename_i hx
  have hp:hSlice t x lo hi mx P o ev H=vr H (aslice P t (ev x) (lo.map ev) (hi.map ev) (mx.map ev)):=by
   unfold hSlice pSlice
   cases hv:ev x<;>first |rfl |(rw [hv]at hx;cases hx)
  rw [hp]
  unfold vSliceOf
  split
  ·rename_i e z u xs hu hxe
   unfold aslice
   rw [hu,hxe]
   refine vPart_ref fun l h h1 h2=> ?_
   cases hb:Nat.ble (l+1) h with
   |true=>exact .ret
   |false=>
    have:¬l+1≤h:=fun hh=>by rw [Nat.ble_eq_true_of_le hh]at hb;cases hb
    have e:(xs.take h).drop l=[]:=by rw [List.drop_eq_nil_iff];simp;omega
    rw [e];exact .ret
  ·rename_i e e' u i k len cap hu hxe
   unfold aslice
   rw [hu,hxe]
   refine vPart_ref fun l h h1 h2=> .ask ?_
   cases hb:Nat.beq l 0 with
   |true=>exact .ret
   |false=>
    refine .ask ?_
    by_cases hlt:l<h
    ·simp only [hlt,decide_true,cond_false,Nat.ble_eq_true_of_le (show l+1≤h from hlt),cond_true]
     exact .ret
    ·have hb2:Nat.ble (l+1) h=false:=by rw [ble_dec];exact decide_eq_false hlt
     simp only [hlt,decide_false,cond_false,hb2]
     exact .ret
  ·exact .no
 ·exact .ret
theorem vTsrc_ref {ty:Ty} {s:Nat} {x:AV} {f:List ty.den→Nat→Tst VR} {r:VR} (h:∀ds n,tsrc H ty s x=some (ds,n)→Ref (f ds n) r):Ref (vTsrc H ty s x f) r:=by
 unfold vTsrc
 split
 ·rename_i e u j k len cap
  split
  ·rename_i hu
   refine .must fun hb=>h _ _ ?_
   unfold tsrc
   simp only [hu,hb,Bool.true_and,cond_true]
  ·exact .no
 ·split
  ·rename_i ds n hs
   exact h ds n hs
  ·exact .no
theorem vAppendAt_ref {t e:TypeId} {ty:Ty} {i k len:Nat} {cap:Cap} {sk:Bool} {x:AV}:Ref (vAppendAt P t e ty i k len cap sk x H) (vr2 (tappend P t e ty i k len cap sk x H)):=by
  unfold vAppendAt
  split
  ·rename_i el hel
   split
   ·rename_i inf hinf
    split
    ·rename_i z hz
     split
     ·rename_i hc
      refine .must fun hk=>vTsrc_ref fun ds n hs=> .ask ?_
      unfold tappend
      simp only [hel,hinf,hz,Option.bind_some,hc,hk,Bool.true_and,cond_true,hs]
      cases Nat.beq n 0 with
      |true=>exact .ret
      |false=>
       refine .must fun h1=> .must fun h2=> ?_
       simp only [h1,h2,Bool.true_and,cond_true,cond_false]
       exact .ret
     ·exact .no
    ·exact .no
   ·exact .no
  ·exact .no
theorem vAppend_ref {t:TypeId} {s x:AV} {d:VR} (hd:d=vr2 (bappend P t s x H)):Ref (vAppend P t s x H d) (vr2 (bappend P t s x H)):=by
 unfold vAppend
 split
 ·rename_i e ty i k len cap
  have e0:bappend P t (.osl e ty i k len cap) x H=tappendF P t e ty i k len cap x H:=rfl
  rw [e0]
  unfold tappendF
  cases thaw ty x H with
  |none=>exact vAppendAt_ref
  |some p=>
   obtain⟨b,H'⟩:=p
   refine .must fun hb=> ?_
   subst hb
   exact vAppendAt_ref
 ·rename_i hn
  split
  ·rename_i z ty ys
   split
   ·rename_i he
    split
    ·rename_i e hel
     have:bappend P t s (.lst z ty ys) H=tappend P t e ty H.next 0 0 (.known 0) true (.lst z ty ys) H:=by
      unfold bappend
      split
      ·rename_i a1 a2 a3 a4 a5 a6
       exact absurd rfl (hn a1 a2 a3 a4 a5 a6)
      ·simp only [he,cond_true]
       unfold lappend
       rw [hel]
     rw [this]
     exact vAppendAt_ref
    ·exact .no
   ·exact .no
  ·subst hd;exact .ret
theorem vCall_ref {c:Call}:Ref (vCall c P o ev H) (hCall c P o ev H):=by
 unfold vCall
 split
 ·rename_i s x t t' hc ha ht
  split
  ·rename_i el hu
   have e:hCall c P o ev H=vr2 (bappend P t s x H):=by
    unfold hCall
    rw [hc]
    simp only [ha]
    unfold eBuiltin
    simp only [ht,hu]
   rw [e]
   exact vAppend_ref rfl
  ·exact .ret
 ·exact .ret
theorem vMake_ref {t:TypeId} {l c:Operand}:Ref (vMake t l c P o ev H) (hMakeSlice t l c P o ev H):=by
 unfold vMake
 split
 ·rename_i e he
  split
  ·rename_i inf hi
   split
   ·rename_i z hz
    refine vIdx_ref fun n hn=>vIdx_ref fun m hm=> ?_
    split
    ·rename_i hb
     refine .must fun h1=> .must fun h2=> ?_
     rw [Bool.and_eq_true]at hb
     have e1:natO (ev l)=some n:=by unfold natO;rw [hn]
     have e2:natO (ev c)=some m:=by unfold natO;rw [hm]
     have e3:hMakeSlice t l c P o ev H= .ok (.slice H.next 0 n (.known m)) (H.new (.cells e (List.replicate m (rawL z.cells)).flatten true false false)):=by
      unfold hMakeSlice eMakeSlice
      rw [he,Option.bind_some,hi,Option.bind_some,hz,Option.bind_some,e1,Option.bind_some,e2,Option.bind_some,Nat.ble_eq_true_of_le (of_decide_eq_true h1),hb.1,h2,hb.2]
      rfl
     rw [e3];exact .ret
    ·exact .no
   ·exact .no
  ·exact .no
 ·exact .no
theorem strV_some {v:AV} {s:ByteArray} (h:strV v=some s):v= .raw (.string s):=by
 unfold strV at h
 split at h
 ·cases h;rfl
 ·cases h
theorem natV_raw {v:AV} {k:Nat} (h:natV v= .mk k):∃q,v= .raw (.int q k):=by
 unfold natV at h
 cases hw:avW v with
 |no=>rw [hw]at h;cases h
 |int q z=>
  rw [hw]at h
  have h:intN z= .mk k:=h
  cases z with
  |ofNat m=>cases h;exact⟨q,avW_int hw⟩
  |negSucc m=>cases h
theorem evRaw_raw {x:Operand} {v:Value} (h:ev x= .raw v):evRaw ev x=v:=by unfold evRaw;rw [h];rfl
theorem byte_get {s:ByteArray} {k:Nat} (h:k<s.size):s[k]? =some (s.data.toList.getD k 0):=by
 have h2:k<s.data.size:=h
 rw [show s[k]? =some s[k]from getElem?_pos s k h]
 congr 1
 rw [List.getD_eq_getElem?_getD,Array.getElem?_toList,Array.getElem?_eq_getElem h2]
 rfl
theorem vIndexS_ref {t:TypeId} {x ix:Operand} (ho:o.op= .index t x ix):Ref (vIndexS t x ix P o ev H) (hIndex t x ix P o ev H):=by
 unfold vIndexS
 split
 ·rename_i s hs
  have hx:=strV_some hs
  split
  ·rename_i hu
   refine vIdx_ref fun k hk=> .must fun hb=> ?_
   have hb:=of_decide_eq_true hb
   obtain⟨q,hi⟩:=natV_raw hk
   have e1:hIndex t x ix P o ev H=vr H (gen P o ev):=by unfold hIndex;rw [hx];rfl
   have e2:gen P o ev=some (.raw (.int .u8 (byteI s k))):=by
    unfold gen
    rw [ho]
    have e3:((Op.index t x ix).operands.toList.all fun x=>(ev x).toRaw.isSome)=true:=by simp [Op.operands,hx,hi,AV.toRaw]
    rw [e3]
    have e4:runPure P (execOp (evRaw ev) o)=some (.value (.int .u8 (byteI s k))):=by
     unfold execOp
     rw [ho]
     simp only [evRaw_raw hx,evRaw_raw hi]
     simp [Instr.index,asIntOf,underlying,program,runPure,hu,bind,Sem.bind,pure,byte_get hb,byteI]
    rw [e4];rfl
   rw [e1,e2];exact .ret
  ·exact .no
 ·exact .ret
theorem runPure_map {α β:Type} (f:α→β):∀{s:Sem α} {a:α},runPure P s=some a→runPure P (do let r ←s;pure (f r))=some (f a)
 | .pure a,_,h=>by
   have h:some a=some _:=h
   cases h;rfl
 | .program k,_,h=>runPure_map f (s:=k P) h
 | .mark _ k,_,h=>runPure_map f (s:=k) h
 | .load ..,_,h=>by cases h
 | .store ..,_,h=>by cases h
 | .new ..,_,h=>by cases h
 | .shape ..,_,h=>by cases h
 | .freeze ..,_,h=>by cases h
 | .frozen ..,_,h=>by cases h
 | .getObj ..,_,h=>by cases h
 | .setObj ..,_,h=>by cases h
 | .choose ..,_,h=>by cases h
 | .sys ..,_,h=>by cases h
 | .halt ..,_,h=>by cases h
theorem num_raw {v:Option Operand} {d k:Nat} (h:numO (v.map ev) d=some k):(v=none∧k=d)∨∃y q,v=some y∧ev y= .raw (.int q k):=by
 cases v with
 |none=>cases h;exact .inl ⟨rfl,rfl⟩
 |some y=>
  have h:natO (ev y)=some k:=h
  unfold natO at h
  cases hn:natV (ev y)with
  |no=>rw [hn]at h;cases h
  |mk m=>
   rw [hn]at h
   cases h
   obtain⟨q,hq⟩:=natV_raw hn
   exact .inr ⟨y,q,rfl,hq⟩
theorem vSliceX_ref {t:TypeId} {x:Operand} {lo hi mx:Option Operand} (ho:o.op= .slice t x lo hi mx):Ref (vSliceX t x lo hi mx P o ev H) (hSlice t x lo hi mx P o ev H):=by
 unfold vSliceX
 split
 ·rename_i s hs
  have hx:=strV_some hs
  unfold vSliceS
  split
  ·rename_i hu hm
   have hm:mx=none:=by cases mx<;>first |rfl |cases hm
   subst hm
   refine vNum_ref fun h hh=>vNum_ref fun l hl=> .must fun h1=> .must fun h2=> ?_
   have h1:=of_decide_eq_true h1
   have h2:=of_decide_eq_true h2
   have e1:hSlice t x lo hi none P o ev H=vr H (gen P o ev):=by unfold hSlice pSlice;rw [hx]
   have e2:gen P o ev=some (.raw (.string (s.extract l h))):=by
    unfold gen
    rw [ho]
    rcases num_raw hh with⟨rfl,rfl⟩|⟨y,q,rfl,hy⟩
    ·rcases num_raw hl with⟨rfl,rfl⟩|⟨y2,q2,rfl,hy2⟩
     ·have e3:((Op.slice t x none none none).operands.toList.all fun x=>(ev x).toRaw.isSome)=true:=by simp [Op.operands,hx,AV.toRaw]
      rw [e3]
      unfold execOp
      rw [ho]
      simp only [evRaw_raw hx,Option.map_none]
      simp [Instr.sliceAt,Instr.slice,Instr.sliceBounds,underlying,program,runPure,hu,bind,Sem.bind,pure]
     ·have e3:((Op.slice t x (some y2) none none).operands.toList.all fun x=>(ev x).toRaw.isSome)=true:=by simp [Op.operands,hx,hy2,AV.toRaw]
      rw [e3]
      unfold execOp
      rw [ho]
      simp only [evRaw_raw hx,Option.map_none,Option.map_some,evRaw_raw hy2]
      simp [Instr.sliceAt,Instr.slice,Instr.sliceBounds,Instr.sliceBound,asIntOf,underlying,program,runPure,hu,bind,Sem.bind,pure,h1]
    ·rcases num_raw hl with⟨rfl,rfl⟩|⟨y2,q2,rfl,hy2⟩
     ·have e3:((Op.slice t x none (some y) none).operands.toList.all fun x=>(ev x).toRaw.isSome)=true:=by simp [Op.operands,hx,hy,AV.toRaw]
      rw [e3]
      unfold execOp
      rw [ho]
      simp only [evRaw_raw hx,Option.map_none,Option.map_some,evRaw_raw hy]
      simp [Instr.sliceAt,Instr.slice,Instr.sliceBounds,Instr.sliceBound,asIntOf,underlying,program,runPure,hu,bind,Sem.bind,pure,h2]
     ·have e3:((Op.slice t x (some y2) (some y) none).operands.toList.all fun x=>(ev x).toRaw.isSome)=true:=by simp [Op.operands,hx,hy,hy2,AV.toRaw]
      rw [e3]
      unfold execOp
      rw [ho]
      simp only [evRaw_raw hx,Option.map_some,Option.map_none,evRaw_raw hy,evRaw_raw hy2]
      simp [Instr.sliceAt,Instr.slice,Instr.sliceBounds,Instr.sliceBound,asIntOf,underlying,program,runPure,hu,bind,Sem.bind,pure,h1,h2]
   rw [e1,e2];exact .ret
  ·exact .no
 ·exact vSlice_ref
theorem strEq_eq (a b:ByteArray):(a.toList==b.toList)=strEq a b:=by
 rw [ByteArray.toList_eq,ByteArray.toList_eq]
 unfold strEq
 rw [Bool.eq_iff_iff];simp
theorem vBinX_ref {op:BinOp} {t:TypeId} {x y:Operand} {yt:TypeId} (ho:o.op= .binOp op t x y yt):Ref (vBinX op t x y yt P o ev H) (hBin op t x y yt P o ev H):=by
 unfold vBinX
 split
 ·rename_i a b ha hb
  have hx:=strV_some ha
  have hy:=strV_some hb
  have e0:hBin op t x y yt P o ev H=vr H (pBin P o ev op t (ev x) (ev y)):=by unfold hBin;rw [hx];rfl
  have e3:((Op.binOp op t x y yt).operands.toList.all fun x=>(ev x).toRaw.isSome)=true:=by simp [Op.operands,hx,hy,AV.toRaw]
  have eg:∀v,runPure P (do eqGuard op t x y (.string a) (.string b);binOp op t (.string a) (.string b))=some v→gen P o ev=some (.raw v):=fun v hv=>by
   unfold gen
   rw [ho,e3]
   unfold execOp
   rw [ho]
   simp only [evRaw_raw hx,evRaw_raw hy]
   have:runPure P (do let r ←(do eqGuard op t x y (.string a) (.string b);binOp op t (.string a) (.string b));pure (Next.value r))=some (.value v):=runPure_map _ hv
   simp only [cond_true]
   rw [this]
  unfold strBin
  split
  ·refine .must fun hl=> ?_
   have hl:=of_decide_eq_true hl
   have:pBin P o ev .add t (ev x) (ev y)=some (.raw (.string (a++b))):=eg _ (by
    have:¬(9223372036854775807:Int)<(a.size:Int)+(b.size:Int):=by omega
    simp [eqGuard,binOp,Op.stringOp,runPure,bind,Sem.bind,pure,IntKind.max,IntKind.bits,IntKind.signed,this])
   rw [e0,this];exact .ret
  ·have:pBin P o ev .eql t (ev x) (ev y)=some (.raw (.bool (strEq a b))):=by
    rw [hx,hy]
    exact eg _ (by rw [←strEq_eq];simp [eqGuard,binOp,Op.stringOp,runPure,bind,Sem.bind,pure])
   rw [e0,this];exact .ret
  ·have:pBin P o ev .neq t (ev x) (ev y)=some (.raw (.bool (!strEq a b))):=by
    rw [hx,hy]
    exact eg _ (by rw [←strEq_eq];simp [eqGuard,binOp,Op.stringOp,runPure,bind,Sem.bind,pure])
   rw [e0,this];exact .ret
  ·exact .ret
 ·split
  ·rename_i k a k' b hs ha hb
   refine .must fun h0=> ?_
   have h0:=of_decide_eq_true h0
   have hx:=avW_int ha
   have hy:=avW_int hb
   have hf:fastInt op k k' a b=none:=by
    cases hf:fastInt op k k' a b with
    |none=>rfl
    |some v=>obtain⟨m,n,_,_,_,_,hv⟩:=fastInt_some hf;cases op<;>first |(cases hs;done)|(change (none:Option AV)=some v at hv;cases hv)
   have hp:pInt P o ev op k k' a b=gen P o ev:=by
    unfold pInt
    have:aint P op k a b=none:=by cases op<;>first |rfl |(cases hs;done)
    rw [this]
    cases (k==k')<;>rfl
   have e0:hBin op t x y yt P o ev H=vr H (gen P o ev):=by rw [hBin_int ha hb,hf,hp]
   have e3:((Op.binOp op t x y yt).operands.toList.all fun x=>(ev x).toRaw.isSome)=true:=by simp [Op.operands,hx,hy,AV.toRaw]
   have eg:∀v,runPure P (do eqGuard op t x y (.int k a) (.int k' b);binOp op t (.int k a) (.int k' b))=some v→gen P o ev=some (.raw v):=fun v hv=>by
    unfold gen
    rw [ho,e3]
    unfold execOp
    rw [ho]
    simp only [evRaw_raw hx,evRaw_raw hy]
    have:runPure P (do let r ←(do eqGuard op t x y (.int k a) (.int k' b);binOp op t (.int k a) (.int k' b));pure (Next.value r))=some (.value v):=runPure_map _ hv
    simp only [cond_true]
    rw [this]
   have hneg:¬b<0:=by omega
   split
   ·rw [e0,eg _ (by simp only [eqGuard,binOp,Op.shift,hneg,if_false];rfl)];exact .ret
   ·rw [e0,eg _ (by simp only [eqGuard,binOp,Op.shift,hneg,if_false];rfl)];exact .ret
   ·exact .no
  ·exact vBin_ref
theorem vop_ref:Ref (vop o.op P o ev H) (aop o.op P o ev H):=by
 cases ho:o.op with
 |binOp op t x y yt=>exact vBinX_ref ho
 |pick c a b=>exact vPick_ref (P:=P) (o:=o)
 |indexAddr t x ix=>exact vIndexAddr_ref
 |load t x=>exact vLoad_ref
 |store t x y=>exact vStore_ref
 |slice t x lo hi mx=>exact vSliceX_ref ho
 |index t x ix=>exact vIndexS_ref ho
 |call c=>exact vCall_ref
 |makeSlice t l c=>exact vMake_ref (o:=o)
 |_=>exact .ret
end
end
end Go.Proofs.YtccmlbinkgbpgaaGreatDoor.Sv
/- The runner over an abstract memory, with data that are not known: code. -/
namespace Go.Proofs.YtccmlbinkgbpgaaGreatDoor.Sv
noncomputable section
abbrev VCaller:=FuncId→List AV→AHeap→Tst VR
abbrev VRunner:=Code→(n:Nat)→(rnd:Bool)→Tr AV→AHeap→List Nat→Tst R
def vwant {β:Type} (T:Tr AV) (ops:Array Oper) (o:Oper) (no:Tst β) (f:Bool→Tst β):Tst β:=match o.guard with
 |none=>f true
 |some g=>match(ops[g.1]?).bind (·.dst)with
  |some d=>(match T.get d with |some (.raw (.bool b))=> .ask (b==g.2) f|some .bot=>no|_=>f false)
  |none=>no
def voper (P:Program) (call:VCaller) (o:Oper) (ev:Ev) (H:AHeap):Tst VR:=
 (vop o.op P o ev H).bind fun r=>match r with
   | .ok v H=> .ret (.ok v H)
   | .enter f args H=>call f args H
   |_=> .ret .no
def vput (T:Tr AV) (n:Nat) (dst:Option Tmp) (v:AV) (k:Tr AV→Tst TH):Tst TH:=match putT T n dst v with
 |some T=>k T
 |none=> .ret .no
def vstep (P:Program) (call:VCaller) (ops:Array Oper) (n:Nat) (o:Oper) (T:Tr AV) (H:AHeap) (k:Tr AV→AHeap→Tst TH):Tst TH:=
 vwant T ops o (.ret .no) fun b=>match b with
  |false=>vput T n o.dst (.raw undef) fun T=>k T H
  |true=>(voper P call o (evT T) H).bind fun r=>match r with
   | .ok v H=>vput T n o.dst v fun T=>k T H
   |_=> .ret .no
def vseq (P:Program) (call:VCaller) (ops:Array Oper) (n:Nat):List Oper→Tr AV→AHeap→Tst TH
 |[],T,H=> .ret (.mk T H)
 |o::l,T,H=>vstep P call ops n o T H (vseq P call ops n l)
def vrsame {β:Type} (P:Program) (o:Oper) (ev:Ev) (v:AV) (H:AHeap) (no k:Tst β):Tst β:=
 (vop o.op P o ev H).bind fun r=>match r with
   | .ok v' _=> .must (AV.same v' v) k
   |_=>no
def vrall {β:Type} (P:Program) (o:Oper) (ev:Ev) (v:AV) (no k:Tst β):List AHeap→Tst β
 |[]=>k
 |H::l=>vrsame P o ev v H no (vrall P o ev v no k l)
def vpend {β:Type} (P:Program) (H:AHeap) (no k:Tst β):List Pend→Tst β
 |[]=>k
 |q::l=>vrsame P q.o (evT q.T) q.v H no (vpend P H no k l)
def vdstep (P:Program) (call:VCaller) (ops:Array Oper) (n:Nat) (o:Oper) (s:DS):Tst (Option DS):=
 vwant s.T ops o (.ret none) fun b=>match b with
  |false=> .ret (dput n o s (.raw undef) fun T=>{s with i:=s.i+1,T:=T,lev:=s.lev.set s.i (some (level s.lev (depsOf o)))})
  |true=>match kdOf P o.op with
   | .p=>(vop o.op P o (evT s.T) s.cur).bind fun r=>match r with
     | .ok v _=> .ret (dput n o s v fun T=>{s with i:=s.i+1,T:=T,lev:=s.lev.set s.i (some (level s.lev (depsOf o)))})
     |_=> .ret none
   | .r=>match s.hs with
     |H::_=>(vop o.op P o (evT s.T) H).bind fun r=>match r with
      | .ok v _=>vrall P o (evT s.T) v (.ret none) (.ret (dput n o s v fun T=>{s with i:=s.i+1,T:=T,lev:=s.lev.set s.i (some (level s.lev (depsOf o))),pend:=⟨s.i,o,s.T,v⟩::s.pend})) (s.hs.take (s.k+1-level s.lev (depsOf o)))
      |_=> .ret none
     |[]=> .ret none
   | .a=>match aop o.op P o (evT s.T) s.cur with
     | .ok v H=> .ret (dput n o s v fun T=>{s with i:=s.i+1,T:=T,cur:=H,lev:=s.lev.set s.i (some (level s.lev (depsOf o))),als:=s.i::s.als})
     |_=> .ret none
   | .e=>match Nat.beq (level s.lev (depsOf o)) s.k&&subN s.als (depsOf o)with
     |true=>(voper P call o (evT s.T) s.cur).bind fun r=>match r with
      | .ok v H=>vpend P H (.ret none) (.ret (dput n o s v fun T=>{i:=s.i+1,k:=s.k+1,T:=T,cur:=H,hs:=H::s.hs,lev:=s.lev.set s.i (some (s.k+1)),pend:=stillPend (depsOf o) s.pend,als:=[]})) (stillPend (depsOf o) s.pend)
      |_=> .ret none
     |false=> .ret none
   | .b=>match Nat.beq (level s.lev (depsOf o)) s.k&&subN s.als (depsOf o)with
     |true=>(voper P call o (evT s.T) s.cur).bind fun r=>match r with
      | .ok v H=>vpend P H (.ret none) (.ret (dput n o s v fun T=>{i:=s.i+1,k:=s.k+1,T:=T,cur:=H,hs:=H::s.hs,lev:=s.lev.set s.i (some (s.k+1)),pend:=stillPend (depsOf o) s.pend,als:=[]})) (stillPend (depsOf o) s.pend)
      |_=> .ret none
     |false=>match aop o.op P o (evT s.T) s.cur with
      | .ok v H=> .ret (dput n o s v fun T=>{s with i:=s.i+1,T:=T,cur:=H,lev:=s.lev.set s.i (some (level s.lev (depsOf o))),als:=s.i::s.als})
      |_=> .ret none
def vdgo (P:Program) (call:VCaller) (ops:Array Oper) (n:Nat):List Oper→DS→Tst TH
 |[],s=> .ret (.mk s.T s.cur)
 |o::l,s=>(vdstep P call ops n o s).bind fun r=>match r with
  |some s=>vdgo P call ops n l s
  |none=> .ret .no
def vdraw (P:Program) (call:VCaller) (ops:Array Oper) (n:Nat) (T:Tr AV) (H:AHeap):Tst TH:=
 match opsOk ops.toList ops.toList 0 with
 |true=>vdgo P call ops n ops.toList {i:=0,k:=0,T:=T,cur:=H,hs:=[H],lev:= .nil,pend:=[],als:=[]}
 |false=> .ret .no
def vorc (SV:VCaller) (call:VCaller):VCaller:=fun f args H=>(SV f args H).bind fun r=>match r with
 | .no=>call f args H
 |r=> .ret r
def vcall (P:Program) (ih:VRunner):VCaller:=fun f args H=>match P.funcs[f]? with
 |some fn=>(match fn.body with
  |some c=>(match Nat.ble args.length fn.ntmps with
   |true=>(ih c fn.ntmps false (initT args .nil 0) H []).bind fun r=>match r with
    | .normal T H m=> .ret (aleave P fn T H m)
    | .ret T H m=> .ret (aleave P fn T H m)
    |_=> .ret .no
   |false=> .ret .no)
  |none=> .ret .no)
 |none=> .ret .no
def thV2 (m:List Nat) (r:TH):Tst R:=match r with
 | .mk T H=> .ret (.normal T H m)
 | .no=> .ret .no
def vhandle (P:Program) (call:VCaller) (ih:VRunner) (c:Code):(n:Nat)→(rnd:Bool)→Tr AV→AHeap→List Nat→Tst R:=fun n rnd T H m=>match c with
 | .skip=> .ret (.normal T H m)
 | .label _=> .ret (.normal T H m)
 | .region _ ops d=>(match d with |true=>vdraw P call ops n T H|false=>vseq P call ops n ops.toList T H).bind fun r=>thV2 m r
 | .seq a b=>(ih a n rnd T H m).bind fun r=>match r with
   | .normal T H m=>ih b n rnd T H m
   |r=> .ret r
 | .cond x a b=>match boolV (evT T x)with
   | .mk q=> .ask q fun r=>match r with |true=>ih a n rnd T H m|false=>ih b n rnd T H m
   | .no=> .ret .no
 | .block id b=>(ih b n rnd T H m).bind fun r=>match r with
   | .exit i T H m=>(match Nat.beq i id with |true=> .ret (.normal T H m)|false=> .ret (.exit i T H m))
   |r=> .ret r
 | .exit id=> .ret (.exit id T H m)
 | .scope b=>(ih b n rnd T H m).bind fun r=>match r with
   | .goto _ _ _ _=> .ret .no
   |r=> .ret r
 | .goto l=> .ret (.goto l T H m)
 | .ret=> .ret (.ret T H m)
 |_=> .ret .no
def vcode (P:Program) (SV:VCaller) (fuel:Nat):VRunner:=
 @Nat.rec (fun _=>VRunner) (fun _ _ _ _ _ _=> .ret .no) (fun _ ih c=>vhandle P (vorc SV (vcall P ih)) ih c) fuel
def gS (SV:VCaller):Caller:=fun f args H=>((SV f args H).gr).getD .no
def RefT (t:Tst TH) (r:TH):Prop:=∀a,t.gr=some a→a≠ .no→r=a
def RefR (t:Tst R) (r:R):Prop:=∀a,t.gr=some a→a≠ .no→r=a
def RefD (t:Tst (Option DS)) (r:Option DS):Prop:=∀a,t.gr=some (some a)→r=some a
def RefC (vc:VCaller) (call:Caller):Prop:=∀f args H,Ref (vc f args H) (call f args H)
theorem bind_gr {α β:Type} {x:Tst α} {f:α→Tst β} {b:β} (h:(x.bind f).gr=some b):∃a,x.gr=some a∧(f a).gr=some b:=by
 rw [Tst.gr_bind]at h
 cases hx:x.gr with
 |none=>rw [hx]at h;cases h
 |some a=>rw [hx]at h;exact⟨a,rfl,h⟩
section
variable {P:Program} {call:Caller} {vc:VCaller} {round:Rounder}
theorem vwant_gr {β:Type} {T:Tr AV} {ops:Array Oper} {o:Oper} {no:Tst β} {f:Bool→Tst β} {b:β} (h:(vwant T ops o no f).gr=some b):no.gr=some b∨∃c,awanted T ops o=some c∧(f c).gr=some b:=by
 unfold vwant at h
 split at h
 ·rename_i hg
  refine .inr ⟨true, ?_,h⟩
  unfold awanted;rw [hg]
 ·rename_i g hg
  have e:awanted T ops o=awantedG T ops g:=by unfold awanted;rw [hg]
  rw [e]
  unfold awantedG
  split at h
  ·rename_i d hd
   rw [hd]
   simp only
   split at h
   ·rename_i q hq
    rw [hq]
    exact .inr ⟨_,rfl,h⟩
   ·exact .inl h
   ·rename_i h1 h2
    refine .inr ⟨false, ?_,h⟩
    split
    ·rename_i q hq;exact absurd hq (h1 q)
    ·rename_i hq;exact absurd hq h2
    ·rfl
  ·exact .inl h
theorem voper_ref (hc:RefC vc call) {o:Oper} {ev:Ev} {H:AHeap}:Ref (voper P vc o ev H) (aoper P call round o ev H):=by
 intro a ha hn
 obtain⟨r,h1,h2⟩:=bind_gr ha
 have hr:r≠ .no→aop o.op P o ev H=r:=vop_ref r h1
 unfold aoper
 cases r with
 |no=>cases h2;exact absurd rfl hn
 |ok v H1=>rw [hr (by simp)];cases h2;rfl
 |enter f args H1=>rw [hr (by simp)];exact hc f args H1 a h2 hn
 |round _ _ _=>cases h2;exact absurd rfl hn
theorem vput_ref {T:Tr AV} {n:Nat} {dst:Option Tmp} {v:AV} {k:Tr AV→Tst TH} {k2:Tr AV→AHeap→TH} {H:AHeap} (h:∀T,RefT (k T) (k2 T H)):RefT (vput T n dst v k) (th k2 H (putT T n dst v)):=by
 unfold vput
 cases putT T n dst v with
 |none=>intro a ha hn;cases ha;exact absurd rfl hn
 |some T1=>exact h T1
theorem vstep_ref (hc:RefC vc call) {ops:Array Oper} {n:Nat} {o:Oper} {T:Tr AV} {H:AHeap} {k:Tr AV→AHeap→Tst TH} {k2:Tr AV→AHeap→TH} (h:∀T H,RefT (k T H) (k2 T H)):
  RefT (vstep P vc ops n o T H k) (astep P call round ops n o T H k2):=by
 intro a ha hn
 rcases vwant_gr ha with h1|⟨c,h1,h2⟩
 ·cases h1;exact absurd rfl hn
 ·unfold astep
  rw [h1]
  cases c with
  |false=>exact vput_ref (fun T=>h T H) a h2 hn
  |true=>
   obtain⟨r,g1,g2⟩:=bind_gr h2
   have hr:r≠ .no→aoper P call round o (evT T) H=r:=voper_ref hc r g1
   cases r with
   |no=>cases g2;exact absurd rfl hn
   |ok v H1=>
    simp only
    rw [hr (by simp)]
    exact vput_ref (fun T=>h T H1) a g2 hn
   |enter _ _ _=>cases g2;exact absurd rfl hn
   |round _ _ _=>cases g2;exact absurd rfl hn
theorem vseq_ref (hc:RefC vc call) {ops:Array Oper} {n:Nat}:∀(l:List Oper) (T:Tr AV) (H:AHeap),RefT (vseq P vc ops n l T H) (aseq P call round ops n l T H)
 |[],T,H=>fun a ha _=>by cases ha;rfl
 |o::l,T,H=>vstep_ref hc fun T H=>vseq_ref hc l T H
theorem vrsame_gr {β:Type} {o:Oper} {ev:Ev} {v:AV} {H:AHeap} {no k:Tst β} {b:β} (h:(vrsame P o ev v H no k).gr=some b):no.gr=some b∨(rsame P o ev v H=true∧k.gr=some b):=by
 obtain⟨r,h1,h2⟩:=bind_gr h
 have hr:r≠ .no→aop o.op P o ev H=r:=vop_ref r h1
 cases r with
 |ok v' H1=>
  right
  simp only [Tst.gr]at h2
  unfold rsame
  rw [hr (by simp)]
  cases hs:AV.same v' v with
  |false=>rw [hs]at h2;cases h2
  |true=>rw [hs]at h2;exact⟨hs,h2⟩
 |no=>exact .inl h2
 |enter _ _ _=>exact .inl h2
 |round _ _ _=>exact .inl h2
theorem vrall_gr {β:Type} {o:Oper} {ev:Ev} {v:AV} {no k:Tst β} {b:β}:∀{l:List AHeap},(vrall P o ev v no k l).gr=some b→no.gr=some b∨(rall P o ev v l=true∧k.gr=some b)
 |[],h=> .inr ⟨rfl,h⟩
 |H::l,h=>by
  rcases vrsame_gr h with h|⟨h1,h2⟩
  ·exact .inl h
  ·rcases vrall_gr h2 with h|⟨h3,h4⟩
   ·exact .inl h
   ·exact .inr ⟨by unfold rall;rw [h1];exact h3,h4⟩
theorem vpend_gr {β:Type} {H:AHeap} {no k:Tst β} {b:β}:∀{l:List Pend},(vpend P H no k l).gr=some b→no.gr=some b∨(pendOk P H l=true∧k.gr=some b)
 |[],h=> .inr ⟨rfl,h⟩
 |q::l,h=>by
  rcases vrsame_gr h with h|⟨h1,h2⟩
  ·exact .inl h
  ·rcases vpend_gr h2 with h|⟨h3,h4⟩
   ·exact .inl h
   ·exact .inr ⟨by unfold pendOk;rw [h1];exact h3,h4⟩
theorem vdstep_ref (hc:RefC vc call) {ops:Array Oper} {n:Nat} {o:Oper} {s:DS}:RefD (vdstep P vc ops n o s) (dstep P call round ops n o s):=by
 intro a ha
 rcases vwant_gr ha with h1|⟨c,h1,h2⟩
 ·cases h1
 ·unfold dstep
  simp only [h1]
  cases c with
  |false=>exact Option.some.inj h2
  |true=>
   simp only at h2 ⊢
   cases hk:kdOf P o.op with
   |p=>
    rw [hk]at h2
    obtain⟨r,g1,g2⟩:=bind_gr h2
    have hr:r≠ .no→_=r:=vop_ref r g1
    cases r with
    |ok v H1=>simp only;rw [hr (by simp)];exact Option.some.inj g2
    |no=>cases g2
    |enter _ _ _=>cases g2
    |round _ _ _=>cases g2
   |r=>
    rw [hk]at h2
    simp only at h2 ⊢
    cases hs:s.hs with
    |nil=>rw [hs]at h2;cases h2
    |cons H l=>
     rw [hs]at h2
     simp only at h2 ⊢
     obtain⟨r,g1,g2⟩:=bind_gr h2
     have hr:r≠ .no→_=r:=vop_ref r g1
     cases r with
     |ok v H1=>
      rw [hr (by simp)]
      simp only at g2 ⊢
      rcases vrall_gr g2 with q|⟨q1,q2⟩
      ·cases q
      ·rw [q1];exact Option.some.inj q2
     |no=>cases g2
     |enter _ _ _=>cases g2
     |round _ _ _=>cases g2
   |a=>
    rw [hk]at h2
    simp only at h2 ⊢
    cases hop:aop o.op P o (evT s.T) s.cur with
    |ok v H1=>rw [hop]at h2;exact Option.some.inj h2
    |no=>rw [hop]at h2;cases h2
    |enter _ _ _=>rw [hop]at h2;cases h2
    |round _ _ _=>rw [hop]at h2;cases h2
   |e=>
    rw [hk]at h2
    simp only at h2 ⊢
    cases hb:(Nat.beq (level s.lev (depsOf o)) s.k&&subN s.als (depsOf o))with
    |false=>rw [hb]at h2;cases h2
    |true=>
     rw [hb]at h2
     simp only [cond_true]at h2 ⊢
     obtain⟨r,g1,g2⟩:=bind_gr h2
     have hr:r≠ .no→aoper P call round o (evT s.T) s.cur=r:=voper_ref hc r g1
     cases r with
     |ok v H1=>
      rw [hr (by simp)]
      simp only at g2 ⊢
      rcases vpend_gr g2 with q|⟨q1,q2⟩
      ·cases q
      ·rw [q1];exact Option.some.inj q2
     |no=>cases g2
     |enter _ _ _=>cases g2
     |round _ _ _=>cases g2
   |b=>
    rw [hk]at h2
    simp only at h2 ⊢
    cases hb:(Nat.beq (level s.lev (depsOf o)) s.k&&subN s.als (depsOf o))with
    |false=>
     rw [hb]at h2
     simp only [cond_false]at h2 ⊢
     cases hop:aop o.op P o (evT s.T) s.cur with
     |ok v H1=>rw [hop]at h2;exact Option.some.inj h2
     |no=>rw [hop]at h2;cases h2
     |enter _ _ _=>rw [hop]at h2;cases h2
     |round _ _ _=>rw [hop]at h2;cases h2
    |true=>
     rw [hb]at h2
     simp only [cond_true]at h2 ⊢
     obtain⟨r,g1,g2⟩:=bind_gr h2
     have hr:r≠ .no→aoper P call round o (evT s.T) s.cur=r:=voper_ref hc r g1
     cases r with
     |ok v H1=>
      rw [hr (by simp)]
      simp only at g2 ⊢
      rcases vpend_gr g2 with q|⟨q1,q2⟩
      ·cases q
      ·rw [q1];exact Option.some.inj q2
     |no=>cases g2
     |enter _ _ _=>cases g2
     |round _ _ _=>cases g2
theorem vdgo_ref (hc:RefC vc call) {ops:Array Oper} {n:Nat}:∀(l:List Oper) (s:DS),RefT (vdgo P vc ops n l s) (dgo P call round ops n l s)
 |[],s=>fun a ha _=>by cases ha;rfl
 |o::l,s=>fun a ha hn=>by
  obtain⟨r,h1,h2⟩:=bind_gr ha
  cases r with
  |none=>cases h2;exact absurd rfl hn
  |some s1=>
   have:=vdstep_ref (P:=P) (round:=round) hc s1 h1
   unfold dgo
   rw [this]
   exact vdgo_ref hc l s1 a h2 hn
theorem vdraw_ref (hc:RefC vc call) {ops:Array Oper} {n:Nat} {T:Tr AV} {H:AHeap}:RefT (vdraw P vc ops n T H) (adraw P call round ops n T H):=by
 unfold vdraw adraw
 cases opsOk ops.toList ops.toList 0 with
 |true=>exact vdgo_ref hc _ _
 |false=>intro a ha hn;cases ha;exact absurd rfl hn
theorem vorc_ref {SV:VCaller} (hc:RefC vc call):RefC (vorc SV vc) (orc (gS SV) call):=fun f args H a ha hn=>by
 obtain⟨r,h1,h2⟩:=bind_gr ha
 have hS:gS SV f args H=r:=by unfold gS;rw [h1];rfl
 unfold orc
 rw [hS]
 cases r with
 |no=>exact hc f args H a h2 hn
 |ok v H1=>cases h2;rfl
 |enter _ _ _=>cases h2;rfl
 |round _ _ _=>cases h2;rfl
def RefRun (v:VRunner) (ih:Runner):Prop:=∀c n rnd T H m,RefR (v c n rnd T H m) (ih c n rnd T H m)
theorem vcall_ref {v:VRunner} {ih:Runner} (hi:RefRun v ih):RefC (vcall P v) (acall P ih):=fun f args H a ha hn=>by
 unfold vcall at ha
 unfold acall
 cases hf:P.funcs[f]? with
 |none=>rw [hf]at ha;cases ha;exact absurd rfl hn
 |some fn=>
  rw [hf]at ha
  simp only at ha ⊢
  cases hb:fn.body with
  |none=>rw [hb]at ha;cases ha;exact absurd rfl hn
  |some c=>
   rw [hb]at ha
   simp only at ha ⊢
   unfold acallB
   cases hl:Nat.ble args.length fn.ntmps with
   |false=>rw [hl]at ha;cases ha;exact absurd rfl hn
   |true=>
    rw [hl]at ha
    simp only at ha ⊢
    obtain⟨r,h1,h2⟩:=bind_gr ha
    have hr:r≠ .no→_=r:=hi _ _ _ _ _ _ r h1
    cases r with
    |no=>cases h2;exact absurd rfl hn
    |normal T1 H1 m1=>rw [hr (by simp)];cases h2;rfl
    |exit _ _ _ _=>cases h2;exact absurd rfl hn
    |goto _ _ _ _=>cases h2;exact absurd rfl hn
    |ret T1 H1 m1=>rw [hr (by simp)];cases h2;rfl
theorem vhandle_ref {SV:VCaller} {v:VRunner} {ih:Runner} (hi:RefRun v ih):RefRun (vhandle P (vorc SV (vcall P v)) v) (fun c=>chandle c P (sdraw P (gS SV)) ih):=by
 have hc:RefC (vorc SV (vcall P v)) (orc (gS SV) (acall P ih)):=vorc_ref (vcall_ref hi)
 intro c n rnd T H m a ha hn
 unfold vhandle at ha
 cases c with
 |skip=>cases ha;rfl
 |label l=>cases ha;rfl
 |region id ops d=>
  simp only at ha
  obtain⟨r,h1,h2⟩:=bind_gr ha
  have hr:r≠ .no→sdraw P (gS SV) d (acall P ih) (around ih) ops n T H=r:=by
   cases d with
   |true=>exact vdraw_ref hc r h1
   |false=>exact vseq_ref hc _ _ _ r h1
  show thR m (sdraw P (gS SV) d (acall P ih) (around ih) ops n T H)=a
  cases r with
  |no=>cases h2;exact absurd rfl hn
  |mk T1 H1=>rw [hr (by simp)];cases h2;rfl
 |seq x y=>
  simp only at ha
  obtain⟨r,h1,h2⟩:=bind_gr ha
  have hr:r≠ .no→ih x n rnd T H m=r:=hi _ _ _ _ _ _ r h1
  show(@R.rec (fun _=>R) .no (fun T H m=>ih y n rnd T H m) .exit .goto .ret (ih x n rnd T H m))=a
  cases r with
  |no=>cases h2;exact absurd rfl hn
  |normal T1 H1 m1=>rw [hr (by simp)];exact hi _ _ _ _ _ _ a h2 hn
  |exit _ _ _ _=>rw [hr (by simp)];cases h2;rfl
  |goto _ _ _ _=>rw [hr (by simp)];cases h2;rfl
  |ret _ _ _=>rw [hr (by simp)];cases h2;rfl
 |cond x y z=>
  simp only at ha
  show(@BV.rec (fun _=>R) .no (fun b=> @Bool.rec (fun _=>R) (ih z n rnd T H m) (ih y n rnd T H m) b) (boolV (evT T x)))=a
  cases hb:boolV (evT T x)with
  |no=>rw [hb]at ha;cases ha;exact absurd rfl hn
  |mk q=>
   rw [hb]at ha
   cases q with
   |true=>exact hi _ _ _ _ _ _ a ha hn
   |false=>exact hi _ _ _ _ _ _ a ha hn
 |block id b=>
  simp only at ha
  obtain⟨r,h1,h2⟩:=bind_gr ha
  have hr:r≠ .no→ih b n rnd T H m=r:=hi _ _ _ _ _ _ r h1
  show(@R.rec (fun _=>R) .no .normal (fun i T H m=> @Bool.rec (fun _=>R) (.exit i T H m) (.normal T H m) (Nat.beq i id)) .goto .ret (ih b n rnd T H m))=a
  cases r with
  |no=>cases h2;exact absurd rfl hn
  |normal _ _ _=>rw [hr (by simp)];cases h2;rfl
  |exit i T1 H1 m1=>
   rw [hr (by simp)]
   simp only at h2 ⊢
   cases hb:Nat.beq i id with
   |true=>rw [hb]at h2;cases h2;rfl
   |false=>rw [hb]at h2;cases h2;rfl
  |goto _ _ _ _=>rw [hr (by simp)];cases h2;rfl
  |ret _ _ _=>rw [hr (by simp)];cases h2;rfl
 |loop b=>cases ha;exact absurd rfl hn
 |rangeFunc f ps x y=>cases ha;exact absurd rfl hn
 |exit id=>cases ha;rfl
 |scope b=>
  simp only at ha
  obtain⟨r,h1,h2⟩:=bind_gr ha
  have hr:r≠ .no→ih b n rnd T H m=r:=hi _ _ _ _ _ _ r h1
  show(@R.rec (fun _=>R) .no .normal .exit (fun _ _ _ _=> .no) .ret (ih b n rnd T H m))=a
  cases r with
  |no=>cases h2;exact absurd rfl hn
  |normal _ _ _=>rw [hr (by simp)];cases h2;rfl
  |exit _ _ _ _=>rw [hr (by simp)];cases h2;rfl
  |goto _ _ _ _=>cases h2;exact absurd rfl hn
  |ret _ _ _=>rw [hr (by simp)];cases h2;rfl
 |goto l=>cases ha;rfl
 |ret=>cases ha;rfl
 |refuse w=>cases ha;exact absurd rfl hn
theorem vcode_ref {SV:VCaller}:∀fuel,RefRun (vcode P SV fuel) (acode P (sdraw P (gS SV)) fuel)
 |0=>fun _ _ _ _ _ _ a ha hn=>by cases ha;exact absurd rfl hn
 |f+1=>vhandle_ref (vcode_ref f)
end
end
end Go.Proofs.YtccmlbinkgbpgaaGreatDoor.Sv
/- The runner over an abstract memory: one state seen as another: slots given up, blocks under other numbers. -/
namespace Go.Proofs.YtccmlbinkgbpgaaGreatDoor.Sv
open Go.RowKit
set_option linter.unusedSectionVars false
variable [Ground]
noncomputable section
inductive Ent where
 |blk (k:ABlk)
 |opt (e:TypeId) (t:Ty) (xs:List t.den)
def Ent.val:Ent→Option ABlk
 | .blk k=>some k
 | .opt e t xs=>optOwn e t xs
structure St where
 n:Nat
 sl:List (Nat×AV)
 en:List (Nat×Ent)
 next:Nat
def botT (n:Nat):Tr AV:= @Nat.rec (fun _=>Tr AV) .nil (fun k T=>T.set k (some .bot)) n
def setSl (T:Tr AV) (l:List (Nat×AV)):Tr AV:= @List.rec (Nat×AV) (fun _=>Tr AV) T (fun p _ ih=>ih.set p.1 (some p.2)) l
def setEn (T:Tr ABlk) (l:List (Nat×Ent)):Tr ABlk:= @List.rec (Nat×Ent) (fun _=>Tr ABlk) T (fun p _ ih=>ih.set p.1 p.2.val) l
def St.T (s:St):Tr AV:=setSl (botT s.n) s.sl
def St.H (s:St):AHeap:=⟨setEn .nil s.en,s.next⟩
abbrev Ren:=List (Nat×Nat×Option Nat)
def look:Ren→Nat→Option (Nat×Option Nat)
 |[],_=>none
 |p::l,j=>cond (Nat.beq p.1 j) (some p.2) (look l j)
def chk (b:Bool) (p:Prop):Prop:=match b with |true=>p|false=>False
def isAt (σ:Ren) (j i:Nat):Bool:=cond (Nat.ble (j+1) 64) (Nat.beq i j) (match look σ j with |some (i',none)=>Nat.beq i i'|_=>false)
def eqD (t u:Ty) (xs:List t.den) (ys:List u.den):Prop:=if h:t=u then h ▸ xs=ys else False
def lstFit (z z':Bool) (n:Nat) (p:Prop):Prop:=match z',z with
 |true,false=>p∧Nat.ble 1 n=true
 |_,_=>p
def fitRaw:Value→Value→Prop
 | .int k a, .int k' b=>chk (decide (k=k')) (a=b)
 | .bool a, .bool b=>a=b
 | .string a, .string b=>a=b
 |a,b=>a=b
def capFit (mode:Option Nat) (c c':Cap):Prop:=match mode with
 |none=>c=c'
 |some m=>c= .known m∧c'=capOf m
def fitSl (σ:Ren) (i n:Nat) (cap:Cap) (j n':Nat) (cap':Cap):Prop:=match look σ j with
 |some (i',mode)=>chk (Nat.beq i i') (n=n'∧capFit mode cap cap')
 |none=>False
mutual
def fitV (σ:Ren):AV→AV→Prop
 |_, .bot=>True
 | .raw (.slice none 0 0), .osl _ _ _ _ n _=>n=0
 | .raw (.slice none 0 0), .lst _ _ ys=>ys=[]
 | .raw a, .raw b=>fitRaw a b
 | .ptr i off, .ptr j off'=>chk (isAt σ j i) (off=off')
 | .slice i off n c, .slice j off' n' c'=>chk (isAt σ j i) (off=off'∧n=n'∧c=c')
 | .slice i 0 n c, .osl _ _ j 0 n' c'=>fitSl σ i n c j n' c'
 | .func f a b, .func f' a' b'=>chk (decide (f=f')) (fitVs σ a a'∧fitVs σ b b')
 | .map i, .map j=>chk (isAt σ j i) True
 | .iface t v, .iface t' v'=>chk (Nat.beq t t') (fitV σ v v')
 | .agg l, .agg l'=>fitVs σ l l'
 | .tuple l, .tuple l'=>fitVs σ l l'
 | .lst z t xs, .lst z' u ys=>lstFit z z' ys.length (eqD t u xs ys)
 | .lptr t xs k off, .lptr u ys k' off'=>eqD t u xs ys∧k=k'∧off=off'
 | .osl e t i k n c, .osl e' u j k' n' c'=>chk (Nat.beq e e'&&(decide (t=u)&&isAt σ j i)) (k=k'∧n=n'∧c=c')
 | .optr e t i k off, .optr e' u j k' off'=>chk (Nat.beq e e'&&(decide (t=u)&&isAt σ j i)) (k=k'∧off=off')
 |_,_=>False
def fitVs (σ:Ren):List AV→List AV→Prop
 |[],[]=>True
 |v::l,v'::l'=>fitV σ v v'∧fitVs σ l l'
 |_,_=>False
end
def fitOwn (P:Program) (mode:Option Nat) (b:Option ABlk) (e:TypeId) (t:Ty) (xs:List t.den):Prop:=match b,mode with
 |some (.own e' u ys),none=>chk (Nat.beq e e') (eqD u t ys xs)
 |some (.cells e' cs exact false false),mode=>chk (Nat.beq e e'&&(Nat.beq (P.cellsOf e) t.size&&Nat.ble 1 t.size)) (cs=t.flat xs∧match exact,mode with
  |true,some m=>m=xs.length
  |false,none=>True
  |_,_=>False)
 |_,_=>False
def fitOpt (P:Program) (mode:Option Nat) (b:Option ABlk) (e:TypeId) (t:Ty) (xs:List t.den):Prop:=match b with
 |none=>(match mode with |none=>xs=[]|some _=>False)
 |some k=>fitOwn P mode (some k) e t xs
theorem fitOpt_refl (P:Program) (e:TypeId) (t:Ty) (xs:List t.den):fitOpt P none (optOwn e t xs) e t xs:=by
 cases xs with
 |nil=>exact rfl
 |cons x l=>simp [optOwn,fitOpt,fitOwn,chk,eqD]
def fitE (P:Program) (σ:Ren) (H:AHeap) (p:Nat×Ent):Prop:=match look σ p.1 with
 |none=>(match p.2 with | .opt _ _ xs=>xs=[]| .blk _=>False)
 |some (i,mode)=>match p.2 with
  | .opt e t xs=>fitOpt P mode (H.get i) e t xs
  | .blk (.own e t xs)=>fitOwn P mode (H.get i) e t xs
  | .blk (.cells e cs x f r)=>(match H.get i,mode with
    |some (.cells e' cs' x' f' r'),none=>chk (Nat.beq e e'&&(x==x'&&(f==f'&&r==r'))) (fitVs σ cs' cs)
    |_,_=>False)
  | .blk _=>False
def fitSlots (σ:Ren) (T:Tr AV) (K:Prop):List (Nat×AV)→Prop
 |[]=>K
 |p::l=>fitV σ ((T.get p.1).getD (.raw undef)) p.2∧fitSlots σ T K l
def fitEnts (P:Program) (σ:Ren) (H:AHeap) (K:Prop):List (Nat×Ent)→Prop
 |[]=>K
 |p::l=>fitE P σ H p∧fitEnts P σ H K l
def okRen (σ:Ren) (next:Nat):Bool:=match σ with
 |[]=>true
 |p::l=>Nat.ble 64 p.1&&(Nat.ble (p.1+1) next&&(l.all (fun q=> !Nat.beq q.2.1 p.2.1)&&okRen l next))
def okEn (next:Nat) (l:List (Nat×Ent)):Bool:=l.all fun p=>Nat.ble 64 p.1&&Nat.ble (p.1+1) next
def okSl (n:Nat) (l:List (Nat×AV)):Bool:=l.all fun p=>Nat.ble (p.1+1) n
def fit (P:Program) (σ:Ren) (n:Nat) (T:Tr AV) (H:AHeap) (s:St):Prop:=
 chk (Nat.beq s.n n&&(okRen σ s.next&&(okEn s.next s.en&&(okSl n s.sl&&Nat.ble 64 s.next)))) (fitSlots σ T (fitEnts P σ H True s.en) s.sl)
theorem chk_and {b:Bool} {p:Prop} (h:chk b p):b=true∧p:=by cases b<;>first |exact h.elim|exact⟨rfl,h⟩
theorem lstFit_ok {z z':Bool} {n:Nat} {p:Prop} (h:lstFit z z' n p):p∧(z'=true→z=true∨n≠0):=by
 cases z' with
 |false=>exact⟨h,fun e=>by cases e⟩
 |true=>
  cases z with
  |true=>exact⟨h,fun _=> .inl rfl⟩
  |false=>exact⟨h.1,fun _=> .inr (by have:=Nat.le_of_ble_eq_true h.2;omega)⟩
theorem eqD_ok {t u:Ty} {xs:List t.den} {ys:List u.den} (h:eqD t u xs ys):∃e:t=u,e ▸ xs=ys:=by
 unfold eqD at h
 split at h
 ·exact⟨_,h⟩
 ·exact h.elim
theorem fitRaw_ok {a b:Value} (h:fitRaw a b):a=b:=by
 unfold fitRaw at h
 split at h
 ·obtain⟨h1,rfl⟩:=chk_and h;rw [of_decide_eq_true h1]
 ·rw [h]
 ·rw [h]
 ·exact h
def ren (σ:Ren) (ρ:Env):Env:=⟨fun j=>if j<64 then ρ j else match look σ j with
 |some (i,mode)=>(match ρ i with |some (b,c)=>some (b,mode.getD c)|none=>none)
 |none=>none,ρ.fz⟩
section
variable {P:Program} {B:Nat} {ρ:Env} {H:AHeap} {w:World} {σ:Ren}
theorem ren_at {i j b c:Nat} (h:isAt σ j i=true) (hr:ρ i=some (b,c)):ren σ ρ j=some (b,c):=by
 show(if j<64 then ρ j else _)=_
 unfold isAt at h
 cases hb:Nat.ble (j+1) 64 with
 |true=>
  rw [hb]at h
  have h:=Nat.eq_of_beq_eq_true h
  subst h
  have hlt:i<64:=Nat.le_of_ble_eq_true hb
  rw [if_pos hlt];exact hr
 |false=>
  rw [hb]at h
  have hn:¬j<64:=fun hh=>by rw [Nat.ble_eq_true_of_le (show j+1≤64 from hh)]at hb;cases hb
  rw [if_neg hn]
  simp only [cond_false]at h
  split at h
  ·rename_i i' hl
   have h:=Nat.eq_of_beq_eq_true h
   subst h
   rw [hl]
   simp only [hr]
   rfl
  ·cases h
theorem Den.osl_of_slice {e:TypeId} {t:Ty} {i j n n':Nat} {cap cap':Cap} {x:Value} (h:fitSl σ i n cap j n' cap') (hd:Den ρ (.slice i 0 n cap) x) (h64:64≤j):Den (ren σ ρ) (.osl e t j 0 n' cap') x:=by
 unfold fitSl at h
 split at h
 ·rename_i i' mode hl
  obtain⟨h1,rfl,h3⟩:=chk_and h
  have h1:=Nat.eq_of_beq_eq_true h1
  subst h1
  obtain⟨b,c,k,g1,g2,g3,rfl⟩:=hd.slice_inv
  have hr:ren σ ρ j=some (b,mode.getD c):=by
   show(if j<64 then ρ j else _)=_
   rw [if_neg (by omega),hl]
   simp only [g1]
  refine osl0 hr ?_ g3
  unfold capFit at h3
  cases mode with
  |none=>subst h3;exact g2
  |some m=>obtain⟨rfl,rfl⟩:=h3;cases m<;>exact g2
 ·exact h.elim
theorem Dens.split {ρ:Env}:∀{a b:List AV} {ys:List Value},Dens ρ (a++b) ys→∃y1 y2,ys=y1++y2∧Dens ρ a y1∧Dens ρ b y2
 |[],b,ys,h=>⟨[],ys,rfl, .nil,h⟩
 |v::a,b,_, .cons h1 h2=>by
  obtain⟨y1,y2,rfl,h3,h4⟩:=Dens.split h2
  exact⟨_::y1,y2,rfl, .cons h1 h3,h4⟩
theorem flat_of_cells {ρ ρ':Env} {t:Ty} (hc:∀(d:t.den) ys,Dens ρ (t.cells d) ys→Dens ρ' (t.cells d) ys):∀(xs:List t.den) ys,Dens ρ (t.flat xs) ys→Dens ρ' (t.flat xs) ys
 |[],ys,h=>by cases h;exact .nil
 |d::xs,ys,h=>by
  rw [Ty.flat_cons]at h ⊢
  obtain⟨y1,y2,rfl,h1,h2⟩:=Dens.split h
  exact(hc d y1 h1).append (flat_of_cells hc xs y2 h2)
theorem cells_fz {ρ ρ':Env} (hf:∀b A,ρ.fz b=some A→ρ'.fz b=some A):∀(t:Ty) (d:t.den) ys,Dens ρ (t.cells d) ys→Dens ρ' (t.cells d) ys
 | .int _,d,ys,h=>by cases h with |cons h1 h2=>cases h2;rw [h1.raw_eq];exact .cons (.raw _) .nil
 | .bool,d,ys,h=>by cases h with |cons h1 h2=>cases h2;rw [h1.raw_eq];exact .cons (.raw _) .nil
 | .str,d,ys,h=>by cases h with |cons h1 h2=>cases h2;rw [h1.raw_eq];exact .cons (.raw _) .nil
 | .list z t,d,ys,h=>by
   cases h with
   |cons h1 h2=>
    cases h2
    refine .cons ?_ .nil
    rcases Den.lst_inv (t:=t) (xs:=d) h1 with⟨e,a,k,rfl,hz⟩|⟨b,off,k,A,g1,g2,g3,g4,rfl,g5⟩
    ·have e:d=([]:List t.den):=e
     subst e
     exact .lstNil hz
    ·exact .lst (hf _ _ g1) g2 rfl (flat_of_cells (fun d ys=>cells_fz hf t d ys) _ _ g3) g4 g5
 | .pair a b,d,ys,h=>by
   obtain⟨y1,y2,rfl,h1,h2⟩:=Dens.split (a:=a.cells d.1) (b:=b.cells d.2) h
   exact(cells_fz hf a d.1 y1 h1).append (cells_fz hf b d.2 y2 h2)
 | .ptr t,d,ys,h=>by
   cases h with
   |cons h1 h2=>
    cases h2
    refine .cons ?_ .nil
    obtain⟨b,o,A,g1,g2,g3,g4,rfl⟩:=Den.lptr_inv (t:=t) (xs:=[d]) h1
    exact .lptr (hf _ _ g1) g2 rfl (flat_of_cells (fun d ys=>cells_fz hf t d ys) _ _ g3) g4
 | .unit,d,ys,h=>by cases h;exact .nil
theorem Dens.ren_flat {t:Ty} {xs:List t.den} {ys:List Value} (h:Dens ρ (t.flat xs) ys):Dens (ren σ ρ) (t.flat xs) ys:=flat_of_cells (ρ:=ρ) (ρ':=ren σ ρ) (fun d ys=>cells_fz (ρ:=ρ) (ρ':=ren σ ρ) (fun _ _ h=>h) t d ys) xs ys h
mutual
theorem fitV_den (hk:∀j p,look σ j=some p→64≤j):∀{v v':AV} {x:Value},fitV σ v v'→Den ρ v x→Den (ren σ ρ) v' x:=by
 intro v v' x h hd
 unfold fitV at h
 split at h
 ·exact .bot x
 ·subst h
  rw [hd.raw_eq]
  exact .oslNil
 ·subst h
  rw [hd.raw_eq]
  exact .lstNil fun _=>⟨rfl,rfl⟩
 ·rw [hd.raw_eq,fitRaw_ok h]
  exact .raw _
 ·obtain⟨h1,rfl⟩:=chk_and h
  obtain⟨b,c,g1,rfl⟩:=hd.ptr_inv
  exact .ptr (ren_at h1 g1)
 ·obtain⟨h1,rfl,rfl,rfl⟩:=chk_and h
  obtain⟨b,c,k,g1,g2,g3,rfl⟩:=hd.slice_inv
  exact .slice (ren_at h1 g1) g2 g3
 ·rename_i i n c e t j n' c'
  refine Den.osl_of_slice h hd ?_
  unfold fitSl at h
  split at h
  ·rename_i hl;exact hk _ _ hl
  ·exact h.elim
 ·obtain⟨h1,h2,h3⟩:=chk_and h
  have h1:=of_decide_eq_true h1
  subst h1
  obtain⟨xs,ys,g1,g2,rfl⟩:=hd.func_inv
  exact .func (fitVs_den hk h2 g1) (fitVs_den hk h3 g2)
 ·obtain⟨h1,_⟩:=chk_and h
  obtain⟨b,c,g1,rfl⟩:=hd.map_inv
  exact .map (ren_at h1 g1)
 ·obtain⟨h1,h2⟩:=chk_and h
  rw [←Nat.eq_of_beq_eq_true h1]
  obtain⟨y,g1,rfl⟩:=hd.iface_inv
  exact .iface (fitV_den hk h2 g1)
 ·obtain⟨xs,g1,rfl⟩:=hd.agg_inv
  exact .agg (fitVs_den hk h g1)
 ·obtain⟨xs,g1,rfl⟩:=hd.tuple_inv
  exact .tuple (fitVs_den hk h g1)
 ·rename_i z t xs z' u ys
  obtain⟨h2,h1⟩:=lstFit_ok h
  obtain⟨e,rfl⟩:=eqD_ok h2
  subst e
  rcases hd.lst_inv with⟨rfl,a,k,rfl,hz⟩|⟨b,off,k,A,g1,g2,g3,g4,rfl,g5⟩
  ·exact .lstNil fun e=>(h1 e).elim hz fun hn=>absurd rfl hn
  ·refine .lst g1 g2 rfl ?_ g4 fun e=>(h1 e).elim g5 fun hn hxs=>hn (by subst hxs;rfl)
   exact Dens.ren_flat g3
 ·rename_i t xs k off u ys k' off'
  obtain⟨h1,rfl,rfl⟩:=h
  obtain⟨e,rfl⟩:=eqD_ok h1
  subst e
  obtain⟨b,o,A,g1,g2,g3,g4,rfl⟩:=hd.lptr_inv
  exact .lptr g1 g2 rfl (Dens.ren_flat g3) g4
 ·rename_i e t i k n c e' u j k' n' c'
  obtain⟨h1,rfl,rfl,rfl⟩:=chk_and h
  simp only [Bool.and_eq_true,decide_eq_true_eq]at h1
  obtain⟨h1,rfl,h3⟩:=h1
  rcases hd.osl_inv with⟨rfl,a,rfl⟩|⟨b,c2,kc,g1,g2,g3,rfl⟩
  ·exact .oslNil
  ·exact .osl (ren_at h3 g1) g2 g3
 ·rename_i e t i k off e' u j k' off'
  obtain⟨h1,rfl,rfl⟩:=chk_and h
  simp only [Bool.and_eq_true,decide_eq_true_eq]at h1
  obtain⟨h1,rfl,h3⟩:=h1
  obtain⟨b,c,g1,rfl⟩:=hd.optr_inv
  exact .optr (ren_at h3 g1)
 ·exact h.elim
theorem fitVs_den (hk:∀j p,look σ j=some p→64≤j):∀{v v':List AV} {x:List Value},fitVs σ v v'→Dens ρ v x→Dens (ren σ ρ) v' x:=by
 intro v v' x h hd
 unfold fitVs at h
 split at h
 ·cases hd;exact .nil
 ·cases hd with
  |cons h1 h2=>exact .cons (fitV_den hk h.1 h1) (fitVs_den hk h.2 h2)
 ·exact h.elim
end
theorem get_setSl {T:Tr AV}:∀(l:List (Nat×AV)) (t:Nat),(setSl T l).get t=match l.find? (fun p=>Nat.beq p.1 t)with |some p=>some p.2|none=>T.get t
 |[],t=>rfl
 |p::l,t=>by
  show((setSl T l).set p.1 (some p.2)).get t=_
  rw [Tr.get_set,List.find?_cons]
  by_cases h:p.1=t
  ·subst h;simp
  ·rw [if_neg h,nbeq h];exact get_setSl l t
theorem get_setEn {T:Tr ABlk}:∀(l:List (Nat×Ent)) (t:Nat),(setEn T l).get t=match l.find? (fun p=>Nat.beq p.1 t)with |some p=>p.2.val|none=>T.get t
 |[],t=>rfl
 |p::l,t=>by
  show((setEn T l).set p.1 p.2.val).get t=_
  rw [Tr.get_set,List.find?_cons]
  by_cases h:p.1=t
  ·subst h;simp
  ·rw [if_neg h,nbeq h];exact get_setEn l t
theorem get_botT:∀(n t:Nat),(botT n).get t=if t<n then some .bot else none
 |0,t=>Tr.get_nil t
 |n+1,t=>by
  show((botT n).set n (some .bot)).get t=_
  rw [Tr.get_set,get_botT n t]
  by_cases h:n=t
  ·subst h;simp
  ·rw [if_neg h]
   by_cases h2:t<n
   ·rw [if_pos h2,if_pos (by omega)]
   ·rw [if_neg h2,if_neg (by omega)]
theorem fitSlots_mem {T:Tr AV} {K:Prop}:∀{l:List (Nat×AV)},fitSlots σ T K l→K∧∀p∈l,fitV σ ((T.get p.1).getD (.raw undef)) p.2
 |[],h=>⟨h,fun _ h=>by cases h⟩
 |p::l,h=>by
  obtain⟨h1,h2⟩:=fitSlots_mem h.2
  refine⟨h1,fun q hq=> ?_⟩
  rcases List.mem_cons.1 hq with rfl |hq
  ·exact h.1
  ·exact h2 q hq
theorem fitEnts_mem {K:Prop}:∀{l:List (Nat×Ent)},fitEnts P σ H K l→K∧∀p∈l,fitE P σ H p
 |[],h=>⟨h,fun _ h=>by cases h⟩
 |p::l,h=>by
  obtain⟨h1,h2⟩:=fitEnts_mem h.2
  refine⟨h1,fun q hq=> ?_⟩
  rcases List.mem_cons.1 hq with rfl |hq
  ·exact h.1
  ·exact h2 q hq
theorem okRen_look {next:Nat}:∀{σ:Ren},okRen σ next=true→∀{j i:Nat} {m:Option Nat},look σ j=some (i,m)→64≤j∧j<next
 |[],_,j,i,m,h=>by cases h
 |p::l,ho,j,i,m,h=>by
  simp only [okRen,Bool.and_eq_true]at ho
  obtain⟨h1,h2,_,h4⟩:=ho
  unfold look at h
  cases hb:Nat.beq p.1 j with
  |true=>
   have:=Nat.eq_of_beq_eq_true hb
   subst this
   exact⟨Nat.le_of_ble_eq_true h1,Nat.le_of_ble_eq_true h2⟩
  |false=>rw [hb]at h;exact okRen_look h4 h
theorem look_mem:∀{σ:Ren} {j i:Nat} {m:Option Nat},look σ j=some (i,m)→(j,i,m)∈σ
 |[],j,i,m,h=>by cases h
 |p::l,j,i,m,h=>by
  unfold look at h
  cases hb:Nat.beq p.1 j with
  |true=>
   rw [hb]at h
   have:=Nat.eq_of_beq_eq_true hb
   subst this
   have e:=Option.some.inj h
   rw [←e];exact List.mem_cons_self
  |false=>rw [hb]at h;exact List.mem_cons_of_mem _ (look_mem h)
theorem okRen_inj {next:Nat}:∀{σ:Ren},okRen σ next=true→∀{j j' i:Nat} {m m':Option Nat},look σ j=some (i,m)→look σ j'=some (i,m')→j=j'
 |[],_,j,j',i,m,m',h,_=>by cases h
 |p::l,ho,j,j',i,m,m',h,h'=>by
  simp only [okRen,Bool.and_eq_true]at ho
  obtain⟨_,_,h3,h4⟩:=ho
  have key:∀{x:Nat} {mx:Option Nat},look l x=some (i,mx)→p.2.1≠i:=fun hx e=>by
   have:=List.all_eq_true.1 h3 _ (look_mem hx)
   rw [e]at this
   simp at this
  unfold look at h h'
  cases hb:Nat.beq p.1 j<;>cases hb':Nat.beq p.1 j'<;>rw [hb]at h<;>rw [hb']at h'<;>simp only [cond_true,cond_false]at h h'
  ·exact okRen_inj h4 h h'
  ·exact absurd (congrArg Prod.fst (Option.some.inj h')) (key h)
  ·exact absurd (congrArg Prod.fst (Option.some.inj h)) (key h')
  ·rw [←Nat.eq_of_beq_eq_true hb,←Nat.eq_of_beq_eq_true hb']
theorem ren_look {j i b c:Nat} {mode:Option Nat} (hl:look σ j=some (i,mode)) (h64:64≤j) (hr:ρ i=some (b,c)):ren σ ρ j=some (b,mode.getD c):=by
 show(if j<64 then ρ j else _)=_
 rw [if_neg (by omega),hl]
 simp only [hr]
theorem optOwn_some {e:TypeId} {t:Ty} {xs:List t.den} {k:ABlk} (h:optOwn e t xs=some k):k= .own e t xs:=by
 cases xs with
 |nil=>cases h
 |cons x l=>cases h;rfl
theorem fitOwn_ok {mode:Option Nat} {e:TypeId} {t:Ty} {xs:List t.den} {i j:Nat} (h:fitOwn P mode (H.get i) e t xs) (hH:HDen P B ρ H w) (hl:look σ j=some (i,mode)) (h64:64≤j):
  ∃k b c o,H.get i=some k∧ρ i=some (b,c)∧w.heap[b]? =some o∧ren σ ρ j=some (b,mode.getD c)∧BDen P (ren σ ρ) j (.own e t xs) o∧k.isRo=false∧(k.isRo=false→B≤b):=by
 unfold fitOwn at h
 split at h
 ·rename_i e' u ys hi
  obtain⟨h1,h2⟩:=chk_and h
  have h1:=Nat.eq_of_beq_eq_true h1
  obtain⟨e0,h2⟩:=eqD_ok h2
  subst h1;subst e0;subst h2
  obtain⟨b,c,o,g1,g2,⟨⟨zs,fz,k1,k2,k3,k4,k5⟩,k6,k7⟩,g4⟩:=hH.blk i _ hi
  have hr:=ren_look hl h64 g1
  refine⟨_,b,c,o,hi,g1,g2,hr,⟨⟨zs,fz,k1,k2,Dens.ren_flat k3,k4,fun hx=> ?_⟩,k6,k7⟩,rfl,g4⟩
  obtain⟨b',c',q1,q2⟩:=k5 hx
  rw [g1]at q1;cases q1
  exact⟨b,c,hr,q2⟩
 ·rename_i e' cs exact_ m hi
  obtain⟨h1,h2,h3⟩:=chk_and h
  simp only [Bool.and_eq_true]at h1
  obtain⟨h1,h4,h5⟩:=h1
  have h1:=Nat.eq_of_beq_eq_true h1
  have h4:=Nat.eq_of_beq_eq_true h4
  have h5:=Nat.le_of_ble_eq_true h5
  subst h1;subst h2
  obtain⟨b,c,o,g1,g2,⟨zs,fz,k1,k2,k3,k4,k5⟩,g4⟩:=hH.blk i _ hi
  have hr:=ren_look hl h64 g1
  refine⟨_,b,c,o,hi,g1,g2,hr,⟨⟨zs,fz,k1,k2,Dens.ren_flat k3,(fun hx=>by cases hx),fun _=> ?_⟩,h4,h5⟩,rfl,g4⟩
  split at h3
  ·subst h3
   exact⟨b,_,hr,by rw [k4 rfl,t.flat_len,h4];rfl⟩
  ·obtain⟨b',c',q1,q2⟩:=k5 rfl
   rw [g1]at q1;cases q1
   exact⟨b,c,hr,q2⟩
  ·exact h3.elim
 ·exact h.elim
theorem entry_old (hH:HDen P B ρ H w) {s:St} (hr:okRen σ s.next=true) (he:∀p∈s.en,fitE P σ H p) {j:Nat} {k':ABlk} (hj:s.H.get j=some k'):
  ∃i mode k b c o,look σ j=some (i,mode)∧64≤j∧j<s.next∧H.get i=some k∧ρ i=some (b,c)∧w.heap[b]? =some o∧ren σ ρ j=some (b,mode.getD c)∧BDen P (ren σ ρ) j k' o∧k'.isRo=k.isRo∧(k.isRo=false→B≤b):=by
 have hj:(setEn .nil s.en).get j=some k':=hj
 rw [get_setEn]at hj
 split at hj
 ·rename_i p hp
  have hm:=List.mem_of_find?_eq_some hp
  have hpj:p.1=j:=Nat.eq_of_beq_eq_true (List.find?_some (p:=fun(q:Nat×Ent)=>Nat.beq q.1 j) hp)
  have hfe:=he p hm
  unfold fitE at hfe
  rw [hpj]at hfe
  split at hfe
  ·split at hfe
   ·rename_i e t xs hp2
    rw [hp2,hfe]at hj
    cases hj
   ·exact hfe.elim
  ·rename_i i mode hl
   obtain⟨l1,l2⟩:=okRen_look hr hl
   refine⟨i,mode, ?_⟩
   split at hfe
   ·rename_i e t xs hp2
    rw [hp2]at hj
    have hfe:fitOwn P mode (H.get i) e t xs:=by
     unfold fitOpt at hfe
     split at hfe
     ·split at hfe
      ·subst hfe;cases hj
      ·exact hfe.elim
     ·rename_i hi;rw [hi];exact hfe
    obtain rfl:=optOwn_some hj
    obtain⟨k,b,c,o,q1,q2,q3,q4,q5,q6,q7⟩:=fitOwn_ok hfe hH hl l1
    exact⟨k,b,c,o,hl,l1,l2,q1,q2,q3,q4,q5,q6.symm,q7⟩
   ·rename_i e t xs hp2
    rw [hp2]at hj
    cases hj
    obtain⟨k,b,c,o,q1,q2,q3,q4,q5,q6,q7⟩:=fitOwn_ok hfe hH hl l1
    exact⟨k,b,c,o,hl,l1,l2,q1,q2,q3,q4,q5,q6.symm,q7⟩
   ·rename_i e cs x f r hp2
    rw [hp2]at hj
    cases hj
    split at hfe
    ·rename_i e' cs' x' f' r' hi
     obtain⟨h1,h2⟩:=chk_and hfe
     simp only [Bool.and_eq_true,beq_iff_eq]at h1
     obtain⟨h1,h3,h4,h5⟩:=h1
     have h1:=Nat.eq_of_beq_eq_true h1
     subst h1;subst h3;subst h4;subst h5
     obtain⟨b,c,o,g1,g2,⟨zs,fz,k1,k2,k3,k4,k5⟩,g4⟩:=hH.blk i _ hi
     have hrj:=ren_look hl l1 g1
     have hd:=fitVs_den (fun j p hq=>(okRen_look hr (j:=j) (i:=p.1) (m:=p.2) hq).1) h2 k3
     have hlen:cs'.length=cs.length:=by
      have e1:=k3.length
      have e2:=hd.length
      omega
     refine⟨_,b,c,o,hl,l1,l2,hi,g1,g2,hrj,⟨zs,fz,k1,k2,by rw [←hlen];exact hd,fun hx=>by rw [k4 hx,hlen],fun hx=> ?_⟩,rfl,g4⟩
     obtain⟨b',c',q1,q2⟩:=k5 hx
     rw [g1]at q1;cases q1
     exact⟨b,c,hrj,q2⟩
    ·exact hfe.elim
   ·exact hfe.elim
 ·rw [Tr.get_nil]at hj;cases hj
theorem fit_ok {n:Nat} {T:Tr AV} {a:Act} {s:St} (hAR:AR P B ρ n T H a w) (h:fit P σ n T H s):AR P B (ren σ ρ) n s.T s.H a w∧∀i,s.next≤i→ren σ ρ i=none:=by
 obtain⟨h1,h2⟩:=chk_and h
 simp only [Bool.and_eq_true]at h1
 obtain⟨h1,h3,h4,h5,h6⟩:=h1
 have h1:=Nat.eq_of_beq_eq_true h1
 have h6:=Nat.le_of_ble_eq_true h6
 obtain⟨h7,h8⟩:=fitSlots_mem h2
 obtain⟨_,h9⟩:=fitEnts_mem h7
 have old:=fun {j:Nat} {k':ABlk} (hj:s.H.get j=some k')=>entry_old hAR.H h3 h9 hj
 refine⟨⟨⟨hAR.T.size,fun t=> ?_⟩,⟨fun j k' hj=> ?_,fun j1 j2 k1 k2 b c1 c2 hj1 hj2 r1 r2=> ?_,fun j k' hj=> ?_,hAR.H.base,fun b A hb=>⟨(hAR.H.fz b A hb).1,fun j k' c hj hr=> ?_⟩⟩,⟨fun g hg=> ?_,hAR.G.gz⟩⟩,fun i hi=> ?_⟩
 ·have e:s.T=setSl (botT s.n) s.sl:=rfl
  rw [e,get_setSl]
  split
  ·rename_i p hp
   have hm:=List.mem_of_find?_eq_some hp
   have hpt:p.1=t:=Nat.eq_of_beq_eq_true (List.find?_some (p:=fun(q:Nat×AV)=>Nat.beq q.1 t) hp)
   have:=hAR.T.get p.1
   rw [hpt]at this
   have hv:=h8 p hm
   rw [hpt]at hv
   exact fitV_den (fun j q hq=>(okRen_look h3 (j:=j) (i:=q.1) (m:=q.2) hq).1) hv this
  ·rw [get_botT,h1]
   by_cases ht:t<n
   ·rw [if_pos ht];exact .bot _
   ·rw [if_neg ht]
    have:a.tmps.getD t undef=undef:=by
     rw [Array.getD_eq_getD_getElem?,Array.getElem?_eq_none (by rw [hAR.T.size];omega)];rfl
    rw [this];exact .raw _
 ·obtain⟨i,mode,k,b,c,o,q1,q2,q3,q4,q5,q6,q7,q8,q9,q10⟩:=old hj
  exact⟨b,_,o,q7,q6,q8,fun e=>q10 (q9 ▸ e)⟩
 ·obtain⟨i1,m1,k1',b1,d1,o1,p1,p2,p3,p4,p5,p6,p7,_⟩:=old hj1
  obtain⟨i2,m2,k2',b2,d2,o2,q1,q2,q3,q4,q5,q6,q7,_⟩:=old hj2
  rw [p7]at r1;cases r1
  rw [q7]at r2;cases r2
  have:=hAR.H.inj i1 i2 k1' k2' b d1 d2 p4 q4 p5 q5
  subst this
  exact okRen_inj h3 p1 q1
 ·obtain⟨i,mode,k,b,c,o,q1,q2,q3,_⟩:=old hj
  exact q3
 ·obtain⟨i,mode,k,b',c',o,q1,q2,q3,q4,q5,q6,q7,q8,q9,q10⟩:=old hj
  rw [q7]at hr;cases hr
  rw [q9]
  exact(hAR.H.fz b A hb).2 i k c' q4 q5
 ·obtain⟨c,hc⟩:=hAR.G.at' g hg
  refine⟨c, ?_⟩
  show(if g<64 then ρ g else _)=_
  rw [if_pos hg];exact hc
 ·show(if i<64 then ρ i else _)=_
  rw [if_neg (by omega)]
  cases hl:look σ i with
  |none=>rfl
  |some p=>exact absurd (okRen_look h3 (j:=i) (i:=p.1) (m:=p.2) hl).2 (by omega)
theorem fit_own {n:Nat} {T:Tr AV} {a:Act} {s:St} (hAR:AR P B ρ n T H a w) (h:fit P σ n T H s) {b:Nat} (hb:Own (ren σ ρ) s.H b):Own ρ H b:=by
 obtain⟨h1,h2⟩:=chk_and h
 simp only [Bool.and_eq_true]at h1
 obtain⟨_,h3,_⟩:=h1
 obtain⟨h7,_⟩:=fitSlots_mem h2
 obtain⟨_,h9⟩:=fitEnts_mem h7
 obtain⟨j,k',c',hj,hro,hr⟩:=hb
 obtain⟨i,mode,k,b',d,o,q1,q2,q3,q4,q5,q6,q7,q8,q9,q10⟩:=entry_old hAR.H h3 h9 hj
 rw [q7]at hr
 cases hr
 exact⟨i,k,_,q4,by rw [←hro,q9],q5⟩
end
end
end Go.Proofs.YtccmlbinkgbpgaaGreatDoor.Sv
