/- A runner over an abstract memory, whose blocks bear numbers of its own: definitions. -/
import Derived.RowKit
import Derived.Laws.AppendOwn
import Derived.Laws.CopyRow
import Derived.OrdersIn
import Derived.Below
import Derived.Scope
set_option linter.unusedSimpArgs false
namespace Go.Proofs.YtibikmmdbdlafaaGreatDoor
set_option linter.defProp false
def az:=@decide_eq_true
def ab:=@decide_eq_false
def ac:=@Nat.eq_of_beq_eq_true
def ae:=@Bool.and_eq_true
def bR:=@Nat.le_of_ble_eq_true
def bz:=@decide_eq_true_eq
def dx:=@Array.getElem?_eq_some_iff
def fP:=@beq_eq_false_iff_ne
def fU:=@beq_iff_eq
def dG:=@Option.bind_eq_some_iff
def am:=@Option.map_eq_some_iff
def ao:=@List.getD_eq_getElem?_getD
def ap:=@of_decide_eq_true
def dU:=@Int.mul_le_mul_of_nonneg_left
def ar:=@Int.mul_le_mul_of_nonneg_right
def fo:=@Nat.ble_eq_true_of_le
def ef:=@List.take_of_length_le
def aw:=@Nat.zero_add
def aE:=@Nat.le_refl
def bY:=@List.length_set
def jY:=@List.not_mem_nil
def cS:=@Int.emod_lt_of_pos
def c6:=@Int.emod_nonneg
def cG:=@List.length_append
def dA:=@List.take_length
def dK:=@List.length_take
def dV:=@List.mem_cons
def cX:=@Nat.le_trans
def ck:=@Int.le_of_lt
def jA:=@bne_eq_false_iff_eq
def gJ:=@bne_iff_ne
def k6:=@List.mem_cons_of_mem
def k7:=@List.mem_cons_self
def mP:=@List.getElem?_eq_getElem
def gW:=@List.length_map
def mQ:=@List.length_drop
def jB:=@Option.some.inj
def sB:=@Option.some.injEq
def e7:=@Nat.lt_succ_self
def ou:=@List.append_assoc
end Go.Proofs.YtibikmmdbdlafaaGreatDoor
namespace Go.Proofs.YtibikmmdbdlafaaGreatDoor.Sv
noncomputable section
inductive aS where
 |known (n:Nat)
 |full
 |any
inductive au where
 |int (k:IntKind)
 |bool
 |str
 |list (z:Bool) (t:au)
 |pair (a b:au)
 |ptr (t:au)
 |unit
 deriving DecidableEq
@[reducible] def au.den:au->Type
  | .int _=>Int
  | .bool=>Bool
  | .str=>ByteArray
  | .list _ t=>List t.den
  | .pair a b=>a.den×b.den
  | .ptr t=>t.den
  | .unit=>Unit
def au.size:au->Nat
 | .int _=>1
 | .bool=>1
 | .str=>1
 | .list _ _=>1
 | .pair a b=>a.size+b.size
 | .ptr _=>1
 | .unit=>0
def au.dflt:(t:au)->t.den
 | .int _=>(0:Int)
 | .bool=>false
 | .str=>ByteArray.empty
 | .list _ _=>[]
 | .pair a b=>(a.dflt,b.dflt)
 | .ptr t=>t.dflt
 | .unit=>()
inductive aa where
 |raw (v:Value)
 |ptr (i off:Nat)
 |slice (i off len:Nat) (cap:aS)
 |func (fn:Fn) (first captured:List aa)
 |yield (i:Nat)
 |map (i:Nat)
 |iface (t:TypeId) (v:aa)
 |agg (cs:List aa)
 |tuple (vs:List aa)
 |bk (z:Bool) (t:au) (xs:List t.den)
 |e8 (t:au) (xs:List t.den) (k off:Nat)
 |bN (e:TypeId) (t:au) (i k len:Nat) (cap:aS)
 |dy (e:TypeId) (t:au) (i k off:Nat)
 |bot
def au.cells:(t:au)->t.den->List aa
 | .int k,x=>[.raw (.int k x)]
 | .bool,x=>[.raw (.bool x)]
 | .str,x=>[.raw (.string x)]
 | .list z t,x=>[.bk z t x]
 | .pair a b,x=>a.cells x.1++b.cells x.2
 | .ptr t,x=>[.e8 t [x] 0 0]
 | .unit,_=>[]
def au.flat (t:au) (xs:List t.den):List aa:=xs.flatMap t.cells
inductive av (α:Type) where
 |nil
 |node (l:av α) (v:Option α) (r:av α)
def wE (f:Nat):Nat->List Bool:=
 @Nat.rec (fun _=>Nat->List Bool) (fun _=>[]) (fun _ ih i=> @Bool.rec (fun _=>List Bool) (@Bool.rec (fun _=>List Bool) (false::ih (Nat.sub (Nat.div i 2) 1)) (true::ih (Nat.div i 2)) (Nat.beq (Nat.mod i 2) 1)) [] (Nat.beq i 0)) f
def bits (i:Nat):List Bool:=wE (Nat.succ i) i
def av.ov {α:Type} (p:List Bool):av α->Option α:=
 @List.rec Bool (fun _=>av α->Option α) (fun t=> @av.rec α (fun _=>Option α) none (fun _ v _ _ _=>v) t)
   (fun b _ ih t=> @av.rec α (fun _=>Option α) none (fun l _ r _ _=> @Bool.rec (fun _=>Option α) (ih r) (ih l) b) t) p
def av.wF {α:Type} (x:Option α) (p:List Bool):av α->av α:=
 @List.rec Bool (fun _=>av α->av α) (fun t=> @av.rec α (fun _=>av α) (.node .nil x .nil) (fun l _ r _ _=> .node l x r) t)
   (fun b _ ih t=> @av.rec α (fun _=>av α) (@Bool.rec (fun _=>av α) (.node .nil none (ih .nil)) (.node (ih .nil) none .nil) b) (fun l v r _ _=> @Bool.rec (fun _=>av α) (.node l v (ih r)) (.node (ih l) v r) b) t) p
def av.get {α:Type} (t:av α) (i:Nat):Option α:=av.ov (bits i) t
def av.set {α:Type} (t:av α) (i:Nat) (x:Option α):av α:=av.wF x (bits i) t
def nth {α:Type} (l:List α):Nat->Option α:=
 @List.rec α (fun _=>Nat->Option α) (fun _=>none) (fun a _ ih i=> @Bool.rec (fun _=>Option α) (ih (Nat.sub i 1)) (some a) (Nat.beq i 0)) l
structure Bb where
 tmps:av aa
 size:Nat
 params:Array Tmp
 assign:Code
 body:Code
 state:LoopState
 pending:Option Code
inductive bf where
 |cells (elem:TypeId) (cs:List aa) (exact cz ro:Bool)
 |map (es:Array MapEntry) (clock:Nat)
 |loop (r:Bb)
 |deferred
 |own (elem:TypeId) (t:au) (xs:List t.den)
 |one (key:Value) (v:aa)
 |iter (i:Nat) (clock:Nat) (done:Bool)
structure ai where
 m:av bf
 next:Nat
def ai.get (H:ai) (i:Nat):Option bf:=H.m.get i
def ai.set (H:ai) (i:Nat) (b:bf):ai:= @ai.rec (fun _=>ai) (fun m n=>⟨m.set i (some b),n⟩) H
def ai.drop (H:ai) (i:Nat):ai:= @ai.rec (fun _=>ai) (fun m n=>⟨m.set i none,n⟩) H
def ai.skip (H:ai):ai:= @ai.rec (fun _=>ai) (fun m n=>⟨m,Nat.succ n⟩) H
def ai.new (H:ai) (b:bf):ai:= @ai.rec (fun _=>ai) (fun m n=>⟨m.set n (some b),Nat.succ n⟩) H
def di (P:Program) {α:Type}:Sem α->Option α
 | .pure a=>some a
 | .program k=>di P (k P)
 | .mark _ k=>di P k
 |_=>none
mutual
def aa.gK:aa->Option Value
 | .raw v=>some v
 | .iface t v=>(v.gK).map (Value.iface t)
 | .agg cs=>(aa.kr cs).map fun l=>Value.agg l.toArray
 | .tuple cs=>(aa.kr cs).map fun l=>Value.tuple l.toArray
 | .func fn fs cs=>(aa.kr fs).bind fun l=>(aa.kr cs).map fun k=>Value.func fn l.toArray k.toArray
 |_=>none
def aa.kr:List aa->Option (List Value)
 |[]=>some []
 |v::vs=>(v.gK).bind fun x=>(aa.kr vs).map fun l=>x::l
end
def aa.e9:aa->Option Value
 | .raw v=>some v
 |v=>v.gK
def gX (a:Array Value):List aa:=a.toList.map .raw
def aa.cells:aa->List aa
 | .agg cs=>cs
 | .raw (.agg cs)=>gX cs
 |v=>[v]
def aa.uC (v:aa):Bool:= @aa.casesOn (fun _=>Bool) v (fun _=>false) (fun _ _=>false) (fun _ _ _ _=>false) (fun _ _ _=>false) (fun _=>false) (fun _=>false) (fun _ _=>false) (fun _=>false) (fun _=>false) (fun _ _ _=>false) (fun _ _ _ _=>false) (fun _ _ _ _ _ _=>false) (fun _ _ _ _ _=>false) true
def aa.one:aa->Bool
 | .raw (.agg _)| .raw (.tuple _)| .agg _| .tuple _| .yield _| .bot=>false
 |_=>true
inductive aI where
 |no
 |ok (v:aa) (H:ai)
 |enter (f:FuncId) (args:List aa) (H:ai)
 |round (i:Nat) (args:List aa) (H:ai)
def ag (H:ai) (x:Option aa):aI:= @Option.rec aa (fun _=>aI) .no (fun v=> .ok v H) x
def eE (x:Option (aa×ai)):aI:=match x with |none=> .no|some (v,H)=> .ok v H
abbrev dH:=Operand->aa
def t8 (k s:Nat) (x:aa) (H:ai):aI:=match x with
 | .bk _ t xs=>cond (Nat.beq t.size s&&Nat.ble (k+1) xs.length) (.ok (.e8 t xs k 0) H) .no
 | .bN e t i k0 len _=>cond (Nat.beq t.size s&&Nat.ble (k+1) len) (.ok (.dy e t i (k0+k) 0) H) .no
 |_=> .no
def uD (k n s:Nat) (x:aa) (H:ai):aI:=match x with
 | .e8 t xs k0 off=>cond (Nat.ble (k+1) n) (.ok (.e8 t xs k0 (off+k*s)) H) .no
 | .dy e t i k0 off=>cond (Nat.ble (k+1) n) (.ok (.dy e t i k0 (off+k*s)) H) .no
 |_=> .no
def kd (gp n:Nat) (x:aa) (H:ai):aI:=match x with
 | .e8 t xs k off=> @Bool.rec (fun _=>aI) .no (.ok (.e8 t xs k (off+gp)) H) (Nat.ble 1 n)
 | .dy e t i k off=> @Bool.rec (fun _=>aI) .no (.ok (.dy e t i k (off+gp)) H) (Nat.ble 1 n)
 |_=> .no
def W9:TypeDesc->Bool
 | .struct _| .array _ _=>true
 |_=>false
def Bc (P:Program) (t:TypeId):Option Bool:=(P.underlying t).map W9
def cp (P:Program) (t:TypeId):Option Nat:=(P.info? t).map TypeInfo.size
def mR (P:Program) (t:TypeId):Option Value:=(P.info? t).bind TypeInfo.zero
def k8 (P:Program) (t:TypeId):Option TypeId:=match P.underlying t with |some (.slice e)=>some e|_=>none
inductive G7 where
 |no
 |one
 |agg (n:Nat)
def lv (P:Program) (t:TypeId):G7:=match Bc P t,cp P t with
 |some true,some n=> .agg n
 |some false,_=> .one
 |_,_=> .no
inductive Oa where
 |no
 |arr (n s:Nat)
 |sl (s:Nat)
def nG (P:Program) (t:TypeId):Oa:=match P.underlying t with
 |some (.array n e)=>(match cp P e with |some s=> .arr n s|none=> .no)
 |some (.slice e)=>(match cp P e with |some s=> .sl s|none=> .no)
 |_=> .no
inductive G8 where
 |no
 |mk (off size:Nat) (t:TypeId)
def fv (P:Program) (s:TypeId) (f:Nat):G8:=match P.underlying s with
 |some (.struct fs)=>(match fs[f]? with
  |some fd=>(match cp P fd.type with |some n=> .mk fd.offset n fd.type|none=> .no)
  |none=> .no)
 |_=> .no
inductive wG where
 |no
 |mk (i off:Nat)
inductive bl where
 |no
 |mk (i off len:Nat) (cap:aS)
inductive uE where
 |no
 |mk (n:Nat)
inductive mS where
 |no
 |mk (b:Bool)
inductive Bd where
 |no
 |mk (e:TypeId) (cs:List aa) (exact cz ro:Bool)
inductive wH where
 |no
 |int (k:IntKind) (n:Int)
def G9 (v:Value):wH:= @Value.casesOn (fun _=>wH) v (fun _=> .no) (fun k n=> .int k n) (fun _ _=> .no) (fun _ _ _=> .no) (fun _=> .no) (fun _=> .no) (fun _ _ _=> .no) (fun _=> .no) (fun _=> .no) (fun _ _ _=> .no) .no (fun _ _=> .no) .no (fun _=> .no) (fun _=> .no)
def iA (v:aa):wH:= @aa.casesOn (fun _=>wH) v G9 (fun _ _=> .no) (fun _ _ _ _=> .no) (fun _ _ _=> .no) (fun _=> .no) (fun _=> .no) (fun _ _=> .no) (fun _=> .no) (fun _=> .no) (fun _ _ _=> .no) (fun _ _ _ _=> .no) (fun _ _ _ _ _ _=> .no) (fun _ _ _ _ _=> .no) .no
def uF (n:Int):uE:= @Int.casesOn (fun _=>uE) n (fun m=> .mk m) (fun _=> .no)
def nH (v:aa):uE:= @wH.rec (fun _=>uE) .no (fun _ n=>uF n) (iA v)
def He (v:Value):mS:= @Value.casesOn (fun _=>mS) v (fun b=> .mk b) (fun _ _=> .no) (fun _ _=> .no) (fun _ _ _=> .no) (fun _=> .no) (fun _=> .no) (fun _ _ _=> .no) (fun _=> .no) (fun _=> .no) (fun _ _ _=> .no) .no (fun _ _=> .no) .no (fun _=> .no) (fun _=> .no)
def gq (v:aa):mS:= @aa.casesOn (fun _=>mS) v He (fun _ _=> .no) (fun _ _ _ _=> .no) (fun _ _ _=> .no) (fun _=> .no) (fun _=> .no) (fun _ _=> .no) (fun _=> .no) (fun _=> .no) (fun _ _ _=> .no) (fun _ _ _ _=> .no) (fun _ _ _ _ _ _=> .no) (fun _ _ _ _ _=> .no) .no
def iB (v:aa):wG:= @aa.casesOn (fun _=>wG) v (fun _=> .no) (fun i off=> .mk i off) (fun _ _ _ _=> .no) (fun _ _ _=> .no) (fun _=> .no) (fun _=> .no) (fun _ _=> .no) (fun _=> .no) (fun _=> .no) (fun _ _ _=> .no) (fun _ _ _ _=> .no) (fun _ _ _ _ _ _=> .no) (fun _ _ _ _ _=> .no) .no
def wI (v:aa):bl:= @aa.casesOn (fun _=>bl) v (fun _=> .no) (fun _ _=> .no) (fun i off len cap=> .mk i off len cap) (fun _ _ _=> .no) (fun _=> .no) (fun _=> .no) (fun _ _=> .no) (fun _=> .no) (fun _=> .no) (fun _ _ _=> .no) (fun _ _ _ _=> .no) (fun _ _ _ _ _ _=> .no) (fun _ _ _ _ _=> .no) .no
def qK (v:aa):Option (List aa):= @aa.casesOn (fun _=>Option (List aa)) v (fun _=>none) (fun _ _=>none) (fun _ _ _ _=>none) (fun _ _ _=>none) (fun _=>none) (fun _=>none) (fun _ _=>none) (fun cs=>some cs) (fun _=>none) (fun _ _ _=>none) (fun _ _ _ _=>none) (fun _ _ _ _ _ _=>none) (fun _ _ _ _ _=>none) none
def yO (v:aa):Option (List aa):= @aa.casesOn (fun _=>Option (List aa)) v (fun _=>none) (fun _ _=>none) (fun _ _ _ _=>none) (fun _ _ _=>none) (fun _=>none) (fun _=>none) (fun _ _=>none) (fun _=>none) (fun cs=>some cs) (fun _ _ _=>none) (fun _ _ _ _=>none) (fun _ _ _ _ _ _=>none) (fun _ _ _ _ _=>none) none
def sC (b:Option bf):Bd:= @Option.rec bf (fun _=>Bd) .no (fun b=> @bf.casesOn (fun _=>Bd) b (fun e cs x f r=> .mk e cs x f r) (fun _ _=> .no) (fun _=> .no) .no (fun _ _ _=> .no) (fun _ _=> .no) (fun _ _ _=> .no)) b
def bI (t:au) (b:Option bf):List t.den:=match b with
 |some (.own _ t' xs)=>if h:t'=t then h ▸ xs else []
 |_=>[]
def bt (e:TypeId) (t:au) (b:Option bf) (k:Nat):Bool:=match b with
 |some (.own e' t' xs)=>Nat.beq e e'&&(decide (t'=t)&&Nat.ble (k+1) xs.length)
 |_=>false
def aS.isFull:aS->Bool
 | .full=>true
 |_=>false
def aS.isNil:aS->Bool
 | .known n=>Nat.beq n 0
 |_=>false
def bA:Nat->aS
 |0=> .known 0
 |_+1=> .full
def yP (e:TypeId) (t:au) (b:Option bf) (n:Nat) (cap:aS):Bool:=match b with
 |some (.own e' t' xs)=>Nat.beq e e'&&(decide (t'=t)&&(Nat.beq xs.length n&&cap.isFull))
 |none=>Nat.beq n 0&&cap.isNil
 |_=>false
def bM (e:TypeId) (t:au) (xs:List t.den):Option bf:=match xs with
 |[]=>none
 |x::l=>some (.own e t (x::l))
def elemAt (t:au) (xs:List t.den) (k:Nat):List aa:=t.cells (xs.getD k t.dflt)
def yQ (k:IntKind) (l:List aa):Option (Int×List aa):=match l with | .raw (.int k' x)::r=>(if k=k' then some (x,r)else none)|_=>none
def yR (l:List aa):Option (Bool×List aa):=match l with | .raw (.bool x)::r=>some (x,r)|_=>none
def yS (l:List aa):Option (ByteArray×List aa):=match l with | .raw (.string x)::r=>some (x,r)|_=>none
def Hf (z:Bool) (t:au) (l:List aa):Option (List t.den×List aa):=match l with
 | .bk z' t' xs::r=>if h:t'=t then(cond (!z||z'||Nat.ble 1 xs.length) (some (h ▸ xs,r)) none)else none
 | .raw (.slice none 0 0)::r=>some ([],r)
 |_=>none
def yT (t:au) (l:List aa):Option (t.den×List aa):=match l with
 | .e8 t' [x] 0 0::r=>if h:t'=t then some (h ▸ x,r)else none
 |_=>none
def au.sD:(t:au)->List aa->Option (t.den×List aa)
 | .int k,l=>yQ k l
 | .bool,l=>yR l
 | .str,l=>yS l
 | .list z t,l=>Hf z t l
 | .pair a b,l=>match a.sD l with
   |some (x,l')=>(match b.sD l' with |some (y,r)=>some ((x,y),r)|none=>none)
   |none=>none
 | .ptr t,l=>yT t l
 | .unit,l=>some ((),l)
def au.read (t:au) (l:List aa):Option t.den:=match t.sD l with |some (d,[])=>some d|_=>none
def au.qL (t:au):Nat->List aa->Option (List t.den)
 |0,[]=>some []
 |0,_::_=>none
 |n+1,l=>match t.sD l with |some (d,r)=>(t.qL n r).map fun ds=>d::ds|none=>none
def cut (cs:List aa) (off n:Nat):List aa:=(cs.drop off).take n
def apart (P:Program) (t:TypeId) (cs:List aa) (off:Nat):Option aa:=
 @G7.rec (fun _=>Option aa) none (nth cs off) (fun n=>some (.agg (cut cs off n))) (lv P t)
def ow (P:Program) (t:TypeId) (cs:List aa) (off:Nat):Option aa:=
 @G7.rec (fun _=>Option aa) none (nth cs off) (fun n=> @Bool.rec (fun _=>Option aa) none (some (.agg (cut cs off n))) (Nat.ble (Nat.add off n) cs.length)) (lv P t)
def Hg (v:aa) (cs:List aa):Nat->Option (List aa):=
 @List.rec aa (fun _=>Nat->Option (List aa)) (fun _=>none) (fun a l ih off=> @Bool.rec (fun _=>Option (List aa)) (@Option.rec (List aa) (fun _=>Option (List aa)) none (fun r=>some (a::r)) (ih (Nat.sub off 1))) (some (v::l)) (Nat.beq off 0)) cs
def ku (cs:List aa) (off:Nat) (vs:List aa):Option (List aa):=
 match vs with
 |[v]=>Hg v cs off
 |vs=>cond (Nat.ble (off+vs.length) cs.length) (some (cs.take off++vs++cs.drop (off+vs.length))) none
def qM (place:Nat->Option (Nat×Nat)):List aa->List (Nat×aa)->Option (List aa)
 |cells,[]=>some cells
 |cells,(i,v)::rest=>
  (place i).bind fun p=>cond (cond v.uC false (Nat.beq v.cells.length p.2)) ((ku cells p.1 v.cells).bind fun cells=>qM place cells rest) none
def sameKind:aa->aa->Bool
 | .ptr .., .raw (.pointer none)| .slice .., .raw (.slice none _ _)| .func .., .raw .nilFunc| .iface .., .raw .nilIface| .map _, .raw (.map none)=>true
 |_,_=>false
def lU (P:Program) (t:TypeId):aa->Bool
 | .ptr .. =>match P.underlying t with |some (.pointer _)=>true|_=>false
 | .slice .. =>match P.underlying t with |some (.slice _)=>true|_=>false
 | .func .. =>match P.underlying t with |some (.func _ _ _)=>true|_=>false
 | .iface .. =>match P.underlying t with |some (.interface _)=>true|_=>false
 | .map _=>match P.underlying t with |some (.map _ _)=>true|_=>false
 |_=>false
def mc (ev:dH) (x:Operand):Value:=((ev x).e9).getD undef
def gen (P:Program) (o:Oper) (ev:dH):Option aa:=
 cond (o.op.operands.toList.all fun x=>(ev x).e9.isSome)
  (match di P (execOp (mc ev) o)with
    |some (.value v)=>some (.raw v)
    |some .skip=>some (.raw undef)
    |_=>none) none
def mn (v:aa):Option Nat:= @uE.rec (fun _=>Option Nat) none (fun n=>some n) (nH v)
def lV (o:Option aa) (d:Nat):Option Nat:=match o with |none=>some d|some v=>mn v
def yU (P:Program) (e:TypeId) (s n:Nat) (lo hi mx:Option aa) (k:Nat->Nat->aa):Option aa:=
 (cp P e).bind fun s'=>(lV hi n).bind fun h=>(lV lo 0).bind fun l=>cond (mx.isNone&&Nat.beq s s'&&Nat.ble l h&&Nat.ble h n) (some (k l h)) none
def Ob (c:aS) (len:Nat):Nat:=match c with
 | .known n=>n
 |_=>len
def Be (P:Program) (t:TypeId) (x:aa) (lo hi mx:Option aa):Option aa:=
 match P.underlying t,x with
 |some (.array n e), .ptr i off=>
  (cp P e).bind fun s=>(lV mx n).bind fun m=>(lV hi n).bind fun h=>(lV lo 0).bind fun l=>
    cond (Nat.ble l h&&Nat.ble h m&&Nat.ble m n&&(mx.isNone||hi.isSome)) (some (.slice i (cond (Nat.beq m l) off (off+l*s)) (h-l) (.known (m-l)))) none
 |some (.slice e), .slice i off len cap=>
  (cp P e).bind fun s=>(lV hi len).bind fun h=>(lV lo 0).bind fun l=>
    match mx,cap with
    |none, .known c=>cond (Nat.ble l h&&Nat.ble h c) (some (.slice i (cond (Nat.beq c l) off (off+l*s)) (h-l) (.known (c-l)))) none
    |none,c=>cond (Nat.ble l h&&Nat.ble h len) (cond (Nat.beq l 0) (some (.slice i off h c)) (cond (Nat.ble (l+1) len) (some (.slice i (off+l*s) (h-l) .any)) none)) none
    |some mv,c=>(mn mv).bind fun m=>cond (Nat.ble l h&&Nat.ble h m&&Nat.ble m (Ob c len)&&hi.isSome) (some (.slice i (cond (Nat.beq m l) off (off+l*s)) (h-l) (.known (m-l)))) none
 |some (.slice e), .bk _ t xs=>yU P e t.size xs.length lo hi mx (fun l h=>cond (Nat.ble (l+1) h) (.bk false t ((xs.take h).drop l)) (.bk false t []))
 |some (.slice e), .bN e' t i k len cap=>yU P e t.size len lo hi mx (fun l h=>cond (Nat.beq l 0) (.bN e' t i k h cap) (cond (Nat.ble (l+1) h) (.bN e' t i (k+l) (h-l) .any) (.bk false t [])))
 |_,_=>none
def src (H:ai) (s:Nat):aa->Option (List aa×Nat)
 | .raw (.slice none 0 _)=>some ([],0)
 | .raw (.string b)=>cond (Nat.beq s 1) (some (b.data.toList.map fun x=> .raw (.int .u8 x.toNat),b.size)) none
 | .slice i off len _=>match H.get i with
   |some (.cells _ cs _ _ _)=>cond (Nat.ble (off+len*s) cs.length) (some (cut cs off (len*s),len)) none
   |_=>none
 |_=>none
def bounded (n bytes:Nat):Bool:=Nat.ble (n*bytes) 140737488355328&&Nat.ble n 140737488355328
def eM:List aa->Bool
 |[]=>true
 |v::l=>cond v.one (eM l) false
def wJ (e:TypeId) (sz bytes:Nat) (i len:Nat) (cap:aS) (news:List aa) (n:Nat) (H:ai):Option (aa×ai):=
 cond (bounded (len+n) bytes) (match H.get i with
  |some (.cells e' cs exact false false)=>
   cond (Nat.beq e e'&&Nat.ble (len*sz) cs.length) (match cap with
    | .known c=>
      cond (Nat.ble (len+n) c)
       ((ku cs (len*sz) news).map fun cs'=>(.slice i 0 (len+n) (.known c),H.set i (.cells e cs' exact false false)))
       (some (.slice H.next 0 (len+n) .full,H.new (.cells e (cs.take (len*sz)++news) false false false)))
    | .full=>cond exact none (some (.slice H.next 0 (len+n) .full,(H.drop i).new (.cells e (cs.take (len*sz)++news) false false false)))
    | .any=>none) none
  |_=>none) none
def yV (P:Program) (t:TypeId) (s x:aa) (H:ai):Option (aa×ai):=
 (k8 P t).bind fun e=>(P.info? e).bind fun inf=>(inf.zero).bind fun z=>
 cond (Nat.beq z.cells.size inf.size&&Nat.ble 1 inf.size)
 ((src H inf.size x).bind fun sn=>
   cond (Nat.beq sn.2 0) (match s with | .raw (.slice none 0 0)| .slice .. =>some (s,H)|_=>none)
   (cond (eM sn.1) (match s with
     | .raw (.slice none 0 0)=>cond (bounded sn.2 inf.bytes) (some (.slice H.next 0 sn.2 .full,H.new (.cells e sn.1 false false false))) none
     | .slice i 0 len cap=>wJ e inf.size inf.bytes i len cap sn.1 sn.2 H
     |_=>none) none)) none
def dL (b:ByteArray):List Int:=b.data.toList.map fun x=>(x.toNat:Int)
def EQ (H:ai) (ty:au) (s:Nat):aa->Option (List ty.den×Nat)
 | .raw (.slice none 0 _)=>some ([],0)
 | .raw (.string b)=>if h:au.int .u8=ty then some (h ▸ dL b,b.size)else none
 | .bk _ u ys=>if h:u=ty then some (h ▸ ys,ys.length)else none
 | .bN e u j k len _=>cond (decide (u=ty)&&(Nat.beq len 0||bt e ty (H.get j) (k+len-1))) (some (((bI ty (H.get j)).drop k).take len,len)) none
 | .slice j off n cap=>(src H s (.slice j off n cap)).bind fun sn=>(ty.qL n sn.1).map fun ds=>(ds,n)
 |_=>none
def qN (P:Program) (t:TypeId) (e:TypeId) (ty:au) (i k len:Nat) (cap:aS) (sk:Bool) (x:aa) (H:ai):Option (aa×ai):=
 (k8 P t).bind fun el=>(P.info? el).bind fun inf=>(inf.zero).bind fun z=>
 cond (Nat.beq z.cells.size inf.size&&Nat.ble 1 inf.size&&Nat.beq el e&&Nat.beq ty.size inf.size&&Nat.beq k 0)
 ((EQ H ty inf.size x).bind fun sn=>
   cond (Nat.beq sn.2 0) (some (.bN e ty i k len cap,cond sk H.skip H))
   (cond (yP e ty (H.get i) len cap&&bounded (len+sn.2) inf.bytes)
     (some (.bN e ty H.next 0 (len+sn.2) .full,(H.drop i).new (.own e ty (bI ty (H.get i)++sn.1)))) none)) none
def DA (s:aa):Bool:=match s with
 | .slice _ _ n (.known c)=>Nat.beq n 0&&Nat.beq c 0
 | .raw (.slice none 0 0)=>true
 |_=>false
def rf (P:Program) (t:TypeId) (ty:au) (x:aa) (H:ai):Option (aa×ai):=match k8 P t with
 |some e=>qN P t e ty H.next 0 0 (.known 0) true x H
 |none=>none
def wK (ty:au) (x:aa) (H:ai):Option (Bool×ai):=match ty,x with
 | .list false _, .slice j off 1 _=>(match H.get j with
   |some (.cells e cs ex f r)=>(match nth cs off with
    |some (.bN e2 u2 i 0 len _)=>(match H.get i with
     |some (.own e3 u3 xs)=>(match decide (u2=u3)&&(Nat.beq e2 e3&& !Nat.beq i j)with
      |true=>some (Nat.beq len xs.length,(H.drop i).set j (.cells e (cs.set off (.bk false u3 xs)) ex f r))
      |false=>none)
     |_=>none)
    |_=>none)
   |_=>none)
 |_,_=>none
def Bf (P:Program) (t:TypeId) (e:TypeId) (ty:au) (i k len:Nat) (cap:aS) (x:aa) (H:ai):Option (aa×ai):=match wK ty x H with
 |some (b,H')=>cond b (qN P t e ty i k len cap false x H') none
 |none=>qN P t e ty i k len cap false x H
def lW (P:Program) (t:TypeId) (s x:aa) (H:ai):Option (aa×ai):=match s with
 | .bN e ty i k len cap=>Bf P t e ty i k len cap x H
 |s=>match x with
  | .bk z ty ys=>cond (DA s) (rf P t ty (.bk z ty ys) H) none
  |x=>yV P t s x H
def yW (P:Program) (t:TypeId) (d x:aa) (H:ai):Option (aa×ai):=
 (k8 P t).bind fun e=>(cp P e).bind fun s=>match x,d with
   | .slice j qO n b9, .slice i off len _=>(src H s (.slice j qO n b9)).bind fun sn=>match H.get i with
     |some (.cells e' cs exact false false)=>
      cond (eM (sn.1.take (Nat.min n len*s))) ((ku cs off (sn.1.take (Nat.min n len*s))).map fun cs'=>(.raw (goInt (Nat.min n len)),H.set i (.cells e' cs' exact false false))) none
     |_=>none
   | .raw (.slice none 0 0), .slice _ _ _ _=>some (.raw (goInt 0),H)
   |_,_=>none
def yX (P:Program) (t:TypeId) (i off len:Nat) (H:ai):Option (aa×ai):=
 (k8 P t).bind fun e=>(cp P e).bind fun s=>(mR P e).bind fun z=>match H.get i with
   |some (.cells e' cs exact false false)=>cond (Nat.ble 1 len&&Nat.beq z.cells.size s&&eM (List.replicate len (gX z.cells)).flatten) ((ku cs off (List.replicate len (gX z.cells)).flatten).map fun cs'=>(.raw (.tuple #[]),H.set i (.cells e' cs' exact false false))) none
   |_=>none
def bytesOf:List aa->Option (List UInt8)
 |[]=>some []
 | .raw (.int .u8 (.ofNat n))::l=>cond (Nat.ble (n+1) 256) ((bytesOf l).map fun r=>UInt8.ofNat n::r) none
 |_=>none
def Hh (P:Program) (t:TypeId):aa->aa->Option Bool
 | .ptr i off, .ptr j off'=>match P.underlying t with
   |some (.pointer e)=>match cp P e with
    |some (_+1)=>cond (Nat.beq i j) (some (Nat.beq off off')) none
    |_=>none
   |_=>none
 |_,_=>none
def wi (P:Program) (t:TypeId) (es:Array MapEntry) (kv:Value) (ok:Bool):Option Value:=
 match P.underlying t with
 |some (.map kt et)=>(di P (Instr.checkKey es.isEmpty 10000 kt kv)).bind fun _=>(di P (Instr.findKey kt kv es.toList)).bind fun r=>
  match r with
  |some p=>some (if ok then .tuple #[p.2, .bool true]else p.2)
  |none=>(mR P et).map fun z=>if ok then .tuple #[z, .bool false]else z
 |_=>none
def Hi (P:Program) (t:TypeId) (es:Array MapEntry) (clock:Nat) (kv xv:Value):Option (Array MapEntry×Nat):=
 match P.underlying t with
 |some (.map kt _)=>(di P (Instr.checkKey false 10000 kt kv)).bind fun _=>(di P (Instr.findKey kt kv es.toList)).bind fun r=>
  match r with
  |some p=>(di P (Instr.keyThatStays (((es[p.1]?).map (·.key)).getD kv) kv)).map fun k=>(es.modify p.1 fun e=>{e with key:=k,val:=xv},clock)
  |none=>some (es.push {key:=kv,val:=xv,born:=clock},clock+1)
 |_=>none
def lr (P:Program) (f:FuncId) (fn:Func) (args:List aa) (H:ai):Option (aa×ai):=
 match aa.kr args with
 |some vs=>match di P (callFunc f vs.toArray)with
  |some (.value v)=>some (.raw v,H)
  |_=>cond (fn.name== "internal/bytealg.MakeNoZero")
   (match args,fn.resultTypes[0]? with
     |[.raw (.int .i64 (.ofNat n))],some t=>(k8 P t).bind fun e=>cond (Nat.ble n 140737488355328&&Nat.beq (P.cellsOf e) 1) (some (.slice H.next 0 n .full,H.new (.cells e [] false false false))) none
     |_,_=>none) none
 |none=>match args with
  |[x]=>cond (fn.name== "internal/abi.NoEscape") (some (x,H)) none
  |_=>none
def sF (P:Program) (f:FuncId) (args:List aa) (H:ai):aI:=
 @Option.rec Func (fun _=>aI) .no (fun fn=> @Option.rec Code (fun _=>aI) (eE (lr P f fn args H)) (fun _=> .enter f args H) fn.body) (P.funcs[f]?)
inductive Hj where
 |no
 |fn (f:FuncId)
def Oc (f:Fn):Hj:=match f with | .func f=> .fn f|_=> .no
def wL (v:Value):Hj:=match v with
 | .func fn ⟨[]⟩ ⟨[]⟩=>Oc fn
 |_=> .no
def dE (P:Program) (fv:aa) (args:List aa) (H:ai):aI:=
 match fv with
 | .raw v=> @Hj.rec (fun _=>aI) (match v with | .func (.func f) first captured=>sF P f (gX first++args++gX captured) H|_=> .no) (fun f=>sF P f args H) (wL v)
 | .func (.func f) first captured=>sF P f (first++args++captured) H
 | .yield i=> .round i args H
 |_=> .no
abbrev fq:=Program->Oper->dH->ai->aI
def ox:fq:=fun _ _ _ _=> .no
def uG:fq:=fun P o ev H=>ag H (gen P o ev)
def md (x:Operand):fq:=fun _ _ ev H=> .ok (ev x) H
def nI (c a b:Operand):fq:=fun _ _ ev H=> @mS.rec (fun _=>aI) .no (fun b'=> @Bool.rec (fun _=>aI) (.ok (ev b) H) (.ok (ev a) H) b') (gq (ev c))
def qP (ev:dH) (parts:Array (Nat×Operand)):List (Nat×aa):=parts.toList.map fun p=>(p.1,ev p.2)
def Od (P:Program) (fs:Array Field) (i:Nat):Option (Nat×Nat):=(fs[i]?).bind fun f=>(cp P f.type).map fun s=>(f.offset,s)
def Hl (P:Program) (ev:dH) (t:TypeId) (parts:Array (Nat×Operand)):Option aa:=
 (mR P t).bind fun z=>
   match P.underlying t with
   |some (.struct fs)=>(qM (Od P fs) (gX z.cells) (qP ev parts)).bind fun cs=>
     cond (fs.toList.all fun f=>(cp P f.type).isSome) (some (.agg cs)) none
   |some (.array _ e)=>(cp P e).bind fun s=>(qM (fun i=>some (i*s,s)) (gX z.cells) (qP ev parts)).map .agg
   |_=>none
def Bg (t:TypeId) (parts:Array (Nat×Operand)):fq:=fun P _ ev H=>ag H (Hl P ev t parts)
def Ho (P:Program) (o:Oper) (ev:dH) (x:Operand):Option aa:=match ev x with
 | .func (.func f) a b=>some (.func (.func f) a b)
 | .yield i=>some (.yield i)
 | .e8 t xs k off=>some (.e8 t xs k off)
 | .dy e t i k off=>some (.dy e t i k off)
 |_=>gen P o ev
def pJ (x:Operand):fq:=fun P o ev H=> @wG.rec (fun _=>aI) (ag H (Ho P o ev x)) (fun i off=> .ok (.ptr i off) H) (iB (ev x))
def sG (P:Program) (op:BinOp) (k:IntKind) (a b:Int):Option Value:=
 match op with
 | .add| .sub| .mul=>di P (Op.intArith op k a b)
 | .quo| .rem=>di P (Op.intDiv op k a b)
 | .and| .or| .xor| .andNot=>di P (Op.intBits op k a b)
 | .shl| .shr=>none
 |_=>di P (Op.intCmp op a b)
def DB:aa->Option (Int×Int)
 | .agg [.raw (.int .i64 a), .raw (.int .i64 b)]=>some (a,b)
 |_=>none
def wl (P:Program) (t:TypeId) (x y:aa):Option Bool:=match x,y with
 | .raw (.int .i64 a), .raw (.int .i64 b)=>(match P.underlying t with |some (.int .i64)=>cond (P.plainKey t) (some (a==b)) none|_=>none)
 | .raw (.string a), .raw (.string b)=>(match P.underlying t with |some .string=>cond (P.plainKey t) (some (a.toList==b.toList)) none|_=>none)
 |_,_=>none
def Hp (P:Program) (t:TypeId) (x y:aa):Option Bool:=match x,y with
 | .agg [a,b], .agg [c,d]=>(match P.underlying t with
   |some (.struct fs)=>(match fs.toList with
    |[f,g]=>cond (f.name != "_" &&(g.name != "_" &&(Nat.beq f.offset 0&&(Nat.beq g.offset 1&&(!P.eqGuardType P.depth t&& !P.stoodInHeld t))))) (match wl P f.type a c,wl P g.type b d with
     |some p,some q=>some (p&&q)
     |_,_=>none) none
    |_=>none)
   |_=>none)
 |_,_=>none
def Hq (P:Program) (t:TypeId) (x y:aa):Option Bool:=
 match DB x,DB y with
 |some p,some q=>(match P.underlying t with
  |some (.array n e)=>(match P.underlying e with
   |some (.int .i64)=>cond (Nat.beq n 2&&(!P.eqGuardType P.depth t&&(P.plainKey e&&(Nat.beq (P.cellsOf e) 1&&(P.info? e).isSome)))) (some (p.1==q.1&&p.2==q.2)) none
   |_=>none)
  |_=>none)
 |_,_=>none
def Hr (P:Program) (t:TypeId) (x y:aa):Option Bool:=match Hp P t x y with
 |some b=>some b
 |none=>Hq P t x y
def Hs:aa->Option Bool
 | .bk true _ xs=>some xs.isEmpty
 |_=>none
def DC:aa->Bool
 | .raw (.slice none 0 0)=>true
 |_=>false
def Ht (P:Program) (t:TypeId) (x y:aa):Option Bool:=
 match Hs x with
 |some b=>(match P.underlying t with |some (.slice _)=>cond (DC y) (some b) none|_=>none)
 |none=>none
def Bh (P:Program) (o:Oper) (ev:dH) (t:TypeId) (want:Bool) (x y:aa):Option aa:=
 match Ht P t x y with
 |some b=>some (.raw (.bool (b==want)))
 |none=>
 match Hr P t x y with
 |some b=>some (.raw (.bool (b==want)))
 |none=>
 match Hh P t x y with
 |some b=>some (.raw (.bool (b==want)))
 |none=>cond (lU P t x&&sameKind x y) (some (.raw (.bool !want))) (cond (lU P t y&&sameKind y x) (some (.raw (.bool !want))) (gen P o ev))
def wM (P:Program) (o:Oper) (ev:dH) (op:BinOp) (t:TypeId) (x y:aa):Option aa:=
 match op with
 | .eql=>Bh P o ev t true x y
 | .neq=>Bh P o ev t false x y
 |_=>gen P o ev
def oy (P:Program) (o:Oper) (ev:dH) (op:BinOp) (k k':IntKind) (a b:Int):Option aa:=
 cond (k==k') (match sG P op k a b with |some v=>some (.raw v)|none=>gen P o ev) (gen P o ev)
def sH:Nat->Nat->Option aa:=fun _ _=>none
def small (n:Nat):Option aa:= @Bool.rec (fun _=>Option aa) none (some (.raw (.int .i64 (.ofNat n)))) (Nat.ble (Nat.succ n) 9223372036854775808)
def yY:BinOp->Nat->Nat->Option aa:=
 @BinOp.rec (fun _=>Nat->Nat->Option aa) (fun a b=>small (Nat.add a b)) (fun a b=> @Bool.rec (fun _=>Option aa) none (small (Nat.sub a b)) (Nat.ble b a)) sH sH sH sH sH sH sH sH sH
   (fun a b=>some (.raw (.bool (Nat.beq a b)))) (fun a b=>some (.raw (.bool (!(Nat.beq a b))))) (fun a b=>some (.raw (.bool (Nat.ble (Nat.succ a) b)))) (fun a b=>some (.raw (.bool (Nat.ble a b))))
   (fun a b=>some (.raw (.bool (Nat.ble (Nat.succ b) a)))) (fun a b=>some (.raw (.bool (Nat.ble b a))))
def Bi:IntKind->Bool:= @IntKind.rec (fun _=>Bool) false false false true false false false false
def ji (op:BinOp) (k k':IntKind) (a b:Int):Option aa:=
 @uE.rec (fun _=>Option aa) none (fun m=> @uE.rec (fun _=>Option aa) none (fun n=> @Bool.rec (fun _=>Option aa) none (@Bool.rec (fun _=>Option aa) none (yY op m n) (Bi k')) (Bi k)) (uF b)) (uF a)
def iM (op:BinOp) (t:TypeId) (x y:Operand) (_yt:TypeId):fq:=fun P o ev H=>
 @wH.rec (fun _=>aI) (ag H (wM P o ev op t (ev x) (ev y)))
   (fun k a=> @wH.rec (fun _=>aI) (ag H (gen P o ev)) (fun k' b=> @Option.rec aa (fun _=>aI) (ag H (oy P o ev op k k' a b)) (fun v=> .ok v H) (ji op k k' a b)) (iA (ev y))) (iA (ev x))
def Oe (P:Program) (t:TypeId) (v:aa):Option aa:=match P.underlying t with
 |some (.interface _)|none=>none
 |some _=>some (.iface t v)
def Bj (t:TypeId) (x:Operand):fq:=fun P _ ev H=>ag H (Oe P t (ev x))
def Bk (fn:Fn) (first captured:Array Operand):fq:=fun _ _ ev H=> .ok (.func fn (first.toList.map ev) (captured.toList.map ev)) H
def Bl (P:Program) (o:Oper) (ev:dH) (t:TypeId) (x:Operand) (lo hi mx:Option Operand):Option aa:=match ev x with
 | .raw _=>gen P o ev
 |x=>Be P t x (lo.map ev) (hi.map ev) (mx.map ev)
def oz (t:TypeId) (x:Operand) (lo hi mx:Option Operand):fq:=fun P o ev H=>ag H (Bl P o ev t x lo hi mx)
def pK (s:TypeId) (x:Operand) (f:Nat):fq:=fun P _ ev H=>
 @G8.rec (fun _=>aI) .no (fun gp n _=> @wG.rec (fun _=>aI) (kd gp n (ev x) H) (fun i off=> @Bool.rec (fun _=>aI) .no (.ok (.ptr i (Nat.add off gp)) H) (Nat.ble 1 n)) (iB (ev x))) (fv P s f)
def pL (t:TypeId) (x:Operand) (f:Nat):fq:=fun P o ev H=>
 @Option.rec (List aa) (fun _=>aI) (ag H (gen P o ev)) (fun cs=> @G8.rec (fun _=>aI) .no (fun gp _ ft=>ag H (apart P ft cs gp)) (fv P t f)) (qK (ev x))
def mT (t:TypeId) (x ix:Operand):fq:=fun P _ ev H=>
 @uE.rec (fun _=>aI) .no (fun k=> @Oa.rec (fun _=>aI) .no
   (fun n s=> @wG.rec (fun _=>aI) (uD k n s (ev x) H) (fun i off=> @Bool.rec (fun _=>aI) .no (.ok (.ptr i (Nat.add off (Nat.mul k s))) H) (Nat.ble (Nat.succ k) n)) (iB (ev x)))
   (fun s=> @bl.rec (fun _=>aI) (t8 k s (ev x) H) (fun i off len _=> @Bool.rec (fun _=>aI) .no (.ok (.ptr i (Nat.add off (Nat.mul k s))) H) (Nat.ble (Nat.succ k) len)) (wI (ev x)))
   (nG P t)) (nH (ev ix))
def Of (P:Program) (t:TypeId) (cs:List aa) (ix:aa):Option aa:=match P.underlying t with
 |some (.array n e)=>(mn ix).bind fun k=>(cp P e).bind fun s=>cond (Nat.ble (k+1) n) (apart P e cs (k*s)) none
 |_=>none
def lX (t:TypeId) (x ix:Operand):fq:=fun P o ev H=>
 @Option.rec (List aa) (fun _=>aI) (ag H (gen P o ev)) (fun cs=>ag H (Of P t cs (ev ix))) (qK (ev x))
def pM (x:Operand) (i:Nat):fq:=fun P o ev H=>
 @Option.rec (List aa) (fun _=>aI) (ag H (gen P o ev)) (fun vs=>ag H (nth vs i)) (yO (ev x))
def sI (P:Program) (t:TypeId) (x:aa) (H:ai):aI:=match x with
 | .e8 u xs k off=>ag H (ow P t (elemAt u xs k) off)
 | .dy e u i k off=>cond (bt e u (H.get i) k) (ag H (ow P t (elemAt u (bI u (H.get i)) k) off)) .no
 |_=> .no
def nJ (t:TypeId) (x:Operand):fq:=fun P _ ev H=>
 @wG.rec (fun _=>aI) (sI P t (ev x) H) (fun i off=> @Bd.rec (fun _=>aI) .no (fun _ cs _ _ _=>ag H (ow P t cs off)) (sC (H.get i))) (iB (ev x))
def wn (P:Program) (o:Oper) (ev:dH) (t:TypeId) (m k:aa) (ok:Bool) (H:ai):Option aa:=match m,k.e9 with
 | .map i,some kv=>match H.get i with
   |some (.map es _)=>(wi P t es kv ok).map .raw
   |_=>none
 |_,_=>gen P o ev
def ne (t:TypeId) (m k:Operand) (ok:Bool):fq:=fun P o ev H=>ag H (wn P o ev t (ev m) (ev k) ok H)
def Bm (P:Program) (o:Oper) (ev:dH) (s d:TypeId) (x:aa) (H:ai):Option (aa×ai):=match x with
 | .slice i off len _=>match P.underlying s,P.underlying d,H.get i with
   |some (.slice e),some .string,some (.cells _ cs _ _ _)=>match P.underlying e with
    |some (.int .u8)=>cond (Nat.ble (off+len) cs.length) ((bytesOf (cut cs off len)).map fun bs=>(.raw (.string ⟨bs.toArray⟩),H)) none
    |_=>none
   |_,_,_=>none
 | .ptr i off=>match P.underlying s,P.underlying d,H.get i with
   |some (.pointer t),some .unsafePointer,some (.cells _ cs _ _ _)=>match cp P t with
    |some (_+1)=>cond (Nat.ble (off+1) cs.length) (some (.ptr i off,H)) none
    |_=>none
   |some .unsafePointer,some (.pointer u),some (.cells e cs true _ _)=>cond ((cp P u).isSome&&liesAt P P.depth e (cs.length/P.cellsOf e) off u 1) (some (.ptr i off,H)) none
   |_,_,_=>none
 | .raw (.string b)=>match P.underlying s,P.underlying d with
   |some .string,some (.slice e)=>match P.underlying e with
    |some (.int .u8)=>cond (Nat.beq (P.cellsOf e) 1) (some (.slice H.next 0 b.size .full,H.new (.cells e (b.data.toList.map fun x=> .raw (.int .u8 x.toNat)) false true false))) none
    |_=>none
   |_,_=>(gen P o ev).map fun v=>(v,H)
 |_=>(gen P o ev).map fun v=>(v,H)
def yZ (s d:TypeId) (x:Operand):fq:=fun P o ev H=>eE (Bm P o ev s d (ev x) H)
def sJ (e:TypeId):fq:=fun P _ _ H=> @Option.rec Value (fun _=>aI) .no (fun z=> .ok (.ptr H.next 0) (H.new (.cells e (gX z.cells) true false false))) (mR P e)
def oA (e:TypeId) (x:Operand):fq:=fun _ _ ev H=> @Bool.rec (fun _=>aI) (.ok (.ptr H.next 0) (H.new (.cells e (ev x).cells true false false))) .no (ev x).uC
def oB (P:Program) (ev:dH) (t:TypeId) (len:Nat) (parts:Array (Nat×Operand)) (H:ai):Option (aa×ai):=
 (k8 P t).bind fun e=>(cp P e).bind fun s=>(mR P e).bind fun z=>
   cond (Nat.ble 1 s&&Nat.ble (len*s) 16777216&&Nat.beq z.cells.size s)
    ((qM (fun i=>some (i*s,s)) (List.replicate len (gX z.cells)).flatten (qP ev parts)).map fun cs=>
      (.slice H.next 0 len (.known len),H.new (.cells e cs true false false))) none
def y4 (t:TypeId) (len:Nat) (parts:Array (Nat×Operand)):fq:=fun P _ ev H=>eE (oB P ev t len parts H)
def pN (P:Program) (t:TypeId) (l c:aa) (H:ai):Option (aa×ai):=
 (k8 P t).bind fun e=>(P.info? e).bind fun inf=>(inf.zero).bind fun z=>(mn l).bind fun l=>(mn c).bind fun c=>
   cond (Nat.ble l c&&Nat.ble 1 inf.size&&bounded c inf.bytes&&Nat.beq z.cells.size inf.size)
    (some (.slice H.next 0 l (.known c),H.new (.cells e (List.replicate c (gX z.cells)).flatten true false false))) none
def sK (t:TypeId) (l c:Operand):fq:=fun P _ ev H=>eE (pN P t (ev l) (ev c) H)
def sL (P:Program) (t:TypeId) (n:Nat):Bool:=match cp P t with |some m=>Nat.beq n m|none=>false
def Bn (P:Program) (t:TypeId) (i off:Nat) (y:aa) (H:ai) (e:TypeId) (cs:List aa) (exact:Bool):Option (aa×ai):=
 cond (eM y.cells&&sL P t y.cells.length)
  ((ku cs off y.cells).map fun cs'=>(.raw undef,H.set i (.cells e cs' exact false false))) none
def mr (P:Program) (t:TypeId) (x y:aa) (H:ai):aI:=match x with
 | .dy e u i k off=>cond (bt e u (H.get i) k) (cond (eM y.cells&&sL P t y.cells.length) (match(ku (elemAt u (bI u (H.get i)) k) off y.cells).bind u.read with
     |some d=> .ok (.raw undef) (H.set i (.own e u ((bI u (H.get i)).set k d)))
     |none=> .no) .no) .no
 |_=> .no
def pO (t:TypeId) (x y:Operand):fq:=fun P _ ev H=>
 @wG.rec (fun _=>aI) (mr P t (ev x) (ev y) H) (fun i off=> @Bd.rec (fun _=>aI) .no (fun e cs exact cz ro=> @Bool.rec (fun _=>aI) (@Bool.rec (fun _=>aI) (eE (Bn P t i off (ev y) H e cs exact)) .no cz) .no ro) (sC (H.get i))) (iB (ev x))
def qQ (P:Program) (ev:dH) (t:TypeId) (r:Option Operand) (H:ai):Option (aa×ai):=match r with
 |none=>some (.map H.next,H.new (.map #[] 0))
 |some h=>match P.underlying t,ev h with |some (.map _ _), .raw (.int _ _)=>some (.map H.next,H.new (.map #[] 0))|_,_=>none
def i7 (t:TypeId) (r:Option Operand):fq:=fun P _ ev H=>eE (qQ P ev t r H)
def DD (P:Program) (t:TypeId) (kv:Value):Bool:=match P.underlying t with
 |some (.map kt _)=>match di P (Instr.checkKey false 10000 kt kv),di P (Instr.findKey kt kv [])with
  |some _,some none=>true
  |_,_=>false
 |_=>false
def Hu (P:Program) (t:TypeId) (m k x:aa) (H:ai):Option (aa×ai):=match m,k.e9 with
 | .map i,some kv=>match H.get i with
   |some (.map ⟨[]⟩ 0)=>cond (DD P t kv) (some (.raw undef,H.set i (.one kv x))) none
   |_=>none
 |_,_=>none
def Bo (P:Program) (t:TypeId) (m k x:aa) (H:ai):Option (aa×ai):=match m,k.e9,x.e9 with
 | .map i,some kv,some xv=>match H.get i with
   |some (.map es clock)=>(Hi P t es clock kv xv).map fun r=>(.raw undef,H.set i (.map r.1 r.2))
   |_=>none
 |_,_,none=>Hu P t m k x H
 |_,_,_=>none
def DE (P:Program) (t:TypeId) (x:aa) (H:ai):Option (aa×ai):=match P.underlying t,x with
 |some (.map _ _), .map i=>match H.get i with
  |some (.map ⟨[]⟩ 0)=>some (.ptr H.next 0,H.new (.iter i 0 false))
  |some (.one _ _)=>some (.ptr H.next 0,H.new (.iter i 1 false))
  |_=>none
 |_,_=>none
def y5 (t:TypeId) (x:Operand):fq:=fun P _ ev H=>eE (DE P t (ev x) H)
def wp (j:Nat) (H:ai):Option bf->Option (aa×ai)
 |some (.iter i 0 false)=>match H.get i with
  |some (.map ⟨[]⟩ 0)=>some (.tuple [.raw (.bool false)],H)
  |_=>none
 |some (.iter i 1 false)=>match H.get i with
  |some (.one kv v)=>some (.tuple [.raw (.bool true), .raw kv,v],H.set j (.iter i 1 true))
  |_=>none
 |some (.iter i 1 true)=>match H.get i with
  |some (.one _ _)=>some (.tuple [.raw (.bool false)],H)
  |_=>none
 |_=>none
def DF (x:aa) (s:Bool) (H:ai):Option (aa×ai):=match x,s with
 | .ptr j 0,false=>wp j H (H.get j)
 |_,_=>none
def y6 (x:Operand) (s:Bool):fq:=fun _ _ ev H=>eE (DF (ev x) s H)
def Og (H:ai):Option bf->Option aa
 |some (.iter i 1 true)=>match H.get i with
  |some (.one kv v)=>some (.tuple [.raw kv,v])
  |_=>none
 |_=>none
def Oh (x:aa) (H:ai):Option aa:=match x with
 | .ptr j 0=>Og H (H.get j)
 |_=>none
def Bp (x:Operand):fq:=fun _ _ ev H=>ag H (Oh (ev x) H)
def oC (t:TypeId) (m k x:Operand):fq:=fun P _ ev H=>eE (Bo P t (ev m) (ev k) (ev x) H)
def oD (l:List Int):ByteArray:=⟨(l.map fun x=>UInt8.ofNat x.toNat).toArray⟩
def Hv (l:List Int):Bool:=decide (dL (oD l)=l)
def DG (P:Program) (pt e':TypeId) (u:au):Bool:=match P.underlying pt with
 |some (.pointer e)=>Nat.beq e e'&&(Nat.beq (P.cellsOf e) 1&&decide (u= .int .u8))
 |_=>false
def uH (P:Program) (pt:TypeId) (x n:aa) (H:ai):Option (aa×ai):=match x with
 | .ptr i 0=>match n with
   | .raw (.int .i64 (.ofNat n))=>match P.underlying pt,H.get i with
     |some (.pointer e),some (.cells e' cs exact _ false)=>
      cond (Nat.beq e e'&&Nat.beq (P.cellsOf e) 1&&Nat.ble 1 n&&Nat.ble n cs.length&&Nat.ble n 140737488355328)
       ((bytesOf (cs.take n)).map fun bs=>(.raw (.string ⟨bs.toArray⟩),H.set i (.cells e' cs exact true false))) none
     |_,_=>none
   |_=>none
 | .dy e' u i 0 0=>match n with
   | .raw (.int .i64 (.ofNat n))=>
     cond (DG P pt e' u&&(Nat.ble 1 n&&(Nat.ble n 140737488355328&&(bt e' (.int .u8) (H.get i) (n-1)&&Hv ((bI (.int .u8) (H.get i)).take n)))))
      (some (.raw (.string (oD ((bI (.int .u8) (H.get i)).take n))),H.drop i)) none
   |_=>none
 |_=>none
def Oi (H:ai) (i:Nat):Option aa:=match H.get i with
 |some (.map es _)=>some (.raw (.int .i64 (.ofNat es.size)))
 |some (.one _ _)=>some (.raw (.int .i64 (.ofNat 1)))
 |_=>none
def Bq (P:Program) (t:Option TypeId) (v:aa) (H:ai):Option aa:=t.bind fun t=>match P.underlying t,v with
 |some (.map _ _), .map i=>Oi H i
 |_,_=>none
def Hw (P:Program) (t:Option TypeId) (v:aa):Option aa:=t.bind fun t=>match P.underlying t,v with
 |some (.slice _), .slice _ _ len _=>some (.raw (.int .i64 (.ofNat len)))
 |some (.slice _), .bk _ _ xs=>some (.raw (.int .i64 (.ofNat xs.length)))
 |some (.slice _), .bN _ _ _ _ len _=>some (.raw (.int .i64 (.ofNat len)))
 |some (.array n _), .agg _=>some (.raw (.int .i64 (.ofNat n)))
 |some .string, .raw (.string b)=>some (.raw (.int .i64 (.ofNat b.size)))
 |_,_=>none
def Hx (P:Program) (t:Option TypeId) (v:aa):Option aa:=t.bind fun t=>match P.underlying t,v with
 |some (.slice _), .slice _ _ _ (.known n)=>some (.raw (.int .i64 (.ofNat n)))
 |_,_=>none
def nK (P:Program) (o:Oper) (ev:dH) (b:Builtin) (argTypes:Array TypeId) (args:List aa) (H:ai):aI:=
 match b,args with
 | .len,[v]=>match Bq P argTypes[0]? v H with |some r=> .ok r H|none=>match Hw P argTypes[0]? v with |some r=> .ok r H|none=>ag H (gen P o ev)
 | .cap,[v]=>match Hx P argTypes[0]? v with |some r=> .ok r H|none=>ag H (gen P o ev)
 | .append,[s,x]=>match argTypes.toList with
   |[t,t']=>match P.underlying t' with
    |some (.slice _)=>eE (lW P t s x H)
    |some .string=>eE (lW P t s x H)
    |_=> .no
   |_=> .no
 | .copy,[d,x]=>match argTypes.toList with |[t,_]=>eE (yW P t d x H)|_=> .no
 | .clear,[.slice i off (len+1) _]=>match argTypes.toList with |[t]=>eE (yX P t i off (len+1) H)|_=> .no
 | .clear,[.slice _ _ 0 _]=>match argTypes.toList with
   |[t]=>match P.underlying t with |some (.slice _)=> .ok (.raw (.tuple #[])) H|_=> .no
   |_=> .no
 | .unsafeString,[p,n]=>match argTypes.toList with |[pt,_]=>eE (uH P pt p n H)|_=> .no
 | .unsafeSliceData,[.slice i off len _]=> @Bool.rec (fun _=>aI) .no (.ok (.ptr i off) H) (Nat.ble 1 len)
 | .unsafeSliceData,[.bN e t i k len _]=> @Bool.rec (fun _=>aI) .no (.ok (.dy e t i k 0) H) (Nat.ble 1 len)
 |_,_=>ag H (gen P o ev)
def iN (c:Call):fq:=fun P o ev H=>
 match c.callee with
 | .value f=>dE P (ev f) (c.args.toList.map ev) H
 | .builtin b=>nK P o ev b c.argTypes (c.args.toList.map ev) H
 | .invoke _ _=> .no
def eU:Op->fq:=
 @Op.rec (fun _=>fq) md md nI sJ oA Bg y4 oC nJ pO (fun _=>ox) (fun _=>ox) pJ iM (fun _ _ _=>uG) yZ (fun _ _=>ox) Bj Bk i7 (fun _ _=>ox) sK
   oz pK pL mT lX ne oC (fun _ _ _=>ox) (fun _ _ _ _=>ox) y5 y6 Bp (fun _ _ _ _=>uG) pM iN (fun _=>ox) (fun _=>ox) (fun _=>ox) (fun _ _=>ox) (fun _ _ _=>ox) (fun _ _=>ox)
--EV
def cc (T:av aa):dH:=fun x=>
 @Operand.rec (fun _=>aa) (fun t=> @Option.rec aa (fun _=>aa) (.raw undef) (fun v=>v) (T.get t)) (fun v=> .raw v) (fun g=> @Bool.rec (fun _=>aa) (.raw (.pointer (some ⟨g,0,none⟩))) (.ptr g 0) (Nat.ble (Nat.succ g) 64)) (fun f=> .raw (.func (.func f) #[] #[])) x
--VE
inductive R where
 |no
 |normal (T:av aa) (H:ai) (m:List Nat)
 |exit (id:Nat) (T:av aa) (H:ai) (m:List Nat)
 |goto (l:Nat) (T:av aa) (H:ai) (m:List Nat)
 |ret (T:av aa) (H:ai) (m:List Nat)
def iC (T:av aa) (n:Nat) (dst:Option Tmp) (v:aa):Option (av aa):=
 @Option.rec Tmp (fun _=>Option (av aa)) (some T) (fun d=> @Bool.rec (fun _=>Option (av aa)) none (some (T.set d (some v))) (Nat.ble (Nat.succ d) n)) dst
def wN (T:av aa) (ops:Array Oper) (g:Nat×Bool):Option Bool:=
 match(ops[g.1]?).bind (·.dst)with
 |some d=>match T.get d with |some (.raw (.bool b))=>some (b==g.2)|some .bot=>none|_=>some false
 |none=>none
def gu (T:av aa) (ops:Array Oper) (o:Oper):Option Bool:=
 @Option.rec (Nat×Bool) (fun _=>Option Bool) (some true) (fun g=>wN T ops g) o.guard
abbrev er:=FuncId->List aa->ai->aI
abbrev jC:=Nat->List aa->ai->aI
def iO (P:Program) (call:er) (round:jC) (o:Oper) (ev:dH) (H:ai):aI:=
 @aI.rec (fun _=>aI) .no (fun v H=> .ok v H) (fun f args H=>call f args H) (fun i args H=>round i args H) (eU o.op P o ev H)
inductive eN where
 |no
 |mk (T:av aa) (H:ai)
def pP (k:av aa->ai->eN) (H:ai) (T:Option (av aa)):eN:= @Option.rec (av aa) (fun _=>eN) .no (fun T=>k T H) T
def sM (n:Nat) (dst:Option Tmp) (k:av aa->ai->eN) (T:av aa) (r:aI):eN:=
 @aI.rec (fun _=>eN) .no (fun v H=>pP k H (iC T n dst v)) (fun _ _ _=> .no) (fun _ _ _=> .no) r
def wO (P:Program) (call:er) (round:jC) (ops:Array Oper) (n:Nat) (o:Oper) (T:av aa) (H:ai) (k:av aa->ai->eN):eN:=
 @Option.rec Bool (fun _=>eN) .no (fun b=> @Bool.rec (fun _=>eN) (pP k H (iC T n o.dst (.raw undef))) (sM n o.dst k T (iO P call round o (cc T) H)) b) (gu T ops o)
def wP (P:Program) (call:er) (round:jC) (ops:Array Oper) (n:Nat) (l:List Oper):av aa->ai->eN:=
 @List.rec Oper (fun _=>av aa->ai->eN) (fun T H=> .mk T H) (fun o _ ih T H=>wO P call round ops n o T H ih) l
abbrev gL:=Code->(n:Nat)->(aK:Bool)->av aa->ai->List Nat->R
def iter (body:av aa->ai->List Nat->R) (k:Nat):av aa->ai->List Nat->R:=
 @Nat.rec (fun _=>av aa->ai->List Nat->R) (fun _ _ _=> .no) (fun _ ih T H m=> @R.rec (fun _=>R) .no ih .exit .goto .ret (body T H m)) k
def wt (P:Program) (T:av aa) (H:ai):ResultVar->Option aa
 | .tmp t=>some ((T.get t).getD (.raw undef))
 | .cell a t=>match T.get a with
   |some (.ptr i off)=>match H.get i with
    |some (.cells _ cs _ _ _)=>ow P t cs off
    |_=>none
   |_=>none
def Br (P:Program) (T:av aa) (H:ai):List ResultVar->Option (List aa)
 |[]=>some []
 |r::l=>(wt P T H r).bind fun v=>(Br P T H l).map fun vs=>v::vs
def jD (P:Program) (fn:Func) (T:av aa) (H:ai):aI:=
 match Br P T H fn.results.toList with
 |some [v]=> .ok v H
 |some vs=> .ok (.tuple vs) H
 |none=> .no
def fG (l:List aa):av aa->Nat->av aa:=
 @List.rec aa (fun _=>av aa->Nat->av aa) (fun T _=>T) (fun v _ ih T k=>ih (T.set k (some v)) (Nat.succ k)) l
def mt:List Nat->ai->Option ai
 |[],H=>some H
 |i::m,H=>match H.get i with
  |some .deferred=>mt m (H.drop i)
  |_=>none
def jZ (P:Program) (fn:Func) (T:av aa) (H:ai) (m:List Nat):aI:=
 @Option.rec ai (fun _=>aI) .no (fun H=>jD P fn T H) (mt m H)
def Hy (P:Program) (ih:gL) (args:List aa) (H:ai) (fn:Func) (c:Code):aI:=
 @Bool.rec (fun _=>aI) .no (@R.rec (fun _=>aI) .no (fun T H m=>jZ P fn T H m) (fun _ _ _ _=> .no) (fun _ _ _ _=> .no) (fun T H m=>jZ P fn T H m)
   (ih c fn.ntmps false (fG args .nil 0) H [])) (Nat.ble args.length fn.ntmps)
def mU (P:Program) (ih:gL):er:=fun f args H=>
 @Option.rec Func (fun _=>aI) .no (fun fn=> @Option.rec Code (fun _=>aI) .no (fun c=>Hy P ih args H fn c) fn.body) (P.funcs[f]?)
def wQ (T:av aa) (l:List (Tmp×aa)):av aa:=l.foldl (fun T p=>T.set p.1 (some p.2)) T
def eh (i:Nat):R->aI
 | .normal _ H _=>match H.get i with |some (.loop r)=> .ok (.raw (.bool true)) (H.set i (.loop {r with state:= .ready,pending:=none}))|_=> .no
 | .ret _ H _=>match H.get i with |some (.loop r)=> .ok (.raw (.bool false)) (H.set i (.loop {r with state:= .done,pending:=some .ret}))|_=> .no
 | .exit id _ H _=>match H.get i with |some (.loop r)=> .ok (.raw (.bool false)) (H.set i (.loop {r with state:= .done,pending:=some (.exit id)}))|_=> .no
 | .goto l _ H _=>match H.get i with |some (.loop r)=> .ok (.raw (.bool false)) (H.set i (.loop {r with state:= .done,pending:=some (.goto l)}))|_=> .no
 | .no=> .no
def sN (ih:gL):jC:=fun i args H=>
 match H.get i with
 |some (.loop r)=>
  match r.state with
  | .ready=>cond (Nat.beq args.length r.params.size&&r.params.toList.all fun t=>Nat.ble (t+1) r.size)
    (match ih r.assign r.size true (wQ r.tmps (r.params.toList.zip args)) H []with
      | .normal T H []=>match H.get i with
        |some (.loop r')=>match r'.state with
         | .ready=>eh i (ih r.body r.size true T (H.set i (.loop {r' with state:= .busy})) [])
         |_=> .no
        |_=> .no
      |_=> .no) .no
  |_=> .no
 |_=> .no
def rounds:Nat:=4096
def Bs (ih:gL) (n:Nat) (T:av aa) (D:Nat) (m:List Nat):aI->R
 | .ok _ H3=>match H3.get (Nat.succ D)with
   |some (.loop r)=>match r.state with
    | .busy=> .no
    |_=>match r.pending with
     |none=> .normal T (H3.set (Nat.succ D) (.loop {r with state:= .exhausted})) (D::m)
     |some c=>ih c n false T (H3.set (Nat.succ D) (.loop {r with state:= .exhausted})) (D::m)
   |_=> .no
 |_=> .no
def qR (P:Program) (ih:gL) (f:Operand) (params:Array Tmp) (assign body:Code) (n:Nat) (T:av aa) (H:ai) (m:List Nat):R:=
 match dE P (cc T f) [.yield (Nat.succ H.next)] ((H.new .deferred).new (.loop {tmps:=T,size:=n,params,assign,body,state:= .ready,pending:=none}))with
 | .enter g args H2=>Bs ih n T H.next m (mU P ih g args H2)
 |_=> .no
abbrev Hz:=er->jC->Array Oper->Nat->av aa->ai->eN
abbrev oE:=Bool->Hz
abbrev ce:=Program->oE->gL->(n:Nat)->(aK:Bool)->av aa->ai->List Nat->R
def y7 (m:List Nat) (r:eN):R:= @eN.rec (fun _=>R) .no (fun T H=> .normal T H m) r
def Oj:ce:=fun _ _ _ _ _ T H m=> .normal T H m
def Xa (_id:Nat) (ops:Array Oper) (d:Bool):ce:=fun P draw ih n _ T H m=>
 y7 m (draw d (mU P ih) (sN ih) ops n T H)
def Xb (a b:Code) (_ _:ce):ce:=fun _ _ ih n aK T H m=> @R.rec (fun _=>R) .no (fun T H m=>ih b n aK T H m) .exit .goto .ret (ih a n aK T H m)
def Xc (c:Operand) (x y:Code) (_ _:ce):ce:=fun _ _ ih n aK T H m=>
 @mS.rec (fun _=>R) .no (fun b=> @Bool.rec (fun _=>R) (ih y n aK T H m) (ih x n aK T H m) b) (gq (cc T c))
def Xd (id:Nat) (b:Code) (_:ce):ce:=fun _ _ ih n aK T H m=>
 @R.rec (fun _=>R) .no .normal (fun i T H m=> @Bool.rec (fun _=>R) (.exit i T H m) (.normal T H m) (Nat.beq i id)) .goto .ret (ih b n aK T H m)
def Ol (b:Code) (_:ce):ce:=fun _ _ ih n aK T H m=>iter (ih b n aK) rounds T H m
def PH (f:Operand) (params:Array Tmp) (assign body:Code) (_ _:ce):ce:=fun P _ ih n aK T H m=>
 @Bool.rec (fun _=>R) (qR P ih f params assign body n T H m) .no aK
def Xe (id:Nat):ce:=fun _ _ _ _ _ T H m=> .exit id T H m
def Xf (b:Code) (_:ce):ce:=fun _ _ ih n aK T H m=> @R.rec (fun _=>R) .no .normal .exit (fun _ _ _ _=> .no) .ret (ih b n aK T H m)
def Xg (l:Nat):ce:=fun _ _ _ _ _ T H m=> .goto l T H m
def Xh:ce:=fun _ _ _ _ _ T H m=> .ret T H m
def Xi:ce:=fun _ _ _ _ _ _ _ _=> .no
def lw:Code->ce:=
 @Code.rec (fun _=>ce) Oj Xa Xb Xc Xd Ol PH Xe Xf (fun _=>Oj) Xg Xh (fun _=>Xi)
def uI (S:er) (call:er):er:=fun f args H=> @aI.rec (fun _=>aI) (call f args H) (fun v H=> .ok v H) .enter .round (S f args H)
def pQ (P:Program) (draw:oE) (fuel:Nat):gL:=
 @Nat.rec (fun _=>gL) (fun _ _ _ _ _ _=> .no) (fun _ ih c=>lw c P draw ih) fuel
end
end Go.Proofs.YtibikmmdbdlafaaGreatDoor.Sv
/- The runner over an abstract memory: how its values, blocks and states stand to the model's. -/
namespace Go.Proofs.YtibikmmdbdlafaaGreatDoor.Sv
open Go.RowKit
def mu:List Bool->Nat
 |[]=>0
 |true::l=>2*mu l+1
 |false::l=>2*mu l+2
theorem DH:∀(f i:Nat),i<f->mu (wE f i)=i
 |0,i,h=>by omega
 |f+1,i,h=>by
  have e:wE (f+1) i= @Bool.rec (fun _=>List Bool) (@Bool.rec (fun _=>List Bool) (false::wE f (Nat.sub (Nat.div i 2) 1)) (true::wE f (Nat.div i 2)) (Nat.beq (Nat.mod i 2) 1)) [] (Nat.beq i 0):=rfl;rw [e];cases h0:Nat.beq i 0 with
  |true=>simpa [mu]using(ac h0).symm
  |false=>
   have hi:i≠0:=Nat.ne_of_beq_eq_false h0;have d1:Nat.div i 2=i/2:=rfl;have m1:Nat.mod i 2=i%2:=rfl;cases h1:Nat.beq (Nat.mod i 2) 1 with
   |true=>
    have:=ac h1;show 2*mu (wE f (Nat.div i 2))+1=i;rw [DH f _ (by rw [d1];omega),d1];omega
   |false=>
    have:=Nat.ne_of_beq_eq_false h1;show 2*mu (wE f (Nat.sub (Nat.div i 2) 1))+2=i;have e2:Nat.sub (Nat.div i 2) 1=i/2-1:=rfl;rw [e2,DH f _ (by omega)];omega
theorem Xj {i j:Nat} (h:bits i=bits j):i=j:=by
 have:=congrArg mu h;rwa [bits,bits,DH _ _ (e7 i),DH _ _ (e7 j)]at this
theorem av.wR {α:Type} (p:List Bool):av.ov p (av.nil:av α)=none:=by cases p<;>rfl
theorem av.HA {α:Type} (x:Option α):∀(p q:List Bool) (t:av α),av.ov q (av.wF x p t)=if p=q then x else av.ov q t
 |[],[], .nil=>rfl
 |[],[], .node l v r=>rfl
 |[],c::q, .nil=>by
  have:av.ov (c::q) (av.wF x [] (av.nil:av α))=none:=by
   show @Bool.rec (fun _=>Option α) (av.ov q .nil) (av.ov q .nil) c=none
   cases c<;>simp [av.wR]
  simp [this,av.wR]
 |[],c::q, .node l v r=>by simp;rfl
 |b::p,[], .nil=>by
  simp only [List.cons_ne_nil,if_false,av.wR];cases b<;>rfl
 |b::p,[], .node l v r=>by simp only [List.cons_ne_nil,if_false];cases b<;>rfl
 |b::p,c::q, .nil=>by
  have e:av.ov (c::q) (av.wF x (b::p) (av.nil:av α))=if b=c then av.ov q (av.wF x p .nil)else none:=by
   cases b<;>cases c<;>first |rfl |exact av.wR q
  rw [e,av.HA x p q .nil,av.wR,av.wR];by_cases h:b=c<;>simp [h]
 |b::p,c::q, .node l v r=>by
  have e:av.ov (c::q) (av.wF x (b::p) (av.node l v r))=if b=c then av.ov q (av.wF x p (cond b l r))else av.ov (c::q) (av.node l v r):=by
   cases b<;>cases c<;>rfl
  rw [e];by_cases h:b=c
  .subst h;rw [if_pos rfl,av.HA x p q];cases b<;>by_cases hp:p=q<;>simp [hp]<;>rfl
  .simp [h]
theorem av.fQ {α:Type} (t:av α) (i j:Nat) (x:Option α):(t.set i x).get j=if i=j then x else t.get j:=by
 unfold av.get av.set;rw [av.HA];by_cases h:i=j
 .subst h;simp
 .rw [if_neg (fun e=>h (Xj e)),if_neg h]
theorem av.get_nil {α:Type} (i:Nat):(av.nil:av α).get i=none:=av.wR _
theorem y8 {α:Type}:∀(l:List α) (i:Nat),nth l i=l[i]?
 |[],i=>by cases i<;>rfl
 |a::l,0=>rfl
 |a::l,i+1=>by
  show @Bool.rec (fun _=>Option α) (nth l (Nat.sub (i+1) 1)) (some a) (Nat.beq (i+1) 0)=_
  have:Nat.beq (i+1) 0=false:=rfl;rw [this];have e:Nat.sub (i+1) 1=i:=rfl;rw [e,y8 l i];rfl
theorem wv (v:aa):∀(cs:List aa) (off:Nat),Hg v cs off=if off<cs.length then some (cs.set off v)else none
 |[],off=>by simp;rfl
 |a::l,0=>by simp;rfl
 |a::l,i+1=>by
  show @Option.rec (List aa) (fun _=>Option (List aa)) none (fun r=>some (a::r)) (Hg v l i)=_
  rw [wv v l i];by_cases h:i<l.length<;>simp [h]
theorem me {α:Type} (cs:List α) (off:Nat) (v:α) (h:off<cs.length):cs.set off v=cs.take off++[v]++cs.drop (off+1):=by
 rw [List.set_eq_take_append_cons_drop,if_pos h];simp
theorem i8 {cs vs r:List aa} {off:Nat} (h:ku cs off vs=some r):off+vs.length<=cs.length/\r=cs.take off++vs++cs.drop (off+vs.length):=by
 unfold ku at h;split at h
 .rw [wv]at h;split at h
  .rename_i hl;injection h with h
   refine⟨by simp;omega, ?_⟩;rw [<-h,me _ _ _ hl];rfl
  .cases h
 .cases hb:Nat.ble (off+vs.length) cs.length with
  |false=>rw [hb]at h;cases h
  |true=>
   rw [hb]at h;injection h with h
   exact⟨bR hb,h.symm⟩
structure Env where
 at':Nat->Option (Nat×Nat)
 fz:Nat->Option (Array Value)
instance:CoeFun Env (fun _=>Nat->Option (Nat×Nat)):=⟨Env.at'⟩
def y9 (cap:aS) (c k:Nat):Prop:=match cap with
 | .known n=>k=n
 | .full=>k=c
 | .any=>True
mutual
inductive Den (ρ:Env):aa->Value->Prop
 |raw (v:Value):Den ρ (.raw v) v
 |ptr {i off b c:Nat} (h:ρ i=some (b,c)):Den ρ (.ptr i off) (.pointer (some ⟨b,off,none⟩))
 |slice {i off len b c k:Nat} {cap:aS} (h:ρ i=some (b,c)) (hc:y9 cap c k) (hl:len<=k):Den ρ (.slice i off len cap) (.slice (some ⟨b,off,none⟩) len k)
 |func {fn:Fn} {fs cs:List aa} {xs ys:List Value} (hf:aF ρ fs xs) (hc:aF ρ cs ys):Den ρ (.func fn fs cs) (.func fn xs.toArray ys.toArray)
 |yield {i b c:Nat} (h:ρ i=some (b,c)):Den ρ (.yield i) (.func (.yield b) #[] #[])
 |map {i b c:Nat} (h:ρ i=some (b,c)):Den ρ (.map i) (.map (some b))
 |iface {t:TypeId} {v:aa} {x:Value} (h:Den ρ v x):Den ρ (.iface t v) (.iface t x)
 |agg {cs:List aa} {xs:List Value} (h:aF ρ cs xs):Den ρ (.agg cs) (.agg xs.toArray)
 |tuple {cs:List aa} {xs:List Value} (h:aF ρ cs xs):Den ρ (.tuple cs) (.tuple xs.toArray)
 |bk {z:Bool} {t:au} {xs:List t.den} {b off k:Nat} {A:Array Value} {ys:List Value} (h:ρ.fz b=some A) (ho:off+(t.flat xs).length<=A.size) (hy:(A.toList.drop off).take (t.flat xs).length=ys) (hd:aF ρ (t.flat xs) ys) (hk:xs.length<=k) (hz:z=true->xs≠[]):Den ρ (.bk z t xs) (.slice (some ⟨b,off,none⟩) xs.length k)
 |eV {z:Bool} {t:au} {a:Option Addr} {k:Nat} (hz:z=true->a=none/\k=0):Den ρ (.bk z t []) (.slice a 0 k)
 |e8 {t:au} {xs:List t.den} {k off b o:Nat} {A:Array Value} {ys:List Value} (h:ρ.fz b=some A) (ho:o+(t.flat xs).length<=A.size) (hy:(A.toList.drop o).take (t.flat xs).length=ys) (hd:aF ρ (t.flat xs) ys) (hk:k<xs.length):Den ρ (.e8 t xs k off) (.pointer (some ⟨b,o+(k*t.size+off),none⟩))
 |bN {e:TypeId} {t:au} {i k len b c kc:Nat} {cap:aS} (h:ρ i=some (b,c)) (hc:y9 cap c kc) (hl:len<=kc):Den ρ (.bN e t i k len cap) (.slice (some ⟨b,k*t.size,none⟩) len kc)
 |pR {e:TypeId} {t:au} {i k:Nat} {cap:aS} {a:Option Addr}:Den ρ (.bN e t i k 0 cap) (.slice a 0 0)
 |dy {e:TypeId} {t:au} {i k off b c:Nat} (h:ρ i=some (b,c)):Den ρ (.dy e t i k off) (.pointer (some ⟨b,k*t.size+off,none⟩))
 |bot (x:Value):Den ρ .bot x
inductive aF (ρ:Env):List aa->List Value->Prop
 |nil:aF ρ [] []
 |cons {v:aa} {x:Value} {vs:List aa} {xs:List Value} (h:Den ρ v x) (hs:aF ρ vs xs):aF ρ (v::vs) (x::xs)
end
structure cw (ρ ρ':Env):Prop where
 at':∀i x,ρ i=some x->ρ' i=some x
 fz:∀b A,ρ.fz b=some A->ρ'.fz b=some A
instance {ρ ρ':Env}:CoeFun (cw ρ ρ') (fun _=>∀i x,ρ i=some x->ρ' i=some x):=⟨cw.at'⟩
theorem cw.refl (ρ:Env):cw ρ ρ:=⟨fun _ _ h=>h,fun _ _ h=>h⟩
theorem cw.trans {a b c:Env} (h:cw a b) (k:cw b c):cw a c:=⟨fun i x hx=>k i x (h i x hx),fun i x hx=>k.fz i x (h.fz i x hx)⟩
mutual
theorem Den.mono {ρ ρ':Env} (hl:cw ρ ρ'):∀{v:aa} {x:Value},Den ρ v x->Den ρ' v x
 |_,_, .raw v=> .raw v
 |_,_, .ptr h=> .ptr (hl _ _ h)
 |_,_, .slice h hc hk=> .slice (hl _ _ h) hc hk
 |_,_, .func hf hc=> .func (aF.mono hl hf) (aF.mono hl hc)
 |_,_, .yield h=> .yield (hl _ _ h)
 |_,_, .map h=> .map (hl _ _ h)
 |_,_, .iface h=> .iface (Den.mono hl h)
 |_,_, .agg h=> .agg (aF.mono hl h)
 |_,_, .tuple h=> .tuple (aF.mono hl h)
 |_,_, .bk h ho hy hd hk hz=> .bk (hl.fz _ _ h) ho hy (aF.mono hl hd) hk hz
 |_,_, .eV hz=> .eV hz
 |_,_, .e8 h ho hy hd hk=> .e8 (hl.fz _ _ h) ho hy (aF.mono hl hd) hk
 |_,_, .bN h hc hk=> .bN (hl _ _ h) hc hk
 |_,_, .pR=> .pR
 |_,_, .dy h=> .dy (hl _ _ h)
 |_,_, .bot x=> .bot x
theorem aF.mono {ρ ρ':Env} (hl:cw ρ ρ'):∀{v:List aa} {x:List Value},aF ρ v x->aF ρ' v x
 |_,_, .nil=> .nil
 |_,_, .cons h hs=> .cons (Den.mono hl h) (aF.mono hl hs)
end
section
variable {ρ:Env}
theorem aF.length:∀{vs:List aa} {xs:List Value},aF ρ vs xs->xs.length=vs.length
 |_,_, .nil=>rfl
 |_,_, .cons _ hs=>by simp [aF.length hs]
theorem aF.append:∀{vs ws:List aa} {xs ys:List Value},aF ρ vs xs->aF ρ ws ys->aF ρ (vs++ws) (xs++ys)
 |_,_,_,_, .nil,h=>h
 |_,_,_,_, .cons h hs,k=> .cons h (aF.append hs k)
theorem aF.take:∀{vs:List aa} {xs:List Value} (n:Nat),aF ρ vs xs->aF ρ (vs.take n) (xs.take n)
 |_,_,0,h=>by simpa using aF.nil
 |_,_,n+1, .nil=>by simpa using aF.nil
 |_,_,n+1, .cons h hs=> .cons h (aF.take n hs)
theorem aF.drop:∀{vs:List aa} {xs:List Value} (n:Nat),aF ρ vs xs->aF ρ (vs.drop n) (xs.drop n)
 |_,_,0,h=>by simpa using h
 |_,_,n+1, .nil=>by simpa using aF.nil
 |_,_,n+1, .cons h hs=>by simpa using aF.drop n hs
theorem aF.get:∀{vs:List aa} {xs:List Value} {i:Nat} {v:aa},aF ρ vs xs->vs[i]? =some v->∃x,xs[i]? =some x/\Den ρ v x
 |_,_,i,v, .nil,h=>by simp at h
 |_,_,0,v, .cons h hs,k=>by simp at k;subst k;exact⟨_,by simp,h⟩
 |_,_,i+1,v, .cons h hs,k=>by simpa using aF.get hs (by simpa using k)
theorem aF.qT:∀(l:List Value),aF ρ (l.map .raw) l
 |[]=> .nil
 |x::l=> .cons (.raw x) (aF.qT l)
theorem aF.Om:∀{vs:List aa} {xs:List Value},xs.length=vs.length->(∀(i:Nat) (v:aa) (x:Value),vs[i]? =some v->xs[i]? =some x->Den ρ v x)->aF ρ vs xs
 |[],[],_,_=> .nil
 |[],_::_,h,_=>by simp at h
 |_::_,[],h,_=>by simp at h
 |v::vs,x::xs,h,k=> .cons (k 0 v x (by simp) (by simp)) (aF.Om (by simpa using h) fun i v x hv hx=>k (i+1) v x (by simpa using hv) (by simpa using hx))
mutual
theorem Den.gK:∀{v:aa} {x w:Value},Den ρ v x->v.gK=some w->x=w
 |_,_,w, .raw v,h=>by simp [aa.gK]at h;exact h
 |_,_,w, .ptr _,h=>by simp [aa.gK]at h
 |_,_,w, .slice _ _ _,h=>by simp [aa.gK]at h
 |_,_,w, .func hf hc,h=>by
  simp only [aa.gK,dG,am]at h;obtain⟨l,hl,k,hk,rfl⟩:=h;rw [aF.kr hf hl,aF.kr hc hk]
 |_,_,w, .yield _,h=>by simp [aa.gK]at h
 |_,_,w, .map _,h=>by simp [aa.gK]at h
 |_,_,w, .iface hv,h=>by
  simp only [aa.gK,am]at h;obtain⟨l,hl,rfl⟩:=h;rw [Den.gK hv hl]
 |_,_,w, .agg hv,h=>by
  simp only [aa.gK,am]at h;obtain⟨l,hl,rfl⟩:=h;rw [aF.kr hv hl]
 |_,_,w, .tuple hv,h=>by
  simp only [aa.gK,am]at h;obtain⟨l,hl,rfl⟩:=h;rw [aF.kr hv hl]
 |_,_,w, .bk _ _ _ _ _ _,h=>by simp [aa.gK]at h
 |_,_,w, .eV _,h=>by simp [aa.gK]at h
 |_,_,w, .e8 _ _ _ _ _,h=>by simp [aa.gK]at h
 |_,_,w, .bN _ _ _,h=>by simp [aa.gK]at h
 |_,_,w, .pR,h=>by simp [aa.gK]at h
 |_,_,w, .dy _,h=>by simp [aa.gK]at h
 |_,_,w, .bot _,h=>by simp [aa.gK]at h
theorem aF.kr:∀{v:List aa} {x w:List Value},aF ρ v x->aa.kr v=some w->x=w
 |_,_,w, .nil,h=>by simp [aa.kr]at h;exact h.symm
 |_,_,w, .cons hv hs,h=>by
  simp only [aa.kr,dG,am]at h;obtain⟨l,hl,k,hk,rfl⟩:=h;rw [Den.gK hv hl,aF.kr hs hk]
end
theorem Den.e9 {v:aa} {x w:Value} (h:Den ρ v x) (k:v.e9=some w):x=w:=by
 unfold aa.e9 at k;split at k
 .cases h;injection k
 .exact h.gK k
theorem Den.b7 {v x:Value} (h:Den ρ (.raw v) x):x=v:=by cases h;rfl
theorem Den.kz {i off:Nat} {x:Value} (h:Den ρ (.ptr i off) x):∃b c,ρ i=some (b,c)/\x= .pointer (some ⟨b,off,none⟩):=by cases h;exact⟨_,_, ‹_›,rfl⟩
theorem Den.gY {i off len:Nat} {cap:aS} {x:Value} (h:Den ρ (.slice i off len cap) x):∃b c k,ρ i=some (b,c)/\y9 cap c k/\len<=k/\x= .slice (some ⟨b,off,none⟩) len k:=by cases h;exact⟨_,_,_, ‹_›, ‹_›, ‹_›,rfl⟩
theorem Den.Bt {fn:Fn} {fs cs:List aa} {x:Value} (h:Den ρ (.func fn fs cs) x):∃xs ys:List Value,aF ρ fs xs/\aF ρ cs ys/\x= .func fn xs.toArray ys.toArray:=by cases h;exact⟨_,_, ‹_›, ‹_›,rfl⟩
theorem Den.HB {i:Nat} {x:Value} (h:Den ρ (.yield i) x):∃b c,ρ i=some (b,c)/\x= .func (.yield b) #[] #[]:=by cases h;exact⟨_,_, ‹_›,rfl⟩
theorem Den.uJ {i:Nat} {x:Value} (h:Den ρ (.map i) x):∃b c,ρ i=some (b,c)/\x= .map (some b):=by cases h;exact⟨_,_, ‹_›,rfl⟩
theorem Den.On {t:TypeId} {v:aa} {x:Value} (h:Den ρ (.iface t v) x):∃y,Den ρ v y/\x= .iface t y:=by cases h;exact⟨_, ‹_›,rfl⟩
theorem Den.sO {cs:List aa} {x:Value} (h:Den ρ (.agg cs) x):∃xs:List Value,aF ρ cs xs/\x= .agg xs.toArray:=by cases h;exact⟨_, ‹_›,rfl⟩
theorem Den.Bu {cs:List aa} {x:Value} (h:Den ρ (.tuple cs) x):∃xs:List Value,aF ρ cs xs/\x= .tuple xs.toArray:=by cases h;exact⟨_, ‹_›,rfl⟩
theorem Den.cells {v:aa} {x:Value} (h:Den ρ v x) (hb:v.uC=false):aF ρ v.cells x.cells.toList:=by
 cases h with
 |bot=>cases hb
 |bk h ho hy hd hk hz=>exact .cons (.bk h ho hy hd hk hz) .nil
 |eV hz=>exact .cons (.eV hz) .nil
 |e8 h ho hy hd hk=>exact .cons (.e8 h ho hy hd hk) .nil
 |bN h hc hk=>exact .cons (.bN h hc hk) .nil
 |pR=>exact .cons .pR .nil
 |dy h=>exact .cons (.dy h) .nil
 |raw=>
  cases x with
  |agg cs=>simpa [aa.cells,Value.cells,gX]using aF.qT cs.toList
  |_=>exact .cons (.raw _) .nil
 |agg h=>simpa [aa.cells,Value.cells]using h
 |ptr h=>exact .cons (.ptr h) .nil
 |slice h hc hl=>exact .cons (.slice h hc hl) .nil
 |func h k=>exact .cons (.func h k) .nil
 |yield h=>exact .cons (.yield h) .nil
 |map h=>exact .cons (.map h) .nil
 |iface h=>exact .cons (.iface h) .nil
 |tuple h=>exact .cons (.tuple h) .nil
theorem Den.one {v:aa} {x:Value} (h:Den ρ v x) (k:v.one=true):x.oneCell'=true:=by
 cases h with
 |raw=>cases x<;>first |rfl |(simp [aa.one]at k)
 |agg h=>simp [aa.one]at k
 |tuple h=>simp [aa.one]at k
 |yield h=>simp [aa.one]at k
 |bot=>simp [aa.one]at k
 |_=>rfl
theorem HC {v:aa} {l:List aa} (h:eM (v::l)=true):v.one=true/\eM l=true:=by
 cases ha:v.one with
 |false=>simp [eM,ha]at h
 |true=>simpa [eM,ha]using h
theorem aF.one:∀{vs:List aa} {xs:List Value},aF ρ vs xs->eM vs=true->∀x∈xs,x.oneCell'=true
 |_,_, .nil,_,x,h=>by simp at h
 |_,_, .cons hv hs,k,x,hx=>by
  obtain⟨k1,k2⟩:=HC k;rcases dV.1 hx with rfl |hx
  .exact hv.one k1
  .exact aF.one hs k2 x hx
end
structure jE (ρ:Env) (T:av aa) (n:Nat) (tmps:Array Value):Prop where
 size:tmps.size=n
 get:∀t,Den ρ ((T.get t).getD (.raw undef)) (tmps.getD t undef)
theorem jE.mono {ρ ρ':Env} (hl:cw ρ ρ') {T:av aa} {n:Nat} {tmps:Array Value} (h:jE ρ T n tmps):jE ρ' T n tmps:=
 ⟨h.size,fun t=>(h.get t).mono hl⟩
structure HD (ρ:Env) (r:Bb) (R:Loop):Prop where
 state:R.state=r.state
 pending:R.pending=r.pending
 params:R.params=r.params
 assign:R.assign=r.assign
 body:R.body=r.body
 tmps:jE ρ r.tmps r.size R.tmps
def wS (P:Program) (ρ:Env) (i:Nat) (e:TypeId) (cs:List aa) (exact cz:Bool) (o:Obj):Prop:=
 ∃xs fz,o= .cells xs e fz/\(cz=false->fz=(0,0))/\aF ρ cs (xs.toList.take cs.length)/\(exact=true->xs.size=cs.length)/\
   (exact=false->∃b c,ρ i=some (b,c)/\xs.size=c*P.cellsOf e)
def gv (P:Program) (ρ:Env) (i:Nat):bf->Obj->Prop
 | .cells e cs exact cz _,o=>wS P ρ i e cs exact cz o
 | .own e t xs,o=>wS P ρ i e (t.flat xs) false false o/\P.cellsOf e=t.size/\1<=t.size
 | .map es clock,o=>o= .map es clock
 | .loop r,o=>∃R,o= .loop R/\HD ρ r R
 | .deferred,o=>o= .deferred (some [])
 | .one kv v,o=>∃x,o= .map #[{key:=kv,val:=x,born:=0}] 1/\Den ρ v x
 | .iter i c d,o=>∃b q,ρ i=some (b,q)/\o= .mapIter (some b) c (match d with |true=> #[0]|false=> #[]) c
theorem wS.mono {P:Program} {ρ ρ':Env} (hl:cw ρ ρ') {i:Nat} {e:TypeId} {cs:List aa} {exact cz:Bool} {o:Obj} (h:wS P ρ i e cs exact cz o):wS P ρ' i e cs exact cz o:=by
  obtain⟨xs,fz,h1,h2,h3,h4,h5⟩:=h;exact⟨xs,fz,h1,h2,h3.mono hl,h4,fun hx=>let ⟨b,c,h6,h7⟩:=h5 hx;⟨b,c,hl _ _ h6,h7⟩⟩
theorem gv.mono {P:Program} {ρ ρ':Env} (hl:cw ρ ρ') {i:Nat} {k:bf} {o:Obj} (h:gv P ρ i k o):gv P ρ' i k o:=by
 cases k with
 |cells e cs exact cz ro=>exact wS.mono hl h
 |own e t xs=>exact⟨wS.mono hl h.1,h.2⟩
 |map es clock=>exact h
 |loop r=>
  obtain⟨R,h1,h2⟩:=h;exact⟨R,h1,h2.state,h2.pending,h2.params,h2.assign,h2.body,h2.tmps.mono hl⟩
 |deferred=>exact h
 |one kv v=>exact let ⟨x,h1,h2⟩:=h;⟨x,h1,h2.mono hl⟩
 |iter i c d=>exact let ⟨b,q,h1,h2⟩:=h;⟨b,q,hl _ _ h1,h2⟩
def bf.eF:bf->Bool
 | .cells _ _ _ _ ro=>ro
 |_=>false
structure aX (P:Program) (B:Nat) (ρ:Env) (H:ai) (w:World):Prop where
 blk:∀i k,H.get i=some k->∃b c o,ρ i=some (b,c)/\w.heap[b]? =some o/\gv P ρ i k o/\(k.eF=false->B<=b)
 inj:∀i j eB eO b ci b9,H.get i=some eB->H.get j=some eO->ρ i=some (b,ci)->ρ j=some (b,b9)->i=j
 lt:∀i k,H.get i=some k->i<H.next
 base:B<=w.heap.size
 fz:∀b A,ρ.fz b=some A->(∃e fr,w.heap[b]? =some (.cells A e fr))/\∀i k c,H.get i=some k->ρ i=some (b,c)->k.eF=true
def oF (ρ:Env) (H:ai) (b:Nat):Prop:=∃i k c,H.get i=some k/\ρ i=some (b,c)
def Own (ρ:Env) (H:ai) (b:Nat):Prop:=∃i k c,H.get i=some k/\k.eF=false/\ρ i=some (b,c)
theorem Own.lY {ρ:Env} {H:ai} {b:Nat} (h:Own ρ H b):oF ρ H b:=let ⟨i,k,c,h1,_,h2⟩:=h;⟨i,k,c,h1,h2⟩
structure bL (ρ:Env) (H:ai) (w:World) (ρ':Env) (H':ai) (w':World):Prop where
 le:cw ρ ρ'
 ext:∀i,i<H.next\/H'.next<=i->ρ' i=ρ i
 next:H.next<=H'.next
 size:w.heap.size<=w'.heap.size
 os:w'.os=w.os
 tape:w'.tape=w.tape
 output:w'.output=w.output
 frame:∀b,b<w.heap.size->¬Own ρ H b->w'.heap[b]? =w.heap[b]?
 own:∀b,b<w.heap.size->Own ρ' H' b->Own ρ H b
 lY:∀b,b<w.heap.size->oF ρ' H' b->oF ρ H b
 mV:∀b A,ρ'.fz b=some A->ρ.fz b=some A\/w.heap.size<=b\/Own ρ H b
theorem bL.refl (ρ:Env) (H:ai) (w:World):bL ρ H w ρ H w:=
 ⟨cw.refl _,fun _ _=>rfl,aE _,aE _,rfl,rfl,rfl,fun _ _ _=>rfl,fun _ _ h=>h,fun _ _ h=>h,fun _ _ h=> .inl h⟩
theorem bL.trans {ρ cK dW:Env} {H H1 H2:ai} {w w1 w2:World} (h:bL ρ H w cK H1 w1) (k:bL cK H1 w1 dW H2 w2):bL ρ H w dW H2 w2 where
 le:=h.le.trans k.le
 ext i hi:=by
  rcases hi with hi|hi
  .rw [k.ext i (.inl (Nat.lt_of_lt_of_le hi h.next)),h.ext i (.inl hi)]
  .rw [k.ext i (.inr hi),h.ext i (.inr (cX k.next hi))]
 next:=cX h.next k.next
 size:=cX h.size k.size
 os:=k.os.trans h.os
 tape:=k.tape.trans h.tape
 output:=k.output.trans h.output
 frame b hb ho:=by rw [k.frame b (Nat.lt_of_lt_of_le hb h.size) (fun hh=>ho (h.own b hb hh)),h.frame b hb ho]
 own b hb ho:=h.own b hb (k.own b (Nat.lt_of_lt_of_le hb h.size) ho)
 lY b hb ho:=h.lY b hb (k.lY b (Nat.lt_of_lt_of_le hb h.size) ho)
 mV b A hb:=by
  rcases k.mV b A hb with hb|hb
  .exact h.mV b A hb
  .rcases hb with hb|hb
   .exact .inr (.inl (cX h.size hb))
   .by_cases hl:b<w.heap.size
    .exact .inr (.inr (h.own b hl hb))
    .exact .inr (.inl (by omega))
theorem bL.drew {ρ ρ':Env} {H H':ai} {w w':World} (h:bL ρ H w.drew ρ' H' w'):bL ρ H w ρ' H' w':=
 ⟨h.le,h.ext,h.next,h.size,h.os,h.tape,h.output,h.frame,h.own,h.lY,h.mV⟩
theorem aX.drew {P:Program} {B:Nat} {ρ:Env} {H:ai} {w:World} (h:aX P B ρ H w):aX P B ρ H w.drew:=⟨h.blk,h.inj,h.lt,h.base,h.fz⟩
theorem bL.below {P:Program} {B:Nat} {ρ ρ':Env} {H H':ai} {w w':World} (h:bL ρ H w ρ' H' w') (hH:aX P B ρ H w):Below B w w':=
 ⟨h.os,h.tape,h.output,h.size,fun k hk=>h.frame k (Nat.lt_of_lt_of_le hk hH.base) (fun⟨i,kk,c,h1,h2,h3⟩=>by
   obtain⟨b,c',o,e1,_,_,bP⟩:=hH.blk i kk h1;rw [h3]at e1;cases e1;exact absurd (bP h2) (by omega))⟩
def Fr (ρ:Env) (a b:Nat):Prop:=∀i,a<=i->i<b->ρ i=none
theorem aX.at {P:Program} {B:Nat} {ρ:Env} {H:ai} {w:World} (h:aX P B ρ H w) {i b c:Nat} {k:bf} (hi:H.get i=some k) (hr:ρ i=some (b,c)):
  ∃o,w.heap[b]? =some o/\gv P ρ i k o/\(k.eF=false->B<=b):=by
 obtain⟨b',c',o,e1,e2,e3,bP⟩:=h.blk i k hi;rw [hr]at e1;cases e1;exact⟨o,e2,e3,bP⟩
theorem ai.fQ (H:ai) (i j:Nat) (b:bf):(H.set i b).get j=if i=j then some b else H.get j:=av.fQ H.m i j (some b)
theorem ai.oG (H:ai) (i j:Nat):(H.drop i).get j=if i=j then none else H.get j:=av.fQ H.m i j none
theorem ai.gb (H:ai) (j:Nat) (b:bf):(H.new b).get j=if H.next=j then some b else H.get j:=av.fQ H.m H.next j (some b)
theorem ai.Xk (H:ai) (i:Nat):(H.drop i).next=H.next:=rfl
theorem ai.HE (H:ai) (b:bf):(H.new b).next=H.next+1:=rfl
def Env.put (ρ:Env) (i b c:Nat):Env:=⟨fun j=>if j=i then some (b,c)else ρ j,ρ.fz⟩
theorem Env.oH {ρ:Env} {i b c:Nat} (h:ρ i=none):cw ρ (ρ.put i b c):=⟨fun j x hx=>by
 unfold Env.put;show(if j=i then some (b,c)else ρ j)=some x;split
 .rename_i e;subst e;rw [h]at hx;cases hx
 .exact hx,fun _ _ h=>h⟩
theorem Env.dm (ρ:Env) (i b c:Nat):ρ.put i b c i=some (b,c):=by simp [Env.put]
variable {P:Program} {B:Nat} {ρ:Env} {H:ai} {w:World}
theorem sP (hH:aX P B ρ H w) (hf:Fr ρ H.next (H.next+1)) (c:Nat) (k:bf) (o:Obj) (hk:gv P (ρ.put H.next w.heap.size c) H.next k o):
  aX P B (ρ.put H.next w.heap.size c) (H.new k) (w.alloc o)/\bL ρ H w (ρ.put H.next w.heap.size c) (H.new k) (w.alloc o):=by
 have hn:ρ H.next=none:=hf H.next (aE _) (e7 _);have hle:cw ρ (ρ.put H.next w.heap.size c):=Env.oH hn;have hne:∀i k,H.get i=some k->i≠H.next:=fun i k hi=>Nat.ne_of_lt (hH.lt i k hi)
 have hlt:∀i k b c',H.get i=some k->ρ i=some (b,c')->b<w.heap.size:=fun i k b c' hi hr=>by
  obtain⟨o,e,_⟩:=hH.at hi hr;exact(dx.1 e).1
 have hput:∀i,i≠H.next->ρ.put H.next w.heap.size c i=ρ i:=fun i hi=>by simp [Env.put,hi]
 have hfz:∀b A,(ρ.put H.next w.heap.size c).fz b=some A->(∃e fr,(w.alloc o).heap[b]? =some (.cells A e fr))/\∀i k' c',(H.new k).get i=some k'->ρ.put H.next w.heap.size c i=some (b,c')->k'.eF=true:=fun b A hb=>by
  obtain⟨⟨e,fr,h1⟩,h2⟩:=hH.fz b A hb;have hlt':b<w.heap.size:=(dx.1 h1).1;refine⟨⟨e,fr,(Below.heap_alloc w o b hlt').trans h1⟩,fun i k' c' hi hr=> ?_⟩;rw [ai.gb]at hi;split at hi
  .rename_i e;subst e;rw [Env.dm]at hr;cases hr;omega
  .rename_i e;rw [hput i (fun x=>e x.symm)]at hr;exact h2 i k' c' hi hr
 refine⟨⟨fun i k' hi=> ?_,fun i j eB eO b ci b9 hi hj jk fu=> ?_,fun i k' hi=> ?_,by simp;exact Nat.le_succ_of_le hH.base,hfz⟩,⟨hle,fun i hi=> ?_,Nat.le_succ _,by simp,rfl,rfl,rfl,fun b hb _=> ?_,fun b hb ho=> ?_,fun b hb ho=> ?_,fun _ _ h=> .inl h⟩⟩
 .rw [ai.gb]at hi;split at hi
  .rename_i e;subst e;cases hi;exact⟨w.heap.size,c,o,Env.dm ..,heap_alloc_new w o,hk,fun _=>hH.base⟩
  .obtain⟨b,c',o',e1,e2,e3,bP⟩:=hH.blk i k' hi;exact⟨b,c',o',hle _ _ e1,(Below.heap_alloc w o b (dx.1 e2).1).trans e2,e3.mono hle,bP⟩
 .rw [ai.gb]at hi hj;split at hi<;>split at hj
  .omega
  .rename_i e1 e2;subst e1;rw [Env.dm]at jk;cases jk;rw [hput j (fun e=>e2 e.symm)]at fu;exact absurd (hlt j eO _ _ hj fu) (Nat.lt_irrefl _)
  .rename_i e2 e1;subst e1;rw [Env.dm]at fu;cases fu;rw [hput i (fun e=>e2 e.symm)]at jk;exact absurd (hlt i eB _ _ hi jk) (Nat.lt_irrefl _)
  .rename_i e1 e2;rw [hput i (fun e=>e1 e.symm)]at jk;rw [hput j (fun e=>e2 e.symm)]at fu;exact hH.inj i j eB eO b ci b9 hi hj jk fu
 .rw [ai.gb]at hi;split at hi
  .rename_i e;subst e;exact e7 _
  .exact Nat.lt_succ_of_lt (hH.lt i k' hi)
 .rw [ai.HE]at hi;exact hput i (by omega)
 .exact Below.heap_alloc w o b hb
 .obtain⟨i,k',c',h1,h2,h3⟩:=ho;rw [ai.gb]at h1;split at h1
  .rename_i e;subst e;rw [Env.dm]at h3;cases h3;exact absurd hb (Nat.lt_irrefl _)
  .rename_i e;rw [hput i (fun e'=>e e'.symm)]at h3;exact⟨i,k',c',h1,h2,h3⟩
 .obtain⟨i,k',c',h1,h3⟩:=ho;rw [ai.gb]at h1;split at h1
  .rename_i e;subst e;rw [Env.dm]at h3;cases h3;exact absurd hb (Nat.lt_irrefl _)
  .rename_i e;rw [hput i (fun e'=>e e'.symm)]at h3;exact⟨i,k',c',h1,h3⟩
theorem uK (hH:aX P B ρ H w) {i b c:Nat} {k0 k:bf} (hi:H.get i=some k0) (hr:ρ i=some (b,c)) (hro:k0.eF=false) (w':World) (o:Obj)
  (hos:w'.os=w.os) (ht:w'.tape=w.tape) (hout:w'.output=w.output) (hs:w'.heap.size=w.heap.size) (hb:w'.heap[b]? =some o) (lZ:∀j,j≠b->w'.heap[j]? =w.heap[j]?) (hk:gv P ρ i k o):
  aX P B ρ (H.set i k) w'/\bL ρ H w ρ (H.set i k) w':=by
 have hown:Own ρ H b:=⟨i,k0,c,hi,hro,hr⟩;have hfz:∀b' A,ρ.fz b'=some A->(∃e fr,w'.heap[b']? =some (.cells A e fr))/\∀j k' c',(H.set i k).get j=some k'->ρ j=some (b',c')->k'.eF=true:=fun b' A hb'=>by
  obtain⟨⟨e,fr,h1⟩,h2⟩:=hH.fz b' A hb';have hne:b'≠b:=fun e=>by
   have:=h2 i k0 c hi (e ▸ hr);rw [hro]at this;cases this
  refine⟨⟨e,fr,(lZ b' hne).trans h1⟩,fun j k' c' hj hr'=> ?_⟩;rw [ai.fQ]at hj;split at hj
  .rename_i e;subst e;rw [hr]at hr';cases hr';exact absurd rfl hne
  .exact h2 j k' c' hj hr'
 refine⟨⟨fun j k' hj=> ?_,fun j l eO kl b' b9 eu hj hl fu rl=> ?_,fun j k' hj=> ?_,by rw [hs];exact hH.base,hfz⟩,⟨cw.refl _,fun _ _=>rfl,aE _,Nat.le_of_eq hs.symm,hos,ht,hout,fun b' _ ho=>lZ b' (fun e=>ho (e ▸ hown)),fun b' _ ho=> ?_,fun b' _ ho=> ?_,fun _ _ h=> .inl h⟩⟩
 .rw [ai.fQ]at hj;split at hj
  .rename_i e;subst e;cases hj;obtain⟨_,_,_,bP⟩:=hH.at hi hr;exact⟨b,c,o,hr,hb,hk,fun _=>bP hro⟩
  .rename_i e;obtain⟨b',c',o',e1,e2,e3,bP⟩:=hH.blk j k' hj;refine⟨b',c',o',e1, ?_,e3,bP⟩;rw [lZ b' (fun e'=>e (hH.inj i j k0 k' b c c' hi hj hr (e' ▸ e1)))];exact e2
 .have g:∀x kx,(H.set i k).get x=some kx->∃Xl,H.get x=some Xl:=fun x kx hx=>by
   rw [ai.fQ]at hx;split at hx
   .rename_i e;subst e;exact⟨k0,hi⟩
   .exact⟨kx,hx⟩
  obtain⟨_,hj'⟩:=g j eO hj;obtain⟨_,hl'⟩:=g l kl hl;exact hH.inj j l _ _ b' b9 eu hj' hl' fu rl
 .rw [ai.fQ]at hj;split at hj
  .rename_i e;subst e;exact hH.lt i k0 hi
  .exact hH.lt j k' hj
 .obtain⟨j,k',c',h1,h2,h3⟩:=ho;rw [ai.fQ]at h1;split at h1
  .rename_i e;subst e;exact⟨i,k0,c',hi,hro,h3⟩
  .exact⟨j,k',c',h1,h2,h3⟩
 .obtain⟨j,k',c',h1,h3⟩:=ho;rw [ai.fQ]at h1;split at h1
  .rename_i e;subst e;exact⟨i,k0,c',hi,h3⟩
  .exact⟨j,k',c',h1,h3⟩
theorem Xm (hH:aX P B ρ H w) {i b c:Nat} {k0:bf} (hi:H.get i=some k0) (hr:ρ i=some (b,c)) (hro:k0.eF=false) (w':World)
  (hos:w'.os=w.os) (ht:w'.tape=w.tape) (hout:w'.output=w.output) (hs:w'.heap.size=w.heap.size) (lZ:∀j,j≠b->w'.heap[j]? =w.heap[j]?):
  aX P B ρ (H.drop i) w'/\bL ρ H w ρ (H.drop i) w':=by
 have hown:Own ρ H b:=⟨i,k0,c,hi,hro,hr⟩;have g:∀j k,(H.drop i).get j=some k->i≠j/\H.get j=some k:=fun j k hj=>by
  rw [ai.oG]at hj;split at hj
  .cases hj
  .rename_i h;exact⟨h,hj⟩
 refine⟨⟨fun j k' hj=> ?_,fun j l eO kl b' b9 eu hj hl fu rl=>hH.inj j l _ _ b' b9 eu (g j eO hj).2 (g l kl hl).2 fu rl,fun j k' hj=>hH.lt j k' (g j k' hj).2,by rw [hs];exact hH.base,fun b' A hb'=> ?_⟩,
  ⟨cw.refl _,fun _ _=>rfl,aE _,Nat.le_of_eq hs.symm,hos,ht,hout,fun b' _ ho=>lZ b' (fun e=>ho (e ▸ hown)),fun b' _ ho=> ?_,fun b' _ ho=> ?_,fun _ _ h=> .inl h⟩⟩
 .obtain⟨b',c',o',e1,e2,e3,bP⟩:=hH.blk j k' (g j k' hj).2;refine⟨b',c',o',e1, ?_,e3,bP⟩;rw [lZ b' (fun e'=>(g j k' hj).1 (hH.inj i j k0 k' b c c' hi (g j k' hj).2 hr (e' ▸ e1)))];exact e2
 .obtain⟨⟨e,fr,h1⟩,h2⟩:=hH.fz b' A hb';have hne:b'≠b:=fun e=>by
   have:=h2 i k0 c hi (e ▸ hr);rw [hro]at this;cases this
  exact⟨⟨e,fr,(lZ b' hne).trans h1⟩,fun j k' c' hj hr'=>h2 j k' c' (g j k' hj).2 hr'⟩
 .obtain⟨j,k',c',h1,h2,h3⟩:=ho;exact⟨j,k',c',(g j k' h1).2,h2,h3⟩
 .obtain⟨j,k',c',h1,h3⟩:=ho;exact⟨j,k',c',(g j k' h1).2,h3⟩
theorem Oo (hH:aX P B ρ H w) (i:Nat):aX P B ρ (H.drop i) w/\bL ρ H w ρ (H.drop i) w:=by
 have g:∀j k,(H.drop i).get j=some k->H.get j=some k:=fun j k hj=>by
  rw [ai.oG]at hj;split at hj
  .cases hj
  .exact hj
 exact⟨⟨fun j k hj=>hH.blk j k (g j k hj),fun a b ka kb x ca cb ha hb=>hH.inj a b ka kb x ca cb (g a ka ha) (g b kb hb),fun j k hj=>hH.lt j k (g j k hj),hH.base,fun b A hb=>⟨(hH.fz b A hb).1,fun j k c hj hr=>(hH.fz b A hb).2 j k c (g j k hj) hr⟩⟩,
  ⟨cw.refl _,fun _ _=>rfl,aE _,aE _,rfl,rfl,rfl,fun _ _ _=>rfl,fun b _ ⟨j,k,c,h1,h2⟩=>⟨j,k,c,g j k h1,h2⟩,fun b _ ⟨j,k,c,h1,h2⟩=>⟨j,k,c,g j k h1,h2⟩,fun _ _ h=> .inl h⟩⟩
theorem Xn (hH:aX P B ρ H w) (hf:Fr ρ H.next (H.next+1)) {i b c:Nat} {k0 k:bf} (hi:H.get i=some k0) (hr:ρ i=some (b,c)) (hro:k0.eF=false) (w':World) (o:Obj)
  (hos:w'.os=w.os) (ht:w'.tape=w.tape) (hout:w'.output=w.output) (hs:w'.heap.size=w.heap.size) (hb:w'.heap[b]? =some o) (lZ:∀j,j≠b->w'.heap[j]? =w.heap[j]?) (hk:gv P (ρ.put H.next b c) H.next k o):
  aX P B (ρ.put H.next b c) ((H.drop i).new k) w'/\bL ρ H w (ρ.put H.next b c) ((H.drop i).new k) w':=by
 have hn:ρ H.next=none:=hf H.next (aE _) (e7 _);have hle:cw ρ (ρ.put H.next b c):=Env.oH hn;have hown:Own ρ H b:=⟨i,k0,c,hi,hro,hr⟩;have hput:∀j,j≠H.next->ρ.put H.next b c j=ρ j:=fun j hj=>by simp [Env.put,hj]
 have g:∀j k',((H.drop i).new k).get j=some k'->(j=H.next/\k'=k)\/(j≠H.next/\j≠i/\H.get j=some k'):=fun j k' hj=>by
  rw [ai.gb,ai.oG,ai.Xk]at hj;split at hj
  .rename_i e;cases hj;exact .inl ⟨e.symm,rfl⟩
  .rename_i e;split at hj
   .cases hj
   .rename_i e2;exact .inr ⟨fun x=>e x.symm,fun x=>e2 x.symm,hj⟩
 have hfz:∀b' A,(ρ.put H.next b c).fz b'=some A->(∃e fr,w'.heap[b']? =some (.cells A e fr))/\∀j k' c',((H.drop i).new k).get j=some k'->ρ.put H.next b c j=some (b',c')->k'.eF=true:=fun b' A hb'=>by
  obtain⟨⟨e,fr,h1⟩,h2⟩:=hH.fz b' A hb';have hne:b'≠b:=fun e=>by
   have:=h2 i k0 c hi (e ▸ hr);rw [hro]at this;cases this
  refine⟨⟨e,fr,(lZ b' hne).trans h1⟩,fun j k' c' hj hr'=> ?_⟩;rcases g j k' hj with⟨rfl,rfl⟩|⟨g1,g2,g3⟩
  .rw [Env.dm]at hr';cases hr';exact absurd rfl hne
  .rw [hput j g1]at hr';exact h2 j k' c' g3 hr'
 refine⟨⟨fun j k' hj=> ?_,fun j l eO kl b' b9 eu hj hl fu rl=> ?_,fun j k' hj=> ?_,by rw [hs];exact hH.base,hfz⟩,⟨hle,fun j hj=>hput j ?_,Nat.le_succ _,Nat.le_of_eq hs.symm,hos,ht,hout,fun b' _ ho=>lZ b' (fun e=>ho (e ▸ hown)),fun b' _ ho=> ?_,fun b' _ ho=> ?_,fun _ _ h=> .inl h⟩⟩
 .rcases g j k' hj with⟨rfl,rfl⟩|⟨h1,h2,h3⟩
  .obtain⟨_,_,_,bP⟩:=hH.at hi hr;exact⟨b,c,o,Env.dm ..,hb,hk,fun _=>bP hro⟩
  .obtain⟨b',c',o',e1,e2,e3,bP⟩:=hH.blk j k' h3;refine⟨b',c',o',hle _ _ e1, ?_,e3.mono hle,bP⟩;rw [lZ b' (fun e'=>h2 (hH.inj j i k' k0 b' c' c h3 hi e1 (e' ▸ hr)))];exact e2
 .rcases g j eO hj with⟨rfl,rfl⟩|⟨h1,h2,h3⟩<;>rcases g l kl hl with⟨e,rfl⟩|⟨k1,k2,dB⟩
  .exact e.symm
  .rw [Env.dm]at fu;cases fu;rw [hput l k1]at rl;exact absurd (hH.inj l i kl k0 _ _ _ dB hi rl hr) k2
  .subst e;rw [Env.dm]at rl;cases rl;rw [hput j h1]at fu;exact absurd (hH.inj j i eO k0 _ _ _ h3 hi fu hr) h2
  .rw [hput j h1]at fu;rw [hput l k1]at rl;exact hH.inj j l eO kl b' b9 eu h3 dB fu rl
 .rcases g j k' hj with⟨rfl,rfl⟩|⟨h1,h2,h3⟩
  .exact e7 _
  .exact Nat.lt_succ_of_lt (hH.lt j k' h3)
 .have:((H.drop i).new k).next=H.next+1:=rfl;rw [this]at hj;omega
 .obtain⟨j,k',c',h1,h2,h3⟩:=ho;rcases g j k' h1 with⟨rfl,rfl⟩|⟨e1,e2,e3⟩
  .rw [Env.dm]at h3;cases h3;exact hown
  .rw [hput j e1]at h3;exact⟨j,k',c',e3,h2,h3⟩
 .obtain⟨j,k',c',h1,h3⟩:=ho;rcases g j k' h1 with⟨rfl,rfl⟩|⟨e1,e2,e3⟩
  .rw [Env.dm]at h3;cases h3;exact hown.lY
  .rw [hput j e1]at h3;exact⟨j,k',c',e3,h3⟩
end Go.Proofs.YtibikmmdbdlafaaGreatDoor.Sv
/- The runner over an abstract memory: typed rows. -/
namespace Go.Proofs.YtibikmmdbdlafaaGreatDoor.Sv
open Go.RowKit
theorem au.HF:∀(t:au) (d:t.den),(t.cells d).length=t.size
 | .int _,_=>rfl
 | .bool,_=>rfl
 | .str,_=>rfl
 | .list _ _,_=>rfl
 | .pair a b,d=>by
   show(a.cells d.1++b.cells d.2).length=a.size+b.size;rw [cG,a.HF,b.HF]
 | .ptr _,_=>rfl
 | .unit,_=>rfl
theorem au.za (t:au) (d:t.den) (xs:List t.den):t.flat (d::xs)=t.cells d++t.flat xs:=rfl
theorem au.Bv (t:au) (xs ys:List t.den):t.flat (xs++ys)=t.flat xs++t.flat ys:=by simp [au.flat]
theorem au.iP (t:au):∀xs:List t.den,(t.flat xs).length=xs.length*t.size
 |[]=>by simp [au.flat]
 |d::xs=>by rw [au.za,cG,t.HF,t.iP xs,List.length_cons,Nat.succ_mul,Nat.add_comm]
theorem au.Oq (t:au) (xs:List t.den) (k:Nat) (h:k<xs.length):t.flat xs=t.flat (xs.take k)++(elemAt t xs k++t.flat (xs.drop (k+1))):=by
 have e:xs=xs.take k++xs.getD k t.dflt::xs.drop (k+1):=by
  have:xs.getD k t.dflt=xs[k]:=by simp [ao,h]
  rw [this];simp
 have:t.flat xs=t.flat (xs.take k++xs.getD k t.dflt::xs.drop (k+1)):=by rw [<-e]
 rw [this,au.Bv,au.za];rfl
theorem au.Ot (t:au) (xs:List t.den) (k:Nat) (h:k<xs.length):(t.flat (xs.take k)).length=k*t.size:=by
 rw [t.iP,dK,Nat.min_eq_left (Nat.le_of_lt h)]
theorem Ou {P:Program} {T:TypeId} {pre mid post:List aa} {off:Nat} {v:aa} (h:ow P T mid off=some v):ow P T (pre++(mid++post)) (pre.length+off)=some v:=by
 unfold ow at h ⊢;cases hl:lv P T with
 |no=>rw [hl]at h;cases h
 |one=>
  rw [hl]at h;simp only [y8]at h ⊢;have hlt:off<mid.length:=by
   rcases Nat.lt_or_ge off mid.length with h1|h1
   .exact h1
   .rw [List.getElem?_eq_none h1]at h;cases h
  rw [List.getElem?_append_right (by omega),show pre.length+off-pre.length=off by omega,List.getElem?_append_left hlt,h]
 |agg n=>
  rw [hl]at h;simp only at h ⊢;cases hb:Nat.ble (Nat.add off n) mid.length with
  |false=>rw [hb]at h;cases h
  |true=>
   rw [hb]at h;cases h;have hb':off+n<=mid.length:=bR hb;have kA:Nat.ble (Nat.add (pre.length+off) n) (pre++(mid++post)).length=true:=fo (by simp only [cG];show pre.length+off+n<=_;omega);rw [kA];show some (aa.agg (cut (pre++(mid++post)) (pre.length+off) n))=_;congr 2;unfold cut;rw [List.drop_append,List.drop_eq_nil_of_le (by omega),List.nil_append,show pre.length+off-pre.length=off by omega,List.drop_append,List.take_append,show n-(mid.drop off).length=0 by simp;omega];simp
theorem Ov {P:Program} {T:TypeId} {t:au} {xs:List t.den} {k off:Nat} {v:aa} (hk:k<xs.length) (h:ow P T (elemAt t xs k) off=some v):ow P T (t.flat xs) (k*t.size+off)=some v:=by
 rw [t.Oq xs k hk];have:=Ou (pre:=t.flat (xs.take k)) (post:=t.flat (xs.drop (k+1))) h;rwa [t.Ot xs k hk]at this
theorem Den.sQ {ρ:Env} {z:Bool} {t:au} {xs:List t.den} {x:Value} (h:Den ρ (.bk z t xs) x):(xs=[]/\∃a k,x= .slice a 0 k/\(z=true->a=none/\k=0))\/
  ∃b off k A,ρ.fz b=some A/\off+(t.flat xs).length<=A.size/\aF ρ (t.flat xs) ((A.toList.drop off).take (t.flat xs).length)/\xs.length<=k/\x= .slice (some ⟨b,off,none⟩) xs.length k/\(z=true->xs≠[]):=by
 cases h with
 |bk h ho hy hd hk hz=>subst hy;exact .inr ⟨_,_,_,_,h,ho,hd,hk,rfl,hz⟩
 |eV hz=>exact .inl ⟨rfl,_,_,rfl,hz⟩
theorem Den.zb {ρ:Env} {t:au} {xs:List t.den} {k off:Nat} {x:Value} (h:Den ρ (.e8 t xs k off) x):∃b o A,ρ.fz b=some A/\o+(t.flat xs).length<=A.size/\aF ρ (t.flat xs) ((A.toList.drop o).take (t.flat xs).length)/\k<xs.length/\
  x= .pointer (some ⟨b,o+(k*t.size+off),none⟩):=by
 cases h with
 |e8 h ho hy hd hk=>subst hy;exact⟨_,_,_,h,ho,hd,hk,rfl⟩
theorem Den.wT {ρ:Env} {e:TypeId} {t:au} {i k off:Nat} {x:Value} (h:Den ρ (.dy e t i k off) x):∃b c,ρ i=some (b,c)/\x= .pointer (some ⟨b,k*t.size+off,none⟩):=by
 cases h with
 |dy h=>exact⟨_,_,h,rfl⟩
theorem Den.jl {ρ:Env} {e:TypeId} {t:au} {i k len:Nat} {cap:aS} {x:Value} (h:Den ρ (.bN e t i k len cap) x):(len=0/\∃a,x= .slice a 0 0)\/∃b c kc,ρ i=some (b,c)/\y9 cap c kc/\len<=kc/\x= .slice (some ⟨b,k*t.size,none⟩) len kc:=by
 cases h with
 |bN h hc hl=>exact .inr ⟨_,_,_,h,hc,hl,rfl⟩
 |pR=>exact .inl ⟨rfl,_,rfl⟩
theorem au.uL {ρ:Env}:∀(t:au) {l r:List aa} {d:t.den} {ys:List Value},t.sD l=some (d,r)->aF ρ l ys->∃y1 y2,ys=y1++y2/\aF ρ (t.cells d) y1/\aF ρ r y2
 | .int k,l,r,d,ys,h,hd=>by
   change yQ k l=_ at h;unfold yQ at h;split at h
   .split at h
    .rename_i e;subst e;cases h;cases hd with |cons h1 h2=>exact⟨[_],_,rfl, .cons h1 .nil,h2⟩
    .cases h
   .cases h
 | .bool,l,r,d,ys,h,hd=>by
   change yR l=_ at h;unfold yR at h;split at h
   .cases h;cases hd with |cons h1 h2=>exact⟨[_],_,rfl, .cons h1 .nil,h2⟩
   .cases h
 | .str,l,r,d,ys,h,hd=>by
   change yS l=_ at h;unfold yS at h;split at h
   .cases h;cases hd with |cons h1 h2=>exact⟨[_],_,rfl, .cons h1 .nil,h2⟩
   .cases h
 | .list z t,l,r,d,ys,h,hd=>by
   change Hf z t l=_ at h;unfold Hf at h;split at h
   .rename_i z' t' xs r';split at h
    .rename_i e;subst e;cases hc:(!z||z'||Nat.ble 1 xs.length)with
     |false=>rw [hc]at h;cases h
     |true=>
      rw [hc]at h;cases h;cases hd with
      |cons h1 h2=>
       refine⟨[_],_,rfl, .cons ?_ .nil,h2⟩;rcases h1.sQ with⟨rfl,a,k,rfl,hz⟩|⟨b,off,k,A,g1,g2,g3,g4,rfl,g5⟩
       .refine .eV fun e=>hz ?_
        subst e;simpa using hc
       .refine .bk g1 g2 rfl g3 g4 fun e hxs=> ?_
        subst e;subst hxs;have:z'=true:=by simpa using hc
        exact g5 this rfl
    .cases h
   .cases h;cases hd with
    |cons h1 h2=>
     refine⟨[_],_,rfl, .cons ?_ .nil,h2⟩;rw [h1.b7];exact .eV fun _=>⟨rfl,rfl⟩
   .cases h
 | .pair a b,l,r,d,ys,h,hd=>by
   simp only [au.sD]at h;cases ha:a.sD l with
   |none=>rw [ha]at h;cases h
   |some p=>
    obtain⟨x,l'⟩:=p;rw [ha]at h;simp only at h;cases hb:b.sD l' with
    |none=>rw [hb]at h;cases h
    |some q=>
     obtain⟨y,r'⟩:=q;rw [hb]at h;cases h;obtain⟨y1,y2,rfl,h1,h2⟩:=a.uL ha hd;obtain⟨y3,HG,rfl,h3,h4⟩:=b.uL hb h2;exact⟨y1++y3,HG,by simp,h1.append h3,h4⟩
 | .ptr t,l,r,d,ys,h,hd=>by
   change yT t l=_ at h;unfold yT at h;split at h
   .split at h
    .rename_i e;subst e;cases h;cases hd with
     |cons h1 h2=>exact⟨[_],_,rfl, .cons h1 .nil,h2⟩
    .cases h
   .cases h
 | .unit,l,r,d,ys,h,hd=>by
   cases h;exact⟨[],ys,rfl, .nil,hd⟩
theorem au.Xo {ρ:Env} {t:au} {l:List aa} {d:t.den} {ys:List Value} (h:t.read l=some d) (hd:aF ρ l ys):aF ρ (t.cells d) ys:=by
 unfold au.read at h;split at h
 .rename_i d' he;cases h;obtain⟨y1,y2,rfl,h1,h2⟩:=t.uL he hd;cases h2;simpa using h1
 .cases h
theorem au.Bw {ρ:Env} {t:au}:∀{n:Nat} {l:List aa} {ds:List t.den} {ys:List Value},t.qL n l=some ds->aF ρ l ys->aF ρ (t.flat ds) ys/\ds.length=n
 |0,[],ds,ys,h,hd=>by cases h;cases hd;exact⟨.nil,rfl⟩
 |0,_::_,ds,ys,h,hd=>by cases h
 |n+1,l,ds,ys,h,hd=>by
  have h:(match t.sD l with |some (d,r)=>(t.qL n r).map fun ds=>d::ds|none=>none)=some ds:=by cases l<;>exact h
  split at h
  .rename_i d r he;simp only [am]at h;obtain⟨ds',h1,rfl⟩:=h;obtain⟨y1,y2,rfl,g1,g2⟩:=t.uL he hd;obtain⟨g3,g4⟩:=au.Bw h1 g2;exact⟨by rw [au.za];exact g1.append g3,by simp [g4]⟩
  .cases h
section
variable {P:Program} {B:Nat} {ρ:Env} {H:ai} {w:World}
theorem HH (e:TypeId) (t:au) (xs:List t.den):bI t (some (.own e t xs))=xs:=by simp [bI]
theorem uM {e:TypeId} {t:au} {b:Option bf} {k:Nat} (h:bt e t b k=true):b=some (.own e t (bI t b))/\k<(bI t b).length:=by
 unfold bt at h;split at h
 .rename_i e' t' xs;rw [ae,ae]at h;obtain⟨h1,h2,h3⟩:=h;have h1:=ac h1;have h2:=ap h2;subst h1;subst h2;rw [HH];exact⟨rfl,bR h3⟩
 .cases h
theorem Xp {e:TypeId} {t:au} {b:Option bf} {n:Nat} {cap:aS} (h:yP e t b n cap=true):(b=none/\n=0/\bI t b=[]/\cap= .known 0)\/(b=some (.own e t (bI t b))/\(bI t b).length=n/\cap= .full):=by
 unfold yP at h;split at h
 .rename_i e' t' xs;simp only [ae]at h;obtain⟨h1,h2,h3,h4⟩:=h;have h1:=ac h1;have h2:=ap h2;have h3:=ac h3;subst h1;subst h2;rw [HH];refine .inr ⟨rfl,h3, ?_⟩;cases cap<;>first |rfl |cases h4
 .rw [ae]at h;refine .inl ⟨rfl,ac h.1,rfl, ?_⟩;cases cap with
  |known m=>rw [ac h.2]
  |full=>cases h.2
  |any=>cases h.2
 .cases h
theorem Xq {n:Nat} (h:0<n):bA n= .full:=by cases n<;>first |omega |rfl
theorem dI (e:TypeId) (t:au) (xs:List t.den):bI t (bM e t xs)=xs:=by
 cases xs with
 |nil=>rfl
 |cons x l=>exact HH e t _
theorem ww (e:TypeId) (t:au) (xs:List t.den):yP e t (bM e t xs) xs.length (bA xs.length)=true:=by
 cases xs with
 |nil=>rfl
 |cons x l=>simp [bM,yP,bA,aS.isFull]
theorem wU (a b:Nat):Nat.ble a b=decide (a<=b):=by
 cases h:Nat.ble a b with
 |true=>exact(az (bR h)).symm
 |false=>exact(ab fun hh=>by rw [fo hh]at h;cases h).symm
theorem Bx (e:TypeId) (t:au) (xs:List t.den) (k:Nat):bt e t (bM e t xs) k=decide (k<xs.length):=by
 cases xs with
 |nil=>simp [bM,bt]
 |cons x l=>simp only [bM,bt,Nat.beq_refl,decide_true,Bool.true_and];exact wU _ _
theorem wV (e:TypeId) (t:au) (xs:List t.den) (k:Nat):bt e t (some (.own e t xs)) k=decide (k<xs.length):=by
 simp only [bt,Nat.beq_refl,decide_true,Bool.true_and];exact wU _ _
theorem qU (hH:aX P B ρ H w) {i b c:Nat} {e:TypeId} {t:au} {xs:List t.den} (hi:H.get i=some (.own e t xs)) (hr:ρ i=some (b,c)):
  ∃ys,w.heap[b]? =some (.cells ys e (0,0))/\aF ρ (t.flat xs) (ys.toList.take (t.flat xs).length)/\ys.size=c*P.cellsOf e/\(t.flat xs).length<=ys.size/\P.cellsOf e=t.size/\1<=t.size:=by
 obtain⟨o,h1,h2,_⟩:=hH.at hi hr;obtain⟨⟨ys,fz,rfl,g2,g3,g4,g5⟩,g6,g7⟩:=h2;have hf:=g2 rfl;subst hf;obtain⟨b',c',e1,e2⟩:=g5 rfl;rw [hr]at e1;cases e1;refine⟨ys,h1,g3,e2, ?_,g6,g7⟩;have:=g3.length;simp at this;omega
end
end Go.Proofs.YtibikmmdbdlafaaGreatDoor.Sv
