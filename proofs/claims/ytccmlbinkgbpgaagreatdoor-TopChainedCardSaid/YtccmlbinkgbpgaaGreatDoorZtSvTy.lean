/- A runner over an abstract memory, whose blocks bear numbers of its own: definitions. -/
import Derived.RowKit
import Derived.Laws.AppendOwn
import Derived.Laws.CopyRow
import Derived.OrdersIn
import Derived.Below
import Derived.Scope
namespace Go.Proofs.YtccmlbinkgbpgaaGreatDoor.Sv
noncomputable section
inductive Cap where
 |known (n:Nat)
 |full
 |any
inductive Ty where
 |int (k:IntKind)
 |bool
 |str
 |list (z:Bool) (t:Ty)
 |pair (a b:Ty)
 |ptr (t:Ty)
 |unit
 deriving DecidableEq
@[reducible] def Ty.den:Ty→Type
  | .int _=>Int
  | .bool=>Bool
  | .str=>ByteArray
  | .list _ t=>List t.den
  | .pair a b=>a.den×b.den
  | .ptr t=>t.den
  | .unit=>Unit
def Ty.size:Ty→Nat
 | .int _=>1
 | .bool=>1
 | .str=>1
 | .list _ _=>1
 | .pair a b=>a.size+b.size
 | .ptr _=>1
 | .unit=>0
def Ty.dflt:(t:Ty)→t.den
 | .int _=>(0:Int)
 | .bool=>false
 | .str=>ByteArray.empty
 | .list _ _=>[]
 | .pair a b=>(a.dflt,b.dflt)
 | .ptr t=>t.dflt
 | .unit=>()
inductive AV where
 |raw (v:Value)
 |ptr (i off:Nat)
 |slice (i off len:Nat) (cap:Cap)
 |func (fn:Fn) (first captured:List AV)
 |yield (i:Nat)
 |map (i:Nat)
 |iface (t:TypeId) (v:AV)
 |agg (cs:List AV)
 |tuple (vs:List AV)
 |lst (z:Bool) (t:Ty) (xs:List t.den)
 |lptr (t:Ty) (xs:List t.den) (k off:Nat)
 |osl (e:TypeId) (t:Ty) (i k len:Nat) (cap:Cap)
 |optr (e:TypeId) (t:Ty) (i k off:Nat)
 |bot
def Ty.cells:(t:Ty)→t.den→List AV
 | .int k,x=>[.raw (.int k x)]
 | .bool,x=>[.raw (.bool x)]
 | .str,x=>[.raw (.string x)]
 | .list z t,x=>[.lst z t x]
 | .pair a b,x=>a.cells x.1++b.cells x.2
 | .ptr t,x=>[.lptr t [x] 0 0]
 | .unit,_=>[]
def Ty.flat (t:Ty) (xs:List t.den):List AV:=xs.flatMap t.cells
inductive Tr (α:Type) where
 |nil
 |node (l:Tr α) (v:Option α) (r:Tr α)
def bitsF (f:Nat):Nat→List Bool:=
 @Nat.rec (fun _=>Nat→List Bool) (fun _=>[]) (fun _ ih i=> @Bool.rec (fun _=>List Bool) (@Bool.rec (fun _=>List Bool) (false::ih (Nat.sub (Nat.div i 2) 1)) (true::ih (Nat.div i 2)) (Nat.beq (Nat.mod i 2) 1)) [] (Nat.beq i 0)) f
def bits (i:Nat):List Bool:=bitsF (Nat.succ i) i
def Tr.getP {α:Type} (p:List Bool):Tr α→Option α:=
 @List.rec Bool (fun _=>Tr α→Option α) (fun t=> @Tr.rec α (fun _=>Option α) none (fun _ v _ _ _=>v) t)
   (fun b _ ih t=> @Tr.rec α (fun _=>Option α) none (fun l _ r _ _=> @Bool.rec (fun _=>Option α) (ih r) (ih l) b) t) p
def Tr.setP {α:Type} (x:Option α) (p:List Bool):Tr α→Tr α:=
 @List.rec Bool (fun _=>Tr α→Tr α) (fun t=> @Tr.rec α (fun _=>Tr α) (.node .nil x .nil) (fun l _ r _ _=> .node l x r) t)
   (fun b _ ih t=> @Tr.rec α (fun _=>Tr α) (@Bool.rec (fun _=>Tr α) (.node .nil none (ih .nil)) (.node (ih .nil) none .nil) b) (fun l v r _ _=> @Bool.rec (fun _=>Tr α) (.node l v (ih r)) (.node (ih l) v r) b) t) p
def Tr.get {α:Type} (t:Tr α) (i:Nat):Option α:=Tr.getP (bits i) t
def Tr.set {α:Type} (t:Tr α) (i:Nat) (x:Option α):Tr α:=Tr.setP x (bits i) t
def nth {α:Type} (l:List α):Nat→Option α:=
 @List.rec α (fun _=>Nat→Option α) (fun _=>none) (fun a _ ih i=> @Bool.rec (fun _=>Option α) (ih (Nat.sub i 1)) (some a) (Nat.beq i 0)) l
structure ALoop where
 tmps:Tr AV
 size:Nat
 params:Array Tmp
 assign:Code
 body:Code
 state:LoopState
 pending:Option Code
inductive ABlk where
 |cells (elem:TypeId) (cs:List AV) (exact frz ro:Bool)
 |map (es:Array MapEntry) (clock:Nat)
 |loop (r:ALoop)
 |deferred
 |own (elem:TypeId) (t:Ty) (xs:List t.den)
 |one (key:Value) (v:AV)
 |iter (i:Nat) (clock:Nat) (done:Bool)
structure AHeap where
 m:Tr ABlk
 next:Nat
def AHeap.get (H:AHeap) (i:Nat):Option ABlk:=H.m.get i
def AHeap.set (H:AHeap) (i:Nat) (b:ABlk):AHeap:= @AHeap.rec (fun _=>AHeap) (fun m n=>⟨m.set i (some b),n⟩) H
def AHeap.drop (H:AHeap) (i:Nat):AHeap:= @AHeap.rec (fun _=>AHeap) (fun m n=>⟨m.set i none,n⟩) H
def AHeap.skip (H:AHeap):AHeap:= @AHeap.rec (fun _=>AHeap) (fun m n=>⟨m,Nat.succ n⟩) H
def AHeap.new (H:AHeap) (b:ABlk):AHeap:= @AHeap.rec (fun _=>AHeap) (fun m n=>⟨m.set n (some b),Nat.succ n⟩) H
def runPure (P:Program) {α:Type}:Sem α→Option α
 | .pure a=>some a
 | .program k=>runPure P (k P)
 | .mark _ k=>runPure P k
 |_=>none
mutual
def AV.toRaw0:AV→Option Value
 | .raw v=>some v
 | .iface t v=>(v.toRaw0).map (Value.iface t)
 | .agg cs=>(AV.toRaws cs).map fun l=>Value.agg l.toArray
 | .tuple cs=>(AV.toRaws cs).map fun l=>Value.tuple l.toArray
 | .func fn fs cs=>(AV.toRaws fs).bind fun l=>(AV.toRaws cs).map fun k=>Value.func fn l.toArray k.toArray
 |_=>none
def AV.toRaws:List AV→Option (List Value)
 |[]=>some []
 |v::vs=>(v.toRaw0).bind fun x=>(AV.toRaws vs).map fun l=>x::l
end
def AV.toRaw:AV→Option Value
 | .raw v=>some v
 |v=>v.toRaw0
def rawL (a:Array Value):List AV:=a.toList.map .raw
def AV.cells:AV→List AV
 | .agg cs=>cs
 | .raw (.agg cs)=>rawL cs
 |v=>[v]
def AV.isBot (v:AV):Bool:= @AV.casesOn (fun _=>Bool) v (fun _=>false) (fun _ _=>false) (fun _ _ _ _=>false) (fun _ _ _=>false) (fun _=>false) (fun _=>false) (fun _ _=>false) (fun _=>false) (fun _=>false) (fun _ _ _=>false) (fun _ _ _ _=>false) (fun _ _ _ _ _ _=>false) (fun _ _ _ _ _=>false) true
def AV.one:AV→Bool
 | .raw (.agg _)| .raw (.tuple _)| .agg _| .tuple _| .yield _| .bot=>false
 |_=>true
inductive VR where
 |no
 |ok (v:AV) (H:AHeap)
 |enter (f:FuncId) (args:List AV) (H:AHeap)
 |round (i:Nat) (args:List AV) (H:AHeap)
def vr (H:AHeap) (x:Option AV):VR:= @Option.rec AV (fun _=>VR) .no (fun v=> .ok v H) x
def vr2 (x:Option (AV×AHeap)):VR:=match x with |none=> .no|some (v,H)=> .ok v H
abbrev Ev:=Operand→AV
def xIdx (k s:Nat) (x:AV) (H:AHeap):VR:=match x with
 | .lst _ t xs=>cond (Nat.beq t.size s&&Nat.ble (k+1) xs.length) (.ok (.lptr t xs k 0) H) .no
 | .osl e t i k0 len _=>cond (Nat.beq t.size s&&Nat.ble (k+1) len) (.ok (.optr e t i (k0+k) 0) H) .no
 |_=> .no
def xArr (k n s:Nat) (x:AV) (H:AHeap):VR:=match x with
 | .lptr t xs k0 off=>cond (Nat.ble (k+1) n) (.ok (.lptr t xs k0 (off+k*s)) H) .no
 | .optr e t i k0 off=>cond (Nat.ble (k+1) n) (.ok (.optr e t i k0 (off+k*s)) H) .no
 |_=> .no
def xField (foff n:Nat) (x:AV) (H:AHeap):VR:=match x with
 | .lptr t xs k off=> @Bool.rec (fun _=>VR) .no (.ok (.lptr t xs k (off+foff)) H) (Nat.ble 1 n)
 | .optr e t i k off=> @Bool.rec (fun _=>VR) .no (.ok (.optr e t i k (off+foff)) H) (Nat.ble 1 n)
 |_=> .no
def isAggD:TypeDesc→Bool
 | .struct _| .array _ _=>true
 |_=>false
def isAggB (P:Program) (t:TypeId):Option Bool:=(P.underlying t).map isAggD
def sizeB (P:Program) (t:TypeId):Option Nat:=(P.info? t).map TypeInfo.size
def zeroB (P:Program) (t:TypeId):Option Value:=(P.info? t).bind TypeInfo.zero
def elemB (P:Program) (t:TypeId):Option TypeId:=match P.underlying t with |some (.slice e)=>some e|_=>none
inductive LV where
 |no
 |one
 |agg (n:Nat)
def lv (P:Program) (t:TypeId):LV:=match isAggB P t,sizeB P t with
 |some true,some n=> .agg n
 |some false,_=> .one
 |_,_=> .no
inductive TV where
 |no
 |arr (n s:Nat)
 |sl (s:Nat)
def tv (P:Program) (t:TypeId):TV:=match P.underlying t with
 |some (.array n e)=>(match sizeB P e with |some s=> .arr n s|none=> .no)
 |some (.slice e)=>(match sizeB P e with |some s=> .sl s|none=> .no)
 |_=> .no
inductive FV where
 |no
 |mk (off size:Nat) (t:TypeId)
def fv (P:Program) (s:TypeId) (f:Nat):FV:=match P.underlying s with
 |some (.struct fs)=>(match fs[f]? with
  |some fd=>(match sizeB P fd.type with |some n=> .mk fd.offset n fd.type|none=> .no)
  |none=> .no)
 |_=> .no
inductive PV where
 |no
 |mk (i off:Nat)
inductive SV where
 |no
 |mk (i off len:Nat) (cap:Cap)
inductive NV where
 |no
 |mk (n:Nat)
inductive BV where
 |no
 |mk (b:Bool)
inductive CV where
 |no
 |mk (e:TypeId) (cs:List AV) (exact frz ro:Bool)
inductive WV where
 |no
 |int (k:IntKind) (n:Int)
def wV (v:Value):WV:= @Value.casesOn (fun _=>WV) v (fun _=> .no) (fun k n=> .int k n) (fun _ _=> .no) (fun _ _ _=> .no) (fun _=> .no) (fun _=> .no) (fun _ _ _=> .no) (fun _=> .no) (fun _=> .no) (fun _ _ _=> .no) .no (fun _ _=> .no) .no (fun _=> .no) (fun _=> .no)
def avW (v:AV):WV:= @AV.casesOn (fun _=>WV) v wV (fun _ _=> .no) (fun _ _ _ _=> .no) (fun _ _ _=> .no) (fun _=> .no) (fun _=> .no) (fun _ _=> .no) (fun _=> .no) (fun _=> .no) (fun _ _ _=> .no) (fun _ _ _ _=> .no) (fun _ _ _ _ _ _=> .no) (fun _ _ _ _ _=> .no) .no
def intN (n:Int):NV:= @Int.casesOn (fun _=>NV) n (fun m=> .mk m) (fun _=> .no)
def natV (v:AV):NV:= @WV.rec (fun _=>NV) .no (fun _ n=>intN n) (avW v)
def bV (v:Value):BV:= @Value.casesOn (fun _=>BV) v (fun b=> .mk b) (fun _ _=> .no) (fun _ _=> .no) (fun _ _ _=> .no) (fun _=> .no) (fun _=> .no) (fun _ _ _=> .no) (fun _=> .no) (fun _=> .no) (fun _ _ _=> .no) .no (fun _ _=> .no) .no (fun _=> .no) (fun _=> .no)
def boolV (v:AV):BV:= @AV.casesOn (fun _=>BV) v bV (fun _ _=> .no) (fun _ _ _ _=> .no) (fun _ _ _=> .no) (fun _=> .no) (fun _=> .no) (fun _ _=> .no) (fun _=> .no) (fun _=> .no) (fun _ _ _=> .no) (fun _ _ _ _=> .no) (fun _ _ _ _ _ _=> .no) (fun _ _ _ _ _=> .no) .no
def ptrV (v:AV):PV:= @AV.casesOn (fun _=>PV) v (fun _=> .no) (fun i off=> .mk i off) (fun _ _ _ _=> .no) (fun _ _ _=> .no) (fun _=> .no) (fun _=> .no) (fun _ _=> .no) (fun _=> .no) (fun _=> .no) (fun _ _ _=> .no) (fun _ _ _ _=> .no) (fun _ _ _ _ _ _=> .no) (fun _ _ _ _ _=> .no) .no
def sliceV (v:AV):SV:= @AV.casesOn (fun _=>SV) v (fun _=> .no) (fun _ _=> .no) (fun i off len cap=> .mk i off len cap) (fun _ _ _=> .no) (fun _=> .no) (fun _=> .no) (fun _ _=> .no) (fun _=> .no) (fun _=> .no) (fun _ _ _=> .no) (fun _ _ _ _=> .no) (fun _ _ _ _ _ _=> .no) (fun _ _ _ _ _=> .no) .no
def aggV (v:AV):Option (List AV):= @AV.casesOn (fun _=>Option (List AV)) v (fun _=>none) (fun _ _=>none) (fun _ _ _ _=>none) (fun _ _ _=>none) (fun _=>none) (fun _=>none) (fun _ _=>none) (fun cs=>some cs) (fun _=>none) (fun _ _ _=>none) (fun _ _ _ _=>none) (fun _ _ _ _ _ _=>none) (fun _ _ _ _ _=>none) none
def tupV (v:AV):Option (List AV):= @AV.casesOn (fun _=>Option (List AV)) v (fun _=>none) (fun _ _=>none) (fun _ _ _ _=>none) (fun _ _ _=>none) (fun _=>none) (fun _=>none) (fun _ _=>none) (fun _=>none) (fun cs=>some cs) (fun _ _ _=>none) (fun _ _ _ _=>none) (fun _ _ _ _ _ _=>none) (fun _ _ _ _ _=>none) none
def blkV (b:Option ABlk):CV:= @Option.rec ABlk (fun _=>CV) .no (fun b=> @ABlk.casesOn (fun _=>CV) b (fun e cs x f r=> .mk e cs x f r) (fun _ _=> .no) (fun _=> .no) .no (fun _ _ _=> .no) (fun _ _=> .no) (fun _ _ _=> .no)) b
def blkXs (t:Ty) (b:Option ABlk):List t.den:=match b with
 |some (.own _ t' xs)=>if h:t'=t then h ▸ xs else []
 |_=>[]
def ownHas (e:TypeId) (t:Ty) (b:Option ABlk) (k:Nat):Bool:=match b with
 |some (.own e' t' xs)=>Nat.beq e e'&&(decide (t'=t)&&Nat.ble (k+1) xs.length)
 |_=>false
def Cap.isFull:Cap→Bool
 | .full=>true
 |_=>false
def Cap.isNil:Cap→Bool
 | .known n=>Nat.beq n 0
 |_=>false
def capOf:Nat→Cap
 |0=> .known 0
 |_+1=> .full
def blkIs (e:TypeId) (t:Ty) (b:Option ABlk) (n:Nat) (cap:Cap):Bool:=match b with
 |some (.own e' t' xs)=>Nat.beq e e'&&(decide (t'=t)&&(Nat.beq xs.length n&&cap.isFull))
 |none=>Nat.beq n 0&&cap.isNil
 |_=>false
def optOwn (e:TypeId) (t:Ty) (xs:List t.den):Option ABlk:=match xs with
 |[]=>none
 |x::l=>some (.own e t (x::l))
def elemAt (t:Ty) (xs:List t.den) (k:Nat):List AV:=t.cells (xs.getD k t.dflt)
def hdInt (k:IntKind) (l:List AV):Option (Int×List AV):=match l with | .raw (.int k' x)::r=>(if k=k' then some (x,r)else none)|_=>none
def hdBool (l:List AV):Option (Bool×List AV):=match l with | .raw (.bool x)::r=>some (x,r)|_=>none
def hdStr (l:List AV):Option (ByteArray×List AV):=match l with | .raw (.string x)::r=>some (x,r)|_=>none
def hdLst (z:Bool) (t:Ty) (l:List AV):Option (List t.den×List AV):=match l with
 | .lst z' t' xs::r=>if h:t'=t then(cond (!z||z'||Nat.ble 1 xs.length) (some (h ▸ xs,r)) none)else none
 | .raw (.slice none 0 0)::r=>some ([],r)
 |_=>none
def hdPtr (t:Ty) (l:List AV):Option (t.den×List AV):=match l with
 | .lptr t' [x] 0 0::r=>if h:t'=t then some (h ▸ x,r)else none
 |_=>none
def Ty.take1:(t:Ty)→List AV→Option (t.den×List AV)
 | .int k,l=>hdInt k l
 | .bool,l=>hdBool l
 | .str,l=>hdStr l
 | .list z t,l=>hdLst z t l
 | .pair a b,l=>match a.take1 l with
   |some (x,l')=>(match b.take1 l' with |some (y,r)=>some ((x,y),r)|none=>none)
   |none=>none
 | .ptr t,l=>hdPtr t l
 | .unit,l=>some ((),l)
def Ty.read (t:Ty) (l:List AV):Option t.den:=match t.take1 l with |some (d,[])=>some d|_=>none
def Ty.readL (t:Ty):Nat→List AV→Option (List t.den)
 |0,[]=>some []
 |0,_::_=>none
 |n+1,l=>match t.take1 l with |some (d,r)=>(t.readL n r).map fun ds=>d::ds|none=>none
def cut (cs:List AV) (off n:Nat):List AV:=(cs.drop off).take n
def apart (P:Program) (t:TypeId) (cs:List AV) (off:Nat):Option AV:=
 @LV.rec (fun _=>Option AV) none (nth cs off) (fun n=>some (.agg (cut cs off n))) (lv P t)
def aload (P:Program) (t:TypeId) (cs:List AV) (off:Nat):Option AV:=
 @LV.rec (fun _=>Option AV) none (nth cs off) (fun n=> @Bool.rec (fun _=>Option AV) none (some (.agg (cut cs off n))) (Nat.ble (Nat.add off n) cs.length)) (lv P t)
def put1 (v:AV) (cs:List AV):Nat→Option (List AV):=
 @List.rec AV (fun _=>Nat→Option (List AV)) (fun _=>none) (fun a l ih off=> @Bool.rec (fun _=>Option (List AV)) (@Option.rec (List AV) (fun _=>Option (List AV)) none (fun r=>some (a::r)) (ih (Nat.sub off 1))) (some (v::l)) (Nat.beq off 0)) cs
def aput (cs:List AV) (off:Nat) (vs:List AV):Option (List AV):=
 match vs with
 |[v]=>put1 v cs off
 |vs=>cond (Nat.ble (off+vs.length) cs.length) (some (cs.take off++vs++cs.drop (off+vs.length))) none
def afill (place:Nat→Option (Nat×Nat)):List AV→List (Nat×AV)→Option (List AV)
 |cells,[]=>some cells
 |cells,(i,v)::rest=>
  (place i).bind fun p=>cond (cond v.isBot false (Nat.beq v.cells.length p.2)) ((aput cells p.1 v.cells).bind fun cells=>afill place cells rest) none
def sameKind:AV→AV→Bool
 | .ptr .., .raw (.pointer none)| .slice .., .raw (.slice none _ _)| .func .., .raw .nilFunc| .iface .., .raw .nilIface| .map _, .raw (.map none)=>true
 |_,_=>false
def fitsEq (P:Program) (t:TypeId):AV→Bool
 | .ptr .. =>match P.underlying t with |some (.pointer _)=>true|_=>false
 | .slice .. =>match P.underlying t with |some (.slice _)=>true|_=>false
 | .func .. =>match P.underlying t with |some (.func _ _ _)=>true|_=>false
 | .iface .. =>match P.underlying t with |some (.interface _)=>true|_=>false
 | .map _=>match P.underlying t with |some (.map _ _)=>true|_=>false
 |_=>false
def evRaw (ev:Ev) (x:Operand):Value:=((ev x).toRaw).getD undef
def gen (P:Program) (o:Oper) (ev:Ev):Option AV:=
 cond (o.op.operands.toList.all fun x=>(ev x).toRaw.isSome)
  (match runPure P (execOp (evRaw ev) o)with
    |some (.value v)=>some (.raw v)
    |some .skip=>some (.raw undef)
    |_=>none) none
def natO (v:AV):Option Nat:= @NV.rec (fun _=>Option Nat) none (fun n=>some n) (natV v)
def numO (o:Option AV) (d:Nat):Option Nat:=match o with |none=>some d|some v=>natO v
def xslice (P:Program) (e:TypeId) (s n:Nat) (lo hi mx:Option AV) (k:Nat→Nat→AV):Option AV:=
 (sizeB P e).bind fun s'=>(numO hi n).bind fun h=>(numO lo 0).bind fun l=>cond (mx.isNone&&Nat.beq s s'&&Nat.ble l h&&Nat.ble h n) (some (k l h)) none
def capLo (c:Cap) (len:Nat):Nat:=match c with
 | .known n=>n
 |_=>len
def aslice (P:Program) (t:TypeId) (x:AV) (lo hi mx:Option AV):Option AV:=
 match P.underlying t,x with
 |some (.array n e), .ptr i off=>
  (sizeB P e).bind fun s=>(numO mx n).bind fun m=>(numO hi n).bind fun h=>(numO lo 0).bind fun l=>
    cond (Nat.ble l h&&Nat.ble h m&&Nat.ble m n&&(mx.isNone||hi.isSome)) (some (.slice i (cond (Nat.beq m l) off (off+l*s)) (h-l) (.known (m-l)))) none
 |some (.slice e), .slice i off len cap=>
  (sizeB P e).bind fun s=>(numO hi len).bind fun h=>(numO lo 0).bind fun l=>
    match mx,cap with
    |none, .known c=>cond (Nat.ble l h&&Nat.ble h c) (some (.slice i (cond (Nat.beq c l) off (off+l*s)) (h-l) (.known (c-l)))) none
    |none,c=>cond (Nat.ble l h&&Nat.ble h len) (cond (Nat.beq l 0) (some (.slice i off h c)) (cond (Nat.ble (l+1) len) (some (.slice i (off+l*s) (h-l) .any)) none)) none
    |some mv,c=>(natO mv).bind fun m=>cond (Nat.ble l h&&Nat.ble h m&&Nat.ble m (capLo c len)&&hi.isSome) (some (.slice i (cond (Nat.beq m l) off (off+l*s)) (h-l) (.known (m-l)))) none
 |some (.slice e), .lst _ t xs=>xslice P e t.size xs.length lo hi mx (fun l h=>cond (Nat.ble (l+1) h) (.lst false t ((xs.take h).drop l)) (.lst false t []))
 |some (.slice e), .osl e' t i k len cap=>xslice P e t.size len lo hi mx (fun l h=>cond (Nat.beq l 0) (.osl e' t i k h cap) (cond (Nat.ble (l+1) h) (.osl e' t i (k+l) (h-l) .any) (.lst false t [])))
 |_,_=>none
def src (H:AHeap) (s:Nat):AV→Option (List AV×Nat)
 | .raw (.slice none 0 _)=>some ([],0)
 | .raw (.string b)=>cond (Nat.beq s 1) (some (b.data.toList.map fun x=> .raw (.int .u8 x.toNat),b.size)) none
 | .slice i off len _=>match H.get i with
   |some (.cells _ cs _ _ _)=>cond (Nat.ble (off+len*s) cs.length) (some (cut cs off (len*s),len)) none
   |_=>none
 |_=>none
def bounded (n bytes:Nat):Bool:=Nat.ble (n*bytes) 140737488355328&&Nat.ble n 140737488355328
def allOne:List AV→Bool
 |[]=>true
 |v::l=>cond v.one (allOne l) false
def agrow (e:TypeId) (sz bytes:Nat) (i len:Nat) (cap:Cap) (news:List AV) (n:Nat) (H:AHeap):Option (AV×AHeap):=
 cond (bounded (len+n) bytes) (match H.get i with
  |some (.cells e' cs exact false false)=>
   cond (Nat.beq e e'&&Nat.ble (len*sz) cs.length) (match cap with
    | .known c=>
      cond (Nat.ble (len+n) c)
       ((aput cs (len*sz) news).map fun cs'=>(.slice i 0 (len+n) (.known c),H.set i (.cells e cs' exact false false)))
       (some (.slice H.next 0 (len+n) .full,H.new (.cells e (cs.take (len*sz)++news) false false false)))
    | .full=>cond exact none (some (.slice H.next 0 (len+n) .full,(H.drop i).new (.cells e (cs.take (len*sz)++news) false false false)))
    | .any=>none) none
  |_=>none) none
def aappend (P:Program) (t:TypeId) (s x:AV) (H:AHeap):Option (AV×AHeap):=
 (elemB P t).bind fun e=>(P.info? e).bind fun inf=>(inf.zero).bind fun z=>
 cond (Nat.beq z.cells.size inf.size&&Nat.ble 1 inf.size)
 ((src H inf.size x).bind fun sn=>
   cond (Nat.beq sn.2 0) (match s with | .raw (.slice none 0 0)| .slice .. =>some (s,H)|_=>none)
   (cond (allOne sn.1) (match s with
     | .raw (.slice none 0 0)=>cond (bounded sn.2 inf.bytes) (some (.slice H.next 0 sn.2 .full,H.new (.cells e sn.1 false false false))) none
     | .slice i 0 len cap=>agrow e inf.size inf.bytes i len cap sn.1 sn.2 H
     |_=>none) none)) none
def tsrc (H:AHeap) (ty:Ty) (s:Nat):AV→Option (List ty.den×Nat)
 | .raw (.slice none 0 _)=>some ([],0)
 | .lst _ u ys=>if h:u=ty then some (h ▸ ys,ys.length)else none
 | .osl e u j k len _=>cond (decide (u=ty)&&(Nat.beq len 0||ownHas e ty (H.get j) (k+len-1))) (some (((blkXs ty (H.get j)).drop k).take len,len)) none
 | .slice j off n cap=>(src H s (.slice j off n cap)).bind fun sn=>(ty.readL n sn.1).map fun ds=>(ds,n)
 |_=>none
def tappend (P:Program) (t:TypeId) (e:TypeId) (ty:Ty) (i k len:Nat) (cap:Cap) (sk:Bool) (x:AV) (H:AHeap):Option (AV×AHeap):=
 (elemB P t).bind fun el=>(P.info? el).bind fun inf=>(inf.zero).bind fun z=>
 cond (Nat.beq z.cells.size inf.size&&Nat.ble 1 inf.size&&Nat.beq el e&&Nat.beq ty.size inf.size&&Nat.beq k 0)
 ((tsrc H ty inf.size x).bind fun sn=>
   cond (Nat.beq sn.2 0) (some (.osl e ty i k len cap,cond sk H.skip H))
   (cond (blkIs e ty (H.get i) len cap&&bounded (len+sn.2) inf.bytes)
     (some (.osl e ty H.next 0 (len+sn.2) .full,(H.drop i).new (.own e ty (blkXs ty (H.get i)++sn.1)))) none)) none
def emptyS (s:AV):Bool:=match s with
 | .slice _ _ n (.known c)=>Nat.beq n 0&&Nat.beq c 0
 | .raw (.slice none 0 0)=>true
 |_=>false
def lappend (P:Program) (t:TypeId) (ty:Ty) (x:AV) (H:AHeap):Option (AV×AHeap):=match elemB P t with
 |some e=>tappend P t e ty H.next 0 0 (.known 0) true x H
 |none=>none
def thaw (ty:Ty) (x:AV) (H:AHeap):Option (Bool×AHeap):=match ty,x with
 | .list false _, .slice j off 1 _=>(match H.get j with
   |some (.cells e cs ex f r)=>(match nth cs off with
    |some (.osl e2 u2 i 0 len _)=>(match H.get i with
     |some (.own e3 u3 xs)=>(match decide (u2=u3)&&(Nat.beq e2 e3&& !Nat.beq i j)with
      |true=>some (Nat.beq len xs.length,(H.drop i).set j (.cells e (cs.set off (.lst false u3 xs)) ex f r))
      |false=>none)
     |_=>none)
    |_=>none)
   |_=>none)
 |_,_=>none
def tappendF (P:Program) (t:TypeId) (e:TypeId) (ty:Ty) (i k len:Nat) (cap:Cap) (x:AV) (H:AHeap):Option (AV×AHeap):=match thaw ty x H with
 |some (b,H')=>cond b (tappend P t e ty i k len cap false x H') none
 |none=>tappend P t e ty i k len cap false x H
def bappend (P:Program) (t:TypeId) (s x:AV) (H:AHeap):Option (AV×AHeap):=match s with
 | .osl e ty i k len cap=>tappendF P t e ty i k len cap x H
 |s=>match x with
  | .lst z ty ys=>cond (emptyS s) (lappend P t ty (.lst z ty ys) H) none
  |x=>aappend P t s x H
def acopy (P:Program) (t:TypeId) (d x:AV) (H:AHeap):Option (AV×AHeap):=
 (elemB P t).bind fun e=>(sizeB P e).bind fun s=>match x,d with
   | .slice j offj n cj, .slice i off len _=>(src H s (.slice j offj n cj)).bind fun sn=>match H.get i with
     |some (.cells e' cs exact false false)=>
      cond (allOne (sn.1.take (Nat.min n len*s))) ((aput cs off (sn.1.take (Nat.min n len*s))).map fun cs'=>(.raw (goInt (Nat.min n len)),H.set i (.cells e' cs' exact false false))) none
     |_=>none
   | .raw (.slice none 0 0), .slice _ _ _ _=>some (.raw (goInt 0),H)
   |_,_=>none
def aclear (P:Program) (t:TypeId) (i off len:Nat) (H:AHeap):Option (AV×AHeap):=
 (elemB P t).bind fun e=>(sizeB P e).bind fun s=>(zeroB P e).bind fun z=>match H.get i with
   |some (.cells e' cs exact false false)=>cond (Nat.ble 1 len&&Nat.beq z.cells.size s&&allOne (List.replicate len (rawL z.cells)).flatten) ((aput cs off (List.replicate len (rawL z.cells)).flatten).map fun cs'=>(.raw (.tuple #[]),H.set i (.cells e' cs' exact false false))) none
   |_=>none
def bytesOf:List AV→Option (List UInt8)
 |[]=>some []
 | .raw (.int .u8 (.ofNat n))::l=>cond (Nat.ble (n+1) 256) ((bytesOf l).map fun r=>UInt8.ofNat n::r) none
 |_=>none
def samePtr (P:Program) (t:TypeId):AV→AV→Option Bool
 | .ptr i off, .ptr j off'=>match P.underlying t with
   |some (.pointer e)=>match sizeB P e with
    |some (_+1)=>cond (Nat.beq i j) (some (Nat.beq off off')) none
    |_=>none
   |_=>none
 |_,_=>none
def mLookup (P:Program) (t:TypeId) (es:Array MapEntry) (kv:Value) (ok:Bool):Option Value:=
 match P.underlying t with
 |some (.map kt et)=>(runPure P (Instr.checkKey es.isEmpty 10000 kt kv)).bind fun _=>(runPure P (Instr.findKey kt kv es.toList)).bind fun r=>
  match r with
  |some p=>some (if ok then .tuple #[p.2, .bool true]else p.2)
  |none=>(zeroB P et).map fun z=>if ok then .tuple #[z, .bool false]else z
 |_=>none
def mUpdate (P:Program) (t:TypeId) (es:Array MapEntry) (clock:Nat) (kv xv:Value):Option (Array MapEntry×Nat):=
 match P.underlying t with
 |some (.map kt _)=>(runPure P (Instr.checkKey false 10000 kt kv)).bind fun _=>(runPure P (Instr.findKey kt kv es.toList)).bind fun r=>
  match r with
  |some p=>(runPure P (Instr.keyThatStays (((es[p.1]?).map (·.key)).getD kv) kv)).map fun k=>(es.modify p.1 fun e=>{e with key:=k,val:=xv},clock)
  |none=>some (es.push {key:=kv,val:=xv,born:=clock},clock+1)
 |_=>none
def aextern (P:Program) (f:FuncId) (fn:Func) (args:List AV) (H:AHeap):Option (AV×AHeap):=
 match AV.toRaws args with
 |some vs=>match runPure P (callFunc f vs.toArray)with
  |some (.value v)=>some (.raw v,H)
  |_=>cond (fn.name== "internal/bytealg.MakeNoZero")
   (match args,fn.resultTypes[0]? with
     |[.raw (.int .i64 (.ofNat n))],some t=>(elemB P t).bind fun e=>cond (Nat.ble n 140737488355328&&Nat.beq (P.cellsOf e) 1) (some (.slice H.next 0 n .full,H.new (.cells e [] false false false))) none
     |_,_=>none) none
 |none=>match args with
  |[x]=>cond (fn.name== "internal/abi.NoEscape") (some (x,H)) none
  |_=>none
def aenter (P:Program) (f:FuncId) (args:List AV) (H:AHeap):VR:=
 @Option.rec Func (fun _=>VR) .no (fun fn=> @Option.rec Code (fun _=>VR) (vr2 (aextern P f fn args H)) (fun _=> .enter f args H) fn.body) (P.funcs[f]?)
inductive GV where
 |no
 |fn (f:FuncId)
def fnV (f:Fn):GV:=match f with | .func f=> .fn f|_=> .no
def rawG (v:Value):GV:=match v with
 | .func fn ⟨[]⟩ ⟨[]⟩=>fnV fn
 |_=> .no
def acallee (P:Program) (fv:AV) (args:List AV) (H:AHeap):VR:=
 match fv with
 | .raw v=> @GV.rec (fun _=>VR) (match v with | .func (.func f) first captured=>aenter P f (rawL first++args++rawL captured) H|_=> .no) (fun f=>aenter P f args H) (rawG v)
 | .func (.func f) first captured=>aenter P f (first++args++captured) H
 | .yield i=> .round i args H
 |_=> .no
abbrev Handler:=Program→Oper→Ev→AHeap→VR
def hNo:Handler:=fun _ _ _ _=> .no
def hGen:Handler:=fun P o ev H=>vr H (gen P o ev)
def hMove (x:Operand):Handler:=fun _ _ ev H=> .ok (ev x) H
def hPick (c a b:Operand):Handler:=fun _ _ ev H=> @BV.rec (fun _=>VR) .no (fun b'=> @Bool.rec (fun _=>VR) (.ok (ev b) H) (.ok (ev a) H) b') (boolV (ev c))
def partsOf (ev:Ev) (parts:Array (Nat×Operand)):List (Nat×AV):=parts.toList.map fun p=>(p.1,ev p.2)
def fieldPlaceB (P:Program) (fs:Array Field) (i:Nat):Option (Nat×Nat):=(fs[i]?).bind fun f=>(sizeB P f.type).map fun s=>(f.offset,s)
def pBuild (P:Program) (ev:Ev) (t:TypeId) (parts:Array (Nat×Operand)):Option AV:=
 (zeroB P t).bind fun z=>
   match P.underlying t with
   |some (.struct fs)=>(afill (fieldPlaceB P fs) (rawL z.cells) (partsOf ev parts)).bind fun cs=>
     cond (fs.toList.all fun f=>(sizeB P f.type).isSome) (some (.agg cs)) none
   |some (.array _ e)=>(sizeB P e).bind fun s=>(afill (fun i=>some (i*s,s)) (rawL z.cells) (partsOf ev parts)).map .agg
   |_=>none
def hBuild (t:TypeId) (parts:Array (Nat×Operand)):Handler:=fun P _ ev H=>vr H (pBuild P ev t parts)
def pNil (P:Program) (o:Oper) (ev:Ev) (x:Operand):Option AV:=match ev x with
 | .func (.func f) a b=>some (.func (.func f) a b)
 | .yield i=>some (.yield i)
 | .lptr t xs k off=>some (.lptr t xs k off)
 | .optr e t i k off=>some (.optr e t i k off)
 |_=>gen P o ev
def hNil (x:Operand):Handler:=fun P o ev H=> @PV.rec (fun _=>VR) (vr H (pNil P o ev x)) (fun i off=> .ok (.ptr i off) H) (ptrV (ev x))
def aint (P:Program) (op:BinOp) (k:IntKind) (a b:Int):Option Value:=
 match op with
 | .add| .sub| .mul=>runPure P (Op.intArith op k a b)
 | .quo| .rem=>runPure P (Op.intDiv op k a b)
 | .and| .or| .xor| .andNot=>runPure P (Op.intBits op k a b)
 | .shl| .shr=>none
 |_=>runPure P (Op.intCmp op a b)
def pairI:AV→Option (Int×Int)
 | .agg [.raw (.int .i64 a), .raw (.int .i64 b)]=>some (a,b)
 |_=>none
def primEq (P:Program) (t:TypeId) (x y:AV):Option Bool:=match x,y with
 | .raw (.int .i64 a), .raw (.int .i64 b)=>(match P.underlying t with |some (.int .i64)=>cond (P.plainKey t) (some (a==b)) none|_=>none)
 | .raw (.string a), .raw (.string b)=>(match P.underlying t with |some .string=>cond (P.plainKey t) (some (a.toList==b.toList)) none|_=>none)
 |_,_=>none
def structEq (P:Program) (t:TypeId) (x y:AV):Option Bool:=match x,y with
 | .agg [a,b], .agg [c,d]=>(match P.underlying t with
   |some (.struct fs)=>(match fs.toList with
    |[f,g]=>cond (f.name != "_" &&(g.name != "_" &&(Nat.beq f.offset 0&&(Nat.beq g.offset 1&&(!P.eqGuardType P.depth t&& !P.stoodInHeld t))))) (match primEq P f.type a c,primEq P g.type b d with
     |some p,some q=>some (p&&q)
     |_,_=>none) none
    |_=>none)
   |_=>none)
 |_,_=>none
def pairEqA (P:Program) (t:TypeId) (x y:AV):Option Bool:=
 match pairI x,pairI y with
 |some p,some q=>(match P.underlying t with
  |some (.array n e)=>(match P.underlying e with
   |some (.int .i64)=>cond (Nat.beq n 2&&(!P.eqGuardType P.depth t&&(P.plainKey e&&(Nat.beq (P.cellsOf e) 1&&(P.info? e).isSome)))) (some (p.1==q.1&&p.2==q.2)) none
   |_=>none)
  |_=>none)
 |_,_=>none
def pairEq (P:Program) (t:TypeId) (x y:AV):Option Bool:=match structEq P t x y with
 |some b=>some b
 |none=>pairEqA P t x y
def lstEmp:AV→Option Bool
 | .lst true _ xs=>some xs.isEmpty
 |_=>none
def nilS:AV→Bool
 | .raw (.slice none 0 0)=>true
 |_=>false
def nilEq (P:Program) (t:TypeId) (x y:AV):Option Bool:=
 match lstEmp x with
 |some b=>(match P.underlying t with |some (.slice _)=>cond (nilS y) (some b) none|_=>none)
 |none=>none
def aeq (P:Program) (o:Oper) (ev:Ev) (t:TypeId) (want:Bool) (x y:AV):Option AV:=
 match nilEq P t x y with
 |some b=>some (.raw (.bool (b==want)))
 |none=>
 match pairEq P t x y with
 |some b=>some (.raw (.bool (b==want)))
 |none=>
 match samePtr P t x y with
 |some b=>some (.raw (.bool (b==want)))
 |none=>cond (fitsEq P t x&&sameKind x y) (some (.raw (.bool !want))) (cond (fitsEq P t y&&sameKind y x) (some (.raw (.bool !want))) (gen P o ev))
def pBin (P:Program) (o:Oper) (ev:Ev) (op:BinOp) (t:TypeId) (x y:AV):Option AV:=
 match op with
 | .eql=>aeq P o ev t true x y
 | .neq=>aeq P o ev t false x y
 |_=>gen P o ev
def pInt (P:Program) (o:Oper) (ev:Ev) (op:BinOp) (k k':IntKind) (a b:Int):Option AV:=
 cond (k==k') (match aint P op k a b with |some v=>some (.raw v)|none=>gen P o ev) (gen P o ev)
def nNo:Nat→Nat→Option AV:=fun _ _=>none
def small (n:Nat):Option AV:= @Bool.rec (fun _=>Option AV) none (some (.raw (.int .i64 (.ofNat n)))) (Nat.ble (Nat.succ n) 9223372036854775808)
def nBin:BinOp→Nat→Nat→Option AV:=
 @BinOp.rec (fun _=>Nat→Nat→Option AV) (fun a b=>small (Nat.add a b)) (fun a b=> @Bool.rec (fun _=>Option AV) none (small (Nat.sub a b)) (Nat.ble b a)) nNo nNo nNo nNo nNo nNo nNo nNo nNo
   (fun a b=>some (.raw (.bool (Nat.beq a b)))) (fun a b=>some (.raw (.bool (!(Nat.beq a b))))) (fun a b=>some (.raw (.bool (Nat.ble (Nat.succ a) b)))) (fun a b=>some (.raw (.bool (Nat.ble a b))))
   (fun a b=>some (.raw (.bool (Nat.ble (Nat.succ b) a)))) (fun a b=>some (.raw (.bool (Nat.ble b a))))
def isI64:IntKind→Bool:= @IntKind.rec (fun _=>Bool) false false false true false false false false
def fastInt (op:BinOp) (k k':IntKind) (a b:Int):Option AV:=
 @NV.rec (fun _=>Option AV) none (fun m=> @NV.rec (fun _=>Option AV) none (fun n=> @Bool.rec (fun _=>Option AV) none (@Bool.rec (fun _=>Option AV) none (nBin op m n) (isI64 k')) (isI64 k)) (intN b)) (intN a)
def hBin (op:BinOp) (t:TypeId) (x y:Operand) (_yt:TypeId):Handler:=fun P o ev H=>
 @WV.rec (fun _=>VR) (vr H (pBin P o ev op t (ev x) (ev y)))
   (fun k a=> @WV.rec (fun _=>VR) (vr H (gen P o ev)) (fun k' b=> @Option.rec AV (fun _=>VR) (vr H (pInt P o ev op k k' a b)) (fun v=> .ok v H) (fastInt op k k' a b)) (avW (ev y))) (avW (ev x))
def pIface (P:Program) (t:TypeId) (v:AV):Option AV:=match P.underlying t with
 |some (.interface _)|none=>none
 |some _=>some (.iface t v)
def hIface (t:TypeId) (x:Operand):Handler:=fun P _ ev H=>vr H (pIface P t (ev x))
def hFunc (fn:Fn) (first captured:Array Operand):Handler:=fun _ _ ev H=> .ok (.func fn (first.toList.map ev) (captured.toList.map ev)) H
def pSlice (P:Program) (o:Oper) (ev:Ev) (t:TypeId) (x:Operand) (lo hi mx:Option Operand):Option AV:=match ev x with
 | .raw _=>gen P o ev
 |x=>aslice P t x (lo.map ev) (hi.map ev) (mx.map ev)
def hSlice (t:TypeId) (x:Operand) (lo hi mx:Option Operand):Handler:=fun P o ev H=>vr H (pSlice P o ev t x lo hi mx)
def hFieldAddr (s:TypeId) (x:Operand) (f:Nat):Handler:=fun P _ ev H=>
 @FV.rec (fun _=>VR) .no (fun foff n _=> @PV.rec (fun _=>VR) (xField foff n (ev x) H) (fun i off=> @Bool.rec (fun _=>VR) .no (.ok (.ptr i (Nat.add off foff)) H) (Nat.ble 1 n)) (ptrV (ev x))) (fv P s f)
def hField (t:TypeId) (x:Operand) (f:Nat):Handler:=fun P o ev H=>
 @Option.rec (List AV) (fun _=>VR) (vr H (gen P o ev)) (fun cs=> @FV.rec (fun _=>VR) .no (fun foff _ ft=>vr H (apart P ft cs foff)) (fv P t f)) (aggV (ev x))
def hIndexAddr (t:TypeId) (x ix:Operand):Handler:=fun P _ ev H=>
 @NV.rec (fun _=>VR) .no (fun k=> @TV.rec (fun _=>VR) .no
   (fun n s=> @PV.rec (fun _=>VR) (xArr k n s (ev x) H) (fun i off=> @Bool.rec (fun _=>VR) .no (.ok (.ptr i (Nat.add off (Nat.mul k s))) H) (Nat.ble (Nat.succ k) n)) (ptrV (ev x)))
   (fun s=> @SV.rec (fun _=>VR) (xIdx k s (ev x) H) (fun i off len _=> @Bool.rec (fun _=>VR) .no (.ok (.ptr i (Nat.add off (Nat.mul k s))) H) (Nat.ble (Nat.succ k) len)) (sliceV (ev x)))
   (tv P t)) (natV (ev ix))
def pIndex (P:Program) (t:TypeId) (cs:List AV) (ix:AV):Option AV:=match P.underlying t with
 |some (.array n e)=>(natO ix).bind fun k=>(sizeB P e).bind fun s=>cond (Nat.ble (k+1) n) (apart P e cs (k*s)) none
 |_=>none
def hIndex (t:TypeId) (x ix:Operand):Handler:=fun P o ev H=>
 @Option.rec (List AV) (fun _=>VR) (vr H (gen P o ev)) (fun cs=>vr H (pIndex P t cs (ev ix))) (aggV (ev x))
def hExtract (x:Operand) (i:Nat):Handler:=fun P o ev H=>
 @Option.rec (List AV) (fun _=>VR) (vr H (gen P o ev)) (fun vs=>vr H (nth vs i)) (tupV (ev x))
def xLoad (P:Program) (t:TypeId) (x:AV) (H:AHeap):VR:=match x with
 | .lptr u xs k off=>vr H (aload P t (elemAt u xs k) off)
 | .optr e u i k off=>cond (ownHas e u (H.get i) k) (vr H (aload P t (elemAt u (blkXs u (H.get i)) k) off)) .no
 |_=> .no
def hLoad (t:TypeId) (x:Operand):Handler:=fun P _ ev H=>
 @PV.rec (fun _=>VR) (xLoad P t (ev x) H) (fun i off=> @CV.rec (fun _=>VR) .no (fun _ cs _ _ _=>vr H (aload P t cs off)) (blkV (H.get i))) (ptrV (ev x))
def pLookup (P:Program) (o:Oper) (ev:Ev) (t:TypeId) (m k:AV) (ok:Bool) (H:AHeap):Option AV:=match m,k.toRaw with
 | .map i,some kv=>match H.get i with
   |some (.map es _)=>(mLookup P t es kv ok).map .raw
   |_=>none
 |_,_=>gen P o ev
def hLookup (t:TypeId) (m k:Operand) (ok:Bool):Handler:=fun P o ev H=>vr H (pLookup P o ev t (ev m) (ev k) ok H)
def pConvert (P:Program) (o:Oper) (ev:Ev) (s d:TypeId) (x:AV) (H:AHeap):Option (AV×AHeap):=match x with
 | .slice i off len _=>match P.underlying s,P.underlying d,H.get i with
   |some (.slice e),some .string,some (.cells _ cs _ _ _)=>match P.underlying e with
    |some (.int .u8)=>cond (Nat.ble (off+len) cs.length) ((bytesOf (cut cs off len)).map fun bs=>(.raw (.string ⟨bs.toArray⟩),H)) none
    |_=>none
   |_,_,_=>none
 | .ptr i off=>match P.underlying s,P.underlying d,H.get i with
   |some (.pointer t),some .unsafePointer,some (.cells _ cs _ _ _)=>match sizeB P t with
    |some (_+1)=>cond (Nat.ble (off+1) cs.length) (some (.ptr i off,H)) none
    |_=>none
   |some .unsafePointer,some (.pointer u),some (.cells e cs true _ _)=>cond ((sizeB P u).isSome&&liesAt P P.depth e (cs.length/P.cellsOf e) off u 1) (some (.ptr i off,H)) none
   |_,_,_=>none
 | .raw (.string b)=>match P.underlying s,P.underlying d with
   |some .string,some (.slice e)=>match P.underlying e with
    |some (.int .u8)=>cond (Nat.beq (P.cellsOf e) 1) (some (.slice H.next 0 b.size .full,H.new (.cells e (b.data.toList.map fun x=> .raw (.int .u8 x.toNat)) false true false))) none
    |_=>none
   |_,_=>(gen P o ev).map fun v=>(v,H)
 |_=>(gen P o ev).map fun v=>(v,H)
def hConvert (s d:TypeId) (x:Operand):Handler:=fun P o ev H=>vr2 (pConvert P o ev s d (ev x) H)
def hAlloc (e:TypeId):Handler:=fun P _ _ H=> @Option.rec Value (fun _=>VR) .no (fun z=> .ok (.ptr H.next 0) (H.new (.cells e (rawL z.cells) true false false))) (zeroB P e)
def hBox (e:TypeId) (x:Operand):Handler:=fun _ _ ev H=> @Bool.rec (fun _=>VR) (.ok (.ptr H.next 0) (H.new (.cells e (ev x).cells true false false))) .no (ev x).isBot
def eBuildSlice (P:Program) (ev:Ev) (t:TypeId) (len:Nat) (parts:Array (Nat×Operand)) (H:AHeap):Option (AV×AHeap):=
 (elemB P t).bind fun e=>(sizeB P e).bind fun s=>(zeroB P e).bind fun z=>
   cond (Nat.ble 1 s&&Nat.ble (len*s) 16777216&&Nat.beq z.cells.size s)
    ((afill (fun i=>some (i*s,s)) (List.replicate len (rawL z.cells)).flatten (partsOf ev parts)).map fun cs=>
      (.slice H.next 0 len (.known len),H.new (.cells e cs true false false))) none
def hBuildSlice (t:TypeId) (len:Nat) (parts:Array (Nat×Operand)):Handler:=fun P _ ev H=>vr2 (eBuildSlice P ev t len parts H)
def eMakeSlice (P:Program) (t:TypeId) (l c:AV) (H:AHeap):Option (AV×AHeap):=
 (elemB P t).bind fun e=>(P.info? e).bind fun inf=>(inf.zero).bind fun z=>(natO l).bind fun l=>(natO c).bind fun c=>
   cond (Nat.ble l c&&Nat.ble 1 inf.size&&bounded c inf.bytes&&Nat.beq z.cells.size inf.size)
    (some (.slice H.next 0 l (.known c),H.new (.cells e (List.replicate c (rawL z.cells)).flatten true false false))) none
def hMakeSlice (t:TypeId) (l c:Operand):Handler:=fun P _ ev H=>vr2 (eMakeSlice P t (ev l) (ev c) H)
def sizeIs (P:Program) (t:TypeId) (n:Nat):Bool:=match sizeB P t with |some m=>Nat.beq n m|none=>false
def eStore (P:Program) (t:TypeId) (i off:Nat) (y:AV) (H:AHeap) (e:TypeId) (cs:List AV) (exact:Bool):Option (AV×AHeap):=
 cond (allOne y.cells&&sizeIs P t y.cells.length)
  ((aput cs off y.cells).map fun cs'=>(.raw undef,H.set i (.cells e cs' exact false false))) none
def xStore (P:Program) (t:TypeId) (x y:AV) (H:AHeap):VR:=match x with
 | .optr e u i k off=>cond (ownHas e u (H.get i) k) (cond (allOne y.cells&&sizeIs P t y.cells.length) (match(aput (elemAt u (blkXs u (H.get i)) k) off y.cells).bind u.read with
     |some d=> .ok (.raw undef) (H.set i (.own e u ((blkXs u (H.get i)).set k d)))
     |none=> .no) .no) .no
 |_=> .no
def hStore (t:TypeId) (x y:Operand):Handler:=fun P _ ev H=>
 @PV.rec (fun _=>VR) (xStore P t (ev x) (ev y) H) (fun i off=> @CV.rec (fun _=>VR) .no (fun e cs exact frz ro=> @Bool.rec (fun _=>VR) (@Bool.rec (fun _=>VR) (vr2 (eStore P t i off (ev y) H e cs exact)) .no frz) .no ro) (blkV (H.get i))) (ptrV (ev x))
def eMakeMap (P:Program) (ev:Ev) (t:TypeId) (r:Option Operand) (H:AHeap):Option (AV×AHeap):=match r with
 |none=>some (.map H.next,H.new (.map #[] 0))
 |some h=>match P.underlying t,ev h with |some (.map _ _), .raw (.int _ _)=>some (.map H.next,H.new (.map #[] 0))|_,_=>none
def hMakeMap (t:TypeId) (r:Option Operand):Handler:=fun P _ ev H=>vr2 (eMakeMap P ev t r H)
def oneOk (P:Program) (t:TypeId) (kv:Value):Bool:=match P.underlying t with
 |some (.map kt _)=>match runPure P (Instr.checkKey false 10000 kt kv),runPure P (Instr.findKey kt kv [])with
  |some _,some none=>true
  |_,_=>false
 |_=>false
def eMapOne (P:Program) (t:TypeId) (m k x:AV) (H:AHeap):Option (AV×AHeap):=match m,k.toRaw with
 | .map i,some kv=>match H.get i with
   |some (.map ⟨[]⟩ 0)=>cond (oneOk P t kv) (some (.raw undef,H.set i (.one kv x))) none
   |_=>none
 |_,_=>none
def eMapUpdate (P:Program) (t:TypeId) (m k x:AV) (H:AHeap):Option (AV×AHeap):=match m,k.toRaw,x.toRaw with
 | .map i,some kv,some xv=>match H.get i with
   |some (.map es clock)=>(mUpdate P t es clock kv xv).map fun r=>(.raw undef,H.set i (.map r.1 r.2))
   |_=>none
 |_,_,none=>eMapOne P t m k x H
 |_,_,_=>none
def eRange (P:Program) (t:TypeId) (x:AV) (H:AHeap):Option (AV×AHeap):=match P.underlying t,x with
 |some (.map _ _), .map i=>match H.get i with
  |some (.map ⟨[]⟩ 0)=>some (.ptr H.next 0,H.new (.iter i 0 false))
  |some (.one _ _)=>some (.ptr H.next 0,H.new (.iter i 1 false))
  |_=>none
 |_,_=>none
def hRange (t:TypeId) (x:Operand):Handler:=fun P _ ev H=>vr2 (eRange P t (ev x) H)
def eNextAt (j:Nat) (H:AHeap):Option ABlk→Option (AV×AHeap)
 |some (.iter i 0 false)=>match H.get i with
  |some (.map ⟨[]⟩ 0)=>some (.tuple [.raw (.bool false)],H)
  |_=>none
 |some (.iter i 1 false)=>match H.get i with
  |some (.one kv v)=>some (.tuple [.raw (.bool true), .raw kv,v],H.set j (.iter i 1 true))
  |_=>none
 |some (.iter i 1 true)=>match H.get i with
  |some (.one _ _)=>some (.tuple [.raw (.bool false)],H)
  |_=>none
 |_=>none
def eNext (x:AV) (s:Bool) (H:AHeap):Option (AV×AHeap):=match x,s with
 | .ptr j 0,false=>eNextAt j H (H.get j)
 |_,_=>none
def hNext (x:Operand) (s:Bool):Handler:=fun _ _ ev H=>vr2 (eNext (ev x) s H)
def pEntryAt (H:AHeap):Option ABlk→Option AV
 |some (.iter i 1 true)=>match H.get i with
  |some (.one kv v)=>some (.tuple [.raw kv,v])
  |_=>none
 |_=>none
def pEntry (x:AV) (H:AHeap):Option AV:=match x with
 | .ptr j 0=>pEntryAt H (H.get j)
 |_=>none
def hEntry (x:Operand):Handler:=fun _ _ ev H=>vr H (pEntry (ev x) H)
def hMapUpdate (t:TypeId) (m k x:Operand):Handler:=fun P _ ev H=>vr2 (eMapUpdate P t (ev m) (ev k) (ev x) H)
def eUnsafeString (P:Program) (pt:TypeId) (x n:AV) (H:AHeap):Option (AV×AHeap):=match x with
 | .ptr i 0=>match n with
   | .raw (.int .i64 (.ofNat n))=>match P.underlying pt,H.get i with
     |some (.pointer e),some (.cells e' cs exact _ false)=>
      cond (Nat.beq e e'&&Nat.beq (P.cellsOf e) 1&&Nat.ble 1 n&&Nat.ble n cs.length&&Nat.ble n 140737488355328)
       ((bytesOf (cs.take n)).map fun bs=>(.raw (.string ⟨bs.toArray⟩),H.set i (.cells e' cs exact true false))) none
     |_,_=>none
   |_=>none
 |_=>none
def mLen (H:AHeap) (i:Nat):Option AV:=match H.get i with
 |some (.map es _)=>some (.raw (.int .i64 (.ofNat es.size)))
 |some (.one _ _)=>some (.raw (.int .i64 (.ofNat 1)))
 |_=>none
def pLenM (P:Program) (t:Option TypeId) (v:AV) (H:AHeap):Option AV:=t.bind fun t=>match P.underlying t,v with
 |some (.map _ _), .map i=>mLen H i
 |_,_=>none
def pLen (P:Program) (t:Option TypeId) (v:AV):Option AV:=t.bind fun t=>match P.underlying t,v with
 |some (.slice _), .slice _ _ len _=>some (.raw (.int .i64 (.ofNat len)))
 |some (.slice _), .lst _ _ xs=>some (.raw (.int .i64 (.ofNat xs.length)))
 |some (.slice _), .osl _ _ _ _ len _=>some (.raw (.int .i64 (.ofNat len)))
 |some (.array n _), .agg _=>some (.raw (.int .i64 (.ofNat n)))
 |some .string, .raw (.string b)=>some (.raw (.int .i64 (.ofNat b.size)))
 |_,_=>none
def pCap (P:Program) (t:Option TypeId) (v:AV):Option AV:=t.bind fun t=>match P.underlying t,v with
 |some (.slice _), .slice _ _ _ (.known n)=>some (.raw (.int .i64 (.ofNat n)))
 |_,_=>none
def eBuiltin (P:Program) (o:Oper) (ev:Ev) (b:Builtin) (argTypes:Array TypeId) (args:List AV) (H:AHeap):VR:=
 match b,args with
 | .len,[v]=>match pLenM P argTypes[0]? v H with |some r=> .ok r H|none=>match pLen P argTypes[0]? v with |some r=> .ok r H|none=>vr H (gen P o ev)
 | .cap,[v]=>match pCap P argTypes[0]? v with |some r=> .ok r H|none=>vr H (gen P o ev)
 | .append,[s,x]=>match argTypes.toList with
   |[t,t']=>match P.underlying t' with
    |some (.slice _)=>vr2 (bappend P t s x H)
    |some .string=>vr2 (bappend P t s x H)
    |_=> .no
   |_=> .no
 | .copy,[d,x]=>match argTypes.toList with |[t,_]=>vr2 (acopy P t d x H)|_=> .no
 | .clear,[.slice i off (len+1) _]=>match argTypes.toList with |[t]=>vr2 (aclear P t i off (len+1) H)|_=> .no
 | .clear,[.slice _ _ 0 _]=>match argTypes.toList with
   |[t]=>match P.underlying t with |some (.slice _)=> .ok (.raw (.tuple #[])) H|_=> .no
   |_=> .no
 | .unsafeString,[p,n]=>match argTypes.toList with |[pt,_]=>vr2 (eUnsafeString P pt p n H)|_=> .no
 | .unsafeSliceData,[.slice i off len _]=> @Bool.rec (fun _=>VR) .no (.ok (.ptr i off) H) (Nat.ble 1 len)
 |_,_=>vr H (gen P o ev)
def hCall (c:Call):Handler:=fun P o ev H=>
 match c.callee with
 | .value f=>acallee P (ev f) (c.args.toList.map ev) H
 | .builtin b=>eBuiltin P o ev b c.argTypes (c.args.toList.map ev) H
 | .invoke _ _=> .no
def aop:Op→Handler:=
 @Op.rec (fun _=>Handler) hMove hMove hPick hAlloc hBox hBuild hBuildSlice hMapUpdate hLoad hStore (fun _=>hNo) (fun _=>hNo) hNil hBin (fun _ _ _=>hGen) hConvert (fun _ _=>hNo) hIface hFunc hMakeMap (fun _ _=>hNo) hMakeSlice
   hSlice hFieldAddr hField hIndexAddr hIndex hLookup hMapUpdate (fun _ _ _=>hNo) (fun _ _ _ _=>hNo) hRange hNext hEntry (fun _ _ _ _=>hGen) hExtract hCall (fun _=>hNo) (fun _=>hNo) (fun _=>hNo) (fun _ _=>hNo) (fun _ _ _=>hNo) (fun _ _=>hNo)
--EV
def evT (T:Tr AV):Ev:=fun x=>
 @Operand.rec (fun _=>AV) (fun t=> @Option.rec AV (fun _=>AV) (.raw undef) (fun v=>v) (T.get t)) (fun v=> .raw v) (fun g=> @Bool.rec (fun _=>AV) (.raw (.pointer (some ⟨g,0,none⟩))) (.ptr g 0) (Nat.ble (Nat.succ g) 64)) (fun f=> .raw (.func (.func f) #[] #[])) x
--VE
inductive R where
 |no
 |normal (T:Tr AV) (H:AHeap) (m:List Nat)
 |exit (id:Nat) (T:Tr AV) (H:AHeap) (m:List Nat)
 |goto (l:Nat) (T:Tr AV) (H:AHeap) (m:List Nat)
 |ret (T:Tr AV) (H:AHeap) (m:List Nat)
def putT (T:Tr AV) (n:Nat) (dst:Option Tmp) (v:AV):Option (Tr AV):=
 @Option.rec Tmp (fun _=>Option (Tr AV)) (some T) (fun d=> @Bool.rec (fun _=>Option (Tr AV)) none (some (T.set d (some v))) (Nat.ble (Nat.succ d) n)) dst
def awantedG (T:Tr AV) (ops:Array Oper) (g:Nat×Bool):Option Bool:=
 match(ops[g.1]?).bind (·.dst)with
 |some d=>match T.get d with |some (.raw (.bool b))=>some (b==g.2)|some .bot=>none|_=>some false
 |none=>none
def awanted (T:Tr AV) (ops:Array Oper) (o:Oper):Option Bool:=
 @Option.rec (Nat×Bool) (fun _=>Option Bool) (some true) (fun g=>awantedG T ops g) o.guard
abbrev Caller:=FuncId→List AV→AHeap→VR
abbrev Rounder:=Nat→List AV→AHeap→VR
def aoper (P:Program) (call:Caller) (round:Rounder) (o:Oper) (ev:Ev) (H:AHeap):VR:=
 @VR.rec (fun _=>VR) .no (fun v H=> .ok v H) (fun f args H=>call f args H) (fun i args H=>round i args H) (aop o.op P o ev H)
inductive TH where
 |no
 |mk (T:Tr AV) (H:AHeap)
def th (k:Tr AV→AHeap→TH) (H:AHeap) (T:Option (Tr AV)):TH:= @Option.rec (Tr AV) (fun _=>TH) .no (fun T=>k T H) T
def thV (n:Nat) (dst:Option Tmp) (k:Tr AV→AHeap→TH) (T:Tr AV) (r:VR):TH:=
 @VR.rec (fun _=>TH) .no (fun v H=>th k H (putT T n dst v)) (fun _ _ _=> .no) (fun _ _ _=> .no) r
def astep (P:Program) (call:Caller) (round:Rounder) (ops:Array Oper) (n:Nat) (o:Oper) (T:Tr AV) (H:AHeap) (k:Tr AV→AHeap→TH):TH:=
 @Option.rec Bool (fun _=>TH) .no (fun b=> @Bool.rec (fun _=>TH) (th k H (putT T n o.dst (.raw undef))) (thV n o.dst k T (aoper P call round o (evT T) H)) b) (awanted T ops o)
def aseq (P:Program) (call:Caller) (round:Rounder) (ops:Array Oper) (n:Nat) (l:List Oper):Tr AV→AHeap→TH:=
 @List.rec Oper (fun _=>Tr AV→AHeap→TH) (fun T H=> .mk T H) (fun o _ ih T H=>astep P call round ops n o T H ih) l
abbrev Runner:=Code→(n:Nat)→(rnd:Bool)→Tr AV→AHeap→List Nat→R
def iter (body:Tr AV→AHeap→List Nat→R) (k:Nat):Tr AV→AHeap→List Nat→R:=
 @Nat.rec (fun _=>Tr AV→AHeap→List Nat→R) (fun _ _ _=> .no) (fun _ ih T H m=> @R.rec (fun _=>R) .no ih .exit .goto .ret (body T H m)) k
def aresult (P:Program) (T:Tr AV) (H:AHeap):ResultVar→Option AV
 | .tmp t=>some ((T.get t).getD (.raw undef))
 | .cell a t=>match T.get a with
   |some (.ptr i off)=>match H.get i with
    |some (.cells _ cs _ _ _)=>aload P t cs off
    |_=>none
   |_=>none
def aresultL (P:Program) (T:Tr AV) (H:AHeap):List ResultVar→Option (List AV)
 |[]=>some []
 |r::l=>(aresult P T H r).bind fun v=>(aresultL P T H l).map fun vs=>v::vs
def aresults (P:Program) (fn:Func) (T:Tr AV) (H:AHeap):VR:=
 match aresultL P T H fn.results.toList with
 |some [v]=> .ok v H
 |some vs=> .ok (.tuple vs) H
 |none=> .no
def initT (l:List AV):Tr AV→Nat→Tr AV:=
 @List.rec AV (fun _=>Tr AV→Nat→Tr AV) (fun T _=>T) (fun v _ ih T k=>ih (T.set k (some v)) (Nat.succ k)) l
def closeM:List Nat→AHeap→Option AHeap
 |[],H=>some H
 |i::m,H=>match H.get i with
  |some .deferred=>closeM m (H.drop i)
  |_=>none
def aleave (P:Program) (fn:Func) (T:Tr AV) (H:AHeap) (m:List Nat):VR:=
 @Option.rec AHeap (fun _=>VR) .no (fun H=>aresults P fn T H) (closeM m H)
def acallB (P:Program) (ih:Runner) (args:List AV) (H:AHeap) (fn:Func) (c:Code):VR:=
 @Bool.rec (fun _=>VR) .no (@R.rec (fun _=>VR) .no (fun T H m=>aleave P fn T H m) (fun _ _ _ _=> .no) (fun _ _ _ _=> .no) (fun T H m=>aleave P fn T H m)
   (ih c fn.ntmps false (initT args .nil 0) H [])) (Nat.ble args.length fn.ntmps)
def acall (P:Program) (ih:Runner):Caller:=fun f args H=>
 @Option.rec Func (fun _=>VR) .no (fun fn=> @Option.rec Code (fun _=>VR) .no (fun c=>acallB P ih args H fn c) fn.body) (P.funcs[f]?)
def setPairs (T:Tr AV) (l:List (Tmp×AV)):Tr AV:=l.foldl (fun T p=>T.set p.1 (some p.2)) T
def aroundEnd (i:Nat):R→VR
 | .normal _ H _=>match H.get i with |some (.loop r)=> .ok (.raw (.bool true)) (H.set i (.loop {r with state:= .ready,pending:=none}))|_=> .no
 | .ret _ H _=>match H.get i with |some (.loop r)=> .ok (.raw (.bool false)) (H.set i (.loop {r with state:= .done,pending:=some .ret}))|_=> .no
 | .exit id _ H _=>match H.get i with |some (.loop r)=> .ok (.raw (.bool false)) (H.set i (.loop {r with state:= .done,pending:=some (.exit id)}))|_=> .no
 | .goto l _ H _=>match H.get i with |some (.loop r)=> .ok (.raw (.bool false)) (H.set i (.loop {r with state:= .done,pending:=some (.goto l)}))|_=> .no
 | .no=> .no
def around (ih:Runner):Rounder:=fun i args H=>
 match H.get i with
 |some (.loop r)=>
  match r.state with
  | .ready=>cond (Nat.beq args.length r.params.size&&r.params.toList.all fun t=>Nat.ble (t+1) r.size)
    (match ih r.assign r.size true (setPairs r.tmps (r.params.toList.zip args)) H []with
      | .normal T H []=>match H.get i with
        |some (.loop r')=>match r'.state with
         | .ready=>aroundEnd i (ih r.body r.size true T (H.set i (.loop {r' with state:= .busy})) [])
         |_=> .no
        |_=> .no
      |_=> .no) .no
  |_=> .no
 |_=> .no
def rounds:Nat:=4096
def arangeEnd (ih:Runner) (n:Nat) (T:Tr AV) (D:Nat) (m:List Nat):VR→R
 | .ok _ H3=>match H3.get (Nat.succ D)with
   |some (.loop r)=>match r.state with
    | .busy=> .no
    |_=>match r.pending with
     |none=> .normal T (H3.set (Nat.succ D) (.loop {r with state:= .exhausted})) (D::m)
     |some c=>ih c n false T (H3.set (Nat.succ D) (.loop {r with state:= .exhausted})) (D::m)
   |_=> .no
 |_=> .no
def arange (P:Program) (ih:Runner) (f:Operand) (params:Array Tmp) (assign body:Code) (n:Nat) (T:Tr AV) (H:AHeap) (m:List Nat):R:=
 match acallee P (evT T f) [.yield (Nat.succ H.next)] ((H.new .deferred).new (.loop {tmps:=T,size:=n,params,assign,body,state:= .ready,pending:=none}))with
 | .enter g args H2=>arangeEnd ih n T H.next m (acall P ih g args H2)
 |_=> .no
abbrev ADrawer:=Caller→Rounder→Array Oper→Nat→Tr AV→AHeap→TH
abbrev Drawer:=Bool→ADrawer
abbrev CHandler:=Program→Drawer→Runner→(n:Nat)→(rnd:Bool)→Tr AV→AHeap→List Nat→R
def thR (m:List Nat) (r:TH):R:= @TH.rec (fun _=>R) .no (fun T H=> .normal T H m) r
def cSkip:CHandler:=fun _ _ _ _ _ T H m=> .normal T H m
def cRegion (_id:Nat) (ops:Array Oper) (d:Bool):CHandler:=fun P draw ih n _ T H m=>
 thR m (draw d (acall P ih) (around ih) ops n T H)
def cSeq (a b:Code) (_ _:CHandler):CHandler:=fun _ _ ih n rnd T H m=> @R.rec (fun _=>R) .no (fun T H m=>ih b n rnd T H m) .exit .goto .ret (ih a n rnd T H m)
def cCond (c:Operand) (x y:Code) (_ _:CHandler):CHandler:=fun _ _ ih n rnd T H m=>
 @BV.rec (fun _=>R) .no (fun b=> @Bool.rec (fun _=>R) (ih y n rnd T H m) (ih x n rnd T H m) b) (boolV (evT T c))
def cBlock (id:Nat) (b:Code) (_:CHandler):CHandler:=fun _ _ ih n rnd T H m=>
 @R.rec (fun _=>R) .no .normal (fun i T H m=> @Bool.rec (fun _=>R) (.exit i T H m) (.normal T H m) (Nat.beq i id)) .goto .ret (ih b n rnd T H m)
def cLoop (b:Code) (_:CHandler):CHandler:=fun _ _ ih n rnd T H m=>iter (ih b n rnd) rounds T H m
def cRange (f:Operand) (params:Array Tmp) (assign body:Code) (_ _:CHandler):CHandler:=fun P _ ih n rnd T H m=>
 @Bool.rec (fun _=>R) (arange P ih f params assign body n T H m) .no rnd
def cExit (id:Nat):CHandler:=fun _ _ _ _ _ T H m=> .exit id T H m
def cScope (b:Code) (_:CHandler):CHandler:=fun _ _ ih n rnd T H m=> @R.rec (fun _=>R) .no .normal .exit (fun _ _ _ _=> .no) .ret (ih b n rnd T H m)
def cGoto (l:Nat):CHandler:=fun _ _ _ _ _ T H m=> .goto l T H m
def cRet:CHandler:=fun _ _ _ _ _ T H m=> .ret T H m
def cNo:CHandler:=fun _ _ _ _ _ _ _ _=> .no
def chandle:Code→CHandler:=
 @Code.rec (fun _=>CHandler) cSkip cRegion cSeq cCond cBlock cLoop cRange cExit cScope (fun _=>cSkip) cGoto cRet (fun _=>cNo)
def orc (S:Caller) (call:Caller):Caller:=fun f args H=> @VR.rec (fun _=>VR) (call f args H) (fun v H=> .ok v H) .enter .round (S f args H)
def noS:Caller:=fun _ _ _=> .no
def acode (P:Program) (draw:Drawer) (fuel:Nat):Runner:=
 @Nat.rec (fun _=>Runner) (fun _ _ _ _ _ _=> .no) (fun _ ih c=>chandle c P draw ih) fuel
end
end Go.Proofs.YtccmlbinkgbpgaaGreatDoor.Sv
/- The runner over an abstract memory: how its values, blocks and states stand to the model's. -/
namespace Go.Proofs.YtccmlbinkgbpgaaGreatDoor.Sv
open Go.RowKit
def unbits:List Bool→Nat
 |[]=>0
 |true::l=>2*unbits l+1
 |false::l=>2*unbits l+2
theorem unbits_bitsF:∀(f i:Nat),i<f→unbits (bitsF f i)=i
 |0,i,h=>by omega
 |f+1,i,h=>by
  have e:bitsF (f+1) i= @Bool.rec (fun _=>List Bool) (@Bool.rec (fun _=>List Bool) (false::bitsF f (Nat.sub (Nat.div i 2) 1)) (true::bitsF f (Nat.div i 2)) (Nat.beq (Nat.mod i 2) 1)) [] (Nat.beq i 0):=rfl
  rw [e]
  cases h0:Nat.beq i 0 with
  |true=>simpa [unbits]using(Nat.eq_of_beq_eq_true h0).symm
  |false=>
   have hi:i≠0:=Nat.ne_of_beq_eq_false h0
   have d1:Nat.div i 2=i/2:=rfl
   have m1:Nat.mod i 2=i%2:=rfl
   cases h1:Nat.beq (Nat.mod i 2) 1 with
   |true=>
    have:=Nat.eq_of_beq_eq_true h1
    show 2*unbits (bitsF f (Nat.div i 2))+1=i
    rw [unbits_bitsF f _ (by rw [d1];omega),d1];omega
   |false=>
    have:=Nat.ne_of_beq_eq_false h1
    show 2*unbits (bitsF f (Nat.sub (Nat.div i 2) 1))+2=i
    have e2:Nat.sub (Nat.div i 2) 1=i/2-1:=rfl
    rw [e2,unbits_bitsF f _ (by omega)];omega
theorem bits_inj {i j:Nat} (h:bits i=bits j):i=j:=by
 have:=congrArg unbits h
 rwa [bits,bits,unbits_bitsF _ _ (Nat.lt_succ_self i),unbits_bitsF _ _ (Nat.lt_succ_self j)]at this
theorem Tr.getP_nil {α:Type} (p:List Bool):Tr.getP p (Tr.nil:Tr α)=none:=by cases p<;>rfl
theorem Tr.getP_setP {α:Type} (x:Option α):∀(p q:List Bool) (t:Tr α),Tr.getP q (Tr.setP x p t)=if p=q then x else Tr.getP q t
 |[],[], .nil=>rfl
 |[],[], .node l v r=>rfl
 |[],c::q, .nil=>by
  have:Tr.getP (c::q) (Tr.setP x [] (Tr.nil:Tr α))=none:=by
   show @Bool.rec (fun _=>Option α) (Tr.getP q .nil) (Tr.getP q .nil) c=none
   cases c<;>simp [Tr.getP_nil]
  simp [this,Tr.getP_nil]
 |[],c::q, .node l v r=>by simp;rfl
 |b::p,[], .nil=>by
  simp only [List.cons_ne_nil,if_false,Tr.getP_nil]
  cases b<;>rfl
 |b::p,[], .node l v r=>by simp only [List.cons_ne_nil,if_false];cases b<;>rfl
 |b::p,c::q, .nil=>by
  have e:Tr.getP (c::q) (Tr.setP x (b::p) (Tr.nil:Tr α))=if b=c then Tr.getP q (Tr.setP x p .nil)else none:=by
   cases b<;>cases c<;>first |rfl |exact Tr.getP_nil q
  rw [e,Tr.getP_setP x p q .nil,Tr.getP_nil,Tr.getP_nil]
  by_cases h:b=c<;>simp [h]
 |b::p,c::q, .node l v r=>by
  have e:Tr.getP (c::q) (Tr.setP x (b::p) (Tr.node l v r))=if b=c then Tr.getP q (Tr.setP x p (cond b l r))else Tr.getP (c::q) (Tr.node l v r):=by
   cases b<;>cases c<;>rfl
  rw [e]
  by_cases h:b=c
  ·subst h
   rw [if_pos rfl,Tr.getP_setP x p q]
   cases b<;>by_cases hp:p=q<;>simp [hp]<;>rfl
  ·simp [h]
theorem Tr.get_set {α:Type} (t:Tr α) (i j:Nat) (x:Option α):(t.set i x).get j=if i=j then x else t.get j:=by
 unfold Tr.get Tr.set
 rw [Tr.getP_setP]
 by_cases h:i=j
 ·subst h;simp
 ·rw [if_neg (fun e=>h (bits_inj e)),if_neg h]
theorem Tr.get_nil {α:Type} (i:Nat):(Tr.nil:Tr α).get i=none:=Tr.getP_nil _
theorem nth_eq {α:Type}:∀(l:List α) (i:Nat),nth l i=l[i]?
 |[],i=>by cases i<;>rfl
 |a::l,0=>rfl
 |a::l,i+1=>by
  show @Bool.rec (fun _=>Option α) (nth l (Nat.sub (i+1) 1)) (some a) (Nat.beq (i+1) 0)=_
  have:Nat.beq (i+1) 0=false:=rfl
  rw [this]
  have e:Nat.sub (i+1) 1=i:=rfl
  rw [e,nth_eq l i];rfl
theorem put1_eq (v:AV):∀(cs:List AV) (off:Nat),put1 v cs off=if off<cs.length then some (cs.set off v)else none
 |[],off=>by simp;rfl
 |a::l,0=>by simp;rfl
 |a::l,i+1=>by
  show @Option.rec (List AV) (fun _=>Option (List AV)) none (fun r=>some (a::r)) (put1 v l i)=_
  rw [put1_eq v l i]
  by_cases h:i<l.length<;>simp [h]
theorem set_eq_splice {α:Type} (cs:List α) (off:Nat) (v:α) (h:off<cs.length):cs.set off v=cs.take off++[v]++cs.drop (off+1):=by
 rw [List.set_eq_take_append_cons_drop,if_pos h];simp
theorem aput_some {cs vs r:List AV} {off:Nat} (h:aput cs off vs=some r):off+vs.length≤cs.length∧r=cs.take off++vs++cs.drop (off+vs.length):=by
 unfold aput at h
 split at h
 ·rw [put1_eq]at h
  split at h
  ·rename_i hl
   injection h with h
   refine⟨by simp;omega, ?_⟩
   rw [←h,set_eq_splice _ _ _ hl];rfl
  ·cases h
 ·cases hb:Nat.ble (off+vs.length) cs.length with
  |false=>rw [hb]at h;cases h
  |true=>
   rw [hb]at h
   injection h with h
   exact⟨Nat.le_of_ble_eq_true hb,h.symm⟩
structure Env where
 at':Nat→Option (Nat×Nat)
 fz:Nat→Option (Array Value)
instance:CoeFun Env (fun _=>Nat→Option (Nat×Nat)):=⟨Env.at'⟩
def capOk (cap:Cap) (c k:Nat):Prop:=match cap with
 | .known n=>k=n
 | .full=>k=c
 | .any=>True
mutual
inductive Den (ρ:Env):AV→Value→Prop
 |raw (v:Value):Den ρ (.raw v) v
 |ptr {i off b c:Nat} (h:ρ i=some (b,c)):Den ρ (.ptr i off) (.pointer (some ⟨b,off,none⟩))
 |slice {i off len b c k:Nat} {cap:Cap} (h:ρ i=some (b,c)) (hc:capOk cap c k) (hl:len≤k):Den ρ (.slice i off len cap) (.slice (some ⟨b,off,none⟩) len k)
 |func {fn:Fn} {fs cs:List AV} {xs ys:List Value} (hf:Dens ρ fs xs) (hc:Dens ρ cs ys):Den ρ (.func fn fs cs) (.func fn xs.toArray ys.toArray)
 |yield {i b c:Nat} (h:ρ i=some (b,c)):Den ρ (.yield i) (.func (.yield b) #[] #[])
 |map {i b c:Nat} (h:ρ i=some (b,c)):Den ρ (.map i) (.map (some b))
 |iface {t:TypeId} {v:AV} {x:Value} (h:Den ρ v x):Den ρ (.iface t v) (.iface t x)
 |agg {cs:List AV} {xs:List Value} (h:Dens ρ cs xs):Den ρ (.agg cs) (.agg xs.toArray)
 |tuple {cs:List AV} {xs:List Value} (h:Dens ρ cs xs):Den ρ (.tuple cs) (.tuple xs.toArray)
 |lst {z:Bool} {t:Ty} {xs:List t.den} {b off k:Nat} {A:Array Value} {ys:List Value} (h:ρ.fz b=some A) (ho:off+(t.flat xs).length≤A.size) (hy:(A.toList.drop off).take (t.flat xs).length=ys) (hd:Dens ρ (t.flat xs) ys) (hk:xs.length≤k) (hz:z=true→xs≠[]):Den ρ (.lst z t xs) (.slice (some ⟨b,off,none⟩) xs.length k)
 |lstNil {z:Bool} {t:Ty} {a:Option Addr} {k:Nat} (hz:z=true→a=none∧k=0):Den ρ (.lst z t []) (.slice a 0 k)
 |lptr {t:Ty} {xs:List t.den} {k off b o:Nat} {A:Array Value} {ys:List Value} (h:ρ.fz b=some A) (ho:o+(t.flat xs).length≤A.size) (hy:(A.toList.drop o).take (t.flat xs).length=ys) (hd:Dens ρ (t.flat xs) ys) (hk:k<xs.length):Den ρ (.lptr t xs k off) (.pointer (some ⟨b,o+(k*t.size+off),none⟩))
 |osl {e:TypeId} {t:Ty} {i k len b c kc:Nat} {cap:Cap} (h:ρ i=some (b,c)) (hc:capOk cap c kc) (hl:len≤kc):Den ρ (.osl e t i k len cap) (.slice (some ⟨b,k*t.size,none⟩) len kc)
 |oslNil {e:TypeId} {t:Ty} {i k:Nat} {cap:Cap} {a:Option Addr}:Den ρ (.osl e t i k 0 cap) (.slice a 0 0)
 |optr {e:TypeId} {t:Ty} {i k off b c:Nat} (h:ρ i=some (b,c)):Den ρ (.optr e t i k off) (.pointer (some ⟨b,k*t.size+off,none⟩))
 |bot (x:Value):Den ρ .bot x
inductive Dens (ρ:Env):List AV→List Value→Prop
 |nil:Dens ρ [] []
 |cons {v:AV} {x:Value} {vs:List AV} {xs:List Value} (h:Den ρ v x) (hs:Dens ρ vs xs):Dens ρ (v::vs) (x::xs)
end
structure Le (ρ ρ':Env):Prop where
 at':∀i x,ρ i=some x→ρ' i=some x
 fz:∀b A,ρ.fz b=some A→ρ'.fz b=some A
instance {ρ ρ':Env}:CoeFun (Le ρ ρ') (fun _=>∀i x,ρ i=some x→ρ' i=some x):=⟨Le.at'⟩
theorem Le.refl (ρ:Env):Le ρ ρ:=⟨fun _ _ h=>h,fun _ _ h=>h⟩
theorem Le.trans {a b c:Env} (h:Le a b) (k:Le b c):Le a c:=⟨fun i x hx=>k i x (h i x hx),fun i x hx=>k.fz i x (h.fz i x hx)⟩
mutual
theorem Den.mono {ρ ρ':Env} (hl:Le ρ ρ'):∀{v:AV} {x:Value},Den ρ v x→Den ρ' v x
 |_,_, .raw v=> .raw v
 |_,_, .ptr h=> .ptr (hl _ _ h)
 |_,_, .slice h hc hk=> .slice (hl _ _ h) hc hk
 |_,_, .func hf hc=> .func (Dens.mono hl hf) (Dens.mono hl hc)
 |_,_, .yield h=> .yield (hl _ _ h)
 |_,_, .map h=> .map (hl _ _ h)
 |_,_, .iface h=> .iface (Den.mono hl h)
 |_,_, .agg h=> .agg (Dens.mono hl h)
 |_,_, .tuple h=> .tuple (Dens.mono hl h)
 |_,_, .lst h ho hy hd hk hz=> .lst (hl.fz _ _ h) ho hy (Dens.mono hl hd) hk hz
 |_,_, .lstNil hz=> .lstNil hz
 |_,_, .lptr h ho hy hd hk=> .lptr (hl.fz _ _ h) ho hy (Dens.mono hl hd) hk
 |_,_, .osl h hc hk=> .osl (hl _ _ h) hc hk
 |_,_, .oslNil=> .oslNil
 |_,_, .optr h=> .optr (hl _ _ h)
 |_,_, .bot x=> .bot x
theorem Dens.mono {ρ ρ':Env} (hl:Le ρ ρ'):∀{v:List AV} {x:List Value},Dens ρ v x→Dens ρ' v x
 |_,_, .nil=> .nil
 |_,_, .cons h hs=> .cons (Den.mono hl h) (Dens.mono hl hs)
end
section
variable {ρ:Env}
theorem Dens.length:∀{vs:List AV} {xs:List Value},Dens ρ vs xs→xs.length=vs.length
 |_,_, .nil=>rfl
 |_,_, .cons _ hs=>by simp [Dens.length hs]
theorem Dens.append:∀{vs ws:List AV} {xs ys:List Value},Dens ρ vs xs→Dens ρ ws ys→Dens ρ (vs++ws) (xs++ys)
 |_,_,_,_, .nil,h=>h
 |_,_,_,_, .cons h hs,k=> .cons h (Dens.append hs k)
theorem Dens.take:∀{vs:List AV} {xs:List Value} (n:Nat),Dens ρ vs xs→Dens ρ (vs.take n) (xs.take n)
 |_,_,0,h=>by simpa using Dens.nil
 |_,_,n+1, .nil=>by simpa using Dens.nil
 |_,_,n+1, .cons h hs=> .cons h (Dens.take n hs)
theorem Dens.drop:∀{vs:List AV} {xs:List Value} (n:Nat),Dens ρ vs xs→Dens ρ (vs.drop n) (xs.drop n)
 |_,_,0,h=>by simpa using h
 |_,_,n+1, .nil=>by simpa using Dens.nil
 |_,_,n+1, .cons h hs=>by simpa using Dens.drop n hs
theorem Dens.get:∀{vs:List AV} {xs:List Value} {i:Nat} {v:AV},Dens ρ vs xs→vs[i]? =some v→∃x,xs[i]? =some x∧Den ρ v x
 |_,_,i,v, .nil,h=>by simp at h
 |_,_,0,v, .cons h hs,k=>by simp at k;subst k;exact⟨_,by simp,h⟩
 |_,_,i+1,v, .cons h hs,k=>by simpa using Dens.get hs (by simpa using k)
theorem Dens.raws:∀(l:List Value),Dens ρ (l.map .raw) l
 |[]=> .nil
 |x::l=> .cons (.raw x) (Dens.raws l)
theorem Dens.of_get:∀{vs:List AV} {xs:List Value},xs.length=vs.length→(∀(i:Nat) (v:AV) (x:Value),vs[i]? =some v→xs[i]? =some x→Den ρ v x)→Dens ρ vs xs
 |[],[],_,_=> .nil
 |[],_::_,h,_=>by simp at h
 |_::_,[],h,_=>by simp at h
 |v::vs,x::xs,h,k=> .cons (k 0 v x (by simp) (by simp)) (Dens.of_get (by simpa using h) fun i v x hv hx=>k (i+1) v x (by simpa using hv) (by simpa using hx))
mutual
theorem Den.toRaw0:∀{v:AV} {x w:Value},Den ρ v x→v.toRaw0=some w→x=w
 |_,_,w, .raw v,h=>by simp [AV.toRaw0]at h;exact h
 |_,_,w, .ptr _,h=>by simp [AV.toRaw0]at h
 |_,_,w, .slice _ _ _,h=>by simp [AV.toRaw0]at h
 |_,_,w, .func hf hc,h=>by
  simp only [AV.toRaw0,Option.bind_eq_some_iff,Option.map_eq_some_iff]at h
  obtain⟨l,hl,k,hk,rfl⟩:=h
  rw [Dens.toRaws hf hl,Dens.toRaws hc hk]
 |_,_,w, .yield _,h=>by simp [AV.toRaw0]at h
 |_,_,w, .map _,h=>by simp [AV.toRaw0]at h
 |_,_,w, .iface hv,h=>by
  simp only [AV.toRaw0,Option.map_eq_some_iff]at h
  obtain⟨l,hl,rfl⟩:=h
  rw [Den.toRaw0 hv hl]
 |_,_,w, .agg hv,h=>by
  simp only [AV.toRaw0,Option.map_eq_some_iff]at h
  obtain⟨l,hl,rfl⟩:=h
  rw [Dens.toRaws hv hl]
 |_,_,w, .tuple hv,h=>by
  simp only [AV.toRaw0,Option.map_eq_some_iff]at h
  obtain⟨l,hl,rfl⟩:=h
  rw [Dens.toRaws hv hl]
 |_,_,w, .lst _ _ _ _ _ _,h=>by simp [AV.toRaw0]at h
 |_,_,w, .lstNil _,h=>by simp [AV.toRaw0]at h
 |_,_,w, .lptr _ _ _ _ _,h=>by simp [AV.toRaw0]at h
 |_,_,w, .osl _ _ _,h=>by simp [AV.toRaw0]at h
 |_,_,w, .oslNil,h=>by simp [AV.toRaw0]at h
 |_,_,w, .optr _,h=>by simp [AV.toRaw0]at h
 |_,_,w, .bot _,h=>by simp [AV.toRaw0]at h
theorem Dens.toRaws:∀{v:List AV} {x w:List Value},Dens ρ v x→AV.toRaws v=some w→x=w
 |_,_,w, .nil,h=>by simp [AV.toRaws]at h;exact h.symm
 |_,_,w, .cons hv hs,h=>by
  simp only [AV.toRaws,Option.bind_eq_some_iff,Option.map_eq_some_iff]at h
  obtain⟨l,hl,k,hk,rfl⟩:=h
  rw [Den.toRaw0 hv hl,Dens.toRaws hs hk]
end
theorem Den.toRaw {v:AV} {x w:Value} (h:Den ρ v x) (k:v.toRaw=some w):x=w:=by
 unfold AV.toRaw at k
 split at k
 ·cases h;injection k
 ·exact h.toRaw0 k
theorem Den.raw_eq {v x:Value} (h:Den ρ (.raw v) x):x=v:=by cases h;rfl
theorem Den.ptr_inv {i off:Nat} {x:Value} (h:Den ρ (.ptr i off) x):∃b c,ρ i=some (b,c)∧x= .pointer (some ⟨b,off,none⟩):=by cases h;exact⟨_,_, ‹_›,rfl⟩
theorem Den.slice_inv {i off len:Nat} {cap:Cap} {x:Value} (h:Den ρ (.slice i off len cap) x):∃b c k,ρ i=some (b,c)∧capOk cap c k∧len≤k∧x= .slice (some ⟨b,off,none⟩) len k:=by cases h;exact⟨_,_,_, ‹_›, ‹_›, ‹_›,rfl⟩
theorem Den.func_inv {fn:Fn} {fs cs:List AV} {x:Value} (h:Den ρ (.func fn fs cs) x):∃xs ys:List Value,Dens ρ fs xs∧Dens ρ cs ys∧x= .func fn xs.toArray ys.toArray:=by cases h;exact⟨_,_, ‹_›, ‹_›,rfl⟩
theorem Den.yield_inv {i:Nat} {x:Value} (h:Den ρ (.yield i) x):∃b c,ρ i=some (b,c)∧x= .func (.yield b) #[] #[]:=by cases h;exact⟨_,_, ‹_›,rfl⟩
theorem Den.map_inv {i:Nat} {x:Value} (h:Den ρ (.map i) x):∃b c,ρ i=some (b,c)∧x= .map (some b):=by cases h;exact⟨_,_, ‹_›,rfl⟩
theorem Den.iface_inv {t:TypeId} {v:AV} {x:Value} (h:Den ρ (.iface t v) x):∃y,Den ρ v y∧x= .iface t y:=by cases h;exact⟨_, ‹_›,rfl⟩
theorem Den.agg_inv {cs:List AV} {x:Value} (h:Den ρ (.agg cs) x):∃xs:List Value,Dens ρ cs xs∧x= .agg xs.toArray:=by cases h;exact⟨_, ‹_›,rfl⟩
theorem Den.tuple_inv {cs:List AV} {x:Value} (h:Den ρ (.tuple cs) x):∃xs:List Value,Dens ρ cs xs∧x= .tuple xs.toArray:=by cases h;exact⟨_, ‹_›,rfl⟩
theorem Den.cells {v:AV} {x:Value} (h:Den ρ v x) (hb:v.isBot=false):Dens ρ v.cells x.cells.toList:=by
 cases h with
 |bot=>cases hb
 |lst h ho hy hd hk hz=>exact .cons (.lst h ho hy hd hk hz) .nil
 |lstNil hz=>exact .cons (.lstNil hz) .nil
 |lptr h ho hy hd hk=>exact .cons (.lptr h ho hy hd hk) .nil
 |osl h hc hk=>exact .cons (.osl h hc hk) .nil
 |oslNil=>exact .cons .oslNil .nil
 |optr h=>exact .cons (.optr h) .nil
 |raw=>
  cases x with
  |agg cs=>simpa [AV.cells,Value.cells,rawL]using Dens.raws cs.toList
  |_=>exact .cons (.raw _) .nil
 |agg h=>simpa [AV.cells,Value.cells]using h
 |ptr h=>exact .cons (.ptr h) .nil
 |slice h hc hl=>exact .cons (.slice h hc hl) .nil
 |func h k=>exact .cons (.func h k) .nil
 |yield h=>exact .cons (.yield h) .nil
 |map h=>exact .cons (.map h) .nil
 |iface h=>exact .cons (.iface h) .nil
 |tuple h=>exact .cons (.tuple h) .nil
theorem Den.one {v:AV} {x:Value} (h:Den ρ v x) (k:v.one=true):x.oneCell'=true:=by
 cases h with
 |raw=>cases x<;>first |rfl |(simp [AV.one]at k)
 |agg h=>simp [AV.one]at k
 |tuple h=>simp [AV.one]at k
 |yield h=>simp [AV.one]at k
 |bot=>simp [AV.one]at k
 |_=>rfl
theorem allOne_cons {v:AV} {l:List AV} (h:allOne (v::l)=true):v.one=true∧allOne l=true:=by
 cases ha:v.one with
 |false=>simp [allOne,ha]at h
 |true=>simpa [allOne,ha]using h
theorem Dens.one:∀{vs:List AV} {xs:List Value},Dens ρ vs xs→allOne vs=true→∀x∈xs,x.oneCell'=true
 |_,_, .nil,_,x,h=>by simp at h
 |_,_, .cons hv hs,k,x,hx=>by
  obtain⟨k1,k2⟩:=allOne_cons k
  rcases List.mem_cons.1 hx with rfl |hx
  ·exact hv.one k1
  ·exact Dens.one hs k2 x hx
end
structure TDen (ρ:Env) (T:Tr AV) (n:Nat) (tmps:Array Value):Prop where
 size:tmps.size=n
 get:∀t,Den ρ ((T.get t).getD (.raw undef)) (tmps.getD t undef)
theorem TDen.mono {ρ ρ':Env} (hl:Le ρ ρ') {T:Tr AV} {n:Nat} {tmps:Array Value} (h:TDen ρ T n tmps):TDen ρ' T n tmps:=
 ⟨h.size,fun t=>(h.get t).mono hl⟩
structure LoopDen (ρ:Env) (r:ALoop) (R:Loop):Prop where
 state:R.state=r.state
 pending:R.pending=r.pending
 params:R.params=r.params
 assign:R.assign=r.assign
 body:R.body=r.body
 tmps:TDen ρ r.tmps r.size R.tmps
def CDen (P:Program) (ρ:Env) (i:Nat) (e:TypeId) (cs:List AV) (exact frz:Bool) (o:Obj):Prop:=
 ∃xs fz,o= .cells xs e fz∧(frz=false→fz=(0,0))∧Dens ρ cs (xs.toList.take cs.length)∧(exact=true→xs.size=cs.length)∧
   (exact=false→∃b c,ρ i=some (b,c)∧xs.size=c*P.cellsOf e)
def BDen (P:Program) (ρ:Env) (i:Nat):ABlk→Obj→Prop
 | .cells e cs exact frz _,o=>CDen P ρ i e cs exact frz o
 | .own e t xs,o=>CDen P ρ i e (t.flat xs) false false o∧P.cellsOf e=t.size∧1≤t.size
 | .map es clock,o=>o= .map es clock
 | .loop r,o=>∃R,o= .loop R∧LoopDen ρ r R
 | .deferred,o=>o= .deferred (some [])
 | .one kv v,o=>∃x,o= .map #[{key:=kv,val:=x,born:=0}] 1∧Den ρ v x
 | .iter i c d,o=>∃b q,ρ i=some (b,q)∧o= .mapIter (some b) c (match d with |true=> #[0]|false=> #[]) c
theorem CDen.mono {P:Program} {ρ ρ':Env} (hl:Le ρ ρ') {i:Nat} {e:TypeId} {cs:List AV} {exact frz:Bool} {o:Obj} (h:CDen P ρ i e cs exact frz o):CDen P ρ' i e cs exact frz o:=by
  obtain⟨xs,fz,h1,h2,h3,h4,h5⟩:=h
  exact⟨xs,fz,h1,h2,h3.mono hl,h4,fun hx=>let ⟨b,c,h6,h7⟩:=h5 hx;⟨b,c,hl _ _ h6,h7⟩⟩
theorem BDen.mono {P:Program} {ρ ρ':Env} (hl:Le ρ ρ') {i:Nat} {k:ABlk} {o:Obj} (h:BDen P ρ i k o):BDen P ρ' i k o:=by
 cases k with
 |cells e cs exact frz ro=>exact CDen.mono hl h
 |own e t xs=>exact⟨CDen.mono hl h.1,h.2⟩
 |map es clock=>exact h
 |loop r=>
  obtain⟨R,h1,h2⟩:=h
  exact⟨R,h1,h2.state,h2.pending,h2.params,h2.assign,h2.body,h2.tmps.mono hl⟩
 |deferred=>exact h
 |one kv v=>exact let ⟨x,h1,h2⟩:=h;⟨x,h1,h2.mono hl⟩
 |iter i c d=>exact let ⟨b,q,h1,h2⟩:=h;⟨b,q,hl _ _ h1,h2⟩
def ABlk.isRo:ABlk→Bool
 | .cells _ _ _ _ ro=>ro
 |_=>false
structure HDen (P:Program) (B:Nat) (ρ:Env) (H:AHeap) (w:World):Prop where
 blk:∀i k,H.get i=some k→∃b c o,ρ i=some (b,c)∧w.heap[b]? =some o∧BDen P ρ i k o∧(k.isRo=false→B≤b)
 inj:∀i j ki kj b ci cj,H.get i=some ki→H.get j=some kj→ρ i=some (b,ci)→ρ j=some (b,cj)→i=j
 lt:∀i k,H.get i=some k→i<H.next
 base:B≤w.heap.size
 fz:∀b A,ρ.fz b=some A→(∃e fr,w.heap[b]? =some (.cells A e fr))∧∀i k c,H.get i=some k→ρ i=some (b,c)→k.isRo=true
def Img (ρ:Env) (H:AHeap) (b:Nat):Prop:=∃i k c,H.get i=some k∧ρ i=some (b,c)
def Own (ρ:Env) (H:AHeap) (b:Nat):Prop:=∃i k c,H.get i=some k∧k.isRo=false∧ρ i=some (b,c)
theorem Own.img {ρ:Env} {H:AHeap} {b:Nat} (h:Own ρ H b):Img ρ H b:=let ⟨i,k,c,h1,_,h2⟩:=h;⟨i,k,c,h1,h2⟩
structure Stp (ρ:Env) (H:AHeap) (w:World) (ρ':Env) (H':AHeap) (w':World):Prop where
 le:Le ρ ρ'
 ext:∀i,i<H.next∨H'.next≤i→ρ' i=ρ i
 next:H.next≤H'.next
 size:w.heap.size≤w'.heap.size
 os:w'.os=w.os
 tape:w'.tape=w.tape
 output:w'.output=w.output
 frame:∀b,b<w.heap.size→¬Own ρ H b→w'.heap[b]? =w.heap[b]?
 own:∀b,b<w.heap.size→Own ρ' H' b→Own ρ H b
 img:∀b,b<w.heap.size→Img ρ' H' b→Img ρ H b
 fzn:∀b A,ρ'.fz b=some A→ρ.fz b=some A∨w.heap.size≤b∨Own ρ H b
theorem Stp.refl (ρ:Env) (H:AHeap) (w:World):Stp ρ H w ρ H w:=
 ⟨Le.refl _,fun _ _=>rfl,Nat.le_refl _,Nat.le_refl _,rfl,rfl,rfl,fun _ _ _=>rfl,fun _ _ h=>h,fun _ _ h=>h,fun _ _ h=> .inl h⟩
theorem Stp.trans {ρ ρ1 ρ2:Env} {H H1 H2:AHeap} {w w1 w2:World} (h:Stp ρ H w ρ1 H1 w1) (k:Stp ρ1 H1 w1 ρ2 H2 w2):Stp ρ H w ρ2 H2 w2 where
 le:=h.le.trans k.le
 ext i hi:=by
  rcases hi with hi|hi
  ·rw [k.ext i (.inl (Nat.lt_of_lt_of_le hi h.next)),h.ext i (.inl hi)]
  ·rw [k.ext i (.inr hi),h.ext i (.inr (Nat.le_trans k.next hi))]
 next:=Nat.le_trans h.next k.next
 size:=Nat.le_trans h.size k.size
 os:=k.os.trans h.os
 tape:=k.tape.trans h.tape
 output:=k.output.trans h.output
 frame b hb ho:=by rw [k.frame b (Nat.lt_of_lt_of_le hb h.size) (fun hh=>ho (h.own b hb hh)),h.frame b hb ho]
 own b hb ho:=h.own b hb (k.own b (Nat.lt_of_lt_of_le hb h.size) ho)
 img b hb ho:=h.img b hb (k.img b (Nat.lt_of_lt_of_le hb h.size) ho)
 fzn b A hb:=by
  rcases k.fzn b A hb with hb|hb
  ·exact h.fzn b A hb
  ·rcases hb with hb|hb
   ·exact .inr (.inl (Nat.le_trans h.size hb))
   ·by_cases hl:b<w.heap.size
    ·exact .inr (.inr (h.own b hl hb))
    ·exact .inr (.inl (by omega))
theorem Stp.drew {ρ ρ':Env} {H H':AHeap} {w w':World} (h:Stp ρ H w.drew ρ' H' w'):Stp ρ H w ρ' H' w':=
 ⟨h.le,h.ext,h.next,h.size,h.os,h.tape,h.output,h.frame,h.own,h.img,h.fzn⟩
theorem HDen.drew {P:Program} {B:Nat} {ρ:Env} {H:AHeap} {w:World} (h:HDen P B ρ H w):HDen P B ρ H w.drew:=⟨h.blk,h.inj,h.lt,h.base,h.fz⟩
theorem Stp.below {P:Program} {B:Nat} {ρ ρ':Env} {H H':AHeap} {w w':World} (h:Stp ρ H w ρ' H' w') (hH:HDen P B ρ H w):Below B w w':=
 ⟨h.os,h.tape,h.output,h.size,fun k hk=>h.frame k (Nat.lt_of_lt_of_le hk hH.base) (fun⟨i,kk,c,h1,h2,h3⟩=>by
   obtain⟨b,c',o,e1,_,_,e4⟩:=hH.blk i kk h1
   rw [h3]at e1
   cases e1
   exact absurd (e4 h2) (by omega))⟩
def Fr (ρ:Env) (a b:Nat):Prop:=∀i,a≤i→i<b→ρ i=none
theorem HDen.at {P:Program} {B:Nat} {ρ:Env} {H:AHeap} {w:World} (h:HDen P B ρ H w) {i b c:Nat} {k:ABlk} (hi:H.get i=some k) (hr:ρ i=some (b,c)):
  ∃o,w.heap[b]? =some o∧BDen P ρ i k o∧(k.isRo=false→B≤b):=by
 obtain⟨b',c',o,e1,e2,e3,e4⟩:=h.blk i k hi
 rw [hr]at e1
 cases e1
 exact⟨o,e2,e3,e4⟩
theorem AHeap.get_set (H:AHeap) (i j:Nat) (b:ABlk):(H.set i b).get j=if i=j then some b else H.get j:=Tr.get_set H.m i j (some b)
theorem AHeap.get_drop (H:AHeap) (i j:Nat):(H.drop i).get j=if i=j then none else H.get j:=Tr.get_set H.m i j none
theorem AHeap.get_new (H:AHeap) (j:Nat) (b:ABlk):(H.new b).get j=if H.next=j then some b else H.get j:=Tr.get_set H.m H.next j (some b)
theorem AHeap.next_drop (H:AHeap) (i:Nat):(H.drop i).next=H.next:=rfl
theorem AHeap.next_new (H:AHeap) (b:ABlk):(H.new b).next=H.next+1:=rfl
def Env.put (ρ:Env) (i b c:Nat):Env:=⟨fun j=>if j=i then some (b,c)else ρ j,ρ.fz⟩
theorem Env.put_le {ρ:Env} {i b c:Nat} (h:ρ i=none):Le ρ (ρ.put i b c):=⟨fun j x hx=>by
 unfold Env.put
 show(if j=i then some (b,c)else ρ j)=some x
 split
 ·rename_i e;subst e;rw [h]at hx;cases hx
 ·exact hx,fun _ _ h=>h⟩
theorem Env.put_same (ρ:Env) (i b c:Nat):ρ.put i b c i=some (b,c):=by simp [Env.put]
variable {P:Program} {B:Nat} {ρ:Env} {H:AHeap} {w:World}
theorem sim_new (hH:HDen P B ρ H w) (hf:Fr ρ H.next (H.next+1)) (c:Nat) (k:ABlk) (o:Obj) (hk:BDen P (ρ.put H.next w.heap.size c) H.next k o):
  HDen P B (ρ.put H.next w.heap.size c) (H.new k) (w.alloc o)∧Stp ρ H w (ρ.put H.next w.heap.size c) (H.new k) (w.alloc o):=by
 have hn:ρ H.next=none:=hf H.next (Nat.le_refl _) (Nat.lt_succ_self _)
 have hle:Le ρ (ρ.put H.next w.heap.size c):=Env.put_le hn
 have hne:∀i k,H.get i=some k→i≠H.next:=fun i k hi=>Nat.ne_of_lt (hH.lt i k hi)
 have hlt:∀i k b c',H.get i=some k→ρ i=some (b,c')→b<w.heap.size:=fun i k b c' hi hr=>by
  obtain⟨o,e,_⟩:=hH.at hi hr
  exact(Array.getElem?_eq_some_iff.1 e).1
 have hput:∀i,i≠H.next→ρ.put H.next w.heap.size c i=ρ i:=fun i hi=>by simp [Env.put,hi]
 have hfz:∀b A,(ρ.put H.next w.heap.size c).fz b=some A→(∃e fr,(w.alloc o).heap[b]? =some (.cells A e fr))∧∀i k' c',(H.new k).get i=some k'→ρ.put H.next w.heap.size c i=some (b,c')→k'.isRo=true:=fun b A hb=>by
  obtain⟨⟨e,fr,h1⟩,h2⟩:=hH.fz b A hb
  have hlt':b<w.heap.size:=(Array.getElem?_eq_some_iff.1 h1).1
  refine⟨⟨e,fr,(Below.heap_alloc w o b hlt').trans h1⟩,fun i k' c' hi hr=> ?_⟩
  rw [AHeap.get_new]at hi
  split at hi
  ·rename_i e;subst e;rw [Env.put_same]at hr;cases hr;omega
  ·rename_i e;rw [hput i (fun x=>e x.symm)]at hr;exact h2 i k' c' hi hr
 refine⟨⟨fun i k' hi=> ?_,fun i j ki kj b ci cj hi hj ri rj=> ?_,fun i k' hi=> ?_,by simp;exact Nat.le_succ_of_le hH.base,hfz⟩,⟨hle,fun i hi=> ?_,Nat.le_succ _,by simp,rfl,rfl,rfl,fun b hb _=> ?_,fun b hb ho=> ?_,fun b hb ho=> ?_,fun _ _ h=> .inl h⟩⟩
 ·rw [AHeap.get_new]at hi
  split at hi
  ·rename_i e;subst e;cases hi
   exact⟨w.heap.size,c,o,Env.put_same ..,heap_alloc_new w o,hk,fun _=>hH.base⟩
  ·obtain⟨b,c',o',e1,e2,e3,e4⟩:=hH.blk i k' hi
   exact⟨b,c',o',hle _ _ e1,(Below.heap_alloc w o b (Array.getElem?_eq_some_iff.1 e2).1).trans e2,e3.mono hle,e4⟩
 ·rw [AHeap.get_new]at hi hj
  split at hi<;>split at hj
  ·omega
  ·rename_i e1 e2;subst e1
   rw [Env.put_same]at ri;cases ri
   rw [hput j (fun e=>e2 e.symm)]at rj
   exact absurd (hlt j kj _ _ hj rj) (Nat.lt_irrefl _)
  ·rename_i e2 e1;subst e1
   rw [Env.put_same]at rj;cases rj
   rw [hput i (fun e=>e2 e.symm)]at ri
   exact absurd (hlt i ki _ _ hi ri) (Nat.lt_irrefl _)
  ·rename_i e1 e2
   rw [hput i (fun e=>e1 e.symm)]at ri
   rw [hput j (fun e=>e2 e.symm)]at rj
   exact hH.inj i j ki kj b ci cj hi hj ri rj
 ·rw [AHeap.get_new]at hi
  split at hi
  ·rename_i e;subst e;exact Nat.lt_succ_self _
  ·exact Nat.lt_succ_of_lt (hH.lt i k' hi)
 ·rw [AHeap.next_new]at hi
  exact hput i (by omega)
 ·exact Below.heap_alloc w o b hb
 ·obtain⟨i,k',c',h1,h2,h3⟩:=ho
  rw [AHeap.get_new]at h1
  split at h1
  ·rename_i e;subst e;rw [Env.put_same]at h3;cases h3;exact absurd hb (Nat.lt_irrefl _)
  ·rename_i e
   rw [hput i (fun e'=>e e'.symm)]at h3
   exact⟨i,k',c',h1,h2,h3⟩
 ·obtain⟨i,k',c',h1,h3⟩:=ho
  rw [AHeap.get_new]at h1
  split at h1
  ·rename_i e;subst e;rw [Env.put_same]at h3;cases h3;exact absurd hb (Nat.lt_irrefl _)
  ·rename_i e
   rw [hput i (fun e'=>e e'.symm)]at h3
   exact⟨i,k',c',h1,h3⟩
theorem sim_set (hH:HDen P B ρ H w) {i b c:Nat} {k0 k:ABlk} (hi:H.get i=some k0) (hr:ρ i=some (b,c)) (hro:k0.isRo=false) (w':World) (o:Obj)
  (hos:w'.os=w.os) (ht:w'.tape=w.tape) (hout:w'.output=w.output) (hs:w'.heap.size=w.heap.size) (hb:w'.heap[b]? =some o) (hother:∀j,j≠b→w'.heap[j]? =w.heap[j]?) (hk:BDen P ρ i k o):
  HDen P B ρ (H.set i k) w'∧Stp ρ H w ρ (H.set i k) w':=by
 have hown:Own ρ H b:=⟨i,k0,c,hi,hro,hr⟩
 have hfz:∀b' A,ρ.fz b'=some A→(∃e fr,w'.heap[b']? =some (.cells A e fr))∧∀j k' c',(H.set i k).get j=some k'→ρ j=some (b',c')→k'.isRo=true:=fun b' A hb'=>by
  obtain⟨⟨e,fr,h1⟩,h2⟩:=hH.fz b' A hb'
  have hne:b'≠b:=fun e=>by
   have:=h2 i k0 c hi (e ▸ hr)
   rw [hro]at this;cases this
  refine⟨⟨e,fr,(hother b' hne).trans h1⟩,fun j k' c' hj hr'=> ?_⟩
  rw [AHeap.get_set]at hj
  split at hj
  ·rename_i e;subst e;rw [hr]at hr';cases hr';exact absurd rfl hne
  ·exact h2 j k' c' hj hr'
 refine⟨⟨fun j k' hj=> ?_,fun j l kj kl b' cj cl hj hl rj rl=> ?_,fun j k' hj=> ?_,by rw [hs];exact hH.base,hfz⟩,⟨Le.refl _,fun _ _=>rfl,Nat.le_refl _,Nat.le_of_eq hs.symm,hos,ht,hout,fun b' _ ho=>hother b' (fun e=>ho (e ▸ hown)),fun b' _ ho=> ?_,fun b' _ ho=> ?_,fun _ _ h=> .inl h⟩⟩
 ·rw [AHeap.get_set]at hj
  split at hj
  ·rename_i e;subst e;cases hj
   obtain⟨_,_,_,e4⟩:=hH.at hi hr
   exact⟨b,c,o,hr,hb,hk,fun _=>e4 hro⟩
  ·rename_i e
   obtain⟨b',c',o',e1,e2,e3,e4⟩:=hH.blk j k' hj
   refine⟨b',c',o',e1, ?_,e3,e4⟩
   rw [hother b' (fun e'=>e (hH.inj i j k0 k' b c c' hi hj hr (e' ▸ e1)))]
   exact e2
 ·have g:∀x kx,(H.set i k).get x=some kx→∃kx',H.get x=some kx':=fun x kx hx=>by
   rw [AHeap.get_set]at hx
   split at hx
   ·rename_i e;subst e;exact⟨k0,hi⟩
   ·exact⟨kx,hx⟩
  obtain⟨_,hj'⟩:=g j kj hj
  obtain⟨_,hl'⟩:=g l kl hl
  exact hH.inj j l _ _ b' cj cl hj' hl' rj rl
 ·rw [AHeap.get_set]at hj
  split at hj
  ·rename_i e;subst e;exact hH.lt i k0 hi
  ·exact hH.lt j k' hj
 ·obtain⟨j,k',c',h1,h2,h3⟩:=ho
  rw [AHeap.get_set]at h1
  split at h1
  ·rename_i e;subst e;exact⟨i,k0,c',hi,hro,h3⟩
  ·exact⟨j,k',c',h1,h2,h3⟩
 ·obtain⟨j,k',c',h1,h3⟩:=ho
  rw [AHeap.get_set]at h1
  split at h1
  ·rename_i e;subst e;exact⟨i,k0,c',hi,h3⟩
  ·exact⟨j,k',c',h1,h3⟩
theorem sim_drop (hH:HDen P B ρ H w) (i:Nat):HDen P B ρ (H.drop i) w∧Stp ρ H w ρ (H.drop i) w:=by
 have g:∀j k,(H.drop i).get j=some k→H.get j=some k:=fun j k hj=>by
  rw [AHeap.get_drop]at hj
  split at hj
  ·cases hj
  ·exact hj
 exact⟨⟨fun j k hj=>hH.blk j k (g j k hj),fun a b ka kb x ca cb ha hb=>hH.inj a b ka kb x ca cb (g a ka ha) (g b kb hb),fun j k hj=>hH.lt j k (g j k hj),hH.base,fun b A hb=>⟨(hH.fz b A hb).1,fun j k c hj hr=>(hH.fz b A hb).2 j k c (g j k hj) hr⟩⟩,
  ⟨Le.refl _,fun _ _=>rfl,Nat.le_refl _,Nat.le_refl _,rfl,rfl,rfl,fun _ _ _=>rfl,fun b _ ⟨j,k,c,h1,h2⟩=>⟨j,k,c,g j k h1,h2⟩,fun b _ ⟨j,k,c,h1,h2⟩=>⟨j,k,c,g j k h1,h2⟩,fun _ _ h=> .inl h⟩⟩
theorem sim_move (hH:HDen P B ρ H w) (hf:Fr ρ H.next (H.next+1)) {i b c:Nat} {k0 k:ABlk} (hi:H.get i=some k0) (hr:ρ i=some (b,c)) (hro:k0.isRo=false) (w':World) (o:Obj)
  (hos:w'.os=w.os) (ht:w'.tape=w.tape) (hout:w'.output=w.output) (hs:w'.heap.size=w.heap.size) (hb:w'.heap[b]? =some o) (hother:∀j,j≠b→w'.heap[j]? =w.heap[j]?) (hk:BDen P (ρ.put H.next b c) H.next k o):
  HDen P B (ρ.put H.next b c) ((H.drop i).new k) w'∧Stp ρ H w (ρ.put H.next b c) ((H.drop i).new k) w':=by
 have hn:ρ H.next=none:=hf H.next (Nat.le_refl _) (Nat.lt_succ_self _)
 have hle:Le ρ (ρ.put H.next b c):=Env.put_le hn
 have hown:Own ρ H b:=⟨i,k0,c,hi,hro,hr⟩
 have hput:∀j,j≠H.next→ρ.put H.next b c j=ρ j:=fun j hj=>by simp [Env.put,hj]
 have g:∀j k',((H.drop i).new k).get j=some k'→(j=H.next∧k'=k)∨(j≠H.next∧j≠i∧H.get j=some k'):=fun j k' hj=>by
  rw [AHeap.get_new,AHeap.get_drop,AHeap.next_drop]at hj
  split at hj
  ·rename_i e;cases hj;exact .inl ⟨e.symm,rfl⟩
  ·rename_i e
   split at hj
   ·cases hj
   ·rename_i e2;exact .inr ⟨fun x=>e x.symm,fun x=>e2 x.symm,hj⟩
 have hfz:∀b' A,(ρ.put H.next b c).fz b'=some A→(∃e fr,w'.heap[b']? =some (.cells A e fr))∧∀j k' c',((H.drop i).new k).get j=some k'→ρ.put H.next b c j=some (b',c')→k'.isRo=true:=fun b' A hb'=>by
  obtain⟨⟨e,fr,h1⟩,h2⟩:=hH.fz b' A hb'
  have hne:b'≠b:=fun e=>by
   have:=h2 i k0 c hi (e ▸ hr)
   rw [hro]at this;cases this
  refine⟨⟨e,fr,(hother b' hne).trans h1⟩,fun j k' c' hj hr'=> ?_⟩
  rcases g j k' hj with⟨rfl,rfl⟩|⟨g1,g2,g3⟩
  ·rw [Env.put_same]at hr';cases hr';exact absurd rfl hne
  ·rw [hput j g1]at hr';exact h2 j k' c' g3 hr'
 refine⟨⟨fun j k' hj=> ?_,fun j l kj kl b' cj cl hj hl rj rl=> ?_,fun j k' hj=> ?_,by rw [hs];exact hH.base,hfz⟩,⟨hle,fun j hj=>hput j ?_,Nat.le_succ _,Nat.le_of_eq hs.symm,hos,ht,hout,fun b' _ ho=>hother b' (fun e=>ho (e ▸ hown)),fun b' _ ho=> ?_,fun b' _ ho=> ?_,fun _ _ h=> .inl h⟩⟩
 ·rcases g j k' hj with⟨rfl,rfl⟩|⟨h1,h2,h3⟩
  ·obtain⟨_,_,_,e4⟩:=hH.at hi hr
   exact⟨b,c,o,Env.put_same ..,hb,hk,fun _=>e4 hro⟩
  ·obtain⟨b',c',o',e1,e2,e3,e4⟩:=hH.blk j k' h3
   refine⟨b',c',o',hle _ _ e1, ?_,e3.mono hle,e4⟩
   rw [hother b' (fun e'=>h2 (hH.inj j i k' k0 b' c' c h3 hi e1 (e' ▸ hr)))]
   exact e2
 ·rcases g j kj hj with⟨rfl,rfl⟩|⟨h1,h2,h3⟩<;>rcases g l kl hl with⟨e,rfl⟩|⟨k1,k2,k3⟩
  ·exact e.symm
  ·rw [Env.put_same]at rj;cases rj
   rw [hput l k1]at rl
   exact absurd (hH.inj l i kl k0 _ _ _ k3 hi rl hr) k2
  ·subst e
   rw [Env.put_same]at rl;cases rl
   rw [hput j h1]at rj
   exact absurd (hH.inj j i kj k0 _ _ _ h3 hi rj hr) h2
  ·rw [hput j h1]at rj
   rw [hput l k1]at rl
   exact hH.inj j l kj kl b' cj cl h3 k3 rj rl
 ·rcases g j k' hj with⟨rfl,rfl⟩|⟨h1,h2,h3⟩
  ·exact Nat.lt_succ_self _
  ·exact Nat.lt_succ_of_lt (hH.lt j k' h3)
 ·have:((H.drop i).new k).next=H.next+1:=rfl
  rw [this]at hj;omega
 ·obtain⟨j,k',c',h1,h2,h3⟩:=ho
  rcases g j k' h1 with⟨rfl,rfl⟩|⟨e1,e2,e3⟩
  ·rw [Env.put_same]at h3;cases h3;exact hown
  ·rw [hput j e1]at h3;exact⟨j,k',c',e3,h2,h3⟩
 ·obtain⟨j,k',c',h1,h3⟩:=ho
  rcases g j k' h1 with⟨rfl,rfl⟩|⟨e1,e2,e3⟩
  ·rw [Env.put_same]at h3;cases h3;exact hown.img
  ·rw [hput j e1]at h3;exact⟨j,k',c',e3,h3⟩
end Go.Proofs.YtccmlbinkgbpgaaGreatDoor.Sv
/- The runner over an abstract memory: typed rows. -/
namespace Go.Proofs.YtccmlbinkgbpgaaGreatDoor.Sv
open Go.RowKit
theorem Ty.cells_len:∀(t:Ty) (d:t.den),(t.cells d).length=t.size
 | .int _,_=>rfl
 | .bool,_=>rfl
 | .str,_=>rfl
 | .list _ _,_=>rfl
 | .pair a b,d=>by
   show(a.cells d.1++b.cells d.2).length=a.size+b.size
   rw [List.length_append,a.cells_len,b.cells_len]
 | .ptr _,_=>rfl
 | .unit,_=>rfl
theorem Ty.flat_cons (t:Ty) (d:t.den) (xs:List t.den):t.flat (d::xs)=t.cells d++t.flat xs:=rfl
theorem Ty.flat_append (t:Ty) (xs ys:List t.den):t.flat (xs++ys)=t.flat xs++t.flat ys:=by simp [Ty.flat]
theorem Ty.flat_len (t:Ty):∀xs:List t.den,(t.flat xs).length=xs.length*t.size
 |[]=>by simp [Ty.flat]
 |d::xs=>by rw [Ty.flat_cons,List.length_append,t.cells_len,t.flat_len xs,List.length_cons,Nat.succ_mul,Nat.add_comm]
theorem Ty.flat_split (t:Ty) (xs:List t.den) (k:Nat) (h:k<xs.length):t.flat xs=t.flat (xs.take k)++(elemAt t xs k++t.flat (xs.drop (k+1))):=by
 have e:xs=xs.take k++xs.getD k t.dflt::xs.drop (k+1):=by
  have:xs.getD k t.dflt=xs[k]:=by simp [List.getD_eq_getElem?_getD,h]
  rw [this];simp
 have:t.flat xs=t.flat (xs.take k++xs.getD k t.dflt::xs.drop (k+1)):=by rw [←e]
 rw [this,Ty.flat_append,Ty.flat_cons];rfl
theorem Ty.flat_take_len (t:Ty) (xs:List t.den) (k:Nat) (h:k<xs.length):(t.flat (xs.take k)).length=k*t.size:=by
 rw [t.flat_len,List.length_take,Nat.min_eq_left (Nat.le_of_lt h)]
theorem aload_part {P:Program} {T:TypeId} {pre mid post:List AV} {off:Nat} {v:AV} (h:aload P T mid off=some v):aload P T (pre++(mid++post)) (pre.length+off)=some v:=by
 unfold aload at h ⊢
 cases hl:lv P T with
 |no=>rw [hl]at h;cases h
 |one=>
  rw [hl]at h
  simp only [nth_eq]at h ⊢
  have hlt:off<mid.length:=by
   rcases Nat.lt_or_ge off mid.length with h1|h1
   ·exact h1
   ·rw [List.getElem?_eq_none h1]at h;cases h
  rw [List.getElem?_append_right (by omega),show pre.length+off-pre.length=off by omega,List.getElem?_append_left hlt,h]
 |agg n=>
  rw [hl]at h
  simp only at h ⊢
  cases hb:Nat.ble (Nat.add off n) mid.length with
  |false=>rw [hb]at h;cases h
  |true=>
   rw [hb]at h
   cases h
   have hb':off+n≤mid.length:=Nat.le_of_ble_eq_true hb
   have hb2:Nat.ble (Nat.add (pre.length+off) n) (pre++(mid++post)).length=true:=Nat.ble_eq_true_of_le (by simp only [List.length_append];show pre.length+off+n≤_;omega)
   rw [hb2]
   show some (AV.agg (cut (pre++(mid++post)) (pre.length+off) n))=_
   congr 2
   unfold cut
   rw [List.drop_append,List.drop_eq_nil_of_le (by omega),List.nil_append,show pre.length+off-pre.length=off by omega,List.drop_append,List.take_append,show n-(mid.drop off).length=0 by simp;omega]
   simp
theorem aload_elem {P:Program} {T:TypeId} {t:Ty} {xs:List t.den} {k off:Nat} {v:AV} (hk:k<xs.length) (h:aload P T (elemAt t xs k) off=some v):aload P T (t.flat xs) (k*t.size+off)=some v:=by
 rw [t.flat_split xs k hk]
 have:=aload_part (pre:=t.flat (xs.take k)) (post:=t.flat (xs.drop (k+1))) h
 rwa [t.flat_take_len xs k hk]at this
theorem Den.lst_inv {ρ:Env} {z:Bool} {t:Ty} {xs:List t.den} {x:Value} (h:Den ρ (.lst z t xs) x):(xs=[]∧∃a k,x= .slice a 0 k∧(z=true→a=none∧k=0))∨
  ∃b off k A,ρ.fz b=some A∧off+(t.flat xs).length≤A.size∧Dens ρ (t.flat xs) ((A.toList.drop off).take (t.flat xs).length)∧xs.length≤k∧x= .slice (some ⟨b,off,none⟩) xs.length k∧(z=true→xs≠[]):=by
 cases h with
 |lst h ho hy hd hk hz=>subst hy;exact .inr ⟨_,_,_,_,h,ho,hd,hk,rfl,hz⟩
 |lstNil hz=>exact .inl ⟨rfl,_,_,rfl,hz⟩
theorem Den.lptr_inv {ρ:Env} {t:Ty} {xs:List t.den} {k off:Nat} {x:Value} (h:Den ρ (.lptr t xs k off) x):∃b o A,ρ.fz b=some A∧o+(t.flat xs).length≤A.size∧Dens ρ (t.flat xs) ((A.toList.drop o).take (t.flat xs).length)∧k<xs.length∧
  x= .pointer (some ⟨b,o+(k*t.size+off),none⟩):=by
 cases h with
 |lptr h ho hy hd hk=>subst hy;exact⟨_,_,_,h,ho,hd,hk,rfl⟩
theorem Den.optr_inv {ρ:Env} {e:TypeId} {t:Ty} {i k off:Nat} {x:Value} (h:Den ρ (.optr e t i k off) x):∃b c,ρ i=some (b,c)∧x= .pointer (some ⟨b,k*t.size+off,none⟩):=by
 cases h with
 |optr h=>exact⟨_,_,h,rfl⟩
theorem Den.osl_inv {ρ:Env} {e:TypeId} {t:Ty} {i k len:Nat} {cap:Cap} {x:Value} (h:Den ρ (.osl e t i k len cap) x):(len=0∧∃a,x= .slice a 0 0)∨∃b c kc,ρ i=some (b,c)∧capOk cap c kc∧len≤kc∧x= .slice (some ⟨b,k*t.size,none⟩) len kc:=by
 cases h with
 |osl h hc hl=>exact .inr ⟨_,_,_,h,hc,hl,rfl⟩
 |oslNil=>exact .inl ⟨rfl,_,rfl⟩
theorem Ty.take1_den {ρ:Env}:∀(t:Ty) {l r:List AV} {d:t.den} {ys:List Value},t.take1 l=some (d,r)→Dens ρ l ys→∃y1 y2,ys=y1++y2∧Dens ρ (t.cells d) y1∧Dens ρ r y2
 | .int k,l,r,d,ys,h,hd=>by
   change hdInt k l=_ at h
   unfold hdInt at h
   split at h
   ·split at h
    ·rename_i e;subst e;cases h;cases hd with |cons h1 h2=>exact⟨[_],_,rfl, .cons h1 .nil,h2⟩
    ·cases h
   ·cases h
 | .bool,l,r,d,ys,h,hd=>by
   change hdBool l=_ at h
   unfold hdBool at h
   split at h
   ·cases h;cases hd with |cons h1 h2=>exact⟨[_],_,rfl, .cons h1 .nil,h2⟩
   ·cases h
 | .str,l,r,d,ys,h,hd=>by
   change hdStr l=_ at h
   unfold hdStr at h
   split at h
   ·cases h;cases hd with |cons h1 h2=>exact⟨[_],_,rfl, .cons h1 .nil,h2⟩
   ·cases h
 | .list z t,l,r,d,ys,h,hd=>by
   change hdLst z t l=_ at h
   unfold hdLst at h
   split at h
   ·rename_i z' t' xs r'
    split at h
    ·rename_i e
     subst e
     cases hc:(!z||z'||Nat.ble 1 xs.length)with
     |false=>rw [hc]at h;cases h
     |true=>
      rw [hc]at h
      cases h
      cases hd with
      |cons h1 h2=>
       refine⟨[_],_,rfl, .cons ?_ .nil,h2⟩
       rcases h1.lst_inv with⟨rfl,a,k,rfl,hz⟩|⟨b,off,k,A,g1,g2,g3,g4,rfl,g5⟩
       ·refine .lstNil fun e=>hz ?_
        subst e
        simpa using hc
       ·refine .lst g1 g2 rfl g3 g4 fun e hxs=> ?_
        subst e;subst hxs
        have:z'=true:=by simpa using hc
        exact g5 this rfl
    ·cases h
   ·cases h
    cases hd with
    |cons h1 h2=>
     refine⟨[_],_,rfl, .cons ?_ .nil,h2⟩
     rw [h1.raw_eq]
     exact .lstNil fun _=>⟨rfl,rfl⟩
   ·cases h
 | .pair a b,l,r,d,ys,h,hd=>by
   simp only [Ty.take1]at h
   cases ha:a.take1 l with
   |none=>rw [ha]at h;cases h
   |some p=>
    obtain⟨x,l'⟩:=p
    rw [ha]at h
    simp only at h
    cases hb:b.take1 l' with
    |none=>rw [hb]at h;cases h
    |some q=>
     obtain⟨y,r'⟩:=q
     rw [hb]at h
     cases h
     obtain⟨y1,y2,rfl,h1,h2⟩:=a.take1_den ha hd
     obtain⟨y3,y4,rfl,h3,h4⟩:=b.take1_den hb h2
     exact⟨y1++y3,y4,by simp,h1.append h3,h4⟩
 | .ptr t,l,r,d,ys,h,hd=>by
   change hdPtr t l=_ at h
   unfold hdPtr at h
   split at h
   ·split at h
    ·rename_i e
     subst e
     cases h
     cases hd with
     |cons h1 h2=>exact⟨[_],_,rfl, .cons h1 .nil,h2⟩
    ·cases h
   ·cases h
 | .unit,l,r,d,ys,h,hd=>by
   cases h
   exact⟨[],ys,rfl, .nil,hd⟩
theorem Ty.read_den {ρ:Env} {t:Ty} {l:List AV} {d:t.den} {ys:List Value} (h:t.read l=some d) (hd:Dens ρ l ys):Dens ρ (t.cells d) ys:=by
 unfold Ty.read at h
 split at h
 ·rename_i d' he
  cases h
  obtain⟨y1,y2,rfl,h1,h2⟩:=t.take1_den he hd
  cases h2
  simpa using h1
 ·cases h
theorem Ty.readL_den {ρ:Env} {t:Ty}:∀{n:Nat} {l:List AV} {ds:List t.den} {ys:List Value},t.readL n l=some ds→Dens ρ l ys→Dens ρ (t.flat ds) ys∧ds.length=n
 |0,[],ds,ys,h,hd=>by cases h;cases hd;exact⟨.nil,rfl⟩
 |0,_::_,ds,ys,h,hd=>by cases h
 |n+1,l,ds,ys,h,hd=>by
  have h:(match t.take1 l with |some (d,r)=>(t.readL n r).map fun ds=>d::ds|none=>none)=some ds:=by cases l<;>exact h
  split at h
  ·rename_i d r he
   simp only [Option.map_eq_some_iff]at h
   obtain⟨ds',h1,rfl⟩:=h
   obtain⟨y1,y2,rfl,g1,g2⟩:=t.take1_den he hd
   obtain⟨g3,g4⟩:=Ty.readL_den h1 g2
   exact⟨by rw [Ty.flat_cons];exact g1.append g3,by simp [g4]⟩
  ·cases h
section
variable {P:Program} {B:Nat} {ρ:Env} {H:AHeap} {w:World}
theorem blkXs_own (e:TypeId) (t:Ty) (xs:List t.den):blkXs t (some (.own e t xs))=xs:=by simp [blkXs]
theorem ownHas_some {e:TypeId} {t:Ty} {b:Option ABlk} {k:Nat} (h:ownHas e t b k=true):b=some (.own e t (blkXs t b))∧k<(blkXs t b).length:=by
 unfold ownHas at h
 split at h
 ·rename_i e' t' xs
  rw [Bool.and_eq_true,Bool.and_eq_true]at h
  obtain⟨h1,h2,h3⟩:=h
  have h1:=Nat.eq_of_beq_eq_true h1
  have h2:=of_decide_eq_true h2
  subst h1;subst h2
  rw [blkXs_own]
  exact⟨rfl,Nat.le_of_ble_eq_true h3⟩
 ·cases h
theorem blkIs_some {e:TypeId} {t:Ty} {b:Option ABlk} {n:Nat} {cap:Cap} (h:blkIs e t b n cap=true):(b=none∧n=0∧blkXs t b=[]∧cap= .known 0)∨(b=some (.own e t (blkXs t b))∧(blkXs t b).length=n∧cap= .full):=by
 unfold blkIs at h
 split at h
 ·rename_i e' t' xs
  simp only [Bool.and_eq_true]at h
  obtain⟨h1,h2,h3,h4⟩:=h
  have h1:=Nat.eq_of_beq_eq_true h1
  have h2:=of_decide_eq_true h2
  have h3:=Nat.eq_of_beq_eq_true h3
  subst h1;subst h2
  rw [blkXs_own]
  refine .inr ⟨rfl,h3, ?_⟩
  cases cap<;>first |rfl |cases h4
 ·rw [Bool.and_eq_true]at h
  refine .inl ⟨rfl,Nat.eq_of_beq_eq_true h.1,rfl, ?_⟩
  cases cap with
  |known m=>rw [Nat.eq_of_beq_eq_true h.2]
  |full=>cases h.2
  |any=>cases h.2
 ·cases h
theorem blkXs_optOwn (e:TypeId) (t:Ty) (xs:List t.den):blkXs t (optOwn e t xs)=xs:=by
 cases xs with
 |nil=>rfl
 |cons x l=>exact blkXs_own e t _
theorem blkIs_optOwn (e:TypeId) (t:Ty) (xs:List t.den):blkIs e t (optOwn e t xs) xs.length (capOf xs.length)=true:=by
 cases xs with
 |nil=>rfl
 |cons x l=>simp [optOwn,blkIs,capOf,Cap.isFull]
theorem ble_dec (a b:Nat):Nat.ble a b=decide (a≤b):=by
 cases h:Nat.ble a b with
 |true=>exact(decide_eq_true (Nat.le_of_ble_eq_true h)).symm
 |false=>exact(decide_eq_false fun hh=>by rw [Nat.ble_eq_true_of_le hh]at h;cases h).symm
theorem ownHas_optOwn (e:TypeId) (t:Ty) (xs:List t.den) (k:Nat):ownHas e t (optOwn e t xs) k=decide (k<xs.length):=by
 cases xs with
 |nil=>simp [optOwn,ownHas]
 |cons x l=>simp only [optOwn,ownHas,Nat.beq_refl,decide_true,Bool.true_and];exact ble_dec _ _
theorem ownHas_own (e:TypeId) (t:Ty) (xs:List t.den) (k:Nat):ownHas e t (some (.own e t xs)) k=decide (k<xs.length):=by
 simp only [ownHas,Nat.beq_refl,decide_true,Bool.true_and];exact ble_dec _ _
theorem own_at (hH:HDen P B ρ H w) {i b c:Nat} {e:TypeId} {t:Ty} {xs:List t.den} (hi:H.get i=some (.own e t xs)) (hr:ρ i=some (b,c)):
  ∃ys,w.heap[b]? =some (.cells ys e (0,0))∧Dens ρ (t.flat xs) (ys.toList.take (t.flat xs).length)∧ys.size=c*P.cellsOf e∧(t.flat xs).length≤ys.size∧P.cellsOf e=t.size∧1≤t.size:=by
 obtain⟨o,h1,h2,_⟩:=hH.at hi hr
 obtain⟨⟨ys,fz,rfl,g2,g3,g4,g5⟩,g6,g7⟩:=h2
 have hf:=g2 rfl
 subst hf
 obtain⟨b',c',e1,e2⟩:=g5 rfl
 rw [hr]at e1
 cases e1
 refine⟨ys,h1,g3,e2, ?_,g6,g7⟩
 have:=g3.length
 simp at this
 omega
end
end Go.Proofs.YtccmlbinkgbpgaaGreatDoor.Sv
