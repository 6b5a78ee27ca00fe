import Derived.OrdersIn
import Derived.Below
import Derived.Scope
set_option linter.defProp false
set_option linter.unusedSimpArgs false
namespace Go.Proofs.YtibikmmdbdlafaaGreatDoor
abbrev AT:=ByteArray
theorem τ{p:Prop}(h:p:=by simp):p:=h
theorem δ{p:Prop}(h:p:=by decide):p:=h
theorem ω{p:Prop}(h:p:=by omega):p:=h
def ay:=@decide_eq_true
def ab:=@decide_eq_false
def ac:=@Nat.eq_of_beq_eq_true
def ae:=@Bool.and_eq_true
def bU:=@Nat.le_of_ble_eq_true
def bA:=@decide_eq_true_eq
def dz:=@Array.getElem?_eq_some_iff
def eN:=@beq_eq_false_iff_ne
def fP:=@beq_iff_eq
def dH:=@Option.bind_eq_some_iff
def am:=@Option.map_eq_some_iff
def ao:=@List.getD_eq_getElem?_getD
def ap:=@of_decide_eq_true
def dZ:=@Int.mul_le_mul_of_nonneg_left
def ar:=@Int.mul_le_mul_of_nonneg_right
def fA:=@Nat.ble_eq_true_of_le
def eT:=@List.take_of_length_le
def aw:=@Nat.zero_add
def aJ:=@Nat.le_refl
def b9:=@List.length_set
def jO:=@List.not_mem_nil
def er:=@Int.emod_lt_of_pos
def dM:=@Int.emod_nonneg
def cW:=@List.length_append
def dI:=@List.take_length
def eE:=@List.length_take
def ek:=@List.mem_cons
def c6:=@Nat.le_trans
def cq:=@Int.le_of_lt
def eF:=@bne_eq_false_iff_eq
def gz:=@bne_iff_ne
def lV:=@List.mem_cons_of_mem
def lW:=@List.mem_cons_self
def BL:=@List.getElem?_eq_getElem
def zk:=@List.length_map
def nQ:=@List.length_drop
def jP:=@Option.some.inj
def s8:=@Option.some.injEq
def fB:=@Nat.lt_succ_self
def rB:=@List.append_assoc
end Go.Proofs.YtibikmmdbdlafaaGreatDoor
namespace Go.Proofs.YtibikmmdbdlafaaGreatDoor.Sv
noncomputable section
inductive aZ where
 |known (n:Nat)
 |full
 |any
inductive av where
 |int (k:IntKind)
 |bool
 |str
 |list (z:Bool) (t:av)
 |pair (a b:av)
 |ptr (t:av)
 |unit
 deriving DecidableEq
@[reducible] def av.den:av->Type
  | .int _=>Int
  | .bool=>Bool
  | .str=>AT
  | .list _ t=>List t.den
  | .pair a b=>a.den×b.den
  | .ptr t=>t.den
  | .unit=>Unit
def av.size:av->Nat
 | .int _=>1
 | .bool=>1
 | .str=>1
 | .list _ _=>1
 | .pair a b=>a.size+b.size
 | .ptr _=>1
 | .unit=>0
def av.dflt:(t:av)->t.den
 | .int _=>(0:Int)
 | .bool=>false
 | .str=>ByteArray.empty
 | .list _ _=>[]
 | .pair a b=>(a.dflt,b.dflt)
 | .ptr t=>t.dflt
 | .unit=>()
inductive af where
 |raw (v:Value)
 |ptr (i off:Nat)
 |slice (i off len:Nat) (cap:aZ)
 |func (fn:Fn) (first captured:List af)
 |yield (i:Nat)
 |map (i:Nat)
 |iface (t:TypeId) (v:af)
 |agg (cs:List af)
 |tuple (vs:List af)
 |bt (z:Bool) (t:av) (xs:List t.den)
 |ff (t:av) (xs:List t.den) (k off:Nat)
 |bT (e:TypeId) (t:av) (i k len:Nat) (cap:aZ)
 |dA (e:TypeId) (t:av) (i k off:Nat)
 |bot
def av.cells:(t:av)->t.den->List af
 | .int k,x=>[.raw (.int k x)]
 | .bool,x=>[.raw (.bool x)]
 | .str,x=>[.raw (.string x)]
 | .list z t,x=>[.bt z t x]
 | .pair a b,x=>a.cells x.1++b.cells x.2
 | .ptr t,x=>[.ff t [x] 0 0]
 | .unit,_=>[]
def av.flat (t:av) (xs:List t.den):List af:=xs.flatMap t.cells
inductive au (α:Type) where
 |nil
 |node (l:au α) (v:Option α) (r:au α)
def tp (f:Nat):Nat->List Bool:=
 @Nat.rec (fun _=>Nat->List Bool) (fun _=>[]) (fun _ ih i=> @Bool.rec (fun _=>List Bool) (@Bool.rec (fun _=>List Bool) (false::ih (Nat.sub (Nat.div i 2) 1)) (true::ih (Nat.div i 2)) (Nat.beq (Nat.mod i 2) 1)) [] (Nat.beq i 0)) f
def bits (i:Nat):List Bool:=tp (Nat.succ i) i
def au.oQ {α:Type} (p:List Bool):au α->Option α:=
 @List.rec Bool (fun _=>au α->Option α) (fun t=> @au.rec α (fun _=>Option α) none (fun _ v _ _ _=>v) t)
   (fun b _ ih t=> @au.rec α (fun _=>Option α) none (fun l _ r _ _=> @Bool.rec (fun _=>Option α) (ih r) (ih l) b) t) p
def au.w8 {α:Type} (x:Option α) (p:List Bool):au α->au α:=
 @List.rec Bool (fun _=>au α->au α) (fun t=> @au.rec α (fun _=>au α) (.node .nil x .nil) (fun l _ r _ _=> .node l x r) t)
   (fun b _ ih t=> @au.rec α (fun _=>au α) (@Bool.rec (fun _=>au α) (.node .nil none (ih .nil)) (.node (ih .nil) none .nil) b) (fun l v r _ _=> @Bool.rec (fun _=>au α) (.node l v (ih r)) (.node (ih l) v r) b) t) p
def au.get {α:Type} (t:au α) (i:Nat):Option α:=au.oQ (bits i) t
def au.set {α:Type} (t:au α) (i:Nat) (x:Option α):au α:=au.w8 x (bits i) t
def nth {α:Type} (l:List α):Nat->Option α:=
 @List.rec α (fun _=>Nat->Option α) (fun _=>none) (fun a _ ih i=> @Bool.rec (fun _=>Option α) (ih (Nat.sub i 1)) (some a) (Nat.beq i 0)) l
structure BM where
 tmps:au af
 size:Nat
 params:Array Tmp
 assign:Code
 body:Code
 state:LoopState
 pending:Option Code
inductive bq where
 |cells (elem:TypeId) (cs:List af) (exact cB ro:Bool)
 |map (es:Array MapEntry) (clock:Nat)
 |loop (r:BM)
 |deferred
 |own (elem:TypeId) (t:av) (xs:List t.den)
 |one (key:Value) (v:af)
 |iter (i:Nat) (clock:Nat) (done:Bool)
structure ai where
 m:au bq
 next:Nat
def ai.get (H:ai) (i:Nat):Option bq:=H.m.get i
def ai.set (H:ai) (i:Nat) (b:bq):ai:= @ai.rec (fun _=>ai) (fun m n=>⟨m.set i (some b),n⟩) H
def ai.drop (H:ai) (i:Nat):ai:= @ai.rec (fun _=>ai) (fun m n=>⟨m.set i none,n⟩) H
def ai.skip (H:ai):ai:= @ai.rec (fun _=>ai) (fun m n=>⟨m,Nat.succ n⟩) H
def ai.new (H:ai) (b:bq):ai:= @ai.rec (fun _=>ai) (fun m n=>⟨m.set n (some b),Nat.succ n⟩) H
def dm (P:Program) {α:Type}:Sem α->Option α
 | .pure a=>some a
 | .program k=>dm P (k P)
 | .mark _ k=>dm P k
 |_=>none
mutual
def af.gU:af->Option Value
 | .raw v=>some v
 | .iface t v=>(v.gU).map (Value.iface t)
 | .agg cs=>(af.kG cs).map fun l=>Value.agg l.toArray
 | .tuple cs=>(af.kG cs).map fun l=>Value.tuple l.toArray
 | .func fn fs cs=>(af.kG fs).bind fun l=>(af.kG cs).map fun k=>Value.func fn l.toArray k.toArray
 |_=>none
def af.kG:List af->Option (List Value)
 |[]=>some []
 |v::vs=>(v.gU).bind fun x=>(af.kG vs).map fun l=>x::l
end
def af.fh:af->Option Value
 | .raw v=>some v
 |v=>v.gU
def ig (a:Array Value):List af:=a.toList.map .raw
def af.cells:af->List af
 | .agg cs=>cs
 | .raw (.agg cs)=>ig cs
 |v=>[v]
def af.u5 (v:af):Bool:= @af.casesOn (fun _=>Bool) v (fun _=>false) (fun _ _=>false) (fun _ _ _ _=>false) (fun _ _ _=>false) (fun _=>false) (fun _=>false) (fun _ _=>false) (fun _=>false) (fun _=>false) (fun _ _ _=>false) (fun _ _ _ _=>false) (fun _ _ _ _ _ _=>false) (fun _ _ _ _ _=>false) true
def af.one:af->Bool
 | .raw (.agg _)| .raw (.tuple _)| .agg _| .tuple _| .yield _| .bot=>false
 |_=>true
inductive aM where
 |no
 |ok (v:af) (H:ai)
 |enter (f:FuncId) (args:List af) (H:ai)
 |round (i:Nat) (args:List af) (H:ai)
def ag (H:ai) (x:Option af):aM:= @Option.rec af (fun _=>aM) .no (fun v=> .ok v H) x
def eu (x:Option (af×ai)):aM:=match x with |none=> .no|some (v,H)=> .ok v H
abbrev dJ:=Operand->af
def rC (k s:Nat) (x:af) (H:ai):aM:=match x with
 | .bt _ t xs=>cond (Nat.beq t.size s&&Nat.ble (k+1) xs.length) (.ok (.ff t xs k 0) H) .no
 | .bT e t i k0 len _=>cond (Nat.beq t.size s&&Nat.ble (k+1) len) (.ok (.dA e t i (k0+k) 0) H) .no
 |_=> .no
def u6 (k n s:Nat) (x:af) (H:ai):aM:=match x with
 | .ff t xs k0 off=>cond (Nat.ble (k+1) n) (.ok (.ff t xs k0 (off+k*s)) H) .no
 | .dA e t i k0 off=>cond (Nat.ble (k+1) n) (.ok (.dA e t i k0 (off+k*s)) H) .no
 |_=> .no
def lr (gH n:Nat) (x:af) (H:ai):aM:=match x with
 | .ff t xs k off=> @Bool.rec (fun _=>aM) .no (.ok (.ff t xs k (off+gH)) H) (Nat.ble 1 n)
 | .dA e t i k off=> @Bool.rec (fun _=>aM) .no (.ok (.dA e t i k (off+gH)) H) (Nat.ble 1 n)
 |_=> .no
def Zk:TypeDesc->Bool
 | .struct _| .array _ _=>true
 |_=>false
section
variable (P:Program) (t:TypeId)
def BN:Option Bool:=(P.underlying t).map Zk
def en:Option Nat:=(P.info? t).map TypeInfo.size
def mT:Option Value:=(P.info? t).bind TypeInfo.zero
def ik:Option TypeId:=match P.underlying t with |some (.slice e)=>some e|_=>none
end
inductive IK where
 |no
 |one
 |agg (n:Nat)
def lv (P:Program) (t:TypeId):IK:=match BN P t,en P t with
 |some true,some n=> .agg n
 |some false,_=> .one
 |_,_=> .no
inductive Qc where
 |no
 |arr (n s:Nat)
 |sl (s:Nat)
def nR (P:Program) (t:TypeId):Qc:=match P.underlying t with
 |some (.array n e)=>(match en P e with |some s=> .arr n s|none=> .no)
 |some (.slice e)=>(match en P e with |some s=> .sl s|none=> .no)
 |_=> .no
inductive IL where
 |no
 |mk (off size:Nat) (t:TypeId)
def fv (P:Program) (s:TypeId) (f:Nat):IL:=match P.underlying s with
 |some (.struct fs)=>(match fs[f]? with
  |some fd=>(match en P fd.type with |some n=> .mk fd.offset n fd.type|none=> .no)
  |none=> .no)
 |_=> .no
inductive w9 where
 |no
 |mk (i off:Nat)
inductive bu where
 |no
 |mk (i off len:Nat) (cap:aZ)
inductive u7 where
 |no
 |mk (n:Nat)
inductive mU where
 |no
 |mk (b:Bool)
inductive BO where
 |no
 |mk (e:TypeId) (cs:List af) (exact cB ro:Bool)
inductive xb where
 |no
 |int (k:IntKind) (n:Int)
def IM (v:Value):xb:= @Value.casesOn (fun _=>xb) v (fun _=> .no) (fun k n=> .int k n) (fun _ _=> .no) (fun _ _ _=> .no) (fun _=> .no) (fun _=> .no) (fun _ _ _=> .no) (fun _=> .no) (fun _=> .no) (fun _ _ _=> .no) .no (fun _ _=> .no) .no (fun _=> .no) (fun _=> .no)
def iG (v:af):xb:= @af.casesOn (fun _=>xb) v IM (fun _ _=> .no) (fun _ _ _ _=> .no) (fun _ _ _=> .no) (fun _=> .no) (fun _=> .no) (fun _ _=> .no) (fun _=> .no) (fun _=> .no) (fun _ _ _=> .no) (fun _ _ _ _=> .no) (fun _ _ _ _ _ _=> .no) (fun _ _ _ _ _=> .no) .no
def u9 (n:Int):u7:= @Int.casesOn (fun _=>u7) n (fun m=> .mk m) (fun _=> .no)
def nS (v:af):u7:= @xb.rec (fun _=>u7) .no (fun _ n=>u9 n) (iG v)
def IP (v:Value):mU:= @Value.casesOn (fun _=>mU) v (fun b=> .mk b) (fun _ _=> .no) (fun _ _=> .no) (fun _ _ _=> .no) (fun _=> .no) (fun _=> .no) (fun _ _ _=> .no) (fun _=> .no) (fun _=> .no) (fun _ _ _=> .no) .no (fun _ _=> .no) .no (fun _=> .no) (fun _=> .no)
def gI (v:af):mU:= @af.casesOn (fun _=>mU) v IP (fun _ _=> .no) (fun _ _ _ _=> .no) (fun _ _ _=> .no) (fun _=> .no) (fun _=> .no) (fun _ _=> .no) (fun _=> .no) (fun _=> .no) (fun _ _ _=> .no) (fun _ _ _ _=> .no) (fun _ _ _ _ _ _=> .no) (fun _ _ _ _ _=> .no) .no
def iH (v:af):w9:= @af.casesOn (fun _=>w9) v (fun _=> .no) (fun i off=> .mk i off) (fun _ _ _ _=> .no) (fun _ _ _=> .no) (fun _=> .no) (fun _=> .no) (fun _ _=> .no) (fun _=> .no) (fun _=> .no) (fun _ _ _=> .no) (fun _ _ _ _=> .no) (fun _ _ _ _ _ _=> .no) (fun _ _ _ _ _=> .no) .no
def xd (v:af):bu:= @af.casesOn (fun _=>bu) v (fun _=> .no) (fun _ _=> .no) (fun i off len cap=> .mk i off len cap) (fun _ _ _=> .no) (fun _=> .no) (fun _=> .no) (fun _ _=> .no) (fun _=> .no) (fun _=> .no) (fun _ _ _=> .no) (fun _ _ _ _=> .no) (fun _ _ _ _ _ _=> .no) (fun _ _ _ _ _=> .no) .no
def rD (v:af):Option (List af):= @af.casesOn (fun _=>Option (List af)) v (fun _=>none) (fun _ _=>none) (fun _ _ _ _=>none) (fun _ _ _=>none) (fun _=>none) (fun _=>none) (fun _ _=>none) (fun cs=>some cs) (fun _=>none) (fun _ _ _=>none) (fun _ _ _ _=>none) (fun _ _ _ _ _ _=>none) (fun _ _ _ _ _=>none) none
def zl (v:af):Option (List af):= @af.casesOn (fun _=>Option (List af)) v (fun _=>none) (fun _ _=>none) (fun _ _ _ _=>none) (fun _ _ _=>none) (fun _=>none) (fun _=>none) (fun _ _=>none) (fun _=>none) (fun cs=>some cs) (fun _ _ _=>none) (fun _ _ _ _=>none) (fun _ _ _ _ _ _=>none) (fun _ _ _ _ _=>none) none
def s9 (b:Option bq):BO:= @Option.rec bq (fun _=>BO) .no (fun b=> @bq.casesOn (fun _=>BO) b (fun e cs x f r=> .mk e cs x f r) (fun _ _=> .no) (fun _=> .no) .no (fun _ _ _=> .no) (fun _ _=> .no) (fun _ _ _=> .no)) b
def bQ (t:av) (b:Option bq):List t.den:=match b with
 |some (.own _ t' xs)=>if h:t'=t then h ▸ xs else []
 |_=>[]
def bz (e:TypeId) (t:av) (b:Option bq) (k:Nat):Bool:=match b with
 |some (.own e' t' xs)=>Nat.beq e e'&&(decide (t'=t)&&Nat.ble (k+1) xs.length)
 |_=>false
def aZ.isFull:aZ->Bool
 | .full=>true
 |_=>false
def aZ.isNil:aZ->Bool
 | .known n=>Nat.beq n 0
 |_=>false
def bK:Nat->aZ
 |0=> .known 0
 |_+1=> .full
def wi (e:TypeId) (t:av) (b:Option bq) (n:Nat) (cap:aZ):Bool:=match b with
 |some (.own e' t' xs)=>Nat.beq e e'&&(decide (t'=t)&&(Nat.beq xs.length n&&cap.isFull))
 |none=>Nat.beq n 0&&cap.isNil
 |_=>false
def a7 (e:TypeId) (t:av) (xs:List t.den):Option bq:=match xs with
 |[]=>none
 |x::l=>some (.own e t (x::l))
def elemAt (t:av) (xs:List t.den) (k:Nat):List af:=t.cells (xs.getD k t.dflt)
def zm (k:IntKind) (l:List af):Option (Int×List af):=match l with | .raw (.int k' x)::r=>(if k=k' then some (x,r)else none)|_=>none
def zn (l:List af):Option (Bool×List af):=match l with | .raw (.bool x)::r=>some (x,r)|_=>none
def zq (l:List af):Option (AT×List af):=match l with | .raw (.string x)::r=>some (x,r)|_=>none
def IQ (z:Bool) (t:av) (l:List af):Option (List t.den×List af):=match l with
 | .bt z' t' xs::r=>if h:t'=t then(cond (!z||z'||Nat.ble 1 xs.length) (some (h ▸ xs,r)) none)else none
 | .raw (.slice none 0 0)::r=>some ([],r)
 |_=>none
def wl (t:av) (l:List af):Option (t.den×List af):=match l with
 | .ff t' [x] 0 0::r=>if h:t'=t then some (h ▸ x,r)else none
 |_=>none
def av.td:(t:av)->List af->Option (t.den×List af)
 | .int k,l=>zm k l
 | .bool,l=>zn l
 | .str,l=>zq l
 | .list z t,l=>IQ z t l
 | .pair a b,l=>match a.td l with
   |some (x,l')=>(match b.td l' with |some (y,r)=>some ((x,y),r)|none=>none)
   |none=>none
 | .ptr t,l=>wl t l
 | .unit,l=>some ((),l)
def av.read (t:av) (l:List af):Option t.den:=match t.td l with |some (d,[])=>some d|_=>none
def av.rE (t:av):Nat->List af->Option (List t.den)
 |0,[]=>some []
 |0,_::_=>none
 |n+1,l=>match t.td l with |some (d,r)=>(t.rE n r).map fun ds=>d::ds|none=>none
def cut (cs:List af) (off n:Nat):List af:=(cs.drop off).take n
section
variable (P:Program) (t:TypeId) (cs:List af) (off:Nat)
def apart:Option af:=
 @IK.rec (fun _=>Option af) none (nth cs off) (fun n=>some (.agg (cut cs off n))) (lv P t)
def oR:Option af:=
 @IK.rec (fun _=>Option af) none (nth cs off) (fun n=> @Bool.rec (fun _=>Option af) none (some (.agg (cut cs off n))) (Nat.ble (Nat.add off n) cs.length)) (lv P t)
end
def IU (v:af) (cs:List af):Nat->Option (List af):=
 @List.rec af (fun _=>Nat->Option (List af)) (fun _=>none) (fun a l ih off=> @Bool.rec (fun _=>Option (List af)) (@Option.rec (List af) (fun _=>Option (List af)) none (fun r=>some (a::r)) (ih (Nat.sub off 1))) (some (v::l)) (Nat.beq off 0)) cs
def ls (cs:List af) (off:Nat) (vs:List af):Option (List af):=
 match vs with
 |[v]=>IU v cs off
 |vs=>cond (Nat.ble (off+vs.length) cs.length) (some (cs.take off++vs++cs.drop (off+vs.length))) none
def m8 (place:Nat->Option (Nat×Nat)):List af->List (Nat×af)->Option (List af)
 |cells,[]=>some cells
 |cells,(i,v)::rest=>
  (place i).bind fun p=>cond (cond v.u5 false (Nat.beq v.cells.length p.2)) ((ls cells p.1 v.cells).bind fun cells=>m8 place cells rest) none
def sameKind:af->af->Bool
 | .ptr .., .raw (.pointer none)| .slice .., .raw (.slice none _ _)| .func .., .raw .nilFunc| .iface .., .raw .nilIface| .map _, .raw (.map none)=>true
 |_,_=>false
def lX (P:Program) (t:TypeId):af->Bool
 | .ptr .. =>match P.underlying t with |some (.pointer _)=>true|_=>false
 | .slice .. =>match P.underlying t with |some (.slice _)=>true|_=>false
 | .func .. =>match P.underlying t with |some (.func _ _ _)=>true|_=>false
 | .iface .. =>match P.underlying t with |some (.interface _)=>true|_=>false
 | .map _=>match P.underlying t with |some (.map _ _)=>true|_=>false
 |_=>false
def m9 (ev:dJ) (x:Operand):Value:=((ev x).fh).getD undef
def gen (P:Program) (o:Oper) (ev:dJ):Option af:=
 cond (o.op.operands.toList.all fun x=>(ev x).fh.isSome)
  (match dm P (execOp (m9 ev) o)with
    |some (.value v)=>some (.raw v)
    |some .skip=>some (.raw undef)
    |_=>none) none
def nn (v:af):Option Nat:= @u7.rec (fun _=>Option Nat) none (fun n=>some n) (nS v)
def np (o:Option af) (d:Nat):Option Nat:=match o with |none=>some d|some v=>nn v
def zu (P:Program) (e:TypeId) (s n:Nat) (lo hi mx:Option af) (k:Nat->Nat->af):Option af:=
 (en P e).bind fun s'=>(np hi n).bind fun h=>(np lo 0).bind fun l=>cond (mx.isNone&&Nat.beq s s'&&Nat.ble l h&&Nat.ble h n) (some (k l h)) none
def Qd (c:aZ) (len:Nat):Nat:=match c with
 | .known n=>n
 |_=>len
def BP (P:Program) (t:TypeId) (x:af) (lo hi mx:Option af):Option af:=
 match P.underlying t,x with
 |some (.array n e), .ptr i off=>
  (en P e).bind fun s=>(np mx n).bind fun m=>(np hi n).bind fun h=>(np lo 0).bind fun l=>
    cond (Nat.ble l h&&Nat.ble h m&&Nat.ble m n&&(mx.isNone||hi.isSome)) (some (.slice i (cond (Nat.beq m l) off (off+l*s)) (h-l) (.known (m-l)))) none
 |some (.slice e), .slice i off len cap=>
  (en P e).bind fun s=>(np hi len).bind fun h=>(np lo 0).bind fun l=>
    match mx,cap with
    |none, .known c=>cond (Nat.ble l h&&Nat.ble h c) (some (.slice i (cond (Nat.beq c l) off (off+l*s)) (h-l) (.known (c-l)))) none
    |none,c=>cond (Nat.ble l h&&Nat.ble h len) (cond (Nat.beq l 0) (some (.slice i off h c)) (cond (Nat.ble (l+1) len) (some (.slice i (off+l*s) (h-l) .any)) none)) none
    |some mv,c=>(nn mv).bind fun m=>cond (Nat.ble l h&&Nat.ble h m&&Nat.ble m (Qd c len)&&hi.isSome) (some (.slice i (cond (Nat.beq m l) off (off+l*s)) (h-l) (.known (m-l)))) none
 |some (.slice e), .bt _ t xs=>zu P e t.size xs.length lo hi mx (fun l h=>cond (Nat.ble (l+1) h) (.bt false t ((xs.take h).drop l)) (.bt false t []))
 |some (.slice e), .bT e' t i k len cap=>zu P e t.size len lo hi mx (fun l h=>cond (Nat.beq l 0) (.bT e' t i k h cap) (cond (Nat.ble (l+1) h) (.bT e' t i (k+l) (h-l) .any) (.bt false t [])))
 |_,_=>none
def src (H:ai) (s:Nat):af->Option (List af×Nat)
 | .raw (.slice none 0 _)=>some ([],0)
 | .raw (.string b)=>cond (Nat.beq s 1) (some (b.data.toList.map fun x=> .raw (.int .u8 x.toNat),b.size)) none
 | .slice i off len _=>match H.get i with
   |some (.cells _ cs _ _ _)=>cond (Nat.ble (off+len*s) cs.length) (some (cut cs off (len*s),len)) none
   |_=>none
 |_=>none
def bounded (n bytes:Nat):Bool:=Nat.ble (n*bytes) 140737488355328&&Nat.ble n 140737488355328
def eU:List af->Bool
 |[]=>true
 |v::l=>cond v.one (eU l) false
def xe (e:TypeId) (sz bytes:Nat) (i len:Nat) (cap:aZ) (news:List af) (n:Nat) (H:ai):Option (af×ai):=
 cond (bounded (len+n) bytes) (match H.get i with
  |some (.cells e' cs exact false false)=>
   cond (Nat.beq e e'&&Nat.ble (len*sz) cs.length) (match cap with
    | .known c=>
      cond (Nat.ble (len+n) c)
       ((ls cs (len*sz) news).map fun cs'=>(.slice i 0 (len+n) (.known c),H.set i (.cells e cs' exact false false)))
       (some (.slice H.next 0 (len+n) .full,H.new (.cells e (cs.take (len*sz)++news) false false false)))
    | .full=>cond exact none (some (.slice H.next 0 (len+n) .full,(H.drop i).new (.cells e (cs.take (len*sz)++news) false false false)))
    | .any=>none) none
  |_=>none) none
def zv (P:Program) (t:TypeId) (s x:af) (H:ai):Option (af×ai):=
 (ik P t).bind fun e=>(P.info? e).bind fun inf=>(inf.zero).bind fun z=>
 cond (Nat.beq z.cells.size inf.size&&Nat.ble 1 inf.size)
 ((src H inf.size x).bind fun sn=>
   cond (Nat.beq sn.2 0) (match s with | .raw (.slice none 0 0)| .slice .. =>some (s,H)|_=>none)
   (cond (eU sn.1) (match s with
     | .raw (.slice none 0 0)=>cond (bounded sn.2 inf.bytes) (some (.slice H.next 0 sn.2 .full,H.new (.cells e sn.1 false false false))) none
     | .slice i 0 len cap=>xe e inf.size inf.bytes i len cap sn.1 sn.2 H
     |_=>none) none)) none
def dN (b:AT):List Int:=b.data.toList.map fun x=>(x.toNat:Int)
def zw (H:ai) (ty:av) (s:Nat):af->Option (List ty.den×Nat)
 | .raw (.slice none 0 _)=>some ([],0)
 | .raw (.string b)=>if h:av.int .u8=ty then some (h ▸ dN b,b.size)else none
 | .bt _ u ys=>if h:u=ty then some (h ▸ ys,ys.length)else none
 | .bT e u j k len _=>cond (decide (u=ty)&&(Nat.beq len 0||bz e ty (H.get j) (k+len-1))) (some (((bQ ty (H.get j)).drop k).take len,len)) none
 | .slice j off n cap=>(src H s (.slice j off n cap)).bind fun sn=>(ty.rE n sn.1).map fun ds=>(ds,n)
 |_=>none
def rF (P:Program) (t:TypeId) (e:TypeId) (ty:av) (i k len:Nat) (cap:aZ) (sk:Bool) (x:af) (H:ai):Option (af×ai):=
 (ik P t).bind fun el=>(P.info? el).bind fun inf=>(inf.zero).bind fun z=>
 cond (Nat.beq z.cells.size inf.size&&Nat.ble 1 inf.size&&Nat.beq el e&&Nat.beq ty.size inf.size&&Nat.beq k 0)
 ((zw H ty inf.size x).bind fun sn=>
   cond (Nat.beq sn.2 0) (some (.bT e ty i k len cap,cond sk H.skip H))
   (cond (wi e ty (H.get i) len cap&&bounded (len+sn.2) inf.bytes)
     (some (.bT e ty H.next 0 (len+sn.2) .full,(H.drop i).new (.own e ty (bQ ty (H.get i)++sn.1)))) none)) none
def Ew (s:af):Bool:=match s with
 | .slice _ _ n (.known c)=>Nat.beq n 0&&Nat.beq c 0
 | .raw (.slice none 0 0)=>true
 |_=>false
def Ex (P:Program) (t:TypeId) (ty:av) (x:af) (H:ai):Option (af×ai):=match ik P t with
 |some e=>rF P t e ty H.next 0 0 (.known 0) true x H
 |none=>none
def xg (ty:av) (x:af) (H:ai):Option (Bool×ai):=match ty,x with
 | .list false _, .slice j off 1 _=>(match H.get j with
   |some (.cells e cs ex f r)=>(match nth cs off with
    |some (.bT e2 u2 i 0 len _)=>(match H.get i with
     |some (.own e3 u3 xs)=>(match decide (u2=u3)&&(Nat.beq e2 e3&& !Nat.beq i j)with
      |true=>some (Nat.beq len xs.length,(H.drop i).set j (.cells e (cs.set off (.bt false u3 xs)) ex f r))
      |false=>none)
     |_=>none)
    |_=>none)
   |_=>none)
 |_,_=>none
section
variable (P:Program) (t:TypeId)
def lw (e:TypeId) (ty:av) (i k len:Nat) (cap:aZ) (x:af) (H:ai):Option (af×ai):=match xg ty x H with
 |some (b,H')=>cond b (rF P t e ty i k len cap false x H') none
 |none=>rF P t e ty i k len cap false x H
def lY (s x:af) (H:ai):Option (af×ai):=match s with
 | .bT e ty i k len cap=>lw P t e ty i k len cap x H
 |s=>match x with
  | .bt z ty ys=>cond (Ew s) (Ex P t ty (.bt z ty ys) H) none
  |x=>zv P t s x H
def zx (d x:af) (H:ai):Option (af×ai):=
 (ik P t).bind fun e=>(en P e).bind fun s=>match x,d with
   | .slice j rG n cl, .slice i off len _=>(src H s (.slice j rG n cl)).bind fun sn=>match H.get i with
     |some (.cells e' cs exact false false)=>
      cond (eU (sn.1.take (Nat.min n len*s))) ((ls cs off (sn.1.take (Nat.min n len*s))).map fun cs'=>(.raw (goInt (Nat.min n len)),H.set i (.cells e' cs' exact false false))) none
     |_=>none
   | .raw (.slice none 0 0), .slice _ _ _ _=>some (.raw (goInt 0),H)
   |_,_=>none
def th (i off len:Nat) (H:ai):Option (af×ai):=
 (ik P t).bind fun e=>(en P e).bind fun s=>(mT P e).bind fun z=>match H.get i with
   |some (.cells e' cs exact false false)=>cond (Nat.ble 1 len&&Nat.beq z.cells.size s&&eU (List.replicate len (ig z.cells)).flatten) ((ls cs off (List.replicate len (ig z.cells)).flatten).map fun cs'=>(.raw (.tuple #[]),H.set i (.cells e' cs' exact false false))) none
   |_=>none
end
def bytesOf:List af->Option (List UInt8)
 |[]=>some []
 | .raw (.int .u8 (.ofNat n))::l=>cond (Nat.ble (n+1) 256) ((bytesOf l).map fun r=>UInt8.ofNat n::r) none
 |_=>none
section
variable (P:Program)
def IV (t:TypeId):af->af->Option Bool
 | .ptr i off, .ptr j off'=>match P.underlying t with
   |some (.pointer e)=>match en P e with
    |some (_+1)=>cond (Nat.beq i j) (some (Nat.beq off off')) none
    |_=>none
   |_=>none
 |_,_=>none
def IW (t:TypeId) (es:Array MapEntry) (kv:Value) (ok:Bool):Option Value:=
 match P.underlying t with
 |some (.map kt et)=>(dm P (Instr.checkKey es.isEmpty 10000 kt kv)).bind fun _=>(dm P (Instr.findKey kt kv es.toList)).bind fun r=>
  match r with
  |some p=>some (if ok then .tuple #[p.2, .bool true]else p.2)
  |none=>(mT P et).map fun z=>if ok then .tuple #[z, .bool false]else z
 |_=>none
def IX (t:TypeId) (es:Array MapEntry) (clock:Nat) (kv xv:Value):Option (Array MapEntry×Nat):=
 match P.underlying t with
 |some (.map kt _)=>(dm P (Instr.checkKey false 10000 kt kv)).bind fun _=>(dm P (Instr.findKey kt kv es.toList)).bind fun r=>
  match r with
  |some p=>(dm P (Instr.keyThatStays (((es[p.1]?).map (·.key)).getD kv) kv)).map fun k=>(es.modify p.1 fun e=>{e with key:=k,val:=xv},clock)
  |none=>some (es.push {key:=kv,val:=xv,born:=clock},clock+1)
 |_=>none
def zy (f:FuncId) (fn:Func) (args:List af) (H:ai):Option (af×ai):=
 match af.kG args with
 |some vs=>match dm P (callFunc f vs.toArray)with
  |some (.value v)=>some (.raw v,H)
  |_=>cond (fn.name== "internal/bytealg.MakeNoZero")
   (match args,fn.resultTypes[0]? with
     |[.raw (.int .i64 (.ofNat n))],some t=>(ik P t).bind fun e=>cond (Nat.ble n 140737488355328&&Nat.beq (P.cellsOf e) 1) (some (.slice H.next 0 n .full,H.new (.cells e [] false false false))) none
     |_,_=>none) none
 |none=>match args with
  |[x]=>cond (fn.name== "internal/abi.NoEscape") (some (x,H)) none
  |_=>none
def kp (f:FuncId) (args:List af) (H:ai):aM:=
 @Option.rec Func (fun _=>aM) .no (fun fn=> @Option.rec Code (fun _=>aM) (eu (zy P f fn args H)) (fun _=> .enter f args H) fn.body) (P.funcs[f]?)
end
inductive IY where
 |no
 |fn (f:FuncId)
def Qe (f:Fn):IY:=match f with | .func f=> .fn f|_=> .no
def xh (v:Value):IY:=match v with
 | .func fn ⟨[]⟩ ⟨[]⟩=>Qe fn
 |_=> .no
def lZ (P:Program) (fv:af) (args:List af) (H:ai):aM:=
 match fv with
 | .raw v=> @IY.rec (fun _=>aM) (match v with | .func (.func f) first captured=>kp P f (ig first++args++ig captured) H|_=> .no) (fun f=>kp P f args H) (xh v)
 | .func (.func f) first captured=>kp P f (first++args++captured) H
 | .yield i=> .round i args H
 |_=> .no
abbrev fC:=Program->Oper->dJ->ai->aM
def oS:fC:=fun _ _ _ _=> .no
def ve:fC:=fun P o ev H=>ag H (gen P o ev)
def rH (x:Operand):fC:=fun _ _ ev H=> .ok (ev x) H
def nT (c a b:Operand):fC:=fun _ _ ev H=> @mU.rec (fun _=>aM) .no (fun b'=> @Bool.rec (fun _=>aM) (.ok (ev b) H) (.ok (ev a) H) b') (gI (ev c))
def rI (ev:dJ) (parts:Array (Nat×Operand)):List (Nat×af):=parts.toList.map fun p=>(p.1,ev p.2)
def Qf (P:Program) (fs:Array Field) (i:Nat):Option (Nat×Nat):=(fs[i]?).bind fun f=>(en P f.type).map fun s=>(f.offset,s)
def IZ (P:Program) (ev:dJ) (t:TypeId) (parts:Array (Nat×Operand)):Option af:=
 (mT P t).bind fun z=>
   match P.underlying t with
   |some (.struct fs)=>(m8 (Qf P fs) (ig z.cells) (rI ev parts)).bind fun cs=>
     cond (fs.toList.all fun f=>(en P f.type).isSome) (some (.agg cs)) none
   |some (.array _ e)=>(en P e).bind fun s=>(m8 (fun i=>some (i*s,s)) (ig z.cells) (rI ev parts)).map .agg
   |_=>none
def tw (t:TypeId) (parts:Array (Nat×Operand)):fC:=fun P _ ev H=>ag H (IZ P ev t parts)
def I0 (P:Program) (o:Oper) (ev:dJ) (x:Operand):Option af:=match ev x with
 | .func (.func f) a b=>some (.func (.func f) a b)
 | .yield i=>some (.yield i)
 | .ff t xs k off=>some (.ff t xs k off)
 | .dA e t i k off=>some (.dA e t i k off)
 |_=>gen P o ev
def tz (x:Operand):fC:=fun P o ev H=> @w9.rec (fun _=>aM) (ag H (I0 P o ev x)) (fun i off=> .ok (.ptr i off) H) (iH (ev x))
def tj (P:Program) (op:BinOp) (k:IntKind) (a b:Int):Option Value:=
 match op with
 | .add| .sub| .mul=>dm P (Op.intArith op k a b)
 | .quo| .rem=>dm P (Op.intDiv op k a b)
 | .and| .or| .xor| .andNot=>dm P (Op.intBits op k a b)
 | .shl| .shr=>none
 |_=>dm P (Op.intCmp op a b)
def Ey:af->Option (Int×Int)
 | .agg [.raw (.int .i64 a), .raw (.int .i64 b)]=>some (a,b)
 |_=>none
section
variable (P:Program) (t:TypeId) (x y:af)
def Ez:Option Bool:=match x,y with
 | .raw (.int .i64 a), .raw (.int .i64 b)=>(match P.underlying t with |some (.int .i64)=>cond (P.plainKey t) (some (a==b)) none|_=>none)
 | .raw (.string a), .raw (.string b)=>(match P.underlying t with |some .string=>cond (P.plainKey t) (some (a.toList==b.toList)) none|_=>none)
 |_,_=>none
def I1:Option Bool:=match x,y with
 | .agg [a,b], .agg [c,d]=>(match P.underlying t with
   |some (.struct fs)=>(match fs.toList with
    |[f,g]=>cond (f.name != "_" &&(g.name != "_" &&(Nat.beq f.offset 0&&(Nat.beq g.offset 1&&(!P.eqGuardType P.depth t&& !P.stoodInHeld t))))) (match Ez P f.type a c,Ez P g.type b d with
     |some p,some q=>some (p&&q)
     |_,_=>none) none
    |_=>none)
   |_=>none)
 |_,_=>none
def I2:Option Bool:=
 match Ey x,Ey y with
 |some p,some q=>(match P.underlying t with
  |some (.array n e)=>(match P.underlying e with
   |some (.int .i64)=>cond (Nat.beq n 2&&(!P.eqGuardType P.depth t&&(P.plainKey e&&(Nat.beq (P.cellsOf e) 1&&(P.info? e).isSome)))) (some (p.1==q.1&&p.2==q.2)) none
   |_=>none)
  |_=>none)
 |_,_=>none
def I3:Option Bool:=match I1 P t x y with
 |some b=>some b
 |none=>I2 P t x y
end
def I4:af->Option Bool
 | .bt true _ xs=>some xs.isEmpty
 |_=>none
def EA:af->Bool
 | .raw (.slice none 0 0)=>true
 |_=>false
def I5 (P:Program) (t:TypeId) (x y:af):Option Bool:=
 match I4 x with
 |some b=>(match P.underlying t with |some (.slice _)=>cond (EA y) (some b) none|_=>none)
 |none=>none
section
variable (P:Program) (o:Oper) (ev:dJ)
def BQ (t:TypeId) (want:Bool) (x y:af):Option af:=
 match I5 P t x y with
 |some b=>some (.raw (.bool (b==want)))
 |none=>
 match I3 P t x y with
 |some b=>some (.raw (.bool (b==want)))
 |none=>
 match IV P t x y with
 |some b=>some (.raw (.bool (b==want)))
 |none=>cond (lX P t x&&sameKind x y) (some (.raw (.bool !want))) (cond (lX P t y&&sameKind y x) (some (.raw (.bool !want))) (gen P o ev))
def xj (op:BinOp) (t:TypeId) (x y:af):Option af:=
 match op with
 | .eql=>BQ P o ev t true x y
 | .neq=>BQ P o ev t false x y
 |_=>gen P o ev
def oT (op:BinOp) (k k':IntKind) (a b:Int):Option af:=
 cond (k==k') (match tj P op k a b with |some v=>some (.raw v)|none=>gen P o ev) (gen P o ev)
end
def tq:Nat->Nat->Option af:=fun _ _=>none
def small (n:Nat):Option af:= @Bool.rec (fun _=>Option af) none (some (.raw (.int .i64 (.ofNat n)))) (Nat.ble (Nat.succ n) 9223372036854775808)
def zz:BinOp->Nat->Nat->Option af:=
 @BinOp.rec (fun _=>Nat->Nat->Option af) (fun a b=>small (Nat.add a b)) (fun a b=> @Bool.rec (fun _=>Option af) none (small (Nat.sub a b)) (Nat.ble b a)) tq tq tq tq tq tq tq tq tq
   (fun a b=>some (.raw (.bool (Nat.beq a b)))) (fun a b=>some (.raw (.bool (!(Nat.beq a b))))) (fun a b=>some (.raw (.bool (Nat.ble (Nat.succ a) b)))) (fun a b=>some (.raw (.bool (Nat.ble a b))))
   (fun a b=>some (.raw (.bool (Nat.ble (Nat.succ b) a)))) (fun a b=>some (.raw (.bool (Nat.ble b a))))
def BR:IntKind->Bool:= @IntKind.rec (fun _=>Bool) false false false true false false false false
def jr (op:BinOp) (k k':IntKind) (a b:Int):Option af:=
 @u7.rec (fun _=>Option af) none (fun m=> @u7.rec (fun _=>Option af) none (fun n=> @Bool.rec (fun _=>Option af) none (@Bool.rec (fun _=>Option af) none (zz op m n) (BR k')) (BR k)) (u9 b)) (u9 a)
def iU (op:BinOp) (t:TypeId) (x y:Operand) (_yt:TypeId):fC:=fun P o ev H=>
 @xb.rec (fun _=>aM) (ag H (xj P o ev op t (ev x) (ev y)))
   (fun k a=> @xb.rec (fun _=>aM) (ag H (gen P o ev)) (fun k' b=> @Option.rec af (fun _=>aM) (ag H (oT P o ev op k k' a b)) (fun v=> .ok v H) (jr op k k' a b)) (iG (ev y))) (iG (ev x))
def Qg (P:Program) (t:TypeId) (v:af):Option af:=match P.underlying t with
 |some (.interface _)|none=>none
 |some _=>some (.iface t v)
def BS (t:TypeId) (x:Operand):fC:=fun P _ ev H=>ag H (Qg P t (ev x))
def BU (fn:Fn) (first captured:Array Operand):fC:=fun _ _ ev H=> .ok (.func fn (first.toList.map ev) (captured.toList.map ev)) H
def BV (P:Program) (o:Oper) (ev:dJ) (t:TypeId) (x:Operand) (lo hi mx:Option Operand):Option af:=match ev x with
 | .raw _=>gen P o ev
 |x=>BP P t x (lo.map ev) (hi.map ev) (mx.map ev)
def ib (t:TypeId) (x:Operand) (lo hi mx:Option Operand):fC:=fun P o ev H=>ag H (BV P o ev t x lo hi mx)
def p9 (s:TypeId) (x:Operand) (f:Nat):fC:=fun P _ ev H=>
 @IL.rec (fun _=>aM) .no (fun gH n _=> @w9.rec (fun _=>aM) (lr gH n (ev x) H) (fun i off=> @Bool.rec (fun _=>aM) .no (.ok (.ptr i (Nat.add off gH)) H) (Nat.ble 1 n)) (iH (ev x))) (fv P s f)
def qa (t:TypeId) (x:Operand) (f:Nat):fC:=fun P o ev H=>
 @Option.rec (List af) (fun _=>aM) (ag H (gen P o ev)) (fun cs=> @IL.rec (fun _=>aM) .no (fun gH _ ft=>ag H (apart P ft cs gH)) (fv P t f)) (rD (ev x))
def mV (t:TypeId) (x ix:Operand):fC:=fun P _ ev H=>
 @u7.rec (fun _=>aM) .no (fun k=> @Qc.rec (fun _=>aM) .no
   (fun n s=> @w9.rec (fun _=>aM) (u6 k n s (ev x) H) (fun i off=> @Bool.rec (fun _=>aM) .no (.ok (.ptr i (Nat.add off (Nat.mul k s))) H) (Nat.ble (Nat.succ k) n)) (iH (ev x)))
   (fun s=> @bu.rec (fun _=>aM) (rC k s (ev x) H) (fun i off len _=> @Bool.rec (fun _=>aM) .no (.ok (.ptr i (Nat.add off (Nat.mul k s))) H) (Nat.ble (Nat.succ k) len)) (xd (ev x)))
   (nR P t)) (nS (ev ix))
def Qh (P:Program) (t:TypeId) (cs:List af) (ix:af):Option af:=match P.underlying t with
 |some (.array n e)=>(nn ix).bind fun k=>(en P e).bind fun s=>cond (Nat.ble (k+1) n) (apart P e cs (k*s)) none
 |_=>none
def l5 (t:TypeId) (x ix:Operand):fC:=fun P o ev H=>
 @Option.rec (List af) (fun _=>aM) (ag H (gen P o ev)) (fun cs=>ag H (Qh P t cs (ev ix))) (rD (ev x))
def qb (x:Operand) (i:Nat):fC:=fun P o ev H=>
 @Option.rec (List af) (fun _=>aM) (ag H (gen P o ev)) (fun vs=>ag H (nth vs i)) (zl (ev x))
def tr (P:Program) (t:TypeId) (x:af) (H:ai):aM:=match x with
 | .ff u xs k off=>ag H (oR P t (elemAt u xs k) off)
 | .dA e u i k off=>cond (bz e u (H.get i) k) (ag H (oR P t (elemAt u (bQ u (H.get i)) k) off)) .no
 |_=> .no
def nU (t:TypeId) (x:Operand):fC:=fun P _ ev H=>
 @w9.rec (fun _=>aM) (tr P t (ev x) H) (fun i off=> @BO.rec (fun _=>aM) .no (fun _ cs _ _ _=>ag H (oR P t cs off)) (s9 (H.get i))) (iH (ev x))
def I6 (P:Program) (o:Oper) (ev:dJ) (t:TypeId) (m k:af) (ok:Bool) (H:ai):Option af:=match m,k.fh with
 | .map i,some kv=>match H.get i with
   |some (.map es _)=>(IW P t es kv ok).map .raw
   |_=>none
 |_,_=>gen P o ev
def BW (t:TypeId) (m k:Operand) (ok:Bool):fC:=fun P o ev H=>ag H (I6 P o ev t (ev m) (ev k) ok H)
def qc (P:Program) (o:Oper) (ev:dJ) (s d:TypeId) (x:af) (H:ai):Option (af×ai):=match x with
 | .slice i off len _=>match P.underlying s,P.underlying d,H.get i with
   |some (.slice e),some .string,some (.cells _ cs _ _ _)=>match P.underlying e with
    |some (.int .u8)=>cond (Nat.ble (off+len) cs.length) ((bytesOf (cut cs off len)).map fun bs=>(.raw (.string ⟨bs.toArray⟩),H)) none
    |_=>none
   |_,_,_=>none
 | .ptr i off=>match P.underlying s,P.underlying d,H.get i with
   |some (.pointer t),some .unsafePointer,some (.cells _ cs _ _ _)=>match en P t with
    |some (_+1)=>cond (Nat.ble (off+1) cs.length) (some (.ptr i off,H)) none
    |_=>none
   |some .unsafePointer,some (.pointer u),some (.cells e cs true _ _)=>cond ((en P u).isSome&&liesAt P P.depth e (cs.length/P.cellsOf e) off u 1) (some (.ptr i off,H)) none
   |_,_,_=>none
 | .raw (.string b)=>match P.underlying s,P.underlying d with
   |some .string,some (.slice e)=>match P.underlying e with
    |some (.int .u8)=>cond (Nat.beq (P.cellsOf e) 1) (some (.slice H.next 0 b.size .full,H.new (.cells e (b.data.toList.map fun x=> .raw (.int .u8 x.toNat)) false true false))) none
    |_=>none
   |_,_=>(gen P o ev).map fun v=>(v,H)
 |_=>(gen P o ev).map fun v=>(v,H)
def zA (s d:TypeId) (x:Operand):fC:=fun P o ev H=>eu (qc P o ev s d (ev x) H)
def tu (e:TypeId):fC:=fun P _ _ H=> @Option.rec Value (fun _=>aM) .no (fun z=> .ok (.ptr H.next 0) (H.new (.cells e (ig z.cells) true false false))) (mT P e)
def oU (e:TypeId) (x:Operand):fC:=fun _ _ ev H=> @Bool.rec (fun _=>aM) (.ok (.ptr H.next 0) (H.new (.cells e (ev x).cells true false false))) .no (ev x).u5
def oV (P:Program) (ev:dJ) (t:TypeId) (len:Nat) (parts:Array (Nat×Operand)) (H:ai):Option (af×ai):=
 (ik P t).bind fun e=>(en P e).bind fun s=>(mT P e).bind fun z=>
   cond (Nat.ble 1 s&&Nat.ble (len*s) 16777216&&Nat.beq z.cells.size s)
    ((m8 (fun i=>some (i*s,s)) (List.replicate len (ig z.cells)).flatten (rI ev parts)).map fun cs=>
      (.slice H.next 0 len (.known len),H.new (.cells e cs true false false))) none
def zB (t:TypeId) (len:Nat) (parts:Array (Nat×Operand)):fC:=fun P _ ev H=>eu (oV P ev t len parts H)
def qd (P:Program) (t:TypeId) (l c:af) (H:ai):Option (af×ai):=
 (ik P t).bind fun e=>(P.info? e).bind fun inf=>(inf.zero).bind fun z=>(nn l).bind fun l=>(nn c).bind fun c=>
   cond (Nat.ble l c&&Nat.ble 1 inf.size&&bounded c inf.bytes&&Nat.beq z.cells.size inf.size)
    (some (.slice H.next 0 l (.known c),H.new (.cells e (List.replicate c (ig z.cells)).flatten true false false))) none
def dT (t:TypeId) (l c:Operand):fC:=fun P _ ev H=>eu (qd P t (ev l) (ev c) H)
section
variable (P:Program) (t:TypeId)
def tv (n:Nat):Bool:=match en P t with |some m=>Nat.beq n m|none=>false
def BX (i off:Nat) (y:af) (H:ai) (e:TypeId) (cs:List af) (exact:Bool):Option (af×ai):=
 cond (eU y.cells&&tv P t y.cells.length)
  ((ls cs off y.cells).map fun cs'=>(.raw undef,H.set i (.cells e cs' exact false false))) none
def nq (x y:af) (H:ai):aM:=match x with
 | .dA e u i k off=>cond (bz e u (H.get i) k) (cond (eU y.cells&&tv P t y.cells.length) (match(ls (elemAt u (bQ u (H.get i)) k) off y.cells).bind u.read with
     |some d=> .ok (.raw undef) (H.set i (.own e u ((bQ u (H.get i)).set k d)))
     |none=> .no) .no) .no
 |_=> .no
end
def qf (t:TypeId) (x y:Operand):fC:=fun P _ ev H=>
 @w9.rec (fun _=>aM) (nq P t (ev x) (ev y) H) (fun i off=> @BO.rec (fun _=>aM) .no (fun e cs exact cB ro=> @Bool.rec (fun _=>aM) (@Bool.rec (fun _=>aM) (eu (BX P t i off (ev y) H e cs exact)) .no cB) .no ro) (s9 (H.get i))) (iH (ev x))
def rJ (P:Program) (ev:dJ) (t:TypeId) (r:Option Operand) (H:ai):Option (af×ai):=match r with
 |none=>some (.map H.next,H.new (.map #[] 0))
 |some h=>match P.underlying t,ev h with |some (.map _ _), .raw (.int _ _)=>some (.map H.next,H.new (.map #[] 0))|_,_=>none
def zC (t:TypeId) (r:Option Operand):fC:=fun P _ ev H=>eu (rJ P ev t r H)
section
variable (P:Program) (t:TypeId)
def EB (kv:Value):Bool:=match P.underlying t with
 |some (.map kt _)=>match dm P (Instr.checkKey false 10000 kt kv),dm P (Instr.findKey kt kv [])with
  |some _,some none=>true
  |_,_=>false
 |_=>false
def I7 (m k x:af) (H:ai):Option (af×ai):=match m,k.fh with
 | .map i,some kv=>match H.get i with
   |some (.map ⟨[]⟩ 0)=>cond (EB P t kv) (some (.raw undef,H.set i (.one kv x))) none
   |_=>none
 |_,_=>none
def BZ (m k x:af) (H:ai):Option (af×ai):=match m,k.fh,x.fh with
 | .map i,some kv,some xv=>match H.get i with
   |some (.map es clock)=>(IX P t es clock kv xv).map fun r=>(.raw undef,H.set i (.map r.1 r.2))
   |_=>none
 |_,_,none=>I7 P t m k x H
 |_,_,_=>none
def EC (x:af) (H:ai):Option (af×ai):=match P.underlying t,x with
 |some (.map _ _), .map i=>match H.get i with
  |some (.map ⟨[]⟩ 0)=>some (.ptr H.next 0,H.new (.iter i 0 false))
  |some (.one _ _)=>some (.ptr H.next 0,H.new (.iter i 1 false))
  |_=>none
 |_,_=>none
end
def zD (t:TypeId) (x:Operand):fC:=fun P _ ev H=>eu (EC P t (ev x) H)
def I8 (j:Nat) (H:ai):Option bq->Option (af×ai)
 |some (.iter i 0 false)=>match H.get i with
  |some (.map ⟨[]⟩ 0)=>some (.tuple [.raw (.bool false)],H)
  |_=>none
 |some (.iter i 1 false)=>match H.get i with
  |some (.one kv v)=>some (.tuple [.raw (.bool true), .raw kv,v],H.set j (.iter i 1 true))
  |_=>none
 |some (.iter i 1 true)=>match H.get i with
  |some (.one _ _)=>some (.tuple [.raw (.bool false)],H)
  |_=>none
 |_=>none
def ED (x:af) (s:Bool) (H:ai):Option (af×ai):=match x,s with
 | .ptr j 0,false=>I8 j H (H.get j)
 |_,_=>none
def wn (x:Operand) (s:Bool):fC:=fun _ _ ev H=>eu (ED (ev x) s H)
def Qi (H:ai):Option bq->Option af
 |some (.iter i 1 true)=>match H.get i with
  |some (.one kv v)=>some (.tuple [.raw kv,v])
  |_=>none
 |_=>none
def Qj (x:af) (H:ai):Option af:=match x with
 | .ptr j 0=>Qi H (H.get j)
 |_=>none
def B0 (x:Operand):fC:=fun _ _ ev H=>ag H (Qj (ev x) H)
def oW (t:TypeId) (m k x:Operand):fC:=fun P _ ev H=>eu (BZ P t (ev m) (ev k) (ev x) H)
def oX (l:List Int):AT:=⟨(l.map fun x=>UInt8.ofNat x.toNat).toArray⟩
def I9 (l:List Int):Bool:=decide (dN (oX l)=l)
def EE (P:Program) (pt e':TypeId) (u:av):Bool:=match P.underlying pt with
 |some (.pointer e)=>Nat.beq e e'&&(Nat.beq (P.cellsOf e) 1&&decide (u= .int .u8))
 |_=>false
def vg (P:Program) (pt:TypeId) (x n:af) (H:ai):Option (af×ai):=match x with
 | .ptr i 0=>match n with
   | .raw (.int .i64 (.ofNat n))=>match P.underlying pt,H.get i with
     |some (.pointer e),some (.cells e' cs exact _ false)=>
      cond (Nat.beq e e'&&Nat.beq (P.cellsOf e) 1&&Nat.ble 1 n&&Nat.ble n cs.length&&Nat.ble n 140737488355328)
       ((bytesOf (cs.take n)).map fun bs=>(.raw (.string ⟨bs.toArray⟩),H.set i (.cells e' cs exact true false))) none
     |_,_=>none
   |_=>none
 | .dA e' u i 0 0=>match n with
   | .raw (.int .i64 (.ofNat n))=>
     cond (EE P pt e' u&&(Nat.ble 1 n&&(Nat.ble n 140737488355328&&(bz e' (.int .u8) (H.get i) (n-1)&&I9 ((bQ (.int .u8) (H.get i)).take n)))))
      (some (.raw (.string (oX ((bQ (.int .u8) (H.get i)).take n))),H.drop i)) none
   |_=>none
 |_=>none
def Qk (H:ai) (i:Nat):Option af:=match H.get i with
 |some (.map es _)=>some (.raw (.int .i64 (.ofNat es.size)))
 |some (.one _ _)=>some (.raw (.int .i64 (.ofNat 1)))
 |_=>none
section
variable (P:Program) (t:Option TypeId) (v:af)
def B1 (H:ai):Option af:=t.bind fun t=>match P.underlying t,v with
 |some (.map _ _), .map i=>Qk H i
 |_,_=>none
def Ja:Option af:=t.bind fun t=>match P.underlying t,v with
 |some (.slice _), .slice _ _ len _=>some (.raw (.int .i64 (.ofNat len)))
 |some (.slice _), .bt _ _ xs=>some (.raw (.int .i64 (.ofNat xs.length)))
 |some (.slice _), .bT _ _ _ _ len _=>some (.raw (.int .i64 (.ofNat len)))
 |some (.array n _), .agg _=>some (.raw (.int .i64 (.ofNat n)))
 |some .string, .raw (.string b)=>some (.raw (.int .i64 (.ofNat b.size)))
 |_,_=>none
def Jb:Option af:=t.bind fun t=>match P.underlying t,v with
 |some (.slice _), .slice _ _ _ (.known n)=>some (.raw (.int .i64 (.ofNat n)))
 |_,_=>none
end
def dE (P:Program) (o:Oper) (ev:dJ) (b:Builtin) (argTypes:Array TypeId) (args:List af) (H:ai):aM:=
 match b,args with
 | .len,[v]=>match B1 P argTypes[0]? v H with |some r=> .ok r H|none=>match Ja P argTypes[0]? v with |some r=> .ok r H|none=>ag H (gen P o ev)
 | .cap,[v]=>match Jb P argTypes[0]? v with |some r=> .ok r H|none=>ag H (gen P o ev)
 | .append,[s,x]=>match argTypes.toList with
   |[t,t']=>match P.underlying t' with
    |some (.slice _)=>eu (lY P t s x H)
    |some .string=>eu (lY P t s x H)
    |_=> .no
   |_=> .no
 | .copy,[d,x]=>match argTypes.toList with |[t,_]=>eu (zx P t d x H)|_=> .no
 | .clear,[.slice i off (len+1) _]=>match argTypes.toList with |[t]=>eu (th P t i off (len+1) H)|_=> .no
 | .clear,[.slice _ _ 0 _]=>match argTypes.toList with
   |[t]=>match P.underlying t with |some (.slice _)=> .ok (.raw (.tuple #[])) H|_=> .no
   |_=> .no
 | .unsafeString,[p,n]=>match argTypes.toList with |[pt,_]=>eu (vg P pt p n H)|_=> .no
 | .unsafeSliceData,[.slice i off len _]=> @Bool.rec (fun _=>aM) .no (.ok (.ptr i off) H) (Nat.ble 1 len)
 | .unsafeSliceData,[.bT e t i k len _]=> @Bool.rec (fun _=>aM) .no (.ok (.dA e t i k 0) H) (Nat.ble 1 len)
 |_,_=>ag H (gen P o ev)
def iV (c:Call):fC:=fun P o ev H=>
 match c.callee with
 | .value f=>lZ P (ev f) (c.args.toList.map ev) H
 | .builtin b=>dE P o ev b c.argTypes (c.args.toList.map ev) H
 | .invoke _ _=> .no
def e5:Op->fC:=
 @Op.rec (fun _=>fC) rH rH nT tu oU tw zB oW nU qf (fun _=>oS) (fun _=>oS) tz iU (fun _ _ _=>ve) zA (fun _ _=>oS) BS BU zC (fun _ _=>oS) dT
   ib p9 qa mV l5 BW oW (fun _ _ _=>oS) (fun _ _ _ _=>oS) zD wn B0 (fun _ _ _ _=>ve) qb iV (fun _=>oS) (fun _=>oS) (fun _=>oS) (fun _ _=>oS) (fun _ _ _=>oS) (fun _ _=>oS)
--EV
def cm (T:au af):dJ:=fun x=>
 @Operand.rec (fun _=>af) (fun t=> @Option.rec af (fun _=>af) (.raw undef) (fun v=>v) (T.get t)) (fun v=> .raw v) (fun g=> @Bool.rec (fun _=>af) (.raw (.pointer (some ⟨g,0,none⟩))) (.ptr g 0) (Nat.ble (Nat.succ g) 64)) (fun f=> .raw (.func (.func f) #[] #[])) x
--VE
inductive R where
 |no
 |normal (T:au af) (H:ai) (m:List Nat)
 |exit (id:Nat) (T:au af) (H:ai) (m:List Nat)
 |goto (l:Nat) (T:au af) (H:ai) (m:List Nat)
 |ret (T:au af) (H:ai) (m:List Nat)
def iI (T:au af) (n:Nat) (dst:Option Tmp) (v:af):Option (au af):=
 @Option.rec Tmp (fun _=>Option (au af)) (some T) (fun d=> @Bool.rec (fun _=>Option (au af)) none (some (T.set d (some v))) (Nat.ble (Nat.succ d) n)) dst
def xk (T:au af) (ops:Array Oper) (g:Nat×Bool):Option Bool:=
 match(ops[g.1]?).bind (·.dst)with
 |some d=>match T.get d with |some (.raw (.bool b))=>some (b==g.2)|some .bot=>none|_=>some false
 |none=>none
def gJ (T:au af) (ops:Array Oper) (o:Oper):Option Bool:=
 @Option.rec (Nat×Bool) (fun _=>Option Bool) (some true) (fun g=>xk T ops g) o.guard
abbrev ew:=FuncId->List af->ai->aM
abbrev jQ:=Nat->List af->ai->aM
def fm (P:Program) (call:ew) (round:jQ) (o:Oper) (ev:dJ) (H:ai):aM:=
 @aM.rec (fun _=>aM) .no (fun v H=> .ok v H) (fun f args H=>call f args H) (fun i args H=>round i args H) (e5 o.op P o ev H)
inductive eV where
 |no
 |mk (T:au af) (H:ai)
def qg (k:au af->ai->eV) (H:ai) (T:Option (au af)):eV:= @Option.rec (au af) (fun _=>eV) .no (fun T=>k T H) T
def tA (n:Nat) (dst:Option Tmp) (k:au af->ai->eV) (T:au af) (r:aM):eV:=
 @aM.rec (fun _=>eV) .no (fun v H=>qg k H (iI T n dst v)) (fun _ _ _=> .no) (fun _ _ _=> .no) r
section
variable (P:Program) (call:ew) (round:jQ) (ops:Array Oper) (n:Nat)
def xm (o:Oper) (T:au af) (H:ai) (k:au af->ai->eV):eV:=
 @Option.rec Bool (fun _=>eV) .no (fun b=> @Bool.rec (fun _=>eV) (qg k H (iI T n o.dst (.raw undef))) (tA n o.dst k T (fm P call round o (cm T) H)) b) (gJ T ops o)
def CH (l:List Oper):au af->ai->eV:=
 @List.rec Oper (fun _=>au af->ai->eV) (fun T H=> .mk T H) (fun o _ ih T H=>xm P call round ops n o T H ih) l
end
abbrev gV:=Code->(n:Nat)->(aN:Bool)->au af->ai->List Nat->R
def iter (body:au af->ai->List Nat->R) (k:Nat):au af->ai->List Nat->R:=
 @Nat.rec (fun _=>au af->ai->List Nat->R) (fun _ _ _=> .no) (fun _ ih T H m=> @R.rec (fun _=>R) .no ih .exit .goto .ret (body T H m)) k
def Jc (P:Program) (T:au af) (H:ai):ResultVar->Option af
 | .tmp t=>some ((T.get t).getD (.raw undef))
 | .cell a t=>match T.get a with
   |some (.ptr i off)=>match H.get i with
    |some (.cells _ cs _ _ _)=>oR P t cs off
    |_=>none
   |_=>none
def B2 (P:Program) (T:au af) (H:ai):List ResultVar->Option (List af)
 |[]=>some []
 |r::l=>(Jc P T H r).bind fun v=>(B2 P T H l).map fun vs=>v::vs
def jR (P:Program) (fn:Func) (T:au af) (H:ai):aM:=
 match B2 P T H fn.results.toList with
 |some [v]=> .ok v H
 |some vs=> .ok (.tuple vs) H
 |none=> .no
def dt (l:List af):au af->Nat->au af:=
 @List.rec af (fun _=>au af->Nat->au af) (fun T _=>T) (fun v _ ih T k=>ih (T.set k (some v)) (Nat.succ k)) l
def xo:List Nat->ai->Option ai
 |[],H=>some H
 |i::m,H=>match H.get i with
  |some .deferred=>xo m (H.drop i)
  |_=>none
def kg (P:Program) (fn:Func) (T:au af) (H:ai) (m:List Nat):aM:=
 @Option.rec ai (fun _=>aM) .no (fun H=>jR P fn T H) (xo m H)
def Jd (P:Program) (ih:gV) (args:List af) (H:ai) (fn:Func) (c:Code):aM:=
 @Bool.rec (fun _=>aM) .no (@R.rec (fun _=>aM) .no (fun T H m=>kg P fn T H m) (fun _ _ _ _=> .no) (fun _ _ _ _=> .no) (fun T H m=>kg P fn T H m)
   (ih c fn.ntmps false (dt args .nil 0) H [])) (Nat.ble args.length fn.ntmps)
def mW (P:Program) (ih:gV):ew:=fun f args H=>
 @Option.rec Func (fun _=>aM) .no (fun fn=> @Option.rec Code (fun _=>aM) .no (fun c=>Jd P ih args H fn c) fn.body) (P.funcs[f]?)
def xp (T:au af) (l:List (Tmp×af)):au af:=l.foldl (fun T p=>T.set p.1 (some p.2)) T
def tB (i:Nat):R->aM
 | .normal _ H _=>match H.get i with |some (.loop r)=> .ok (.raw (.bool true)) (H.set i (.loop {r with state:= .ready,pending:=none}))|_=> .no
 | .ret _ H _=>match H.get i with |some (.loop r)=> .ok (.raw (.bool false)) (H.set i (.loop {r with state:= .done,pending:=some .ret}))|_=> .no
 | .exit id _ H _=>match H.get i with |some (.loop r)=> .ok (.raw (.bool false)) (H.set i (.loop {r with state:= .done,pending:=some (.exit id)}))|_=> .no
 | .goto l _ H _=>match H.get i with |some (.loop r)=> .ok (.raw (.bool false)) (H.set i (.loop {r with state:= .done,pending:=some (.goto l)}))|_=> .no
 | .no=> .no
def tC (ih:gV):jQ:=fun i args H=>
 match H.get i with
 |some (.loop r)=>
  match r.state with
  | .ready=>cond (Nat.beq args.length r.params.size&&r.params.toList.all fun t=>Nat.ble (t+1) r.size)
    (match ih r.assign r.size true (xp r.tmps (r.params.toList.zip args)) H []with
      | .normal T H []=>match H.get i with
        |some (.loop r')=>match r'.state with
         | .ready=>tB i (ih r.body r.size true T (H.set i (.loop {r' with state:= .busy})) [])
         |_=> .no
        |_=> .no
      |_=> .no) .no
  |_=> .no
 |_=> .no
def rounds:Nat:=4096
def B3 (ih:gV) (n:Nat) (T:au af) (D:Nat) (m:List Nat):aM->R
 | .ok _ H3=>match H3.get (Nat.succ D)with
   |some (.loop r)=>match r.state with
    | .busy=> .no
    |_=>match r.pending with
     |none=> .normal T (H3.set (Nat.succ D) (.loop {r with state:= .exhausted})) (D::m)
     |some c=>ih c n false T (H3.set (Nat.succ D) (.loop {r with state:= .exhausted})) (D::m)
   |_=> .no
 |_=> .no
def rK (P:Program) (ih:gV) (f:Operand) (params:Array Tmp) (assign body:Code) (n:Nat) (T:au af) (H:ai) (m:List Nat):R:=
 match lZ P (cm T f) [.yield (Nat.succ H.next)] ((H.new .deferred).new (.loop {tmps:=T,size:=n,params,assign,body,state:= .ready,pending:=none}))with
 | .enter g args H2=>B3 ih n T H.next m (mW P ih g args H2)
 |_=> .no
abbrev Je:=ew->jQ->Array Oper->Nat->au af->ai->eV
abbrev oY:=Bool->Je
abbrev cp:=Program->oY->gV->(n:Nat)->(aN:Bool)->au af->ai->List Nat->R
def zE (m:List Nat) (r:eV):R:= @eV.rec (fun _=>R) .no (fun T H=> .normal T H m) r
def Ql:cp:=fun _ _ _ _ _ T H m=> .normal T H m
def Zl (_id:Nat) (ops:Array Oper) (d:Bool):cp:=fun P draw ih n _ T H m=>
 zE m (draw d (mW P ih) (tC ih) ops n T H)
def Zm (a b:Code) (_ _:cp):cp:=fun _ _ ih n aN T H m=> @R.rec (fun _=>R) .no (fun T H m=>ih b n aN T H m) .exit .goto .ret (ih a n aN T H m)
def Zn (c:Operand) (x y:Code) (_ _:cp):cp:=fun _ _ ih n aN T H m=>
 @mU.rec (fun _=>R) .no (fun b=> @Bool.rec (fun _=>R) (ih y n aN T H m) (ih x n aN T H m) b) (gI (cm T c))
def Zo (id:Nat) (b:Code) (_:cp):cp:=fun _ _ ih n aN T H m=>
 @R.rec (fun _=>R) .no .normal (fun i T H m=> @Bool.rec (fun _=>R) (.exit i T H m) (.normal T H m) (Nat.beq i id)) .goto .ret (ih b n aN T H m)
def Qm (b:Code) (_:cp):cp:=fun _ _ ih n aN T H m=>iter (ih b n aN) rounds T H m
def Zp (f:Operand) (params:Array Tmp) (assign body:Code) (_ _:cp):cp:=fun P _ ih n aN T H m=>
 @Bool.rec (fun _=>R) (rK P ih f params assign body n T H m) .no aN
def Zq (id:Nat):cp:=fun _ _ _ _ _ T H m=> .exit id T H m
def Zr (b:Code) (_:cp):cp:=fun _ _ ih n aN T H m=> @R.rec (fun _=>R) .no .normal .exit (fun _ _ _ _=> .no) .ret (ih b n aN T H m)
def Zs (l:Nat):cp:=fun _ _ _ _ _ T H m=> .goto l T H m
def Zt:cp:=fun _ _ _ _ _ T H m=> .ret T H m
def Zu:cp:=fun _ _ _ _ _ _ _ _=> .no
def zF:Code->cp:=
 @Code.rec (fun _=>cp) Ql Zl Zm Zn Zo Qm Zp Zq Zr (fun _=>Ql) Zs Zt (fun _=>Zu)
def vh (S:ew) (call:ew):ew:=fun f args H=> @aM.rec (fun _=>aM) (call f args H) (fun v H=> .ok v H) .enter .round (S f args H)
def qh (P:Program) (draw:oY) (fuel:Nat):gV:=
 @Nat.rec (fun _=>gV) (fun _ _ _ _ _ _=> .no) (fun _ ih c=>zF c P draw ih) fuel
end
section
open Go.RowKit
def ns:List Bool->Nat
 |[]=>0
 |true::l=>2*ns l+1
 |false::l=>2*ns l+2
def ip:∀(f i:Nat),i<f->ns (tp f i)=i
 |0,i,h=>by omega
 |f+1,i,h=>by
  have e:tp (f+1) i= @Bool.rec (fun _=>List Bool) (@Bool.rec (fun _=>List Bool) (false::tp f (Nat.sub (Nat.div i 2) 1)) (true::tp f (Nat.div i 2)) (Nat.beq (Nat.mod i 2) 1)) [] (Nat.beq i 0):=rfl;rw [e];cases h0:Nat.beq i 0 with
  |true=>simpa [ns]using(ac h0).symm
  |false=>
   have hi:i≠0:=Nat.ne_of_beq_eq_false h0;have d1:Nat.div i 2=i/2:=rfl;have m1:Nat.mod i 2=i%2:=rfl;cases h1:Nat.beq (Nat.mod i 2) 1 with
   |true=>
    have:=ac h1;show 2*ns (tp f (Nat.div i 2))+1=i;rw [ip f _ (by rw [d1];omega),d1];omega
   |false=>
    have:=Nat.ne_of_beq_eq_false h1;show 2*ns (tp f (Nat.sub (Nat.div i 2) 1))+2=i;have e2:Nat.sub (Nat.div i 2) 1=i/2-1:=rfl;rw [e2,ip f _ ω];omega
def Zv {i j:Nat} (h:bits i=bits j):i=j:=by
 have:=congrArg ns h;rwa [bits,bits,ip _ _ (fB i),ip _ _ (fB j)]at this
def au.xq {α:Type} (p:List Bool):au.oQ p (au.nil:au α)=none:=by cases p<;>rfl
def au.Jf {α:Type} (x:Option α):∀(p q:List Bool) (t:au α),au.oQ q (au.w8 x p t)=if p=q then x else au.oQ q t
 |[],[], .nil=>rfl
 |[],[], .node l v r=>rfl
 |[],c::q, .nil=>by
  have:au.oQ (c::q) (au.w8 x [] (au.nil:au α))=none:=by
   show @Bool.rec (fun _=>Option α) (au.oQ q .nil) (au.oQ q .nil) c=none
   cases c<;>simp [au.xq]
  simp [this,au.xq]
 |[],c::q, .node l v r=>by simp;rfl
 |b::p,[], .nil=>by
  simp only [List.cons_ne_nil,if_false,au.xq];cases b<;>rfl
 |b::p,[], .node l v r=>by simp only [List.cons_ne_nil,if_false];cases b<;>rfl
 |b::p,c::q, .nil=>by
  have e:au.oQ (c::q) (au.w8 x (b::p) (au.nil:au α))=if b=c then au.oQ q (au.w8 x p .nil)else none:=by
   cases b<;>cases c<;>first |rfl |exact au.xq q
  rw [e,au.Jf x p q .nil,au.xq,au.xq];by_cases h:b=c<;>simp [h]
 |b::p,c::q, .node l v r=>by
  have e:au.oQ (c::q) (au.w8 x (b::p) (au.node l v r))=if b=c then au.oQ q (au.w8 x p (cond b l r))else au.oQ (c::q) (au.node l v r):=by
   cases b<;>cases c<;>rfl
  rw [e];by_cases h:b=c
  .subst h;rw [if_pos rfl,au.Jf x p q];cases b<;>by_cases hp:p=q<;>simp [hp]<;>rfl
  .simp [h]
def au.fY {α:Type} (t:au α) (i j:Nat) (x:Option α):(t.set i x).get j=if i=j then x else t.get j:=by
 unfold au.get au.set;rw [au.Jf];by_cases h:i=j
 .subst h;simp
 .rw [if_neg (fun e=>h (Zv e)),if_neg h]
def au.get_nil {α:Type} (i:Nat):(au.nil:au α).get i=none:=au.xq _
def zG {α:Type}:∀(l:List α) (i:Nat),nth l i=l[i]?
 |[],i=>by cases i<;>rfl
 |a::l,0=>rfl
 |a::l,i+1=>by
  show @Bool.rec (fun _=>Option α) (nth l (Nat.sub (i+1) 1)) (some a) (Nat.beq (i+1) 0)=_
  have:Nat.beq (i+1) 0=false:=rfl;rw [this];have e:Nat.sub (i+1) 1=i:=rfl;rw [e,zG l i];rfl
def Jg (v:af):∀(cs:List af) (off:Nat),IU v cs off=if off<cs.length then some (cs.set off v)else none
 |[],off=>by simp;rfl
 |a::l,0=>by simp;rfl
 |a::l,i+1=>by
  show @Option.rec (List af) (fun _=>Option (List af)) none (fun r=>some (a::r)) (IU v l i)=_
  rw [Jg v l i];by_cases h:i<l.length<;>simp [h]
def ne {α:Type} (cs:List α) (off:Nat) (v:α) (h:off<cs.length):cs.set off v=cs.take off++[v]++cs.drop (off+1):=by
 rw [List.set_eq_take_append_cons_drop,if_pos h];simp
def B4 {cs vs r:List af} {off:Nat} (h:ls cs off vs=some r):off+vs.length<=cs.length/\r=cs.take off++vs++cs.drop (off+vs.length):=by
 unfold ls at h;split at h
 .rw [Jg]at h;split at h
  .rename_i hl;injection h with h
   refine⟨by simp;omega, ?_⟩;rw [<-h,ne _ _ _ hl];rfl
  .cases h
 .cases hb:Nat.ble (off+vs.length) cs.length with
  |false=>rw [hb]at h;cases h
  |true=>
   rw [hb]at h;injection h with h
   exact⟨bU hb,h.symm⟩
structure Env where
 at':Nat->Option (Nat×Nat)
 fz:Nat->Option (Array Value)
instance:CoeFun Env (fun _=>Nat->Option (Nat×Nat)):=⟨Env.at'⟩
def zH (cap:aZ) (c k:Nat):Prop:=match cap with
 | .known n=>k=n
 | .full=>k=c
 | .any=>True
mutual
inductive Den (ρ:Env):af->Value->Prop
 |raw (v:Value):Den ρ (.raw v) v
 |ptr {i off b c:Nat} (h:ρ i=some (b,c)):Den ρ (.ptr i off) (.pointer (some ⟨b,off,none⟩))
 |slice {i off len b c k:Nat} {cap:aZ} (h:ρ i=some (b,c)) (hc:zH cap c k) (hl:len<=k):Den ρ (.slice i off len cap) (.slice (some ⟨b,off,none⟩) len k)
 |func {fn:Fn} {fs cs:List af} {xs ys:List Value} (hf:aH ρ fs xs) (hc:aH ρ cs ys):Den ρ (.func fn fs cs) (.func fn xs.toArray ys.toArray)
 |yield {i b c:Nat} (h:ρ i=some (b,c)):Den ρ (.yield i) (.func (.yield b) #[] #[])
 |map {i b c:Nat} (h:ρ i=some (b,c)):Den ρ (.map i) (.map (some b))
 |iface {t:TypeId} {v:af} {x:Value} (h:Den ρ v x):Den ρ (.iface t v) (.iface t x)
 |agg {cs:List af} {xs:List Value} (h:aH ρ cs xs):Den ρ (.agg cs) (.agg xs.toArray)
 |tuple {cs:List af} {xs:List Value} (h:aH ρ cs xs):Den ρ (.tuple cs) (.tuple xs.toArray)
 |bt {z:Bool} {t:av} {xs:List t.den} {b off k:Nat} {A:Array Value} {ys:List Value} (h:ρ.fz b=some A) (ho:off+(t.flat xs).length<=A.size) (hy:(A.toList.drop off).take (t.flat xs).length=ys) (hd:aH ρ (t.flat xs) ys) (hk:xs.length<=k) (hz:z=true->xs≠[]):Den ρ (.bt z t xs) (.slice (some ⟨b,off,none⟩) xs.length k)
 |e6 {z:Bool} {t:av} {a:Option Addr} {k:Nat} (hz:z=true->a=none/\k=0):Den ρ (.bt z t []) (.slice a 0 k)
 |ff {t:av} {xs:List t.den} {k off b o:Nat} {A:Array Value} {ys:List Value} (h:ρ.fz b=some A) (ho:o+(t.flat xs).length<=A.size) (hy:(A.toList.drop o).take (t.flat xs).length=ys) (hd:aH ρ (t.flat xs) ys) (hk:k<xs.length):Den ρ (.ff t xs k off) (.pointer (some ⟨b,o+(k*t.size+off),none⟩))
 |bT {e:TypeId} {t:av} {i k len b c kc:Nat} {cap:aZ} (h:ρ i=some (b,c)) (hc:zH cap c kc) (hl:len<=kc):Den ρ (.bT e t i k len cap) (.slice (some ⟨b,k*t.size,none⟩) len kc)
 |qi {e:TypeId} {t:av} {i k:Nat} {cap:aZ} {a:Option Addr}:Den ρ (.bT e t i k 0 cap) (.slice a 0 0)
 |dA {e:TypeId} {t:av} {i k off b c:Nat} (h:ρ i=some (b,c)):Den ρ (.dA e t i k off) (.pointer (some ⟨b,k*t.size+off,none⟩))
 |bot (x:Value):Den ρ .bot x
inductive aH (ρ:Env):List af->List Value->Prop
 |nil:aH ρ [] []
 |cons {v:af} {x:Value} {vs:List af} {xs:List Value} (h:Den ρ v x) (hs:aH ρ vs xs):aH ρ (v::vs) (x::xs)
end
structure cA (ρ ρ':Env):Prop where
 at':∀i x,ρ i=some x->ρ' i=some x
 fz:∀b A,ρ.fz b=some A->ρ'.fz b=some A
instance {ρ ρ':Env}:CoeFun (cA ρ ρ') (fun _=>∀i x,ρ i=some x->ρ' i=some x):=⟨cA.at'⟩
def cA.refl (ρ:Env):cA ρ ρ:=⟨fun _ _ h=>h,fun _ _ h=>h⟩
def cA.trans {a b c:Env} (h:cA a b) (k:cA b c):cA a c:=⟨fun i x hx=>k i x (h i x hx),fun i x hx=>k.fz i x (h.fz i x hx)⟩
mutual
def Den.mono {ρ ρ':Env} (hl:cA ρ ρ'):∀{v:af} {x:Value},Den ρ v x->Den ρ' v x
 |_,_, .raw v=> .raw v
 |_,_, .ptr h=> .ptr (hl _ _ h)
 |_,_, .slice h hc hk=> .slice (hl _ _ h) hc hk
 |_,_, .func hf hc=> .func (aH.mono hl hf) (aH.mono hl hc)
 |_,_, .yield h=> .yield (hl _ _ h)
 |_,_, .map h=> .map (hl _ _ h)
 |_,_, .iface h=> .iface (Den.mono hl h)
 |_,_, .agg h=> .agg (aH.mono hl h)
 |_,_, .tuple h=> .tuple (aH.mono hl h)
 |_,_, .bt h ho hy hd hk hz=> .bt (hl.fz _ _ h) ho hy (aH.mono hl hd) hk hz
 |_,_, .e6 hz=> .e6 hz
 |_,_, .ff h ho hy hd hk=> .ff (hl.fz _ _ h) ho hy (aH.mono hl hd) hk
 |_,_, .bT h hc hk=> .bT (hl _ _ h) hc hk
 |_,_, .qi=> .qi
 |_,_, .dA h=> .dA (hl _ _ h)
 |_,_, .bot x=> .bot x
def aH.mono {ρ ρ':Env} (hl:cA ρ ρ'):∀{v:List af} {x:List Value},aH ρ v x->aH ρ' v x
 |_,_, .nil=> .nil
 |_,_, .cons h hs=> .cons (Den.mono hl h) (aH.mono hl hs)
end
section
variable {ρ:Env}
def aH.length:∀{vs:List af} {xs:List Value},aH ρ vs xs->xs.length=vs.length
 |_,_, .nil=>rfl
 |_,_, .cons _ hs=>by simp [aH.length hs]
def aH.append:∀{vs ws:List af} {xs ys:List Value},aH ρ vs xs->aH ρ ws ys->aH ρ (vs++ws) (xs++ys)
 |_,_,_,_, .nil,h=>h
 |_,_,_,_, .cons h hs,k=> .cons h (aH.append hs k)
def aH.take:∀{vs:List af} {xs:List Value} (n:Nat),aH ρ vs xs->aH ρ (vs.take n) (xs.take n)
 |_,_,0,h=>by simpa using aH.nil
 |_,_,n+1, .nil=>by simpa using aH.nil
 |_,_,n+1, .cons h hs=> .cons h (aH.take n hs)
def aH.drop:∀{vs:List af} {xs:List Value} (n:Nat),aH ρ vs xs->aH ρ (vs.drop n) (xs.drop n)
 |_,_,0,h=>by simpa using h
 |_,_,n+1, .nil=>by simpa using aH.nil
 |_,_,n+1, .cons h hs=>by simpa using aH.drop n hs
def aH.get:∀{vs:List af} {xs:List Value} {i:Nat} {v:af},aH ρ vs xs->vs[i]? =some v->∃x,xs[i]? =some x/\Den ρ v x
 |_,_,i,v, .nil,h=>by simp at h
 |_,_,0,v, .cons h hs,k=>by simp at k;subst k;exact⟨_,by simp,h⟩
 |_,_,i+1,v, .cons h hs,k=>by simpa using aH.get hs (by simpa using k)
def aH.rL:∀(l:List Value),aH ρ (l.map .raw) l
 |[]=> .nil
 |x::l=> .cons (.raw x) (aH.rL l)
def aH.Qn:∀{vs:List af} {xs:List Value},xs.length=vs.length->(∀(i:Nat) (v:af) (x:Value),vs[i]? =some v->xs[i]? =some x->Den ρ v x)->aH ρ vs xs
 |[],[],_,_=> .nil
 |[],_::_,h,_=>by simp at h
 |_::_,[],h,_=>by simp at h
 |v::vs,x::xs,h,k=> .cons (k 0 v x τ τ) (aH.Qn (by simpa using h) fun i v x hv hx=>k (i+1) v x (by simpa using hv) (by simpa using hx))
mutual
def Den.gU:∀{v:af} {x w:Value},Den ρ v x->v.gU=some w->x=w
 |_,_,w, .raw v,h=>by simp [af.gU]at h;exact h
 |_,_,w, .ptr _,h=>by simp [af.gU]at h
 |_,_,w, .slice _ _ _,h=>by simp [af.gU]at h
 |_,_,w, .func hf hc,h=>by
  simp only [af.gU,dH,am]at h;obtain⟨l,hl,k,hk,rfl⟩:=h;rw [aH.kG hf hl,aH.kG hc hk]
 |_,_,w, .yield _,h=>by simp [af.gU]at h
 |_,_,w, .map _,h=>by simp [af.gU]at h
 |_,_,w, .iface hv,h=>by
  simp only [af.gU,am]at h;obtain⟨l,hl,rfl⟩:=h;rw [Den.gU hv hl]
 |_,_,w, .agg hv,h=>by
  simp only [af.gU,am]at h;obtain⟨l,hl,rfl⟩:=h;rw [aH.kG hv hl]
 |_,_,w, .tuple hv,h=>by
  simp only [af.gU,am]at h;obtain⟨l,hl,rfl⟩:=h;rw [aH.kG hv hl]
 |_,_,w, .bt _ _ _ _ _ _,h=>by simp [af.gU]at h
 |_,_,w, .e6 _,h=>by simp [af.gU]at h
 |_,_,w, .ff _ _ _ _ _,h=>by simp [af.gU]at h
 |_,_,w, .bT _ _ _,h=>by simp [af.gU]at h
 |_,_,w, .qi,h=>by simp [af.gU]at h
 |_,_,w, .dA _,h=>by simp [af.gU]at h
 |_,_,w, .bot _,h=>by simp [af.gU]at h
def aH.kG:∀{v:List af} {x w:List Value},aH ρ v x->af.kG v=some w->x=w
 |_,_,w, .nil,h=>by simp [af.kG]at h;exact h.symm
 |_,_,w, .cons hv hs,h=>by
  simp only [af.kG,dH,am]at h;obtain⟨l,hl,k,hk,rfl⟩:=h;rw [Den.gU hv hl,aH.kG hs hk]
end
def Den.fh {v:af} {x w:Value} (h:Den ρ v x) (k:v.fh=some w):x=w:=by
 unfold af.fh at k;split at k
 .cases h;injection k
 .exact h.gU k
def Den.cc {v x:Value} (h:Den ρ (.raw v) x):x=v:=by cases h;rfl
def Den.kH {i off:Nat} {x:Value} (h:Den ρ (.ptr i off) x):∃b c,ρ i=some (b,c)/\x= .pointer (some ⟨b,off,none⟩):=by cases h;exact⟨_,_, ‹_›,rfl⟩
def Den.ij {i off len:Nat} {cap:aZ} {x:Value} (h:Den ρ (.slice i off len cap) x):∃b c k,ρ i=some (b,c)/\zH cap c k/\len<=k/\x= .slice (some ⟨b,off,none⟩) len k:=by cases h;exact⟨_,_,_, ‹_›, ‹_›, ‹_›,rfl⟩
def Den.B5 {fn:Fn} {fs cs:List af} {x:Value} (h:Den ρ (.func fn fs cs) x):∃xs ys:List Value,aH ρ fs xs/\aH ρ cs ys/\x= .func fn xs.toArray ys.toArray:=by cases h;exact⟨_,_, ‹_›, ‹_›,rfl⟩
def Den.Jh {i:Nat} {x:Value} (h:Den ρ (.yield i) x):∃b c,ρ i=some (b,c)/\x= .func (.yield b) #[] #[]:=by cases h;exact⟨_,_, ‹_›,rfl⟩
def Den.vk {i:Nat} {x:Value} (h:Den ρ (.map i) x):∃b c,ρ i=some (b,c)/\x= .map (some b):=by cases h;exact⟨_,_, ‹_›,rfl⟩
def Den.Qo {t:TypeId} {v:af} {x:Value} (h:Den ρ (.iface t v) x):∃y,Den ρ v y/\x= .iface t y:=by cases h;exact⟨_, ‹_›,rfl⟩
def Den.tD {cs:List af} {x:Value} (h:Den ρ (.agg cs) x):∃xs:List Value,aH ρ cs xs/\x= .agg xs.toArray:=by cases h;exact⟨_, ‹_›,rfl⟩
def Den.B6 {cs:List af} {x:Value} (h:Den ρ (.tuple cs) x):∃xs:List Value,aH ρ cs xs/\x= .tuple xs.toArray:=by cases h;exact⟨_, ‹_›,rfl⟩
def Den.cells {v:af} {x:Value} (h:Den ρ v x) (hb:v.u5=false):aH ρ v.cells x.cells.toList:=by
 cases h with
 |bot=>cases hb
 |bt h ho hy hd hk hz=>exact .cons (.bt h ho hy hd hk hz) .nil
 |e6 hz=>exact .cons (.e6 hz) .nil
 |ff h ho hy hd hk=>exact .cons (.ff h ho hy hd hk) .nil
 |bT h hc hk=>exact .cons (.bT h hc hk) .nil
 |qi=>exact .cons .qi .nil
 |dA h=>exact .cons (.dA h) .nil
 |raw=>
  cases x with
  |agg cs=>simpa [af.cells,Value.cells,ig]using aH.rL cs.toList
  |_=>exact .cons (.raw _) .nil
 |agg h=>simpa [af.cells,Value.cells]using h
 |ptr h=>exact .cons (.ptr h) .nil
 |slice h hc hl=>exact .cons (.slice h hc hl) .nil
 |func h k=>exact .cons (.func h k) .nil
 |yield h=>exact .cons (.yield h) .nil
 |map h=>exact .cons (.map h) .nil
 |iface h=>exact .cons (.iface h) .nil
 |tuple h=>exact .cons (.tuple h) .nil
def Den.one {v:af} {x:Value} (h:Den ρ v x) (k:v.one=true):x.oneCell'=true:=by
 cases h with
 |raw=>cases x<;>first |rfl |(simp [af.one]at k)
 |agg h=>simp [af.one]at k
 |tuple h=>simp [af.one]at k
 |yield h=>simp [af.one]at k
 |bot=>simp [af.one]at k
 |_=>rfl
def lA {v:af} {l:List af} (h:eU (v::l)=true):v.one=true/\eU l=true:=by
 cases ha:v.one with
 |false=>simp [eU,ha]at h
 |true=>simpa [eU,ha]using h
def aH.one:∀{vs:List af} {xs:List Value},aH ρ vs xs->eU vs=true->∀x∈xs,x.oneCell'=true
 |_,_, .nil,_,x,h=>by simp at h
 |_,_, .cons hv hs,k,x,hx=>by
  obtain⟨k1,k2⟩:=lA k;rcases ek.1 hx with rfl |hx
  .exact hv.one k1
  .exact aH.one hs k2 x hx
end
structure jS (ρ:Env) (T:au af) (n:Nat) (tmps:Array Value):Prop where
 size:tmps.size=n
 get:∀t,Den ρ ((T.get t).getD (.raw undef)) (tmps.getD t undef)
def jS.mono {ρ ρ':Env} (hl:cA ρ ρ') {T:au af} {n:Nat} {tmps:Array Value} (h:jS ρ T n tmps):jS ρ' T n tmps:=
 ⟨h.size,fun t=>(h.get t).mono hl⟩
structure Ji (ρ:Env) (r:BM) (R:Loop):Prop where
 state:R.state=r.state
 pending:R.pending=r.pending
 params:R.params=r.params
 assign:R.assign=r.assign
 body:R.body=r.body
 tmps:jS ρ r.tmps r.size R.tmps
def xu (P:Program) (ρ:Env) (i:Nat) (e:TypeId) (cs:List af) (exact cB:Bool) (o:Obj):Prop:=
 ∃xs fz,o= .cells xs e fz/\(cB=false->fz=(0,0))/\aH ρ cs (xs.toList.take cs.length)/\(exact=true->xs.size=cs.length)/\
   (exact=false->∃b c,ρ i=some (b,c)/\xs.size=c*P.cellsOf e)
def gK (P:Program) (ρ:Env) (i:Nat):bq->Obj->Prop
 | .cells e cs exact cB _,o=>xu P ρ i e cs exact cB o
 | .own e t xs,o=>xu P ρ i e (t.flat xs) false false o/\P.cellsOf e=t.size/\1<=t.size
 | .map es clock,o=>o= .map es clock
 | .loop r,o=>∃R,o= .loop R/\Ji ρ r R
 | .deferred,o=>o= .deferred (some [])
 | .one kv v,o=>∃x,o= .map #[{key:=kv,val:=x,born:=0}] 1/\Den ρ v x
 | .iter i c d,o=>∃b q,ρ i=some (b,q)/\o= .mapIter (some b) c (match d with |true=> #[0]|false=> #[]) c
def xu.mono {P:Program} {ρ ρ':Env} (hl:cA ρ ρ') {i:Nat} {e:TypeId} {cs:List af} {exact cB:Bool} {o:Obj} (h:xu P ρ i e cs exact cB o):xu P ρ' i e cs exact cB o:=by
  obtain⟨xs,fz,h1,h2,h3,h4,h5⟩:=h;exact⟨xs,fz,h1,h2,h3.mono hl,h4,fun hx=>let ⟨b,c,h6,h7⟩:=h5 hx;⟨b,c,hl _ _ h6,h7⟩⟩
def gK.mono {P:Program} {ρ ρ':Env} (hl:cA ρ ρ') {i:Nat} {k:bq} {o:Obj} (h:gK P ρ i k o):gK P ρ' i k o:=by
 cases k with
 |cells e cs exact cB ro=>exact xu.mono hl h
 |own e t xs=>exact⟨xu.mono hl h.1,h.2⟩
 |map es clock=>exact h
 |loop r=>
  obtain⟨R,h1,h2⟩:=h;exact⟨R,h1,h2.state,h2.pending,h2.params,h2.assign,h2.body,h2.tmps.mono hl⟩
 |deferred=>exact h
 |one kv v=>exact let ⟨x,h1,h2⟩:=h;⟨x,h1,h2.mono hl⟩
 |iter i c d=>exact let ⟨b,q,h1,h2⟩:=h;⟨b,q,hl _ _ h1,h2⟩
def bq.eO:bq->Bool
 | .cells _ _ _ _ ro=>ro
 |_=>false
structure bh (P:Program) (B:Nat) (ρ:Env) (H:ai) (w:World):Prop where
 blk:∀i k,H.get i=some k->∃b c o,ρ i=some (b,c)/\w.heap[b]? =some o/\gK P ρ i k o/\(k.eO=false->B<=b)
 inj:∀i j eG eW b ci cl,H.get i=some eG->H.get j=some eW->ρ i=some (b,ci)->ρ j=some (b,cl)->i=j
 lt:∀i k,H.get i=some k->i<H.next
 base:B<=w.heap.size
 fz:∀b A,ρ.fz b=some A->(∃e fr,w.heap[b]? =some (.cells A e fr))/\∀i k c,H.get i=some k->ρ i=some (b,c)->k.eO=true
def oZ (ρ:Env) (H:ai) (b:Nat):Prop:=∃i k c,H.get i=some k/\ρ i=some (b,c)
def Own (ρ:Env) (H:ai) (b:Nat):Prop:=∃i k c,H.get i=some k/\k.eO=false/\ρ i=some (b,c)
def Own.l6 {ρ:Env} {H:ai} {b:Nat} (h:Own ρ H b):oZ ρ H b:=let ⟨i,k,c,h1,_,h2⟩:=h;⟨i,k,c,h1,h2⟩
structure bS (ρ:Env) (H:ai) (w:World) (ρ':Env) (H':ai) (w':World):Prop where
 le:cA ρ ρ'
 ext:∀i,i<H.next\/H'.next<=i->ρ' i=ρ i
 next:H.next<=H'.next
 size:w.heap.size<=w'.heap.size
 os:w'.os=w.os
 tape:w'.tape=w.tape
 output:w'.output=w.output
 frame:∀b,b<w.heap.size->¬Own ρ H b->w'.heap[b]? =w.heap[b]?
 own:∀b,b<w.heap.size->Own ρ' H' b->Own ρ H b
 l6:∀b,b<w.heap.size->oZ ρ' H' b->oZ ρ H b
 mX:∀b A,ρ'.fz b=some A->ρ.fz b=some A\/w.heap.size<=b\/Own ρ H b
def bS.refl (ρ:Env) (H:ai) (w:World):bS ρ H w ρ H w:=
 ⟨cA.refl _,fun _ _=>rfl,aJ _,aJ _,rfl,rfl,rfl,fun _ _ _=>rfl,fun _ _ h=>h,fun _ _ h=>h,fun _ _ h=> .inl h⟩
def bS.trans {ρ cL ec:Env} {H H1 H2:ai} {w w1 w2:World} (h:bS ρ H w cL H1 w1) (k:bS cL H1 w1 ec H2 w2):bS ρ H w ec H2 w2 where
 le:=h.le.trans k.le
 ext i hi:=by
  rcases hi with hi|hi
  .rw [k.ext i (.inl (Nat.lt_of_lt_of_le hi h.next)),h.ext i (.inl hi)]
  .rw [k.ext i (.inr hi),h.ext i (.inr (c6 k.next hi))]
 next:=c6 h.next k.next
 size:=c6 h.size k.size
 os:=k.os.trans h.os
 tape:=k.tape.trans h.tape
 output:=k.output.trans h.output
 frame b hb ho:=by rw [k.frame b (Nat.lt_of_lt_of_le hb h.size) (fun hh=>ho (h.own b hb hh)),h.frame b hb ho]
 own b hb ho:=h.own b hb (k.own b (Nat.lt_of_lt_of_le hb h.size) ho)
 l6 b hb ho:=h.l6 b hb (k.l6 b (Nat.lt_of_lt_of_le hb h.size) ho)
 mX b A hb:=by
  rcases k.mX b A hb with hb|hb
  .exact h.mX b A hb
  .rcases hb with hb|hb
   .exact .inr (.inl (c6 h.size hb))
   .by_cases hl:b<w.heap.size
    .exact .inr (.inr (h.own b hl hb))
    .exact .inr (.inl ω)
def bS.drew {ρ ρ':Env} {H H':ai} {w w':World} (h:bS ρ H w.drew ρ' H' w'):bS ρ H w ρ' H' w':=
 ⟨h.le,h.ext,h.next,h.size,h.os,h.tape,h.output,h.frame,h.own,h.l6,h.mX⟩
def bh.drew {P:Program} {B:Nat} {ρ:Env} {H:ai} {w:World} (h:bh P B ρ H w):bh P B ρ H w.drew:=⟨h.blk,h.inj,h.lt,h.base,h.fz⟩
def bS.below {P:Program} {B:Nat} {ρ ρ':Env} {H H':ai} {w w':World} (h:bS ρ H w ρ' H' w') (hH:bh P B ρ H w):Below B w w':=
 ⟨h.os,h.tape,h.output,h.size,fun k hk=>h.frame k (Nat.lt_of_lt_of_le hk hH.base) (fun⟨i,kk,c,h1,h2,h3⟩=>by
   obtain⟨b,c',o,e1,_,_,bV⟩:=hH.blk i kk h1;rw [h3]at e1;cases e1;exact absurd (bV h2) ω)⟩
def Fr (ρ:Env) (a b:Nat):Prop:=∀i,a<=i->i<b->ρ i=none
def bh.at {P:Program} {B:Nat} {ρ:Env} {H:ai} {w:World} (h:bh P B ρ H w) {i b c:Nat} {k:bq} (hi:H.get i=some k) (hr:ρ i=some (b,c)):
  ∃o,w.heap[b]? =some o/\gK P ρ i k o/\(k.eO=false->B<=b):=by
 obtain⟨b',c',o,e1,e2,e3,bV⟩:=h.blk i k hi;rw [hr]at e1;cases e1;exact⟨o,e2,e3,bV⟩
def ai.fY (H:ai) (i j:Nat) (b:bq):(H.set i b).get j=if i=j then some b else H.get j:=au.fY H.m i j (some b)
def ai.o4 (H:ai) (i j:Nat):(H.drop i).get j=if i=j then none else H.get j:=au.fY H.m i j none
def ai.gA (H:ai) (j:Nat) (b:bq):(H.new b).get j=if H.next=j then some b else H.get j:=au.fY H.m H.next j (some b)
def ai.Zw (H:ai) (i:Nat):(H.drop i).next=H.next:=rfl
def ai.Jj (H:ai) (b:bq):(H.new b).next=H.next+1:=rfl
def Env.put (ρ:Env) (i b c:Nat):Env:=⟨fun j=>if j=i then some (b,c)else ρ j,ρ.fz⟩
def Env.o5 {ρ:Env} {i b c:Nat} (h:ρ i=none):cA ρ (ρ.put i b c):=⟨fun j x hx=>by
 unfold Env.put;show(if j=i then some (b,c)else ρ j)=some x;split
 .rename_i e;subst e;rw [h]at hx;cases hx
 .exact hx,fun _ _ h=>h⟩
def Env.dn (ρ:Env) (i b c:Nat):ρ.put i b c i=some (b,c):=by simp [Env.put]
variable {P:Program} {B:Nat} {ρ:Env} {H:ai} {w:World}
section
variable (hH:bh P B ρ H w)
def tE (hf:Fr ρ H.next (H.next+1)) (c:Nat) (k:bq) (o:Obj) (hk:gK P (ρ.put H.next w.heap.size c) H.next k o):
  bh P B (ρ.put H.next w.heap.size c) (H.new k) (w.alloc o)/\bS ρ H w (ρ.put H.next w.heap.size c) (H.new k) (w.alloc o):=by
 have hn:ρ H.next=none:=hf H.next (aJ _) (fB _);have hle:cA ρ (ρ.put H.next w.heap.size c):=Env.o5 hn;have hne:∀i k,H.get i=some k->i≠H.next:=fun i k hi=>Nat.ne_of_lt (hH.lt i k hi)
 have hlt:∀i k b c',H.get i=some k->ρ i=some (b,c')->b<w.heap.size:=fun i k b c' hi hr=>by
  obtain⟨o,e,_⟩:=hH.at hi hr;exact(dz.1 e).1
 have hput:∀i,i≠H.next->ρ.put H.next w.heap.size c i=ρ i:=fun i hi=>by simp [Env.put,hi]
 have hfz:∀b A,(ρ.put H.next w.heap.size c).fz b=some A->(∃e fr,(w.alloc o).heap[b]? =some (.cells A e fr))/\∀i k' c',(H.new k).get i=some k'->ρ.put H.next w.heap.size c i=some (b,c')->k'.eO=true:=fun b A hb=>by
  obtain⟨⟨e,fr,h1⟩,h2⟩:=hH.fz b A hb;have hlt':b<w.heap.size:=(dz.1 h1).1;refine⟨⟨e,fr,(Below.heap_alloc w o b hlt').trans h1⟩,fun i k' c' hi hr=> ?_⟩;rw [ai.gA]at hi;split at hi
  .rename_i e;subst e;rw [Env.dn]at hr;cases hr;omega
  .rename_i e;rw [hput i (fun x=>e x.symm)]at hr;exact h2 i k' c' hi hr
 refine⟨⟨fun i k' hi=> ?_,fun i j eG eW b ci cl hi hj js fD=> ?_,fun i k' hi=> ?_,by simp;exact Nat.le_succ_of_le hH.base,hfz⟩,⟨hle,fun i hi=> ?_,Nat.le_succ _,by simp,rfl,rfl,rfl,fun b hb _=> ?_,fun b hb ho=> ?_,fun b hb ho=> ?_,fun _ _ h=> .inl h⟩⟩
 .rw [ai.gA]at hi;split at hi
  .rename_i e;subst e;cases hi;exact⟨w.heap.size,c,o,Env.dn ..,heap_alloc_new w o,hk,fun _=>hH.base⟩
  .obtain⟨b,c',o',e1,e2,e3,bV⟩:=hH.blk i k' hi;exact⟨b,c',o',hle _ _ e1,(Below.heap_alloc w o b (dz.1 e2).1).trans e2,e3.mono hle,bV⟩
 .rw [ai.gA]at hi hj;split at hi<;>split at hj
  .omega
  .rename_i e1 e2;subst e1;rw [Env.dn]at js;cases js;rw [hput j (fun e=>e2 e.symm)]at fD;exact absurd (hlt j eW _ _ hj fD) (Nat.lt_irrefl _)
  .rename_i e2 e1;subst e1;rw [Env.dn]at fD;cases fD;rw [hput i (fun e=>e2 e.symm)]at js;exact absurd (hlt i eG _ _ hi js) (Nat.lt_irrefl _)
  .rename_i e1 e2;rw [hput i (fun e=>e1 e.symm)]at js;rw [hput j (fun e=>e2 e.symm)]at fD;exact hH.inj i j eG eW b ci cl hi hj js fD
 .rw [ai.gA]at hi;split at hi
  .rename_i e;subst e;exact fB _
  .exact Nat.lt_succ_of_lt (hH.lt i k' hi)
 .rw [ai.Jj]at hi;exact hput i ω
 .exact Below.heap_alloc w o b hb
 .obtain⟨i,k',c',h1,h2,h3⟩:=ho;rw [ai.gA]at h1;split at h1
  .rename_i e;subst e;rw [Env.dn]at h3;cases h3;exact absurd hb (Nat.lt_irrefl _)
  .rename_i e;rw [hput i (fun e'=>e e'.symm)]at h3;exact⟨i,k',c',h1,h2,h3⟩
 .obtain⟨i,k',c',h1,h3⟩:=ho;rw [ai.gA]at h1;split at h1
  .rename_i e;subst e;rw [Env.dn]at h3;cases h3;exact absurd hb (Nat.lt_irrefl _)
  .rename_i e;rw [hput i (fun e'=>e e'.symm)]at h3;exact⟨i,k',c',h1,h3⟩
def jj {i b c:Nat} {k0 k:bq} (hi:H.get i=some k0) (hr:ρ i=some (b,c)) (hro:k0.eO=false) (w':World) (o:Obj)
  (hos:w'.os=w.os) (ht:w'.tape=w.tape) (hout:w'.output=w.output) (hs:w'.heap.size=w.heap.size) (hb:w'.heap[b]? =some o) (l7:∀j,j≠b->w'.heap[j]? =w.heap[j]?) (hk:gK P ρ i k o):
  bh P B ρ (H.set i k) w'/\bS ρ H w ρ (H.set i k) w':=by
 have hown:Own ρ H b:=⟨i,k0,c,hi,hro,hr⟩;have hfz:∀b' A,ρ.fz b'=some A->(∃e fr,w'.heap[b']? =some (.cells A e fr))/\∀j k' c',(H.set i k).get j=some k'->ρ j=some (b',c')->k'.eO=true:=fun b' A hb'=>by
  obtain⟨⟨e,fr,h1⟩,h2⟩:=hH.fz b' A hb';have hne:b'≠b:=fun e=>by
   have:=h2 i k0 c hi (e ▸ hr);rw [hro]at this;cases this
  refine⟨⟨e,fr,(l7 b' hne).trans h1⟩,fun j k' c' hj hr'=> ?_⟩;rw [ai.fY]at hj;split at hj
  .rename_i e;subst e;rw [hr]at hr';cases hr';exact absurd rfl hne
  .exact h2 j k' c' hj hr'
 refine⟨⟨fun j k' hj=> ?_,fun j l eW kl b' cl cJ hj hl fD rl=> ?_,fun j k' hj=> ?_,by rw [hs];exact hH.base,hfz⟩,⟨cA.refl _,fun _ _=>rfl,aJ _,Nat.le_of_eq hs.symm,hos,ht,hout,fun b' _ ho=>l7 b' (fun e=>ho (e ▸ hown)),fun b' _ ho=> ?_,fun b' _ ho=> ?_,fun _ _ h=> .inl h⟩⟩
 .rw [ai.fY]at hj;split at hj
  .rename_i e;subst e;cases hj;obtain⟨_,_,_,bV⟩:=hH.at hi hr;exact⟨b,c,o,hr,hb,hk,fun _=>bV hro⟩
  .rename_i e;obtain⟨b',c',o',e1,e2,e3,bV⟩:=hH.blk j k' hj;refine⟨b',c',o',e1, ?_,e3,bV⟩;rw [l7 b' (fun e'=>e (hH.inj i j k0 k' b c c' hi hj hr (e' ▸ e1)))];exact e2
 .have g:∀x kx,(H.set i k).get x=some kx->∃Zx,H.get x=some Zx:=fun x kx hx=>by
   rw [ai.fY]at hx;split at hx
   .rename_i e;subst e;exact⟨k0,hi⟩
   .exact⟨kx,hx⟩
  obtain⟨_,hj'⟩:=g j eW hj;obtain⟨_,hl'⟩:=g l kl hl;exact hH.inj j l _ _ b' cl cJ hj' hl' fD rl
 .rw [ai.fY]at hj;split at hj
  .rename_i e;subst e;exact hH.lt i k0 hi
  .exact hH.lt j k' hj
 .obtain⟨j,k',c',h1,h2,h3⟩:=ho;rw [ai.fY]at h1;split at h1
  .rename_i e;subst e;exact⟨i,k0,c',hi,hro,h3⟩
  .exact⟨j,k',c',h1,h2,h3⟩
 .obtain⟨j,k',c',h1,h3⟩:=ho;rw [ai.fY]at h1;split at h1
  .rename_i e;subst e;exact⟨i,k0,c',hi,h3⟩
  .exact⟨j,k',c',h1,h3⟩
def Zy {i b c:Nat} {k0:bq} (hi:H.get i=some k0) (hr:ρ i=some (b,c)) (hro:k0.eO=false) (w':World)
  (hos:w'.os=w.os) (ht:w'.tape=w.tape) (hout:w'.output=w.output) (hs:w'.heap.size=w.heap.size) (l7:∀j,j≠b->w'.heap[j]? =w.heap[j]?):
  bh P B ρ (H.drop i) w'/\bS ρ H w ρ (H.drop i) w':=by
 have hown:Own ρ H b:=⟨i,k0,c,hi,hro,hr⟩;have g:∀j k,(H.drop i).get j=some k->i≠j/\H.get j=some k:=fun j k hj=>by
  rw [ai.o4]at hj;split at hj
  .cases hj
  .rename_i h;exact⟨h,hj⟩
 refine⟨⟨fun j k' hj=> ?_,fun j l eW kl b' cl cJ hj hl fD rl=>hH.inj j l _ _ b' cl cJ (g j eW hj).2 (g l kl hl).2 fD rl,fun j k' hj=>hH.lt j k' (g j k' hj).2,by rw [hs];exact hH.base,fun b' A hb'=> ?_⟩,
  ⟨cA.refl _,fun _ _=>rfl,aJ _,Nat.le_of_eq hs.symm,hos,ht,hout,fun b' _ ho=>l7 b' (fun e=>ho (e ▸ hown)),fun b' _ ho=> ?_,fun b' _ ho=> ?_,fun _ _ h=> .inl h⟩⟩
 .obtain⟨b',c',o',e1,e2,e3,bV⟩:=hH.blk j k' (g j k' hj).2;refine⟨b',c',o',e1, ?_,e3,bV⟩;rw [l7 b' (fun e'=>(g j k' hj).1 (hH.inj i j k0 k' b c c' hi (g j k' hj).2 hr (e' ▸ e1)))];exact e2
 .obtain⟨⟨e,fr,h1⟩,h2⟩:=hH.fz b' A hb';have hne:b'≠b:=fun e=>by
   have:=h2 i k0 c hi (e ▸ hr);rw [hro]at this;cases this
  exact⟨⟨e,fr,(l7 b' hne).trans h1⟩,fun j k' c' hj hr'=>h2 j k' c' (g j k' hj).2 hr'⟩
 .obtain⟨j,k',c',h1,h2,h3⟩:=ho;exact⟨j,k',c',(g j k' h1).2,h2,h3⟩
 .obtain⟨j,k',c',h1,h3⟩:=ho;exact⟨j,k',c',(g j k' h1).2,h3⟩
def Qp (i:Nat):bh P B ρ (H.drop i) w/\bS ρ H w ρ (H.drop i) w:=by
 have g:∀j k,(H.drop i).get j=some k->H.get j=some k:=fun j k hj=>by
  rw [ai.o4]at hj;split at hj
  .cases hj
  .exact hj
 exact⟨⟨fun j k hj=>hH.blk j k (g j k hj),fun a b ka kb x ca cb ha hb=>hH.inj a b ka kb x ca cb (g a ka ha) (g b kb hb),fun j k hj=>hH.lt j k (g j k hj),hH.base,fun b A hb=>⟨(hH.fz b A hb).1,fun j k c hj hr=>(hH.fz b A hb).2 j k c (g j k hj) hr⟩⟩,
  ⟨cA.refl _,fun _ _=>rfl,aJ _,aJ _,rfl,rfl,rfl,fun _ _ _=>rfl,fun b _ ⟨j,k,c,h1,h2⟩=>⟨j,k,c,g j k h1,h2⟩,fun b _ ⟨j,k,c,h1,h2⟩=>⟨j,k,c,g j k h1,h2⟩,fun _ _ h=> .inl h⟩⟩
def Zz (hf:Fr ρ H.next (H.next+1)) {i b c:Nat} {k0 k:bq} (hi:H.get i=some k0) (hr:ρ i=some (b,c)) (hro:k0.eO=false) (w':World) (o:Obj)
  (hos:w'.os=w.os) (ht:w'.tape=w.tape) (hout:w'.output=w.output) (hs:w'.heap.size=w.heap.size) (hb:w'.heap[b]? =some o) (l7:∀j,j≠b->w'.heap[j]? =w.heap[j]?) (hk:gK P (ρ.put H.next b c) H.next k o):
  bh P B (ρ.put H.next b c) ((H.drop i).new k) w'/\bS ρ H w (ρ.put H.next b c) ((H.drop i).new k) w':=by
 have hn:ρ H.next=none:=hf H.next (aJ _) (fB _);have hle:cA ρ (ρ.put H.next b c):=Env.o5 hn;have hown:Own ρ H b:=⟨i,k0,c,hi,hro,hr⟩;have hput:∀j,j≠H.next->ρ.put H.next b c j=ρ j:=fun j hj=>by simp [Env.put,hj]
 have g:∀j k',((H.drop i).new k).get j=some k'->(j=H.next/\k'=k)\/(j≠H.next/\j≠i/\H.get j=some k'):=fun j k' hj=>by
  rw [ai.gA,ai.o4,ai.Zw]at hj;split at hj
  .rename_i e;cases hj;exact .inl ⟨e.symm,rfl⟩
  .rename_i e;split at hj
   .cases hj
   .rename_i e2;exact .inr ⟨fun x=>e x.symm,fun x=>e2 x.symm,hj⟩
 have hfz:∀b' A,(ρ.put H.next b c).fz b'=some A->(∃e fr,w'.heap[b']? =some (.cells A e fr))/\∀j k' c',((H.drop i).new k).get j=some k'->ρ.put H.next b c j=some (b',c')->k'.eO=true:=fun b' A hb'=>by
  obtain⟨⟨e,fr,h1⟩,h2⟩:=hH.fz b' A hb';have hne:b'≠b:=fun e=>by
   have:=h2 i k0 c hi (e ▸ hr);rw [hro]at this;cases this
  refine⟨⟨e,fr,(l7 b' hne).trans h1⟩,fun j k' c' hj hr'=> ?_⟩;rcases g j k' hj with⟨rfl,rfl⟩|⟨g1,g2,g3⟩
  .rw [Env.dn]at hr';cases hr';exact absurd rfl hne
  .rw [hput j g1]at hr';exact h2 j k' c' g3 hr'
 refine⟨⟨fun j k' hj=> ?_,fun j l eW kl b' cl cJ hj hl fD rl=> ?_,fun j k' hj=> ?_,by rw [hs];exact hH.base,hfz⟩,⟨hle,fun j hj=>hput j ?_,Nat.le_succ _,Nat.le_of_eq hs.symm,hos,ht,hout,fun b' _ ho=>l7 b' (fun e=>ho (e ▸ hown)),fun b' _ ho=> ?_,fun b' _ ho=> ?_,fun _ _ h=> .inl h⟩⟩
 .rcases g j k' hj with⟨rfl,rfl⟩|⟨h1,h2,h3⟩
  .obtain⟨_,_,_,bV⟩:=hH.at hi hr;exact⟨b,c,o,Env.dn ..,hb,hk,fun _=>bV hro⟩
  .obtain⟨b',c',o',e1,e2,e3,bV⟩:=hH.blk j k' h3;refine⟨b',c',o',hle _ _ e1, ?_,e3.mono hle,bV⟩;rw [l7 b' (fun e'=>h2 (hH.inj j i k' k0 b' c' c h3 hi e1 (e' ▸ hr)))];exact e2
 .rcases g j eW hj with⟨rfl,rfl⟩|⟨h1,h2,h3⟩<;>rcases g l kl hl with⟨e,rfl⟩|⟨k1,k2,dG⟩
  .exact e.symm
  .rw [Env.dn]at fD;cases fD;rw [hput l k1]at rl;exact absurd (hH.inj l i kl k0 _ _ _ dG hi rl hr) k2
  .subst e;rw [Env.dn]at rl;cases rl;rw [hput j h1]at fD;exact absurd (hH.inj j i eW k0 _ _ _ h3 hi fD hr) h2
  .rw [hput j h1]at fD;rw [hput l k1]at rl;exact hH.inj j l eW kl b' cl cJ h3 dG fD rl
 .rcases g j k' hj with⟨rfl,rfl⟩|⟨h1,h2,h3⟩
  .exact fB _
  .exact Nat.lt_succ_of_lt (hH.lt j k' h3)
 .have:((H.drop i).new k).next=H.next+1:=rfl;rw [this]at hj;omega
 .obtain⟨j,k',c',h1,h2,h3⟩:=ho;rcases g j k' h1 with⟨rfl,rfl⟩|⟨e1,e2,e3⟩
  .rw [Env.dn]at h3;cases h3;exact hown
  .rw [hput j e1]at h3;exact⟨j,k',c',e3,h2,h3⟩
 .obtain⟨j,k',c',h1,h3⟩:=ho;rcases g j k' h1 with⟨rfl,rfl⟩|⟨e1,e2,e3⟩
  .rw [Env.dn]at h3;cases h3;exact hown.l6
  .rw [hput j e1]at h3;exact⟨j,k',c',e3,h3⟩
end
end
section
open Go.RowKit
def av.Jk:∀(t:av) (d:t.den),(t.cells d).length=t.size
 | .int _,_=>rfl
 | .bool,_=>rfl
 | .str,_=>rfl
 | .list _ _,_=>rfl
 | .pair a b,d=>by
   show(a.cells d.1++b.cells d.2).length=a.size+b.size;rw [cW,a.Jk,b.Jk]
 | .ptr _,_=>rfl
 | .unit,_=>rfl
def av.zI (t:av) (d:t.den) (xs:List t.den):t.flat (d::xs)=t.cells d++t.flat xs:=rfl
def av.B7 (t:av) (xs ys:List t.den):t.flat (xs++ys)=t.flat xs++t.flat ys:=by simp [av.flat]
def av.iW (t:av):∀xs:List t.den,(t.flat xs).length=xs.length*t.size
 |[]=>by simp [av.flat]
 |d::xs=>by rw [av.zI,cW,t.Jk,t.iW xs,List.length_cons,Nat.succ_mul,Nat.add_comm]
def av.Qq (t:av) (xs:List t.den) (k:Nat) (h:k<xs.length):t.flat xs=t.flat (xs.take k)++(elemAt t xs k++t.flat (xs.drop (k+1))):=by
 have e:xs=xs.take k++xs.getD k t.dflt::xs.drop (k+1):=by
  have:xs.getD k t.dflt=xs[k]:=by simp [ao,h]
  rw [this];simp
 have:t.flat xs=t.flat (xs.take k++xs.getD k t.dflt::xs.drop (k+1)):=by rw [<-e]
 rw [this,av.B7,av.zI];rfl
def av.Qr (t:av) (xs:List t.den) (k:Nat) (h:k<xs.length):(t.flat (xs.take k)).length=k*t.size:=by
 rw [t.iW,eE,Nat.min_eq_left (Nat.le_of_lt h)]
def Qs {P:Program} {T:TypeId} {pre mid post:List af} {off:Nat} {v:af} (h:oR P T mid off=some v):oR P T (pre++(mid++post)) (pre.length+off)=some v:=by
 unfold oR at h ⊢;cases hl:lv P T with
 |no=>rw [hl]at h;cases h
 |one=>
  rw [hl]at h;simp only [zG]at h ⊢;have hlt:off<mid.length:=by
   rcases Nat.lt_or_ge off mid.length with h1|h1
   .exact h1
   .rw [List.getElem?_eq_none h1]at h;cases h
  rw [List.getElem?_append_right ω,show pre.length+off-pre.length=off by omega,List.getElem?_append_left hlt,h]
 |agg n=>
  rw [hl]at h;simp only at h ⊢;cases hb:Nat.ble (Nat.add off n) mid.length with
  |false=>rw [hb]at h;cases h
  |true=>
   rw [hb]at h;cases h;have hb':off+n<=mid.length:=bU hb;have kI:Nat.ble (Nat.add (pre.length+off) n) (pre++(mid++post)).length=true:=fA (by simp only [cW];show pre.length+off+n<=_;omega);rw [kI];show some (af.agg (cut (pre++(mid++post)) (pre.length+off) n))=_;congr 2;unfold cut;rw [List.drop_append,List.drop_eq_nil_of_le ω,List.nil_append,show pre.length+off-pre.length=off by omega,List.drop_append,List.take_append,show n-(mid.drop off).length=0 by simp;omega];simp
def Qt {P:Program} {T:TypeId} {t:av} {xs:List t.den} {k off:Nat} {v:af} (hk:k<xs.length) (h:oR P T (elemAt t xs k) off=some v):oR P T (t.flat xs) (k*t.size+off)=some v:=by
 rw [t.Qq xs k hk];have:=Qs (pre:=t.flat (xs.take k)) (post:=t.flat (xs.drop (k+1))) h;rwa [t.Qr xs k hk]at this
def Den.tF {ρ:Env} {z:Bool} {t:av} {xs:List t.den} {x:Value} (h:Den ρ (.bt z t xs) x):(xs=[]/\∃a k,x= .slice a 0 k/\(z=true->a=none/\k=0))\/
  ∃b off k A,ρ.fz b=some A/\off+(t.flat xs).length<=A.size/\aH ρ (t.flat xs) ((A.toList.drop off).take (t.flat xs).length)/\xs.length<=k/\x= .slice (some ⟨b,off,none⟩) xs.length k/\(z=true->xs≠[]):=by
 cases h with
 |bt h ho hy hd hk hz=>subst hy;exact .inr ⟨_,_,_,_,h,ho,hd,hk,rfl,hz⟩
 |e6 hz=>exact .inl ⟨rfl,_,_,rfl,hz⟩
def Den.zJ {ρ:Env} {t:av} {xs:List t.den} {k off:Nat} {x:Value} (h:Den ρ (.ff t xs k off) x):∃b o A,ρ.fz b=some A/\o+(t.flat xs).length<=A.size/\aH ρ (t.flat xs) ((A.toList.drop o).take (t.flat xs).length)/\k<xs.length/\
  x= .pointer (some ⟨b,o+(k*t.size+off),none⟩):=by
 cases h with
 |ff h ho hy hd hk=>subst hy;exact⟨_,_,_,h,ho,hd,hk,rfl⟩
def Den.xw {ρ:Env} {e:TypeId} {t:av} {i k off:Nat} {x:Value} (h:Den ρ (.dA e t i k off) x):∃b c,ρ i=some (b,c)/\x= .pointer (some ⟨b,k*t.size+off,none⟩):=by
 cases h with
 |dA h=>exact⟨_,_,h,rfl⟩
def Den.jt {ρ:Env} {e:TypeId} {t:av} {i k len:Nat} {cap:aZ} {x:Value} (h:Den ρ (.bT e t i k len cap) x):(len=0/\∃a,x= .slice a 0 0)\/∃b c kc,ρ i=some (b,c)/\zH cap c kc/\len<=kc/\x= .slice (some ⟨b,k*t.size,none⟩) len kc:=by
 cases h with
 |bT h hc hl=>exact .inr ⟨_,_,_,h,hc,hl,rfl⟩
 |qi=>exact .inl ⟨rfl,_,rfl⟩
def av.vn {ρ:Env}:∀(t:av) {l r:List af} {d:t.den} {ys:List Value},t.td l=some (d,r)->aH ρ l ys->∃y1 y2,ys=y1++y2/\aH ρ (t.cells d) y1/\aH ρ r y2
 | .int k,l,r,d,ys,h,hd=>by
   change zm k l=_ at h;unfold zm at h;split at h
   .split at h
    .rename_i e;subst e;cases h;cases hd with |cons h1 h2=>exact⟨[_],_,rfl, .cons h1 .nil,h2⟩
    .cases h
   .cases h
 | .bool,l,r,d,ys,h,hd=>by
   change zn l=_ at h;unfold zn at h;split at h
   .cases h;cases hd with |cons h1 h2=>exact⟨[_],_,rfl, .cons h1 .nil,h2⟩
   .cases h
 | .str,l,r,d,ys,h,hd=>by
   change zq l=_ at h;unfold zq at h;split at h
   .cases h;cases hd with |cons h1 h2=>exact⟨[_],_,rfl, .cons h1 .nil,h2⟩
   .cases h
 | .list z t,l,r,d,ys,h,hd=>by
   change IQ z t l=_ at h;unfold IQ at h;split at h
   .rename_i z' t' xs r';split at h
    .rename_i e;subst e;cases hc:(!z||z'||Nat.ble 1 xs.length)with
     |false=>rw [hc]at h;cases h
     |true=>
      rw [hc]at h;cases h;cases hd with
      |cons h1 h2=>
       refine⟨[_],_,rfl, .cons ?_ .nil,h2⟩;rcases h1.tF with⟨rfl,a,k,rfl,hz⟩|⟨b,off,k,A,g1,g2,g3,g4,rfl,g5⟩
       .refine .e6 fun e=>hz ?_
        subst e;simpa using hc
       .refine .bt g1 g2 rfl g3 g4 fun e hxs=> ?_
        subst e;subst hxs;have:z'=true:=by simpa using hc
        exact g5 this rfl
    .cases h
   .cases h;cases hd with
    |cons h1 h2=>
     refine⟨[_],_,rfl, .cons ?_ .nil,h2⟩;rw [h1.cc];exact .e6 fun _=>⟨rfl,rfl⟩
   .cases h
 | .pair a b,l,r,d,ys,h,hd=>by
   simp only [av.td]at h;cases ha:a.td l with
   |none=>rw [ha]at h;cases h
   |some p=>
    obtain⟨x,l'⟩:=p;rw [ha]at h;simp only at h;cases hb:b.td l' with
    |none=>rw [hb]at h;cases h
    |some q=>
     obtain⟨y,r'⟩:=q;rw [hb]at h;cases h;obtain⟨y1,y2,rfl,h1,h2⟩:=a.vn ha hd;obtain⟨y3,Jl,rfl,h3,h4⟩:=b.vn hb h2;exact⟨y1++y3,Jl,by simp,h1.append h3,h4⟩
 | .ptr t,l,r,d,ys,h,hd=>by
   change wl t l=_ at h;unfold wl at h;split at h
   .split at h
    .rename_i e;subst e;cases h;cases hd with
     |cons h1 h2=>exact⟨[_],_,rfl, .cons h1 .nil,h2⟩
    .cases h
   .cases h
 | .unit,l,r,d,ys,h,hd=>by
   cases h;exact⟨[],ys,rfl, .nil,hd⟩
def av.ZA {ρ:Env} {t:av} {l:List af} {d:t.den} {ys:List Value} (h:t.read l=some d) (hd:aH ρ l ys):aH ρ (t.cells d) ys:=by
 unfold av.read at h;split at h
 .rename_i d' he;cases h;obtain⟨y1,y2,rfl,h1,h2⟩:=t.vn he hd;cases h2;simpa using h1
 .cases h
def av.B8 {ρ:Env} {t:av}:∀{n:Nat} {l:List af} {ds:List t.den} {ys:List Value},t.rE n l=some ds->aH ρ l ys->aH ρ (t.flat ds) ys/\ds.length=n
 |0,[],ds,ys,h,hd=>by cases h;cases hd;exact⟨.nil,rfl⟩
 |0,_::_,ds,ys,h,hd=>by cases h
 |n+1,l,ds,ys,h,hd=>by
  have h:(match t.td l with |some (d,r)=>(t.rE n r).map fun ds=>d::ds|none=>none)=some ds:=by cases l<;>exact h
  split at h
  .rename_i d r he;simp only [am]at h;obtain⟨ds',h1,rfl⟩:=h;obtain⟨y1,y2,rfl,g1,g2⟩:=t.vn he hd;obtain⟨g3,g4⟩:=av.B8 h1 g2;exact⟨by rw [av.zI];exact g1.append g3,by simp [g4]⟩
  .cases h
section
variable {P:Program} {B:Nat} {ρ:Env} {H:ai} {w:World}
def qe (e:TypeId) (t:av) (xs:List t.den):bQ t (some (.own e t xs))=xs:=by simp [bQ]
def vo {e:TypeId} {t:av} {b:Option bq} {k:Nat} (h:bz e t b k=true):b=some (.own e t (bQ t b))/\k<(bQ t b).length:=by
 unfold bz at h;split at h
 .rename_i e' t' xs;rw [ae,ae]at h;obtain⟨h1,h2,h3⟩:=h;have h1:=ac h1;have h2:=ap h2;subst h1;subst h2;rw [qe];exact⟨rfl,bU h3⟩
 .cases h
def ZB {e:TypeId} {t:av} {b:Option bq} {n:Nat} {cap:aZ} (h:wi e t b n cap=true):(b=none/\n=0/\bQ t b=[]/\cap= .known 0)\/(b=some (.own e t (bQ t b))/\(bQ t b).length=n/\cap= .full):=by
 unfold wi at h;split at h
 .rename_i e' t' xs;simp only [ae]at h;obtain⟨h1,h2,h3,h4⟩:=h;have h1:=ac h1;have h2:=ap h2;have h3:=ac h3;subst h1;subst h2;rw [qe];refine .inr ⟨rfl,h3, ?_⟩;cases cap<;>first |rfl |cases h4
 .rw [ae]at h;refine .inl ⟨rfl,ac h.1,rfl, ?_⟩;cases cap with
  |known m=>rw [ac h.2]
  |full=>cases h.2
  |any=>cases h.2
 .cases h
def ZC {n:Nat} (h:0<n):bK n= .full:=by cases n<;>first |omega |rfl
def ey (e:TypeId) (t:av) (xs:List t.den):bQ t (a7 e t xs)=xs:=by
 cases xs with
 |nil=>rfl
 |cons x l=>exact qe e t _
def ZD (e:TypeId) (t:av) (xs:List t.den):wi e t (a7 e t xs) xs.length (bK xs.length)=true:=by
 cases xs with
 |nil=>rfl
 |cons x l=>simp [a7,wi,bK,aZ.isFull]
def kw (a b:Nat):Nat.ble a b=decide (a<=b):=by
 cases h:Nat.ble a b with
 |true=>exact(ay (bU h)).symm
 |false=>exact(ab fun hh=>by rw [fA hh]at h;cases h).symm
section
variable (e:TypeId) (t:av) (xs:List t.den) (k:Nat)
def EF:bz e t (a7 e t xs) k=decide (k<xs.length):=by
 cases xs with
 |nil=>simp [a7,bz]
 |cons x l=>simp only [a7,bz,Nat.beq_refl,decide_true,Bool.true_and];exact kw _ _
def gg:bz e t (some (.own e t xs)) k=decide (k<xs.length):=by
 simp only [bz,Nat.beq_refl,decide_true,Bool.true_and];exact kw _ _
end
def rM (hH:bh P B ρ H w) {i b c:Nat} {e:TypeId} {t:av} {xs:List t.den} (hi:H.get i=some (.own e t xs)) (hr:ρ i=some (b,c)):
  ∃ys,w.heap[b]? =some (.cells ys e (0,0))/\aH ρ (t.flat xs) (ys.toList.take (t.flat xs).length)/\ys.size=c*P.cellsOf e/\(t.flat xs).length<=ys.size/\P.cellsOf e=t.size/\1<=t.size:=by
 obtain⟨o,h1,h2,_⟩:=hH.at hi hr;obtain⟨⟨ys,fz,rfl,g2,g3,g4,g5⟩,g6,g7⟩:=h2;have hf:=g2 rfl;subst hf;obtain⟨b',c',e1,e2⟩:=g5 rfl;rw [hr]at e1;cases e1;refine⟨ys,h1,g3,e2, ?_,g6,g7⟩;have:=g3.length;simp at this;omega
end
end
end Go.Proofs.YtibikmmdbdlafaaGreatDoor.Sv
