import Derived.OrdersIn
import Derived.Below
import Derived.Scope
set_option linter.defProp false
set_option linter.unusedSimpArgs false
namespace Go.Proofs.YtibikmmdbdlafaaGreatDoor
abbrev AT:=ByteArray
theorem τ{p:Prop}(h:p:=by simp):p:=h
theorem δ{p:Prop}(h:p:=by decide):p:=h
theorem ω{p:Prop}(h:p:=by omega):p:=h
def az:=@decide_eq_true
def ab:=@decide_eq_false
def ac:=@Nat.eq_of_beq_eq_true
def ae:=@Bool.and_eq_true
def bT:=@Nat.le_of_ble_eq_true
def bE:=@decide_eq_true_eq
def dJ:=@Array.getElem?_eq_some_iff
def e8:=@beq_eq_false_iff_ne
def fU:=@beq_iff_eq
def dO:=@Option.bind_eq_some_iff
def am:=@Option.map_eq_some_iff
def ao:=@List.getD_eq_getElem?_getD
def ap:=@of_decide_eq_true
def dn:=@Int.mul_le_mul_of_nonneg_left
def ar:=@Int.mul_le_mul_of_nonneg_right
def fF:=@Nat.ble_eq_true_of_le
def eH:=@List.take_of_length_le
def aw:=@Nat.zero_add
def aI:=@Nat.le_refl
def b6:=@List.length_set
def ki:=@List.not_mem_nil
def c7:=@Int.emod_lt_of_pos
def dr:=@Int.emod_nonneg
def cQ:=@List.length_append
def dK:=@List.take_length
def ek:=@List.length_take
def en:=@List.mem_cons
def dh:=@Nat.le_trans
def cr:=@Int.le_of_lt
def eR:=@bne_eq_false_iff_eq
def gC:=@bne_iff_ne
def kJ:=@List.mem_cons_of_mem
def kK:=@List.mem_cons_self
def rJ:=@List.getElem?_eq_getElem
def kL:=@List.length_map
def mb:=@List.length_drop
def jV:=@Option.some.inj
def tC:=@Option.some.injEq
def fG:=@Nat.lt_succ_self
def qh:=@List.append_assoc
end Go.Proofs.YtibikmmdbdlafaaGreatDoor
namespace Go.Proofs.YtibikmmdbdlafaaGreatDoor.Sv
noncomputable section
inductive aX where
 |known (n:Nat)
 |full
 |any
inductive av where
 |int (k:IntKind)
 |bool
 |str
 |list (z:Bool) (t:av)
 |pair (a b:av)
 |ptr (t:av)
 |unit
 deriving DecidableEq
@[reducible] def av.den:av->Type
  | .int _=>Int
  | .bool=>Bool
  | .str=>AT
  | .list _ t=>List t.den
  | .pair a b=>a.den×b.den
  | .ptr t=>t.den
  | .unit=>Unit
def av.size:av->Nat
 | .int _=>1
 | .bool=>1
 | .str=>1
 | .list _ _=>1
 | .pair a b=>a.size+b.size
 | .ptr _=>1
 | .unit=>0
def av.dflt:(t:av)->t.den
 | .int _=>(0:Int)
 | .bool=>false
 | .str=>ByteArray.empty
 | .list _ _=>[]
 | .pair a b=>(a.dflt,b.dflt)
 | .ptr t=>t.dflt
 | .unit=>()
inductive aa where
 |raw (v:Value)
 |ptr (i off:Nat)
 |slice (i off len:Nat) (cap:aX)
 |func (fn:Fn) (first captured:List aa)
 |yield (i:Nat)
 |map (i:Nat)
 |iface (t:TypeId) (v:aa)
 |agg (cs:List aa)
 |tuple (vs:List aa)
 |bn (z:Bool) (t:av) (xs:List t.den)
 |fy (t:av) (xs:List t.den) (k off:Nat)
 |bR (e:TypeId) (t:av) (i k len:Nat) (cap:aX)
 |dL (e:TypeId) (t:av) (i k off:Nat)
 |bot
def av.cells:(t:av)->t.den->List aa
 | .int k,x=>[.raw (.int k x)]
 | .bool,x=>[.raw (.bool x)]
 | .str,x=>[.raw (.string x)]
 | .list z t,x=>[.bn z t x]
 | .pair a b,x=>a.cells x.1++b.cells x.2
 | .ptr t,x=>[.fy t [x] 0 0]
 | .unit,_=>[]
def av.flat (t:av) (xs:List t.den):List aa:=xs.flatMap t.cells
inductive au (α:Type) where
 |nil
 |node (l:au α) (v:Option α) (r:au α)
def tz (f:Nat):Nat->List Bool:=
 @Nat.rec (fun _=>Nat->List Bool) (fun _=>[]) (fun _ ih i=> @Bool.rec (fun _=>List Bool) (@Bool.rec (fun _=>List Bool) (false::ih (Nat.sub (Nat.div i 2) 1)) (true::ih (Nat.div i 2)) (Nat.beq (Nat.mod i 2) 1)) [] (Nat.beq i 0)) f
def bits (i:Nat):List Bool:=tz (Nat.succ i) i
def au.oP {α:Type} (p:List Bool):au α->Option α:=
 @List.rec Bool (fun _=>au α->Option α) (fun t=> @au.rec α (fun _=>Option α) none (fun _ v _ _ _=>v) t)
   (fun b _ ih t=> @au.rec α (fun _=>Option α) none (fun l _ r _ _=> @Bool.rec (fun _=>Option α) (ih r) (ih l) b) t) p
def au.xG {α:Type} (x:Option α) (p:List Bool):au α->au α:=
 @List.rec Bool (fun _=>au α->au α) (fun t=> @au.rec α (fun _=>au α) (.node .nil x .nil) (fun l _ r _ _=> .node l x r) t)
   (fun b _ ih t=> @au.rec α (fun _=>au α) (@Bool.rec (fun _=>au α) (.node .nil none (ih .nil)) (.node (ih .nil) none .nil) b) (fun l v r _ _=> @Bool.rec (fun _=>au α) (.node l v (ih r)) (.node (ih l) v r) b) t) p
def au.get {α:Type} (t:au α) (i:Nat):Option α:=au.oP (bits i) t
def au.set {α:Type} (t:au α) (i:Nat) (x:Option α):au α:=au.xG x (bits i) t
def nth {α:Type} (l:List α):Nat->Option α:=
 @List.rec α (fun _=>Nat->Option α) (fun _=>none) (fun a _ ih i=> @Bool.rec (fun _=>Option α) (ih (Nat.sub i 1)) (some a) (Nat.beq i 0)) l
structure Ca where
 tmps:au aa
 size:Nat
 params:Array Tmp
 assign:Code
 body:Code
 state:LoopState
 pending:Option Code
inductive bl where
 |cells (elem:TypeId) (cs:List aa) (exact cD ro:Bool)
 |map (es:Array MapEntry) (clock:Nat)
 |loop (r:Ca)
 |deferred
 |own (elem:TypeId) (t:av) (xs:List t.den)
 |one (key:Value) (v:aa)
 |iter (i:Nat) (clock:Nat) (done:Bool)
structure ai where
 m:au bl
 next:Nat
def ai.get (H:ai) (i:Nat):Option bl:=H.m.get i
def ai.set (H:ai) (i:Nat) (b:bl):ai:= @ai.rec (fun _=>ai) (fun m n=>⟨m.set i (some b),n⟩) H
def ai.drop (H:ai) (i:Nat):ai:= @ai.rec (fun _=>ai) (fun m n=>⟨m.set i none,n⟩) H
def ai.skip (H:ai):ai:= @ai.rec (fun _=>ai) (fun m n=>⟨m,Nat.succ n⟩) H
def ai.new (H:ai) (b:bl):ai:= @ai.rec (fun _=>ai) (fun m n=>⟨m.set n (some b),Nat.succ n⟩) H
def bm (P:Program) {α:Type}:Sem α->Option α
 | .pure a=>some a
 | .program k=>bm P (k P)
 | .mark _ k=>bm P k
 |_=>none
mutual
def aa.gV:aa->Option Value
 | .raw v=>some v
 | .iface t v=>(v.gV).map (Value.iface t)
 | .agg cs=>(aa.kM cs).map fun l=>Value.agg l.toArray
 | .tuple cs=>(aa.kM cs).map fun l=>Value.tuple l.toArray
 | .func fn fs cs=>(aa.kM fs).bind fun l=>(aa.kM cs).map fun k=>Value.func fn l.toArray k.toArray
 |_=>none
def aa.kM:List aa->Option (List Value)
 |[]=>some []
 |v::vs=>(v.gV).bind fun x=>(aa.kM vs).map fun l=>x::l
end
def aa.fA:aa->Option Value
 | .raw v=>some v
 |v=>v.gV
def ic (a:Array Value):List aa:=a.toList.map .raw
def aa.cells:aa->List aa
 | .agg cs=>cs
 | .raw (.agg cs)=>ic cs
 |v=>[v]
def aa.vD (v:aa):Bool:= @aa.casesOn (fun _=>Bool) v (fun _=>false) (fun _ _=>false) (fun _ _ _ _=>false) (fun _ _ _=>false) (fun _=>false) (fun _=>false) (fun _ _=>false) (fun _=>false) (fun _=>false) (fun _ _ _=>false) (fun _ _ _ _=>false) (fun _ _ _ _ _ _=>false) (fun _ _ _ _ _=>false) true
def aa.one:aa->Bool
 | .raw (.agg _)| .raw (.tuple _)| .agg _| .tuple _| .yield _| .bot=>false
 |_=>true
inductive aL where
 |no
 |ok (v:aa) (H:ai)
 |enter (f:FuncId) (args:List aa) (H:ai)
 |round (i:Nat) (args:List aa) (H:ai)
def ag (H:ai) (x:Option aa):aL:= @Option.rec aa (fun _=>aL) .no (fun v=> .ok v H) x
def eS (x:Option (aa×ai)):aL:=match x with |none=> .no|some (v,H)=> .ok v H
abbrev dP:=Operand->aa
def rK (k s:Nat) (x:aa) (H:ai):aL:=match x with
 | .bn _ t xs=>cond (Nat.beq t.size s&&Nat.ble (k+1) xs.length) (.ok (.fy t xs k 0) H) .no
 | .bR e t i k0 len _=>cond (Nat.beq t.size s&&Nat.ble (k+1) len) (.ok (.dL e t i (k0+k) 0) H) .no
 |_=> .no
def vE (k n s:Nat) (x:aa) (H:ai):aL:=match x with
 | .fy t xs k0 off=>cond (Nat.ble (k+1) n) (.ok (.fy t xs k0 (off+k*s)) H) .no
 | .dL e t i k0 off=>cond (Nat.ble (k+1) n) (.ok (.dL e t i k0 (off+k*s)) H) .no
 |_=> .no
def li (gJ n:Nat) (x:aa) (H:ai):aL:=match x with
 | .fy t xs k off=> @Bool.rec (fun _=>aL) .no (.ok (.fy t xs k (off+gJ)) H) (Nat.ble 1 n)
 | .dL e t i k off=> @Bool.rec (fun _=>aL) .no (.ok (.dL e t i k (off+gJ)) H) (Nat.ble 1 n)
 |_=> .no
def ZA:TypeDesc->Bool
 | .struct _| .array _ _=>true
 |_=>false
section
variable (P:Program) (t:TypeId)
def Cb:Option Bool:=(P.underlying t).map ZA
def ey:Option Nat:=(P.info? t).map TypeInfo.size
def nk:Option Value:=(P.info? t).bind TypeInfo.zero
def il:Option TypeId:=match P.underlying t with |some (.slice e)=>some e|_=>none
end
inductive IW where
 |no
 |one
 |agg (n:Nat)
def lv (P:Program) (t:TypeId):IW:=match Cb P t,ey P t with
 |some true,some n=> .agg n
 |some false,_=> .one
 |_,_=> .no
inductive Ql where
 |no
 |arr (n s:Nat)
 |sl (s:Nat)
def nV (P:Program) (t:TypeId):Ql:=match P.underlying t with
 |some (.array n e)=>(match ey P e with |some s=> .arr n s|none=> .no)
 |some (.slice e)=>(match ey P e with |some s=> .sl s|none=> .no)
 |_=> .no
inductive IX where
 |no
 |mk (off size:Nat) (t:TypeId)
def fv (P:Program) (s:TypeId) (f:Nat):IX:=match P.underlying s with
 |some (.struct fs)=>(match fs[f]? with
  |some fd=>(match ey P fd.type with |some n=> .mk fd.offset n fd.type|none=> .no)
  |none=> .no)
 |_=> .no
inductive xH where
 |no
 |mk (i off:Nat)
inductive bu where
 |no
 |mk (i off len:Nat) (cap:aX)
inductive vF where
 |no
 |mk (n:Nat)
inductive nr where
 |no
 |mk (b:Bool)
inductive Cc where
 |no
 |mk (e:TypeId) (cs:List aa) (exact cD ro:Bool)
inductive xI where
 |no
 |int (k:IntKind) (n:Int)
def IY (v:Value):xI:= @Value.casesOn (fun _=>xI) v (fun _=> .no) (fun k n=> .int k n) (fun _ _=> .no) (fun _ _ _=> .no) (fun _=> .no) (fun _=> .no) (fun _ _ _=> .no) (fun _=> .no) (fun _=> .no) (fun _ _ _=> .no) .no (fun _ _=> .no) .no (fun _=> .no) (fun _=> .no)
def iI (v:aa):xI:= @aa.casesOn (fun _=>xI) v IY (fun _ _=> .no) (fun _ _ _ _=> .no) (fun _ _ _=> .no) (fun _=> .no) (fun _=> .no) (fun _ _=> .no) (fun _=> .no) (fun _=> .no) (fun _ _ _=> .no) (fun _ _ _ _=> .no) (fun _ _ _ _ _ _=> .no) (fun _ _ _ _ _=> .no) .no
def vG (n:Int):vF:= @Int.casesOn (fun _=>vF) n (fun m=> .mk m) (fun _=> .no)
def nW (v:aa):vF:= @xI.rec (fun _=>vF) .no (fun _ n=>vG n) (iI v)
def IZ (v:Value):nr:= @Value.casesOn (fun _=>nr) v (fun b=> .mk b) (fun _ _=> .no) (fun _ _=> .no) (fun _ _ _=> .no) (fun _=> .no) (fun _=> .no) (fun _ _ _=> .no) (fun _=> .no) (fun _=> .no) (fun _ _ _=> .no) .no (fun _ _=> .no) .no (fun _=> .no) (fun _=> .no)
def gK (v:aa):nr:= @aa.casesOn (fun _=>nr) v IZ (fun _ _=> .no) (fun _ _ _ _=> .no) (fun _ _ _=> .no) (fun _=> .no) (fun _=> .no) (fun _ _=> .no) (fun _=> .no) (fun _=> .no) (fun _ _ _=> .no) (fun _ _ _ _=> .no) (fun _ _ _ _ _ _=> .no) (fun _ _ _ _ _=> .no) .no
def iJ (v:aa):xH:= @aa.casesOn (fun _=>xH) v (fun _=> .no) (fun i off=> .mk i off) (fun _ _ _ _=> .no) (fun _ _ _=> .no) (fun _=> .no) (fun _=> .no) (fun _ _=> .no) (fun _=> .no) (fun _=> .no) (fun _ _ _=> .no) (fun _ _ _ _=> .no) (fun _ _ _ _ _ _=> .no) (fun _ _ _ _ _=> .no) .no
def xJ (v:aa):bu:= @aa.casesOn (fun _=>bu) v (fun _=> .no) (fun _ _=> .no) (fun i off len cap=> .mk i off len cap) (fun _ _ _=> .no) (fun _=> .no) (fun _=> .no) (fun _ _=> .no) (fun _=> .no) (fun _=> .no) (fun _ _ _=> .no) (fun _ _ _ _=> .no) (fun _ _ _ _ _ _=> .no) (fun _ _ _ _ _=> .no) .no
def rL (v:aa):Option (List aa):= @aa.casesOn (fun _=>Option (List aa)) v (fun _=>none) (fun _ _=>none) (fun _ _ _ _=>none) (fun _ _ _=>none) (fun _=>none) (fun _=>none) (fun _ _=>none) (fun cs=>some cs) (fun _=>none) (fun _ _ _=>none) (fun _ _ _ _=>none) (fun _ _ _ _ _ _=>none) (fun _ _ _ _ _=>none) none
def zS (v:aa):Option (List aa):= @aa.casesOn (fun _=>Option (List aa)) v (fun _=>none) (fun _ _=>none) (fun _ _ _ _=>none) (fun _ _ _=>none) (fun _=>none) (fun _=>none) (fun _ _=>none) (fun _=>none) (fun cs=>some cs) (fun _ _ _=>none) (fun _ _ _ _=>none) (fun _ _ _ _ _ _=>none) (fun _ _ _ _ _=>none) none
def tD (b:Option bl):Cc:= @Option.rec bl (fun _=>Cc) .no (fun b=> @bl.casesOn (fun _=>Cc) b (fun e cs x f r=> .mk e cs x f r) (fun _ _=> .no) (fun _=> .no) .no (fun _ _ _=> .no) (fun _ _=> .no) (fun _ _ _=> .no)) b
def bN (t:av) (b:Option bl):List t.den:=match b with
 |some (.own _ t' xs)=>if h:t'=t then h ▸ xs else []
 |_=>[]
def bz (e:TypeId) (t:av) (b:Option bl) (k:Nat):Bool:=match b with
 |some (.own e' t' xs)=>Nat.beq e e'&&(decide (t'=t)&&Nat.ble (k+1) xs.length)
 |_=>false
def aX.isFull:aX->Bool
 | .full=>true
 |_=>false
def aX.isNil:aX->Bool
 | .known n=>Nat.beq n 0
 |_=>false
def bH:Nat->aX
 |0=> .known 0
 |_+1=> .full
def wt (e:TypeId) (t:av) (b:Option bl) (n:Nat) (cap:aX):Bool:=match b with
 |some (.own e' t' xs)=>Nat.beq e e'&&(decide (t'=t)&&(Nat.beq xs.length n&&cap.isFull))
 |none=>Nat.beq n 0&&cap.isNil
 |_=>false
def bU (e:TypeId) (t:av) (xs:List t.den):Option bl:=match xs with
 |[]=>none
 |x::l=>some (.own e t (x::l))
def elemAt (t:av) (xs:List t.den) (k:Nat):List aa:=t.cells (xs.getD k t.dflt)
def zT (k:IntKind) (l:List aa):Option (Int×List aa):=match l with | .raw (.int k' x)::r=>(if k=k' then some (x,r)else none)|_=>none
def zU (l:List aa):Option (Bool×List aa):=match l with | .raw (.bool x)::r=>some (x,r)|_=>none
def wv (l:List aa):Option (AT×List aa):=match l with | .raw (.string x)::r=>some (x,r)|_=>none
def I0 (z:Bool) (t:av) (l:List aa):Option (List t.den×List aa):=match l with
 | .bn z' t' xs::r=>if h:t'=t then(cond (!z||z'||Nat.ble 1 xs.length) (some (h ▸ xs,r)) none)else none
 | .raw (.slice none 0 0)::r=>some ([],r)
 |_=>none
def ww (t:av) (l:List aa):Option (t.den×List aa):=match l with
 | .fy t' [x] 0 0::r=>if h:t'=t then some (h ▸ x,r)else none
 |_=>none
def av.tE:(t:av)->List aa->Option (t.den×List aa)
 | .int k,l=>zT k l
 | .bool,l=>zU l
 | .str,l=>wv l
 | .list z t,l=>I0 z t l
 | .pair a b,l=>match a.tE l with
   |some (x,l')=>(match b.tE l' with |some (y,r)=>some ((x,y),r)|none=>none)
   |none=>none
 | .ptr t,l=>ww t l
 | .unit,l=>some ((),l)
def av.read (t:av) (l:List aa):Option t.den:=match t.tE l with |some (d,[])=>some d|_=>none
def av.rM (t:av):Nat->List aa->Option (List t.den)
 |0,[]=>some []
 |0,_::_=>none
 |n+1,l=>match t.tE l with |some (d,r)=>(t.rM n r).map fun ds=>d::ds|none=>none
def cut (cs:List aa) (off n:Nat):List aa:=(cs.drop off).take n
section
variable (P:Program) (t:TypeId) (cs:List aa) (off:Nat)
def apart:Option aa:=
 @IW.rec (fun _=>Option aa) none (nth cs off) (fun n=>some (.agg (cut cs off n))) (lv P t)
def oQ:Option aa:=
 @IW.rec (fun _=>Option aa) none (nth cs off) (fun n=> @Bool.rec (fun _=>Option aa) none (some (.agg (cut cs off n))) (Nat.ble (Nat.add off n) cs.length)) (lv P t)
end
def I1 (v:aa) (cs:List aa):Nat->Option (List aa):=
 @List.rec aa (fun _=>Nat->Option (List aa)) (fun _=>none) (fun a l ih off=> @Bool.rec (fun _=>Option (List aa)) (@Option.rec (List aa) (fun _=>Option (List aa)) none (fun r=>some (a::r)) (ih (Nat.sub off 1))) (some (v::l)) (Nat.beq off 0)) cs
def lj (cs:List aa) (off:Nat) (vs:List aa):Option (List aa):=
 match vs with
 |[v]=>I1 v cs off
 |vs=>cond (Nat.ble (off+vs.length) cs.length) (some (cs.take off++vs++cs.drop (off+vs.length))) none
def rN (place:Nat->Option (Nat×Nat)):List aa->List (Nat×aa)->Option (List aa)
 |cells,[]=>some cells
 |cells,(i,v)::rest=>
  (place i).bind fun p=>cond (cond v.vD false (Nat.beq v.cells.length p.2)) ((lj cells p.1 v.cells).bind fun cells=>rN place cells rest) none
def sameKind:aa->aa->Bool
 | .ptr .., .raw (.pointer none)| .slice .., .raw (.slice none _ _)| .func .., .raw .nilFunc| .iface .., .raw .nilIface| .map _, .raw (.map none)=>true
 |_,_=>false
def mg (P:Program) (t:TypeId):aa->Bool
 | .ptr .. =>match P.underlying t with |some (.pointer _)=>true|_=>false
 | .slice .. =>match P.underlying t with |some (.slice _)=>true|_=>false
 | .func .. =>match P.underlying t with |some (.func _ _ _)=>true|_=>false
 | .iface .. =>match P.underlying t with |some (.interface _)=>true|_=>false
 | .map _=>match P.underlying t with |some (.map _ _)=>true|_=>false
 |_=>false
def m6 (ev:dP) (x:Operand):Value:=((ev x).fA).getD undef
def gen (P:Program) (o:Oper) (ev:dP):Option aa:=
 cond (o.op.operands.toList.all fun x=>(ev x).fA.isSome)
  (match bm P (execOp (m6 ev) o)with
    |some (.value v)=>some (.raw v)
    |some .skip=>some (.raw undef)
    |_=>none) none
def mh (v:aa):Option Nat:= @vF.rec (fun _=>Option Nat) none (fun n=>some n) (nW v)
def nm (o:Option aa) (d:Nat):Option Nat:=match o with |none=>some d|some v=>mh v
def zV (P:Program) (e:TypeId) (s n:Nat) (lo hi mx:Option aa) (k:Nat->Nat->aa):Option aa:=
 (ey P e).bind fun s'=>(nm hi n).bind fun h=>(nm lo 0).bind fun l=>cond (mx.isNone&&Nat.beq s s'&&Nat.ble l h&&Nat.ble h n) (some (k l h)) none
def Qm (c:aX) (len:Nat):Nat:=match c with
 | .known n=>n
 |_=>len
def Cd (P:Program) (t:TypeId) (x:aa) (lo hi mx:Option aa):Option aa:=
 match P.underlying t,x with
 |some (.array n e), .ptr i off=>
  (ey P e).bind fun s=>(nm mx n).bind fun m=>(nm hi n).bind fun h=>(nm lo 0).bind fun l=>
    cond (Nat.ble l h&&Nat.ble h m&&Nat.ble m n&&(mx.isNone||hi.isSome)) (some (.slice i (cond (Nat.beq m l) off (off+l*s)) (h-l) (.known (m-l)))) none
 |some (.slice e), .slice i off len cap=>
  (ey P e).bind fun s=>(nm hi len).bind fun h=>(nm lo 0).bind fun l=>
    match mx,cap with
    |none, .known c=>cond (Nat.ble l h&&Nat.ble h c) (some (.slice i (cond (Nat.beq c l) off (off+l*s)) (h-l) (.known (c-l)))) none
    |none,c=>cond (Nat.ble l h&&Nat.ble h len) (cond (Nat.beq l 0) (some (.slice i off h c)) (cond (Nat.ble (l+1) len) (some (.slice i (off+l*s) (h-l) .any)) none)) none
    |some mv,c=>(mh mv).bind fun m=>cond (Nat.ble l h&&Nat.ble h m&&Nat.ble m (Qm c len)&&hi.isSome) (some (.slice i (cond (Nat.beq m l) off (off+l*s)) (h-l) (.known (m-l)))) none
 |some (.slice e), .bn _ t xs=>zV P e t.size xs.length lo hi mx (fun l h=>cond (Nat.ble (l+1) h) (.bn false t ((xs.take h).drop l)) (.bn false t []))
 |some (.slice e), .bR e' t i k len cap=>zV P e t.size len lo hi mx (fun l h=>cond (Nat.beq l 0) (.bR e' t i k h cap) (cond (Nat.ble (l+1) h) (.bR e' t i (k+l) (h-l) .any) (.bn false t [])))
 |_,_=>none
def src (H:ai) (s:Nat):aa->Option (List aa×Nat)
 | .raw (.slice none 0 _)=>some ([],0)
 | .raw (.string b)=>cond (Nat.beq s 1) (some (b.data.toList.map fun x=> .raw (.int .u8 x.toNat),b.size)) none
 | .slice i off len _=>match H.get i with
   |some (.cells _ cs _ _ _)=>cond (Nat.ble (off+len*s) cs.length) (some (cut cs off (len*s),len)) none
   |_=>none
 |_=>none
def bounded (n bytes:Nat):Bool:=Nat.ble (n*bytes) 140737488355328&&Nat.ble n 140737488355328
def eW:List aa->Bool
 |[]=>true
 |v::l=>cond v.one (eW l) false
def xK (e:TypeId) (sz bytes:Nat) (i len:Nat) (cap:aX) (news:List aa) (n:Nat) (H:ai):Option (aa×ai):=
 cond (bounded (len+n) bytes) (match H.get i with
  |some (.cells e' cs exact false false)=>
   cond (Nat.beq e e'&&Nat.ble (len*sz) cs.length) (match cap with
    | .known c=>
      cond (Nat.ble (len+n) c)
       ((lj cs (len*sz) news).map fun cs'=>(.slice i 0 (len+n) (.known c),H.set i (.cells e cs' exact false false)))
       (some (.slice H.next 0 (len+n) .full,H.new (.cells e (cs.take (len*sz)++news) false false false)))
    | .full=>cond exact none (some (.slice H.next 0 (len+n) .full,(H.drop i).new (.cells e (cs.take (len*sz)++news) false false false)))
    | .any=>none) none
  |_=>none) none
def mu (P:Program) (t:TypeId) (s x:aa) (H:ai):Option (aa×ai):=
 (il P t).bind fun e=>(P.info? e).bind fun inf=>(inf.zero).bind fun z=>
 cond (Nat.beq z.cells.size inf.size&&Nat.ble 1 inf.size)
 ((src H inf.size x).bind fun sn=>
   cond (Nat.beq sn.2 0) (match s with | .raw (.slice none 0 0)| .slice .. =>some (s,H)|_=>none)
   (cond (eW sn.1) (match s with
     | .raw (.slice none 0 0)=>cond (bounded sn.2 inf.bytes) (some (.slice H.next 0 sn.2 .full,H.new (.cells e sn.1 false false false))) none
     | .slice i 0 len cap=>xK e inf.size inf.bytes i len cap sn.1 sn.2 H
     |_=>none) none)) none
def dV (b:AT):List Int:=b.data.toList.map fun x=>(x.toNat:Int)
def zW (H:ai) (ty:av) (s:Nat):aa->Option (List ty.den×Nat)
 | .raw (.slice none 0 _)=>some ([],0)
 | .raw (.string b)=>if h:av.int .u8=ty then some (h ▸ dV b,b.size)else none
 | .bn _ u ys=>if h:u=ty then some (h ▸ ys,ys.length)else none
 | .bR e u j k len _=>cond (decide (u=ty)&&(Nat.beq len 0||bz e ty (H.get j) (k+len-1))) (some (((bN ty (H.get j)).drop k).take len,len)) none
 | .slice j off n cap=>(src H s (.slice j off n cap)).bind fun sn=>(ty.rM n sn.1).map fun ds=>(ds,n)
 |_=>none
def rO (P:Program) (t:TypeId) (e:TypeId) (ty:av) (i k len:Nat) (cap:aX) (sk:Bool) (x:aa) (H:ai):Option (aa×ai):=
 (il P t).bind fun el=>(P.info? el).bind fun inf=>(inf.zero).bind fun z=>
 cond (Nat.beq z.cells.size inf.size&&Nat.ble 1 inf.size&&Nat.beq el e&&Nat.beq ty.size inf.size&&Nat.beq k 0)
 ((zW H ty inf.size x).bind fun sn=>
   cond (Nat.beq sn.2 0) (some (.bR e ty i k len cap,cond sk H.skip H))
   (cond (wt e ty (H.get i) len cap&&bounded (len+sn.2) inf.bytes)
     (some (.bR e ty H.next 0 (len+sn.2) .full,(H.drop i).new (.own e ty (bN ty (H.get i)++sn.1)))) none)) none
def EP (s:aa):Bool:=match s with
 | .slice _ _ n (.known c)=>Nat.beq n 0&&Nat.beq c 0
 | .raw (.slice none 0 0)=>true
 |_=>false
def ER (P:Program) (t:TypeId) (ty:av) (x:aa) (H:ai):Option (aa×ai):=match il P t with
 |some e=>rO P t e ty H.next 0 0 (.known 0) true x H
 |none=>none
def xL (ty:av) (x:aa) (H:ai):Option (Bool×ai):=match ty,x with
 | .list false _, .slice j off 1 _=>(match H.get j with
   |some (.cells e cs ex f r)=>(match nth cs off with
    |some (.bR e2 u2 i 0 len _)=>(match H.get i with
     |some (.own e3 u3 xs)=>(match decide (u2=u3)&&(Nat.beq e2 e3&& !Nat.beq i j)with
      |true=>some (Nat.beq len xs.length,(H.drop i).set j (.cells e (cs.set off (.bn false u3 xs)) ex f r))
      |false=>none)
     |_=>none)
    |_=>none)
   |_=>none)
 |_,_=>none
section
variable (P:Program) (t:TypeId)
def ll (e:TypeId) (ty:av) (i k len:Nat) (cap:aX) (x:aa) (H:ai):Option (aa×ai):=match xL ty x H with
 |some (b,H')=>cond b (rO P t e ty i k len cap false x H') none
 |none=>rO P t e ty i k len cap false x H
def dT (s x:aa) (H:ai):Option (aa×ai):=match s with
 | .bR e ty i k len cap=>ll P t e ty i k len cap x H
 |s=>match x with
  | .bn z ty ys=>cond (EP s) (ER P t ty (.bn z ty ys) H) none
  |x=>mu P t s x H
def wx (d x:aa) (H:ai):Option (aa×ai):=
 (il P t).bind fun e=>(ey P e).bind fun s=>match x,d with
   | .slice j rP n ck, .slice i off len _=>(src H s (.slice j rP n ck)).bind fun sn=>match H.get i with
     |some (.cells e' cs exact false false)=>
      cond (eW (sn.1.take (Nat.min n len*s))) ((lj cs off (sn.1.take (Nat.min n len*s))).map fun cs'=>(.raw (goInt (Nat.min n len)),H.set i (.cells e' cs' exact false false))) none
     |_=>none
   | .raw (.slice none 0 0), .slice _ _ _ _=>some (.raw (goInt 0),H)
   |_,_=>none
def zX (i off len:Nat) (H:ai):Option (aa×ai):=
 (il P t).bind fun e=>(ey P e).bind fun s=>(nk P e).bind fun z=>match H.get i with
   |some (.cells e' cs exact false false)=>cond (Nat.ble 1 len&&Nat.beq z.cells.size s&&eW (List.replicate len (ic z.cells)).flatten) ((lj cs off (List.replicate len (ic z.cells)).flatten).map fun cs'=>(.raw (.tuple #[]),H.set i (.cells e' cs' exact false false))) none
   |_=>none
end
def bytesOf:List aa->Option (List UInt8)
 |[]=>some []
 | .raw (.int .u8 (.ofNat n))::l=>cond (Nat.ble (n+1) 256) ((bytesOf l).map fun r=>UInt8.ofNat n::r) none
 |_=>none
section
variable (P:Program)
def I2 (t:TypeId):aa->aa->Option Bool
 | .ptr i off, .ptr j off'=>match P.underlying t with
   |some (.pointer e)=>match ey P e with
    |some (_+1)=>cond (Nat.beq i j) (some (Nat.beq off off')) none
    |_=>none
   |_=>none
 |_,_=>none
def I3 (t:TypeId) (es:Array MapEntry) (kv:Value) (ok:Bool):Option Value:=
 match P.underlying t with
 |some (.map kt et)=>(bm P (Instr.checkKey es.isEmpty 10000 kt kv)).bind fun _=>(bm P (Instr.findKey kt kv es.toList)).bind fun r=>
  match r with
  |some p=>some (if ok then .tuple #[p.2, .bool true]else p.2)
  |none=>(nk P et).map fun z=>if ok then .tuple #[z, .bool false]else z
 |_=>none
def I4 (t:TypeId) (es:Array MapEntry) (clock:Nat) (kv xv:Value):Option (Array MapEntry×Nat):=
 match P.underlying t with
 |some (.map kt _)=>(bm P (Instr.checkKey false 10000 kt kv)).bind fun _=>(bm P (Instr.findKey kt kv es.toList)).bind fun r=>
  match r with
  |some p=>(bm P (Instr.keyThatStays (((es[p.1]?).map (·.key)).getD kv) kv)).map fun k=>(es.modify p.1 fun e=>{e with key:=k,val:=xv},clock)
  |none=>some (es.push {key:=kv,val:=xv,born:=clock},clock+1)
 |_=>none
def mw (f:FuncId) (fn:Func) (args:List aa) (H:ai):Option (aa×ai):=
 match aa.kM args with
 |some vs=>match bm P (callFunc f vs.toArray)with
  |some (.value v)=>some (.raw v,H)
  |_=>cond (fn.name== "internal/bytealg.MakeNoZero")
   (match args,fn.resultTypes[0]? with
     |[.raw (.int .i64 (.ofNat n))],some t=>(il P t).bind fun e=>cond (Nat.ble n 140737488355328&&Nat.beq (P.cellsOf e) 1) (some (.slice H.next 0 n .full,H.new (.cells e [] false false false))) none
     |_,_=>none) none
 |none=>match args with
  |[x]=>cond (fn.name== "internal/abi.NoEscape") (some (x,H)) none
  |_=>none
def kd (f:FuncId) (args:List aa) (H:ai):aL:=
 @Option.rec Func (fun _=>aL) .no (fun fn=> @Option.rec Code (fun _=>aL) (eS (mw P f fn args H)) (fun _=> .enter f args H) fn.body) (P.funcs[f]?)
end
inductive I5 where
 |no
 |fn (f:FuncId)
def Qn (f:Fn):I5:=match f with | .func f=> .fn f|_=> .no
def xM (v:Value):I5:=match v with
 | .func fn ⟨[]⟩ ⟨[]⟩=>Qn fn
 |_=> .no
def mj (P:Program) (fv:aa) (args:List aa) (H:ai):aL:=
 match fv with
 | .raw v=> @I5.rec (fun _=>aL) (match v with | .func (.func f) first captured=>kd P f (ic first++args++ic captured) H|_=> .no) (fun f=>kd P f args H) (xM v)
 | .func (.func f) first captured=>kd P f (first++args++captured) H
 | .yield i=> .round i args H
 |_=> .no
abbrev fH:=Program->Oper->dP->ai->aL
def oR:fH:=fun _ _ _ _=> .no
def vH:fH:=fun P o ev H=>ag H (gen P o ev)
def m7 (x:Operand):fH:=fun _ _ ev H=> .ok (ev x) H
def nX (c a b:Operand):fH:=fun _ _ ev H=> @nr.rec (fun _=>aL) .no (fun b'=> @Bool.rec (fun _=>aL) (.ok (ev b) H) (.ok (ev a) H) b') (gK (ev c))
def rQ (ev:dP) (parts:Array (Nat×Operand)):List (Nat×aa):=parts.toList.map fun p=>(p.1,ev p.2)
def Qo (P:Program) (fs:Array Field) (i:Nat):Option (Nat×Nat):=(fs[i]?).bind fun f=>(ey P f.type).map fun s=>(f.offset,s)
def I6 (P:Program) (ev:dP) (t:TypeId) (parts:Array (Nat×Operand)):Option aa:=
 (nk P t).bind fun z=>
   match P.underlying t with
   |some (.struct fs)=>(rN (Qo P fs) (ic z.cells) (rQ ev parts)).bind fun cs=>
     cond (fs.toList.all fun f=>(ey P f.type).isSome) (some (.agg cs)) none
   |some (.array _ e)=>(ey P e).bind fun s=>(rN (fun i=>some (i*s,s)) (ic z.cells) (rQ ev parts)).map .agg
   |_=>none
def Ce (t:TypeId) (parts:Array (Nat×Operand)):fH:=fun P _ ev H=>ag H (I6 P ev t parts)
def I7 (P:Program) (o:Oper) (ev:dP) (x:Operand):Option aa:=match ev x with
 | .func (.func f) a b=>some (.func (.func f) a b)
 | .yield i=>some (.yield i)
 | .fy t xs k off=>some (.fy t xs k off)
 | .dL e t i k off=>some (.dL e t i k off)
 |_=>gen P o ev
def qi (x:Operand):fH:=fun P o ev H=> @xH.rec (fun _=>aL) (ag H (I7 P o ev x)) (fun i off=> .ok (.ptr i off) H) (iJ (ev x))
def tF (P:Program) (op:BinOp) (k:IntKind) (a b:Int):Option Value:=
 match op with
 | .add| .sub| .mul=>bm P (Op.intArith op k a b)
 | .quo| .rem=>bm P (Op.intDiv op k a b)
 | .and| .or| .xor| .andNot=>bm P (Op.intBits op k a b)
 | .shl| .shr=>none
 |_=>bm P (Op.intCmp op a b)
def ES:aa->Option (Int×Int)
 | .agg [.raw (.int .i64 a), .raw (.int .i64 b)]=>some (a,b)
 |_=>none
section
variable (P:Program) (t:TypeId) (x y:aa)
def ET:Option Bool:=match x,y with
 | .raw (.int .i64 a), .raw (.int .i64 b)=>(match P.underlying t with |some (.int .i64)=>cond (P.plainKey t) (some (a==b)) none|_=>none)
 | .raw (.string a), .raw (.string b)=>(match P.underlying t with |some .string=>cond (P.plainKey t) (some (a.toList==b.toList)) none|_=>none)
 |_,_=>none
def I8:Option Bool:=match x,y with
 | .agg [a,b], .agg [c,d]=>(match P.underlying t with
   |some (.struct fs)=>(match fs.toList with
    |[f,g]=>cond (f.name != "_" &&(g.name != "_" &&(Nat.beq f.offset 0&&(Nat.beq g.offset 1&&(!P.eqGuardType P.depth t&& !P.stoodInHeld t))))) (match ET P f.type a c,ET P g.type b d with
     |some p,some q=>some (p&&q)
     |_,_=>none) none
    |_=>none)
   |_=>none)
 |_,_=>none
def I9:Option Bool:=
 match ES x,ES y with
 |some p,some q=>(match P.underlying t with
  |some (.array n e)=>(match P.underlying e with
   |some (.int .i64)=>cond (Nat.beq n 2&&(!P.eqGuardType P.depth t&&(P.plainKey e&&(Nat.beq (P.cellsOf e) 1&&(P.info? e).isSome)))) (some (p.1==q.1&&p.2==q.2)) none
   |_=>none)
  |_=>none)
 |_,_=>none
def Ja:Option Bool:=match I8 P t x y with
 |some b=>some b
 |none=>I9 P t x y
end
def Jb:aa->Option Bool
 | .bn true _ xs=>some xs.isEmpty
 |_=>none
def EU:aa->Bool
 | .raw (.slice none 0 0)=>true
 |_=>false
def Jc (P:Program) (t:TypeId) (x y:aa):Option Bool:=
 match Jb x with
 |some b=>(match P.underlying t with |some (.slice _)=>cond (EU y) (some b) none|_=>none)
 |none=>none
section
variable (P:Program) (o:Oper) (ev:dP)
def Cf (t:TypeId) (want:Bool) (x y:aa):Option aa:=
 match Jc P t x y with
 |some b=>some (.raw (.bool (b==want)))
 |none=>
 match Ja P t x y with
 |some b=>some (.raw (.bool (b==want)))
 |none=>
 match I2 P t x y with
 |some b=>some (.raw (.bool (b==want)))
 |none=>cond (mg P t x&&sameKind x y) (some (.raw (.bool !want))) (cond (mg P t y&&sameKind y x) (some (.raw (.bool !want))) (gen P o ev))
def xN (op:BinOp) (t:TypeId) (x y:aa):Option aa:=
 match op with
 | .eql=>Cf P o ev t true x y
 | .neq=>Cf P o ev t false x y
 |_=>gen P o ev
def oS (op:BinOp) (k k':IntKind) (a b:Int):Option aa:=
 cond (k==k') (match tF P op k a b with |some v=>some (.raw v)|none=>gen P o ev) (gen P o ev)
end
def tG:Nat->Nat->Option aa:=fun _ _=>none
def small (n:Nat):Option aa:= @Bool.rec (fun _=>Option aa) none (some (.raw (.int .i64 (.ofNat n)))) (Nat.ble (Nat.succ n) 9223372036854775808)
def zY:BinOp->Nat->Nat->Option aa:=
 @BinOp.rec (fun _=>Nat->Nat->Option aa) (fun a b=>small (Nat.add a b)) (fun a b=> @Bool.rec (fun _=>Option aa) none (small (Nat.sub a b)) (Nat.ble b a)) tG tG tG tG tG tG tG tG tG
   (fun a b=>some (.raw (.bool (Nat.beq a b)))) (fun a b=>some (.raw (.bool (!(Nat.beq a b))))) (fun a b=>some (.raw (.bool (Nat.ble (Nat.succ a) b)))) (fun a b=>some (.raw (.bool (Nat.ble a b))))
   (fun a b=>some (.raw (.bool (Nat.ble (Nat.succ b) a)))) (fun a b=>some (.raw (.bool (Nat.ble b a))))
def Cg:IntKind->Bool:= @IntKind.rec (fun _=>Bool) false false false true false false false false
def ju (op:BinOp) (k k':IntKind) (a b:Int):Option aa:=
 @vF.rec (fun _=>Option aa) none (fun m=> @vF.rec (fun _=>Option aa) none (fun n=> @Bool.rec (fun _=>Option aa) none (@Bool.rec (fun _=>Option aa) none (zY op m n) (Cg k')) (Cg k)) (vG b)) (vG a)
def iZ (op:BinOp) (t:TypeId) (x y:Operand) (_yt:TypeId):fH:=fun P o ev H=>
 @xI.rec (fun _=>aL) (ag H (xN P o ev op t (ev x) (ev y)))
   (fun k a=> @xI.rec (fun _=>aL) (ag H (gen P o ev)) (fun k' b=> @Option.rec aa (fun _=>aL) (ag H (oS P o ev op k k' a b)) (fun v=> .ok v H) (ju op k k' a b)) (iI (ev y))) (iI (ev x))
def Qp (P:Program) (t:TypeId) (v:aa):Option aa:=match P.underlying t with
 |some (.interface _)|none=>none
 |some _=>some (.iface t v)
def Ch (t:TypeId) (x:Operand):fH:=fun P _ ev H=>ag H (Qp P t (ev x))
def Ci (fn:Fn) (first captured:Array Operand):fH:=fun _ _ ev H=> .ok (.func fn (first.toList.map ev) (captured.toList.map ev)) H
def Cj (P:Program) (o:Oper) (ev:dP) (t:TypeId) (x:Operand) (lo hi mx:Option Operand):Option aa:=match ev x with
 | .raw _=>gen P o ev
 |x=>Cd P t x (lo.map ev) (hi.map ev) (mx.map ev)
def oT (t:TypeId) (x:Operand) (lo hi mx:Option Operand):fH:=fun P o ev H=>ag H (Cj P o ev t x lo hi mx)
def qj (s:TypeId) (x:Operand) (f:Nat):fH:=fun P _ ev H=>
 @IX.rec (fun _=>aL) .no (fun gJ n _=> @xH.rec (fun _=>aL) (li gJ n (ev x) H) (fun i off=> @Bool.rec (fun _=>aL) .no (.ok (.ptr i (Nat.add off gJ)) H) (Nat.ble 1 n)) (iJ (ev x))) (fv P s f)
def ql (t:TypeId) (x:Operand) (f:Nat):fH:=fun P o ev H=>
 @Option.rec (List aa) (fun _=>aL) (ag H (gen P o ev)) (fun cs=> @IX.rec (fun _=>aL) .no (fun gJ _ ft=>ag H (apart P ft cs gJ)) (fv P t f)) (rL (ev x))
def nt (t:TypeId) (x ix:Operand):fH:=fun P _ ev H=>
 @vF.rec (fun _=>aL) .no (fun k=> @Ql.rec (fun _=>aL) .no
   (fun n s=> @xH.rec (fun _=>aL) (vE k n s (ev x) H) (fun i off=> @Bool.rec (fun _=>aL) .no (.ok (.ptr i (Nat.add off (Nat.mul k s))) H) (Nat.ble (Nat.succ k) n)) (iJ (ev x)))
   (fun s=> @bu.rec (fun _=>aL) (rK k s (ev x) H) (fun i off len _=> @Bool.rec (fun _=>aL) .no (.ok (.ptr i (Nat.add off (Nat.mul k s))) H) (Nat.ble (Nat.succ k) len)) (xJ (ev x)))
   (nV P t)) (nW (ev ix))
def Qq (P:Program) (t:TypeId) (cs:List aa) (ix:aa):Option aa:=match P.underlying t with
 |some (.array n e)=>(mh ix).bind fun k=>(ey P e).bind fun s=>cond (Nat.ble (k+1) n) (apart P e cs (k*s)) none
 |_=>none
def mm (t:TypeId) (x ix:Operand):fH:=fun P o ev H=>
 @Option.rec (List aa) (fun _=>aL) (ag H (gen P o ev)) (fun cs=>ag H (Qq P t cs (ev ix))) (rL (ev x))
def qm (x:Operand) (i:Nat):fH:=fun P o ev H=>
 @Option.rec (List aa) (fun _=>aL) (ag H (gen P o ev)) (fun vs=>ag H (nth vs i)) (zS (ev x))
def tH (P:Program) (t:TypeId) (x:aa) (H:ai):aL:=match x with
 | .fy u xs k off=>ag H (oQ P t (elemAt u xs k) off)
 | .dL e u i k off=>cond (bz e u (H.get i) k) (ag H (oQ P t (elemAt u (bN u (H.get i)) k) off)) .no
 |_=> .no
def nY (t:TypeId) (x:Operand):fH:=fun P _ ev H=>
 @xH.rec (fun _=>aL) (tH P t (ev x) H) (fun i off=> @Cc.rec (fun _=>aL) .no (fun _ cs _ _ _=>ag H (oQ P t cs off)) (tD (H.get i))) (iJ (ev x))
def Jd (P:Program) (o:Oper) (ev:dP) (t:TypeId) (m k:aa) (ok:Bool) (H:ai):Option aa:=match m,k.fA with
 | .map i,some kv=>match H.get i with
   |some (.map es _)=>(I3 P t es kv ok).map .raw
   |_=>none
 |_,_=>gen P o ev
def Ck (t:TypeId) (m k:Operand) (ok:Bool):fH:=fun P o ev H=>ag H (Jd P o ev t (ev m) (ev k) ok H)
def Cl (P:Program) (o:Oper) (ev:dP) (s d:TypeId) (x:aa) (H:ai):Option (aa×ai):=match x with
 | .slice i off len _=>match P.underlying s,P.underlying d,H.get i with
   |some (.slice e),some .string,some (.cells _ cs _ _ _)=>match P.underlying e with
    |some (.int .u8)=>cond (Nat.ble (off+len) cs.length) ((bytesOf (cut cs off len)).map fun bs=>(.raw (.string ⟨bs.toArray⟩),H)) none
    |_=>none
   |_,_,_=>none
 | .ptr i off=>match P.underlying s,P.underlying d,H.get i with
   |some (.pointer t),some .unsafePointer,some (.cells _ cs _ _ _)=>match ey P t with
    |some (_+1)=>cond (Nat.ble (off+1) cs.length) (some (.ptr i off,H)) none
    |_=>none
   |some .unsafePointer,some (.pointer u),some (.cells e cs true _ _)=>cond ((ey P u).isSome&&liesAt P P.depth e (cs.length/P.cellsOf e) off u 1) (some (.ptr i off,H)) none
   |_,_,_=>none
 | .raw (.string b)=>match P.underlying s,P.underlying d with
   |some .string,some (.slice e)=>match P.underlying e with
    |some (.int .u8)=>cond (Nat.beq (P.cellsOf e) 1) (some (.slice H.next 0 b.size .full,H.new (.cells e (b.data.toList.map fun x=> .raw (.int .u8 x.toNat)) false true false))) none
    |_=>none
   |_,_=>(gen P o ev).map fun v=>(v,H)
 |_=>(gen P o ev).map fun v=>(v,H)
def zZ (s d:TypeId) (x:Operand):fH:=fun P o ev H=>eS (Cl P o ev s d (ev x) H)
def tI (e:TypeId):fH:=fun P _ _ H=> @Option.rec Value (fun _=>aL) .no (fun z=> .ok (.ptr H.next 0) (H.new (.cells e (ic z.cells) true false false))) (nk P e)
def oU (e:TypeId) (x:Operand):fH:=fun _ _ ev H=> @Bool.rec (fun _=>aL) (.ok (.ptr H.next 0) (H.new (.cells e (ev x).cells true false false))) .no (ev x).vD
def oV (P:Program) (ev:dP) (t:TypeId) (len:Nat) (parts:Array (Nat×Operand)) (H:ai):Option (aa×ai):=
 (il P t).bind fun e=>(ey P e).bind fun s=>(nk P e).bind fun z=>
   cond (Nat.ble 1 s&&Nat.ble (len*s) 16777216&&Nat.beq z.cells.size s)
    ((rN (fun i=>some (i*s,s)) (List.replicate len (ic z.cells)).flatten (rQ ev parts)).map fun cs=>
      (.slice H.next 0 len (.known len),H.new (.cells e cs true false false))) none
def z1 (t:TypeId) (len:Nat) (parts:Array (Nat×Operand)):fH:=fun P _ ev H=>eS (oV P ev t len parts H)
def qo (P:Program) (t:TypeId) (l c:aa) (H:ai):Option (aa×ai):=
 (il P t).bind fun e=>(P.info? e).bind fun inf=>(inf.zero).bind fun z=>(mh l).bind fun l=>(mh c).bind fun c=>
   cond (Nat.ble l c&&Nat.ble 1 inf.size&&bounded c inf.bytes&&Nat.beq z.cells.size inf.size)
    (some (.slice H.next 0 l (.known c),H.new (.cells e (List.replicate c (ic z.cells)).flatten true false false))) none
def tJ (t:TypeId) (l c:Operand):fH:=fun P _ ev H=>eS (qo P t (ev l) (ev c) H)
section
variable (P:Program) (t:TypeId)
def tK (n:Nat):Bool:=match ey P t with |some m=>Nat.beq n m|none=>false
def Cm (i off:Nat) (y:aa) (H:ai) (e:TypeId) (cs:List aa) (exact:Bool):Option (aa×ai):=
 cond (eW y.cells&&tK P t y.cells.length)
  ((lj cs off y.cells).map fun cs'=>(.raw undef,H.set i (.cells e cs' exact false false))) none
def nn (x y:aa) (H:ai):aL:=match x with
 | .dL e u i k off=>cond (bz e u (H.get i) k) (cond (eW y.cells&&tK P t y.cells.length) (match(lj (elemAt u (bN u (H.get i)) k) off y.cells).bind u.read with
     |some d=> .ok (.raw undef) (H.set i (.own e u ((bN u (H.get i)).set k d)))
     |none=> .no) .no) .no
 |_=> .no
end
def qp (t:TypeId) (x y:Operand):fH:=fun P _ ev H=>
 @xH.rec (fun _=>aL) (nn P t (ev x) (ev y) H) (fun i off=> @Cc.rec (fun _=>aL) .no (fun e cs exact cD ro=> @Bool.rec (fun _=>aL) (@Bool.rec (fun _=>aL) (eS (Cm P t i off (ev y) H e cs exact)) .no cD) .no ro) (tD (H.get i))) (iJ (ev x))
def rR (P:Program) (ev:dP) (t:TypeId) (r:Option Operand) (H:ai):Option (aa×ai):=match r with
 |none=>some (.map H.next,H.new (.map #[] 0))
 |some h=>match P.underlying t,ev h with |some (.map _ _), .raw (.int _ _)=>some (.map H.next,H.new (.map #[] 0))|_,_=>none
def z6 (t:TypeId) (r:Option Operand):fH:=fun P _ ev H=>eS (rR P ev t r H)
section
variable (P:Program) (t:TypeId)
def EV (kv:Value):Bool:=match P.underlying t with
 |some (.map kt _)=>match bm P (Instr.checkKey false 10000 kt kv),bm P (Instr.findKey kt kv [])with
  |some _,some none=>true
  |_,_=>false
 |_=>false
def Je (m k x:aa) (H:ai):Option (aa×ai):=match m,k.fA with
 | .map i,some kv=>match H.get i with
   |some (.map ⟨[]⟩ 0)=>cond (EV P t kv) (some (.raw undef,H.set i (.one kv x))) none
   |_=>none
 |_,_=>none
def Cn (m k x:aa) (H:ai):Option (aa×ai):=match m,k.fA,x.fA with
 | .map i,some kv,some xv=>match H.get i with
   |some (.map es clock)=>(I4 P t es clock kv xv).map fun r=>(.raw undef,H.set i (.map r.1 r.2))
   |_=>none
 |_,_,none=>Je P t m k x H
 |_,_,_=>none
def EW (x:aa) (H:ai):Option (aa×ai):=match P.underlying t,x with
 |some (.map _ _), .map i=>match H.get i with
  |some (.map ⟨[]⟩ 0)=>some (.ptr H.next 0,H.new (.iter i 0 false))
  |some (.one _ _)=>some (.ptr H.next 0,H.new (.iter i 1 false))
  |_=>none
 |_,_=>none
end
def tL (t:TypeId) (x:Operand):fH:=fun P _ ev H=>eS (EW P t (ev x) H)
def Jf (j:Nat) (H:ai):Option bl->Option (aa×ai)
 |some (.iter i 0 false)=>match H.get i with
  |some (.map ⟨[]⟩ 0)=>some (.tuple [.raw (.bool false)],H)
  |_=>none
 |some (.iter i 1 false)=>match H.get i with
  |some (.one kv v)=>some (.tuple [.raw (.bool true), .raw kv,v],H.set j (.iter i 1 true))
  |_=>none
 |some (.iter i 1 true)=>match H.get i with
  |some (.one _ _)=>some (.tuple [.raw (.bool false)],H)
  |_=>none
 |_=>none
def EX (x:aa) (s:Bool) (H:ai):Option (aa×ai):=match x,s with
 | .ptr j 0,false=>Jf j H (H.get j)
 |_,_=>none
def z7 (x:Operand) (s:Bool):fH:=fun _ _ ev H=>eS (EX (ev x) s H)
def Qr (H:ai):Option bl->Option aa
 |some (.iter i 1 true)=>match H.get i with
  |some (.one kv v)=>some (.tuple [.raw kv,v])
  |_=>none
 |_=>none
def Qs (x:aa) (H:ai):Option aa:=match x with
 | .ptr j 0=>Qr H (H.get j)
 |_=>none
def Co (x:Operand):fH:=fun _ _ ev H=>ag H (Qs (ev x) H)
def oW (t:TypeId) (m k x:Operand):fH:=fun P _ ev H=>eS (Cn P t (ev m) (ev k) (ev x) H)
def oX (l:List Int):AT:=⟨(l.map fun x=>UInt8.ofNat x.toNat).toArray⟩
def Jg (l:List Int):Bool:=decide (dV (oX l)=l)
def EY (P:Program) (pt e':TypeId) (u:av):Bool:=match P.underlying pt with
 |some (.pointer e)=>Nat.beq e e'&&(Nat.beq (P.cellsOf e) 1&&decide (u= .int .u8))
 |_=>false
def vI (P:Program) (pt:TypeId) (x n:aa) (H:ai):Option (aa×ai):=match x with
 | .ptr i 0=>match n with
   | .raw (.int .i64 (.ofNat n))=>match P.underlying pt,H.get i with
     |some (.pointer e),some (.cells e' cs exact _ false)=>
      cond (Nat.beq e e'&&Nat.beq (P.cellsOf e) 1&&Nat.ble 1 n&&Nat.ble n cs.length&&Nat.ble n 140737488355328)
       ((bytesOf (cs.take n)).map fun bs=>(.raw (.string ⟨bs.toArray⟩),H.set i (.cells e' cs exact true false))) none
     |_,_=>none
   |_=>none
 | .dL e' u i 0 0=>match n with
   | .raw (.int .i64 (.ofNat n))=>
     cond (EY P pt e' u&&(Nat.ble 1 n&&(Nat.ble n 140737488355328&&(bz e' (.int .u8) (H.get i) (n-1)&&Jg ((bN (.int .u8) (H.get i)).take n)))))
      (some (.raw (.string (oX ((bN (.int .u8) (H.get i)).take n))),H.drop i)) none
   |_=>none
 |_=>none
def Qt (H:ai) (i:Nat):Option aa:=match H.get i with
 |some (.map es _)=>some (.raw (.int .i64 (.ofNat es.size)))
 |some (.one _ _)=>some (.raw (.int .i64 (.ofNat 1)))
 |_=>none
section
variable (P:Program) (t:Option TypeId) (v:aa)
def Cp (H:ai):Option aa:=t.bind fun t=>match P.underlying t,v with
 |some (.map _ _), .map i=>Qt H i
 |_,_=>none
def Jh:Option aa:=t.bind fun t=>match P.underlying t,v with
 |some (.slice _), .slice _ _ len _=>some (.raw (.int .i64 (.ofNat len)))
 |some (.slice _), .bn _ _ xs=>some (.raw (.int .i64 (.ofNat xs.length)))
 |some (.slice _), .bR _ _ _ _ len _=>some (.raw (.int .i64 (.ofNat len)))
 |some (.array n _), .agg _=>some (.raw (.int .i64 (.ofNat n)))
 |some .string, .raw (.string b)=>some (.raw (.int .i64 (.ofNat b.size)))
 |_,_=>none
def Ji:Option aa:=t.bind fun t=>match P.underlying t,v with
 |some (.slice _), .slice _ _ _ (.known n)=>some (.raw (.int .i64 (.ofNat n)))
 |_,_=>none
end
def nZ (P:Program) (o:Oper) (ev:dP) (b:Builtin) (argTypes:Array TypeId) (args:List aa) (H:ai):aL:=
 match b,args with
 | .len,[v]=>match Cp P argTypes[0]? v H with |some r=> .ok r H|none=>match Jh P argTypes[0]? v with |some r=> .ok r H|none=>ag H (gen P o ev)
 | .cap,[v]=>match Ji P argTypes[0]? v with |some r=> .ok r H|none=>ag H (gen P o ev)
 | .append,[s,x]=>match argTypes.toList with
   |[t,t']=>match P.underlying t' with
    |some (.slice _)=>eS (dT P t s x H)
    |some .string=>eS (dT P t s x H)
    |_=> .no
   |_=> .no
 | .copy,[d,x]=>match argTypes.toList with |[t,_]=>eS (wx P t d x H)|_=> .no
 | .clear,[.slice i off (len+1) _]=>match argTypes.toList with |[t]=>eS (zX P t i off (len+1) H)|_=> .no
 | .clear,[.slice _ _ 0 _]=>match argTypes.toList with
   |[t]=>match P.underlying t with |some (.slice _)=> .ok (.raw (.tuple #[])) H|_=> .no
   |_=> .no
 | .unsafeString,[p,n]=>match argTypes.toList with |[pt,_]=>eS (vI P pt p n H)|_=> .no
 | .unsafeSliceData,[.slice i off len _]=> @Bool.rec (fun _=>aL) .no (.ok (.ptr i off) H) (Nat.ble 1 len)
 | .unsafeSliceData,[.bR e t i k len _]=> @Bool.rec (fun _=>aL) .no (.ok (.dL e t i k 0) H) (Nat.ble 1 len)
 |_,_=>ag H (gen P o ev)
def fj (c:Call):fH:=fun P o ev H=>
 match c.callee with
 | .value f=>mj P (ev f) (c.args.toList.map ev) H
 | .builtin b=>nZ P o ev b c.argTypes (c.args.toList.map ev) H
 | .invoke _ _=> .no
def e9:Op->fH:=
 @Op.rec (fun _=>fH) m7 m7 nX tI oU Ce z1 oW nY qp (fun _=>oR) (fun _=>oR) qi iZ (fun _ _ _=>vH) zZ (fun _ _=>oR) Ch Ci z6 (fun _ _=>oR) tJ
   oT qj ql nt mm Ck oW (fun _ _ _=>oR) (fun _ _ _ _=>oR) tL z7 Co (fun _ _ _ _=>vH) qm fj (fun _=>oR) (fun _=>oR) (fun _=>oR) (fun _ _=>oR) (fun _ _ _=>oR) (fun _ _=>oR)
--EV
def cl (T:au aa):dP:=fun x=>
 @Operand.rec (fun _=>aa) (fun t=> @Option.rec aa (fun _=>aa) (.raw undef) (fun v=>v) (T.get t)) (fun v=> .raw v) (fun g=> @Bool.rec (fun _=>aa) (.raw (.pointer (some ⟨g,0,none⟩))) (.ptr g 0) (Nat.ble (Nat.succ g) 64)) (fun f=> .raw (.func (.func f) #[] #[])) x
--VE
inductive R where
 |no
 |normal (T:au aa) (H:ai) (m:List Nat)
 |exit (id:Nat) (T:au aa) (H:ai) (m:List Nat)
 |goto (l:Nat) (T:au aa) (H:ai) (m:List Nat)
 |ret (T:au aa) (H:ai) (m:List Nat)
def iK (T:au aa) (n:Nat) (dst:Option Tmp) (v:aa):Option (au aa):=
 @Option.rec Tmp (fun _=>Option (au aa)) (some T) (fun d=> @Bool.rec (fun _=>Option (au aa)) none (some (T.set d (some v))) (Nat.ble (Nat.succ d) n)) dst
def xO (T:au aa) (ops:Array Oper) (g:Nat×Bool):Option Bool:=
 match(ops[g.1]?).bind (·.dst)with
 |some d=>match T.get d with |some (.raw (.bool b))=>some (b==g.2)|some .bot=>none|_=>some false
 |none=>none
def gL (T:au aa) (ops:Array Oper) (o:Oper):Option Bool:=
 @Option.rec (Nat×Bool) (fun _=>Option Bool) (some true) (fun g=>xO T ops g) o.guard
abbrev eC:=FuncId->List aa->ai->aL
abbrev jW:=Nat->List aa->ai->aL
def ja (P:Program) (call:eC) (round:jW) (o:Oper) (ev:dP) (H:ai):aL:=
 @aL.rec (fun _=>aL) .no (fun v H=> .ok v H) (fun f args H=>call f args H) (fun i args H=>round i args H) (e9 o.op P o ev H)
inductive eX where
 |no
 |mk (T:au aa) (H:ai)
def qq (k:au aa->ai->eX) (H:ai) (T:Option (au aa)):eX:= @Option.rec (au aa) (fun _=>eX) .no (fun T=>k T H) T
def tM (n:Nat) (dst:Option Tmp) (k:au aa->ai->eX) (T:au aa) (r:aL):eX:=
 @aL.rec (fun _=>eX) .no (fun v H=>qq k H (iK T n dst v)) (fun _ _ _=> .no) (fun _ _ _=> .no) r
section
variable (P:Program) (call:eC) (round:jW) (ops:Array Oper) (n:Nat)
def xP (o:Oper) (T:au aa) (H:ai) (k:au aa->ai->eX):eX:=
 @Option.rec Bool (fun _=>eX) .no (fun b=> @Bool.rec (fun _=>eX) (qq k H (iK T n o.dst (.raw undef))) (tM n o.dst k T (ja P call round o (cl T) H)) b) (gL T ops o)
def xQ (l:List Oper):au aa->ai->eX:=
 @List.rec Oper (fun _=>au aa->ai->eX) (fun T H=> .mk T H) (fun o _ ih T H=>xP P call round ops n o T H ih) l
end
abbrev gW:=Code->(n:Nat)->(aN:Bool)->au aa->ai->List Nat->R
def iter (body:au aa->ai->List Nat->R) (k:Nat):au aa->ai->List Nat->R:=
 @Nat.rec (fun _=>au aa->ai->List Nat->R) (fun _ _ _=> .no) (fun _ ih T H m=> @R.rec (fun _=>R) .no ih .exit .goto .ret (body T H m)) k
def xR (P:Program) (T:au aa) (H:ai):ResultVar->Option aa
 | .tmp t=>some ((T.get t).getD (.raw undef))
 | .cell a t=>match T.get a with
   |some (.ptr i off)=>match H.get i with
    |some (.cells _ cs _ _ _)=>oQ P t cs off
    |_=>none
   |_=>none
def lr (P:Program) (T:au aa) (H:ai):List ResultVar->Option (List aa)
 |[]=>some []
 |r::l=>(xR P T H r).bind fun v=>(lr P T H l).map fun vs=>v::vs
def jX (P:Program) (fn:Func) (T:au aa) (H:ai):aL:=
 match lr P T H fn.results.toList with
 |some [v]=> .ok v H
 |some vs=> .ok (.tuple vs) H
 |none=> .no
def dq (l:List aa):au aa->Nat->au aa:=
 @List.rec aa (fun _=>au aa->Nat->au aa) (fun T _=>T) (fun v _ ih T k=>ih (T.set k (some v)) (Nat.succ k)) l
def np:List Nat->ai->Option ai
 |[],H=>some H
 |i::m,H=>match H.get i with
  |some .deferred=>np m (H.drop i)
  |_=>none
def kj (P:Program) (fn:Func) (T:au aa) (H:ai) (m:List Nat):aL:=
 @Option.rec ai (fun _=>aL) .no (fun H=>jX P fn T H) (np m H)
def Jj (P:Program) (ih:gW) (args:List aa) (H:ai) (fn:Func) (c:Code):aL:=
 @Bool.rec (fun _=>aL) .no (@R.rec (fun _=>aL) .no (fun T H m=>kj P fn T H m) (fun _ _ _ _=> .no) (fun _ _ _ _=> .no) (fun T H m=>kj P fn T H m)
   (ih c fn.ntmps false (dq args .nil 0) H [])) (Nat.ble args.length fn.ntmps)
def nu (P:Program) (ih:gW):eC:=fun f args H=>
 @Option.rec Func (fun _=>aL) .no (fun fn=> @Option.rec Code (fun _=>aL) .no (fun c=>Jj P ih args H fn c) fn.body) (P.funcs[f]?)
def xS (T:au aa) (l:List (Tmp×aa)):au aa:=l.foldl (fun T p=>T.set p.1 (some p.2)) T
def tN (i:Nat):R->aL
 | .normal _ H _=>match H.get i with |some (.loop r)=> .ok (.raw (.bool true)) (H.set i (.loop {r with state:= .ready,pending:=none}))|_=> .no
 | .ret _ H _=>match H.get i with |some (.loop r)=> .ok (.raw (.bool false)) (H.set i (.loop {r with state:= .done,pending:=some .ret}))|_=> .no
 | .exit id _ H _=>match H.get i with |some (.loop r)=> .ok (.raw (.bool false)) (H.set i (.loop {r with state:= .done,pending:=some (.exit id)}))|_=> .no
 | .goto l _ H _=>match H.get i with |some (.loop r)=> .ok (.raw (.bool false)) (H.set i (.loop {r with state:= .done,pending:=some (.goto l)}))|_=> .no
 | .no=> .no
def tO (ih:gW):jW:=fun i args H=>
 match H.get i with
 |some (.loop r)=>
  match r.state with
  | .ready=>cond (Nat.beq args.length r.params.size&&r.params.toList.all fun t=>Nat.ble (t+1) r.size)
    (match ih r.assign r.size true (xS r.tmps (r.params.toList.zip args)) H []with
      | .normal T H []=>match H.get i with
        |some (.loop r')=>match r'.state with
         | .ready=>tN i (ih r.body r.size true T (H.set i (.loop {r' with state:= .busy})) [])
         |_=> .no
        |_=> .no
      |_=> .no) .no
  |_=> .no
 |_=> .no
def rounds:Nat:=4096
def Cq (ih:gW) (n:Nat) (T:au aa) (D:Nat) (m:List Nat):aL->R
 | .ok _ H3=>match H3.get (Nat.succ D)with
   |some (.loop r)=>match r.state with
    | .busy=> .no
    |_=>match r.pending with
     |none=> .normal T (H3.set (Nat.succ D) (.loop {r with state:= .exhausted})) (D::m)
     |some c=>ih c n false T (H3.set (Nat.succ D) (.loop {r with state:= .exhausted})) (D::m)
   |_=> .no
 |_=> .no
def rS (P:Program) (ih:gW) (f:Operand) (params:Array Tmp) (assign body:Code) (n:Nat) (T:au aa) (H:ai) (m:List Nat):R:=
 match mj P (cl T f) [.yield (Nat.succ H.next)] ((H.new .deferred).new (.loop {tmps:=T,size:=n,params,assign,body,state:= .ready,pending:=none}))with
 | .enter g args H2=>Cq ih n T H.next m (nu P ih g args H2)
 |_=> .no
abbrev Cr:=eC->jW->Array Oper->Nat->au aa->ai->eX
abbrev oY:=Bool->Cr
abbrev jv:=Program->oY->gW->(n:Nat)->(aN:Bool)->au aa->ai->List Nat->R
def z8 (m:List Nat) (r:eX):R:= @eX.rec (fun _=>R) .no (fun T H=> .normal T H m) r
def Rd:jv:=fun _ _ _ _ _ T H m=> .normal T H m
def ZB (_id:Nat) (ops:Array Oper) (d:Bool):jv:=fun P draw ih n _ T H m=>
 z8 m (draw d (nu P ih) (tO ih) ops n T H)
def ZC (a b:Code) (_ _:jv):jv:=fun _ _ ih n aN T H m=> @R.rec (fun _=>R) .no (fun T H m=>ih b n aN T H m) .exit .goto .ret (ih a n aN T H m)
def ZD (c:Operand) (x y:Code) (_ _:jv):jv:=fun _ _ ih n aN T H m=>
 @nr.rec (fun _=>R) .no (fun b=> @Bool.rec (fun _=>R) (ih y n aN T H m) (ih x n aN T H m) b) (gK (cl T c))
def ZE (id:Nat) (b:Code) (_:jv):jv:=fun _ _ ih n aN T H m=>
 @R.rec (fun _=>R) .no .normal (fun i T H m=> @Bool.rec (fun _=>R) (.exit i T H m) (.normal T H m) (Nat.beq i id)) .goto .ret (ih b n aN T H m)
def Qu (b:Code) (_:jv):jv:=fun _ _ ih n aN T H m=>iter (ih b n aN) rounds T H m
def ZF (f:Operand) (params:Array Tmp) (assign body:Code) (_ _:jv):jv:=fun P _ ih n aN T H m=>
 @Bool.rec (fun _=>R) (rS P ih f params assign body n T H m) .no aN
def ZG (id:Nat):jv:=fun _ _ _ _ _ T H m=> .exit id T H m
def ZH (b:Code) (_:jv):jv:=fun _ _ ih n aN T H m=> @R.rec (fun _=>R) .no .normal .exit (fun _ _ _ _=> .no) .ret (ih b n aN T H m)
def ZI (l:Nat):jv:=fun _ _ _ _ _ T H m=> .goto l T H m
def ZJ:jv:=fun _ _ _ _ _ T H m=> .ret T H m
def ZK:jv:=fun _ _ _ _ _ _ _ _=> .no
def Aa:Code->jv:=
 @Code.rec (fun _=>jv) Rd ZB ZC ZD ZE Qu ZF ZG ZH (fun _=>Rd) ZI ZJ (fun _=>ZK)
def vJ (S:eC) (call:eC):eC:=fun f args H=> @aL.rec (fun _=>aL) (call f args H) (fun v H=> .ok v H) .enter .round (S f args H)
def qs (P:Program) (draw:oY) (fuel:Nat):gW:=
 @Nat.rec (fun _=>gW) (fun _ _ _ _ _ _=> .no) (fun _ ih c=>Aa c P draw ih) fuel
end
section
open Go.RowKit
def nq:List Bool->Nat
 |[]=>0
 |true::l=>2*nq l+1
 |false::l=>2*nq l+2
def E0:∀(f i:Nat),i<f->nq (tz f i)=i
 |0,i,h=>by omega
 |f+1,i,h=>by
  have e:tz (f+1) i= @Bool.rec (fun _=>List Bool) (@Bool.rec (fun _=>List Bool) (false::tz f (Nat.sub (Nat.div i 2) 1)) (true::tz f (Nat.div i 2)) (Nat.beq (Nat.mod i 2) 1)) [] (Nat.beq i 0):=rfl;rw [e];cases h0:Nat.beq i 0 with
  |true=>simpa [nq]using(ac h0).symm
  |false=>
   have hi:i≠0:=Nat.ne_of_beq_eq_false h0;have d1:Nat.div i 2=i/2:=rfl;have m1:Nat.mod i 2=i%2:=rfl;cases h1:Nat.beq (Nat.mod i 2) 1 with
   |true=>
    have:=ac h1;show 2*nq (tz f (Nat.div i 2))+1=i;rw [E0 f _ (by rw [d1];omega),d1];omega
   |false=>
    have:=Nat.ne_of_beq_eq_false h1;show 2*nq (tz f (Nat.sub (Nat.div i 2) 1))+2=i;have e2:Nat.sub (Nat.div i 2) 1=i/2-1:=rfl;rw [e2,E0 f _ ω];omega
def ZL {i j:Nat} (h:bits i=bits j):i=j:=by
 have:=congrArg nq h;rwa [bits,bits,E0 _ _ (fG i),E0 _ _ (fG j)]at this
def au.xT {α:Type} (p:List Bool):au.oP p (au.nil:au α)=none:=by cases p<;>rfl
def au.Jk {α:Type} (x:Option α):∀(p q:List Bool) (t:au α),au.oP q (au.xG x p t)=if p=q then x else au.oP q t
 |[],[], .nil=>rfl
 |[],[], .node l v r=>rfl
 |[],c::q, .nil=>by
  have:au.oP (c::q) (au.xG x [] (au.nil:au α))=none:=by
   show @Bool.rec (fun _=>Option α) (au.oP q .nil) (au.oP q .nil) c=none
   cases c<;>simp [au.xT]
  simp [this,au.xT]
 |[],c::q, .node l v r=>by simp;rfl
 |b::p,[], .nil=>by
  simp only [List.cons_ne_nil,if_false,au.xT];cases b<;>rfl
 |b::p,[], .node l v r=>by simp only [List.cons_ne_nil,if_false];cases b<;>rfl
 |b::p,c::q, .nil=>by
  have e:au.oP (c::q) (au.xG x (b::p) (au.nil:au α))=if b=c then au.oP q (au.xG x p .nil)else none:=by
   cases b<;>cases c<;>first |rfl |exact au.xT q
  rw [e,au.Jk x p q .nil,au.xT,au.xT];by_cases h:b=c<;>simp [h]
 |b::p,c::q, .node l v r=>by
  have e:au.oP (c::q) (au.xG x (b::p) (au.node l v r))=if b=c then au.oP q (au.xG x p (cond b l r))else au.oP (c::q) (au.node l v r):=by
   cases b<;>cases c<;>rfl
  rw [e];by_cases h:b=c
  .subst h;rw [if_pos rfl,au.Jk x p q];cases b<;>by_cases hp:p=q<;>simp [hp]<;>rfl
  .simp [h]
def au.gj {α:Type} (t:au α) (i j:Nat) (x:Option α):(t.set i x).get j=if i=j then x else t.get j:=by
 unfold au.get au.set;rw [au.Jk];by_cases h:i=j
 .subst h;simp
 .rw [if_neg (fun e=>h (ZL e)),if_neg h]
def au.get_nil {α:Type} (i:Nat):(au.nil:au α).get i=none:=au.xT _
def Ab {α:Type}:∀(l:List α) (i:Nat),nth l i=l[i]?
 |[],i=>by cases i<;>rfl
 |a::l,0=>rfl
 |a::l,i+1=>by
  show @Bool.rec (fun _=>Option α) (nth l (Nat.sub (i+1) 1)) (some a) (Nat.beq (i+1) 0)=_
  have:Nat.beq (i+1) 0=false:=rfl;rw [this];have e:Nat.sub (i+1) 1=i:=rfl;rw [e,Ab l i];rfl
def Jl (v:aa):∀(cs:List aa) (off:Nat),I1 v cs off=if off<cs.length then some (cs.set off v)else none
 |[],off=>by simp;rfl
 |a::l,0=>by simp;rfl
 |a::l,i+1=>by
  show @Option.rec (List aa) (fun _=>Option (List aa)) none (fun r=>some (a::r)) (I1 v l i)=_
  rw [Jl v l i];by_cases h:i<l.length<;>simp [h]
def m8 {α:Type} (cs:List α) (off:Nat) (v:α) (h:off<cs.length):cs.set off v=cs.take off++[v]++cs.drop (off+1):=by
 rw [List.set_eq_take_append_cons_drop,if_pos h];simp
def Cs {cs vs r:List aa} {off:Nat} (h:lj cs off vs=some r):off+vs.length<=cs.length/\r=cs.take off++vs++cs.drop (off+vs.length):=by
 unfold lj at h;split at h
 .rw [Jl]at h;split at h
  .rename_i hl;injection h with h
   refine⟨by simp;omega, ?_⟩;rw [<-h,m8 _ _ _ hl];rfl
  .cases h
 .cases hb:Nat.ble (off+vs.length) cs.length with
  |false=>rw [hb]at h;cases h
  |true=>
   rw [hb]at h;injection h with h
   exact⟨bT hb,h.symm⟩
structure Env where
 at':Nat->Option (Nat×Nat)
 fz:Nat->Option (Array Value)
instance:CoeFun Env (fun _=>Nat->Option (Nat×Nat)):=⟨Env.at'⟩
def Ac (cap:aX) (c k:Nat):Prop:=match cap with
 | .known n=>k=n
 | .full=>k=c
 | .any=>True
mutual
inductive Den (ρ:Env):aa->Value->Prop
 |raw (v:Value):Den ρ (.raw v) v
 |ptr {i off b c:Nat} (h:ρ i=some (b,c)):Den ρ (.ptr i off) (.pointer (some ⟨b,off,none⟩))
 |slice {i off len b c k:Nat} {cap:aX} (h:ρ i=some (b,c)) (hc:Ac cap c k) (hl:len<=k):Den ρ (.slice i off len cap) (.slice (some ⟨b,off,none⟩) len k)
 |func {fn:Fn} {fs cs:List aa} {xs ys:List Value} (hf:aG ρ fs xs) (hc:aG ρ cs ys):Den ρ (.func fn fs cs) (.func fn xs.toArray ys.toArray)
 |yield {i b c:Nat} (h:ρ i=some (b,c)):Den ρ (.yield i) (.func (.yield b) #[] #[])
 |map {i b c:Nat} (h:ρ i=some (b,c)):Den ρ (.map i) (.map (some b))
 |iface {t:TypeId} {v:aa} {x:Value} (h:Den ρ v x):Den ρ (.iface t v) (.iface t x)
 |agg {cs:List aa} {xs:List Value} (h:aG ρ cs xs):Den ρ (.agg cs) (.agg xs.toArray)
 |tuple {cs:List aa} {xs:List Value} (h:aG ρ cs xs):Den ρ (.tuple cs) (.tuple xs.toArray)
 |bn {z:Bool} {t:av} {xs:List t.den} {b off k:Nat} {A:Array Value} {ys:List Value} (h:ρ.fz b=some A) (ho:off+(t.flat xs).length<=A.size) (hy:(A.toList.drop off).take (t.flat xs).length=ys) (hd:aG ρ (t.flat xs) ys) (hk:xs.length<=k) (hz:z=true->xs≠[]):Den ρ (.bn z t xs) (.slice (some ⟨b,off,none⟩) xs.length k)
 |fc {z:Bool} {t:av} {a:Option Addr} {k:Nat} (hz:z=true->a=none/\k=0):Den ρ (.bn z t []) (.slice a 0 k)
 |fy {t:av} {xs:List t.den} {k off b o:Nat} {A:Array Value} {ys:List Value} (h:ρ.fz b=some A) (ho:o+(t.flat xs).length<=A.size) (hy:(A.toList.drop o).take (t.flat xs).length=ys) (hd:aG ρ (t.flat xs) ys) (hk:k<xs.length):Den ρ (.fy t xs k off) (.pointer (some ⟨b,o+(k*t.size+off),none⟩))
 |bR {e:TypeId} {t:av} {i k len b c kc:Nat} {cap:aX} (h:ρ i=some (b,c)) (hc:Ac cap c kc) (hl:len<=kc):Den ρ (.bR e t i k len cap) (.slice (some ⟨b,k*t.size,none⟩) len kc)
 |qt {e:TypeId} {t:av} {i k:Nat} {cap:aX} {a:Option Addr}:Den ρ (.bR e t i k 0 cap) (.slice a 0 0)
 |dL {e:TypeId} {t:av} {i k off b c:Nat} (h:ρ i=some (b,c)):Den ρ (.dL e t i k off) (.pointer (some ⟨b,k*t.size+off,none⟩))
 |bot (x:Value):Den ρ .bot x
inductive aG (ρ:Env):List aa->List Value->Prop
 |nil:aG ρ [] []
 |cons {v:aa} {x:Value} {vs:List aa} {xs:List Value} (h:Den ρ v x) (hs:aG ρ vs xs):aG ρ (v::vs) (x::xs)
end
structure cB (ρ ρ':Env):Prop where
 at':∀i x,ρ i=some x->ρ' i=some x
 fz:∀b A,ρ.fz b=some A->ρ'.fz b=some A
instance {ρ ρ':Env}:CoeFun (cB ρ ρ') (fun _=>∀i x,ρ i=some x->ρ' i=some x):=⟨cB.at'⟩
def cB.refl (ρ:Env):cB ρ ρ:=⟨fun _ _ h=>h,fun _ _ h=>h⟩
def cB.trans {a b c:Env} (h:cB a b) (k:cB b c):cB a c:=⟨fun i x hx=>k i x (h i x hx),fun i x hx=>k.fz i x (h.fz i x hx)⟩
mutual
def Den.mono {ρ ρ':Env} (hl:cB ρ ρ'):∀{v:aa} {x:Value},Den ρ v x->Den ρ' v x
 |_,_, .raw v=> .raw v
 |_,_, .ptr h=> .ptr (hl _ _ h)
 |_,_, .slice h hc hk=> .slice (hl _ _ h) hc hk
 |_,_, .func hf hc=> .func (aG.mono hl hf) (aG.mono hl hc)
 |_,_, .yield h=> .yield (hl _ _ h)
 |_,_, .map h=> .map (hl _ _ h)
 |_,_, .iface h=> .iface (Den.mono hl h)
 |_,_, .agg h=> .agg (aG.mono hl h)
 |_,_, .tuple h=> .tuple (aG.mono hl h)
 |_,_, .bn h ho hy hd hk hz=> .bn (hl.fz _ _ h) ho hy (aG.mono hl hd) hk hz
 |_,_, .fc hz=> .fc hz
 |_,_, .fy h ho hy hd hk=> .fy (hl.fz _ _ h) ho hy (aG.mono hl hd) hk
 |_,_, .bR h hc hk=> .bR (hl _ _ h) hc hk
 |_,_, .qt=> .qt
 |_,_, .dL h=> .dL (hl _ _ h)
 |_,_, .bot x=> .bot x
def aG.mono {ρ ρ':Env} (hl:cB ρ ρ'):∀{v:List aa} {x:List Value},aG ρ v x->aG ρ' v x
 |_,_, .nil=> .nil
 |_,_, .cons h hs=> .cons (Den.mono hl h) (aG.mono hl hs)
end
section
variable {ρ:Env}
def aG.length:∀{vs:List aa} {xs:List Value},aG ρ vs xs->xs.length=vs.length
 |_,_, .nil=>rfl
 |_,_, .cons _ hs=>by simp [aG.length hs]
def aG.append:∀{vs ws:List aa} {xs ys:List Value},aG ρ vs xs->aG ρ ws ys->aG ρ (vs++ws) (xs++ys)
 |_,_,_,_, .nil,h=>h
 |_,_,_,_, .cons h hs,k=> .cons h (aG.append hs k)
def aG.take:∀{vs:List aa} {xs:List Value} (n:Nat),aG ρ vs xs->aG ρ (vs.take n) (xs.take n)
 |_,_,0,h=>by simpa using aG.nil
 |_,_,n+1, .nil=>by simpa using aG.nil
 |_,_,n+1, .cons h hs=> .cons h (aG.take n hs)
def aG.drop:∀{vs:List aa} {xs:List Value} (n:Nat),aG ρ vs xs->aG ρ (vs.drop n) (xs.drop n)
 |_,_,0,h=>by simpa using h
 |_,_,n+1, .nil=>by simpa using aG.nil
 |_,_,n+1, .cons h hs=>by simpa using aG.drop n hs
def aG.get:∀{vs:List aa} {xs:List Value} {i:Nat} {v:aa},aG ρ vs xs->vs[i]? =some v->∃x,xs[i]? =some x/\Den ρ v x
 |_,_,i,v, .nil,h=>by simp at h
 |_,_,0,v, .cons h hs,k=>by simp at k;subst k;exact⟨_,by simp,h⟩
 |_,_,i+1,v, .cons h hs,k=>by simpa using aG.get hs (by simpa using k)
def aG.rT:∀(l:List Value),aG ρ (l.map .raw) l
 |[]=> .nil
 |x::l=> .cons (.raw x) (aG.rT l)
def aG.Qv:∀{vs:List aa} {xs:List Value},xs.length=vs.length->(∀(i:Nat) (v:aa) (x:Value),vs[i]? =some v->xs[i]? =some x->Den ρ v x)->aG ρ vs xs
 |[],[],_,_=> .nil
 |[],_::_,h,_=>by simp at h
 |_::_,[],h,_=>by simp at h
 |v::vs,x::xs,h,k=> .cons (k 0 v x τ τ) (aG.Qv (by simpa using h) fun i v x hv hx=>k (i+1) v x (by simpa using hv) (by simpa using hx))
mutual
def Den.gV:∀{v:aa} {x w:Value},Den ρ v x->v.gV=some w->x=w
 |_,_,w, .raw v,h=>by simp [aa.gV]at h;exact h
 |_,_,w, .ptr _,h=>by simp [aa.gV]at h
 |_,_,w, .slice _ _ _,h=>by simp [aa.gV]at h
 |_,_,w, .func hf hc,h=>by
  simp only [aa.gV,dO,am]at h;obtain⟨l,hl,k,hk,rfl⟩:=h;rw [aG.kM hf hl,aG.kM hc hk]
 |_,_,w, .yield _,h=>by simp [aa.gV]at h
 |_,_,w, .map _,h=>by simp [aa.gV]at h
 |_,_,w, .iface hv,h=>by
  simp only [aa.gV,am]at h;obtain⟨l,hl,rfl⟩:=h;rw [Den.gV hv hl]
 |_,_,w, .agg hv,h=>by
  simp only [aa.gV,am]at h;obtain⟨l,hl,rfl⟩:=h;rw [aG.kM hv hl]
 |_,_,w, .tuple hv,h=>by
  simp only [aa.gV,am]at h;obtain⟨l,hl,rfl⟩:=h;rw [aG.kM hv hl]
 |_,_,w, .bn _ _ _ _ _ _,h=>by simp [aa.gV]at h
 |_,_,w, .fc _,h=>by simp [aa.gV]at h
 |_,_,w, .fy _ _ _ _ _,h=>by simp [aa.gV]at h
 |_,_,w, .bR _ _ _,h=>by simp [aa.gV]at h
 |_,_,w, .qt,h=>by simp [aa.gV]at h
 |_,_,w, .dL _,h=>by simp [aa.gV]at h
 |_,_,w, .bot _,h=>by simp [aa.gV]at h
def aG.kM:∀{v:List aa} {x w:List Value},aG ρ v x->aa.kM v=some w->x=w
 |_,_,w, .nil,h=>by simp [aa.kM]at h;exact h.symm
 |_,_,w, .cons hv hs,h=>by
  simp only [aa.kM,dO,am]at h;obtain⟨l,hl,k,hk,rfl⟩:=h;rw [Den.gV hv hl,aG.kM hs hk]
end
def Den.fA {v:aa} {x w:Value} (h:Den ρ v x) (k:v.fA=some w):x=w:=by
 unfold aa.fA at k;split at k
 .cases h;injection k
 .exact h.gV k
def Den.cg {v x:Value} (h:Den ρ (.raw v) x):x=v:=by cases h;rfl
def Den.kN {i off:Nat} {x:Value} (h:Den ρ (.ptr i off) x):∃b c,ρ i=some (b,c)/\x= .pointer (some ⟨b,off,none⟩):=by cases h;exact⟨_,_, ‹_›,rfl⟩
def Den.ig {i off len:Nat} {cap:aX} {x:Value} (h:Den ρ (.slice i off len cap) x):∃b c k,ρ i=some (b,c)/\Ac cap c k/\len<=k/\x= .slice (some ⟨b,off,none⟩) len k:=by cases h;exact⟨_,_,_, ‹_›, ‹_›, ‹_›,rfl⟩
def Den.Ct {fn:Fn} {fs cs:List aa} {x:Value} (h:Den ρ (.func fn fs cs) x):∃xs ys:List Value,aG ρ fs xs/\aG ρ cs ys/\x= .func fn xs.toArray ys.toArray:=by cases h;exact⟨_,_, ‹_›, ‹_›,rfl⟩
def Den.Jm {i:Nat} {x:Value} (h:Den ρ (.yield i) x):∃b c,ρ i=some (b,c)/\x= .func (.yield b) #[] #[]:=by cases h;exact⟨_,_, ‹_›,rfl⟩
def Den.vK {i:Nat} {x:Value} (h:Den ρ (.map i) x):∃b c,ρ i=some (b,c)/\x= .map (some b):=by cases h;exact⟨_,_, ‹_›,rfl⟩
def Den.Qw {t:TypeId} {v:aa} {x:Value} (h:Den ρ (.iface t v) x):∃y,Den ρ v y/\x= .iface t y:=by cases h;exact⟨_, ‹_›,rfl⟩
def Den.tP {cs:List aa} {x:Value} (h:Den ρ (.agg cs) x):∃xs:List Value,aG ρ cs xs/\x= .agg xs.toArray:=by cases h;exact⟨_, ‹_›,rfl⟩
def Den.Cu {cs:List aa} {x:Value} (h:Den ρ (.tuple cs) x):∃xs:List Value,aG ρ cs xs/\x= .tuple xs.toArray:=by cases h;exact⟨_, ‹_›,rfl⟩
def Den.cells {v:aa} {x:Value} (h:Den ρ v x) (hb:v.vD=false):aG ρ v.cells x.cells.toList:=by
 cases h with
 |bot=>cases hb
 |bn h ho hy hd hk hz=>exact .cons (.bn h ho hy hd hk hz) .nil
 |fc hz=>exact .cons (.fc hz) .nil
 |fy h ho hy hd hk=>exact .cons (.fy h ho hy hd hk) .nil
 |bR h hc hk=>exact .cons (.bR h hc hk) .nil
 |qt=>exact .cons .qt .nil
 |dL h=>exact .cons (.dL h) .nil
 |raw=>
  cases x with
  |agg cs=>simpa [aa.cells,Value.cells,ic]using aG.rT cs.toList
  |_=>exact .cons (.raw _) .nil
 |agg h=>simpa [aa.cells,Value.cells]using h
 |ptr h=>exact .cons (.ptr h) .nil
 |slice h hc hl=>exact .cons (.slice h hc hl) .nil
 |func h k=>exact .cons (.func h k) .nil
 |yield h=>exact .cons (.yield h) .nil
 |map h=>exact .cons (.map h) .nil
 |iface h=>exact .cons (.iface h) .nil
 |tuple h=>exact .cons (.tuple h) .nil
def Den.one {v:aa} {x:Value} (h:Den ρ v x) (k:v.one=true):x.oneCell'=true:=by
 cases h with
 |raw=>cases x<;>first |rfl |(simp [aa.one]at k)
 |agg h=>simp [aa.one]at k
 |tuple h=>simp [aa.one]at k
 |yield h=>simp [aa.one]at k
 |bot=>simp [aa.one]at k
 |_=>rfl
def lw {v:aa} {l:List aa} (h:eW (v::l)=true):v.one=true/\eW l=true:=by
 cases ha:v.one with
 |false=>simp [eW,ha]at h
 |true=>simpa [eW,ha]using h
def aG.one:∀{vs:List aa} {xs:List Value},aG ρ vs xs->eW vs=true->∀x∈xs,x.oneCell'=true
 |_,_, .nil,_,x,h=>by simp at h
 |_,_, .cons hv hs,k,x,hx=>by
  obtain⟨k1,k2⟩:=lw k;rcases en.1 hx with rfl |hx
  .exact hv.one k1
  .exact aG.one hs k2 x hx
end
structure jY (ρ:Env) (T:au aa) (n:Nat) (tmps:Array Value):Prop where
 size:tmps.size=n
 get:∀t,Den ρ ((T.get t).getD (.raw undef)) (tmps.getD t undef)
def jY.mono {ρ ρ':Env} (hl:cB ρ ρ') {T:au aa} {n:Nat} {tmps:Array Value} (h:jY ρ T n tmps):jY ρ' T n tmps:=
 ⟨h.size,fun t=>(h.get t).mono hl⟩
structure Jn (ρ:Env) (r:Ca) (R:Loop):Prop where
 state:R.state=r.state
 pending:R.pending=r.pending
 params:R.params=r.params
 assign:R.assign=r.assign
 body:R.body=r.body
 tmps:jY ρ r.tmps r.size R.tmps
def xU (P:Program) (ρ:Env) (i:Nat) (e:TypeId) (cs:List aa) (exact cD:Bool) (o:Obj):Prop:=
 ∃xs fz,o= .cells xs e fz/\(cD=false->fz=(0,0))/\aG ρ cs (xs.toList.take cs.length)/\(exact=true->xs.size=cs.length)/\
   (exact=false->∃b c,ρ i=some (b,c)/\xs.size=c*P.cellsOf e)
def gM (P:Program) (ρ:Env) (i:Nat):bl->Obj->Prop
 | .cells e cs exact cD _,o=>xU P ρ i e cs exact cD o
 | .own e t xs,o=>xU P ρ i e (t.flat xs) false false o/\P.cellsOf e=t.size/\1<=t.size
 | .map es clock,o=>o= .map es clock
 | .loop r,o=>∃R,o= .loop R/\Jn ρ r R
 | .deferred,o=>o= .deferred (some [])
 | .one kv v,o=>∃x,o= .map #[{key:=kv,val:=x,born:=0}] 1/\Den ρ v x
 | .iter i c d,o=>∃b q,ρ i=some (b,q)/\o= .mapIter (some b) c (match d with |true=> #[0]|false=> #[]) c
def xU.mono {P:Program} {ρ ρ':Env} (hl:cB ρ ρ') {i:Nat} {e:TypeId} {cs:List aa} {exact cD:Bool} {o:Obj} (h:xU P ρ i e cs exact cD o):xU P ρ' i e cs exact cD o:=by
  obtain⟨xs,fz,h1,h2,h3,h4,h5⟩:=h;exact⟨xs,fz,h1,h2,h3.mono hl,h4,fun hx=>let ⟨b,c,h6,h7⟩:=h5 hx;⟨b,c,hl _ _ h6,h7⟩⟩
def gM.mono {P:Program} {ρ ρ':Env} (hl:cB ρ ρ') {i:Nat} {k:bl} {o:Obj} (h:gM P ρ i k o):gM P ρ' i k o:=by
 cases k with
 |cells e cs exact cD ro=>exact xU.mono hl h
 |own e t xs=>exact⟨xU.mono hl h.1,h.2⟩
 |map es clock=>exact h
 |loop r=>
  obtain⟨R,h1,h2⟩:=h;exact⟨R,h1,h2.state,h2.pending,h2.params,h2.assign,h2.body,h2.tmps.mono hl⟩
 |deferred=>exact h
 |one kv v=>exact let ⟨x,h1,h2⟩:=h;⟨x,h1,h2.mono hl⟩
 |iter i c d=>exact let ⟨b,q,h1,h2⟩:=h;⟨b,q,hl _ _ h1,h2⟩
def bl.eT:bl->Bool
 | .cells _ _ _ _ ro=>ro
 |_=>false
structure aZ (P:Program) (B:Nat) (ρ:Env) (H:ai) (w:World):Prop where
 blk:∀i k,H.get i=some k->∃b c o,ρ i=some (b,c)/\w.heap[b]? =some o/\gM P ρ i k o/\(k.eT=false->B<=b)
 inj:∀i j eL eY b ci ck,H.get i=some eL->H.get j=some eY->ρ i=some (b,ci)->ρ j=some (b,ck)->i=j
 lt:∀i k,H.get i=some k->i<H.next
 base:B<=w.heap.size
 fz:∀b A,ρ.fz b=some A->(∃e fr,w.heap[b]? =some (.cells A e fr))/\∀i k c,H.get i=some k->ρ i=some (b,c)->k.eT=true
def oZ (ρ:Env) (H:ai) (b:Nat):Prop:=∃i k c,H.get i=some k/\ρ i=some (b,c)
def Own (ρ:Env) (H:ai) (b:Nat):Prop:=∃i k c,H.get i=some k/\k.eT=false/\ρ i=some (b,c)
def Own.mo {ρ:Env} {H:ai} {b:Nat} (h:Own ρ H b):oZ ρ H b:=let ⟨i,k,c,h1,_,h2⟩:=h;⟨i,k,c,h1,h2⟩
structure bQ (ρ:Env) (H:ai) (w:World) (ρ':Env) (H':ai) (w':World):Prop where
 le:cB ρ ρ'
 ext:∀i,i<H.next\/H'.next<=i->ρ' i=ρ i
 next:H.next<=H'.next
 size:w.heap.size<=w'.heap.size
 os:w'.os=w.os
 tape:w'.tape=w.tape
 output:w'.output=w.output
 frame:∀b,b<w.heap.size->¬Own ρ H b->w'.heap[b]? =w.heap[b]?
 own:∀b,b<w.heap.size->Own ρ' H' b->Own ρ H b
 mo:∀b,b<w.heap.size->oZ ρ' H' b->oZ ρ H b
 nv:∀b A,ρ'.fz b=some A->ρ.fz b=some A\/w.heap.size<=b\/Own ρ H b
def bQ.refl (ρ:Env) (H:ai) (w:World):bQ ρ H w ρ H w:=
 ⟨cB.refl _,fun _ _=>rfl,aI _,aI _,rfl,rfl,rfl,fun _ _ _=>rfl,fun _ _ h=>h,fun _ _ h=>h,fun _ _ h=> .inl h⟩
def bQ.trans {ρ cN eo:Env} {H H1 H2:ai} {w w1 w2:World} (h:bQ ρ H w cN H1 w1) (k:bQ cN H1 w1 eo H2 w2):bQ ρ H w eo H2 w2 where
 le:=h.le.trans k.le
 ext i hi:=by
  rcases hi with hi|hi
  .rw [k.ext i (.inl (Nat.lt_of_lt_of_le hi h.next)),h.ext i (.inl hi)]
  .rw [k.ext i (.inr hi),h.ext i (.inr (dh k.next hi))]
 next:=dh h.next k.next
 size:=dh h.size k.size
 os:=k.os.trans h.os
 tape:=k.tape.trans h.tape
 output:=k.output.trans h.output
 frame b hb ho:=by rw [k.frame b (Nat.lt_of_lt_of_le hb h.size) (fun hh=>ho (h.own b hb hh)),h.frame b hb ho]
 own b hb ho:=h.own b hb (k.own b (Nat.lt_of_lt_of_le hb h.size) ho)
 mo b hb ho:=h.mo b hb (k.mo b (Nat.lt_of_lt_of_le hb h.size) ho)
 nv b A hb:=by
  rcases k.nv b A hb with hb|hb
  .exact h.nv b A hb
  .rcases hb with hb|hb
   .exact .inr (.inl (dh h.size hb))
   .by_cases hl:b<w.heap.size
    .exact .inr (.inr (h.own b hl hb))
    .exact .inr (.inl ω)
def bQ.drew {ρ ρ':Env} {H H':ai} {w w':World} (h:bQ ρ H w.drew ρ' H' w'):bQ ρ H w ρ' H' w':=
 ⟨h.le,h.ext,h.next,h.size,h.os,h.tape,h.output,h.frame,h.own,h.mo,h.nv⟩
def aZ.drew {P:Program} {B:Nat} {ρ:Env} {H:ai} {w:World} (h:aZ P B ρ H w):aZ P B ρ H w.drew:=⟨h.blk,h.inj,h.lt,h.base,h.fz⟩
def bQ.below {P:Program} {B:Nat} {ρ ρ':Env} {H H':ai} {w w':World} (h:bQ ρ H w ρ' H' w') (hH:aZ P B ρ H w):Below B w w':=
 ⟨h.os,h.tape,h.output,h.size,fun k hk=>h.frame k (Nat.lt_of_lt_of_le hk hH.base) (fun⟨i,kk,c,h1,h2,h3⟩=>by
   obtain⟨b,c',o,e1,_,_,bV⟩:=hH.blk i kk h1;rw [h3]at e1;cases e1;exact absurd (bV h2) ω)⟩
def Fr (ρ:Env) (a b:Nat):Prop:=∀i,a<=i->i<b->ρ i=none
def aZ.at {P:Program} {B:Nat} {ρ:Env} {H:ai} {w:World} (h:aZ P B ρ H w) {i b c:Nat} {k:bl} (hi:H.get i=some k) (hr:ρ i=some (b,c)):
  ∃o,w.heap[b]? =some o/\gM P ρ i k o/\(k.eT=false->B<=b):=by
 obtain⟨b',c',o,e1,e2,e3,bV⟩:=h.blk i k hi;rw [hr]at e1;cases e1;exact⟨o,e2,e3,bV⟩
def ai.gj (H:ai) (i j:Nat) (b:bl):(H.set i b).get j=if i=j then some b else H.get j:=au.gj H.m i j (some b)
def ai.o4 (H:ai) (i j:Nat):(H.drop i).get j=if i=j then none else H.get j:=au.gj H.m i j none
def ai.gD (H:ai) (j:Nat) (b:bl):(H.new b).get j=if H.next=j then some b else H.get j:=au.gj H.m H.next j (some b)
def ai.ZM (H:ai) (i:Nat):(H.drop i).next=H.next:=rfl
def ai.Jo (H:ai) (b:bl):(H.new b).next=H.next+1:=rfl
def Env.put (ρ:Env) (i b c:Nat):Env:=⟨fun j=>if j=i then some (b,c)else ρ j,ρ.fz⟩
def Env.o5 {ρ:Env} {i b c:Nat} (h:ρ i=none):cB ρ (ρ.put i b c):=⟨fun j x hx=>by
 unfold Env.put;show(if j=i then some (b,c)else ρ j)=some x;split
 .rename_i e;subst e;rw [h]at hx;cases hx
 .exact hx,fun _ _ h=>h⟩
def Env.dA (ρ:Env) (i b c:Nat):ρ.put i b c i=some (b,c):=by simp [Env.put]
variable {P:Program} {B:Nat} {ρ:Env} {H:ai} {w:World}
section
variable (hH:aZ P B ρ H w)
def tQ (hf:Fr ρ H.next (H.next+1)) (c:Nat) (k:bl) (o:Obj) (hk:gM P (ρ.put H.next w.heap.size c) H.next k o):
  aZ P B (ρ.put H.next w.heap.size c) (H.new k) (w.alloc o)/\bQ ρ H w (ρ.put H.next w.heap.size c) (H.new k) (w.alloc o):=by
 have hn:ρ H.next=none:=hf H.next (aI _) (fG _);have hle:cB ρ (ρ.put H.next w.heap.size c):=Env.o5 hn;have hne:∀i k,H.get i=some k->i≠H.next:=fun i k hi=>Nat.ne_of_lt (hH.lt i k hi)
 have hlt:∀i k b c',H.get i=some k->ρ i=some (b,c')->b<w.heap.size:=fun i k b c' hi hr=>by
  obtain⟨o,e,_⟩:=hH.at hi hr;exact(dJ.1 e).1
 have hput:∀i,i≠H.next->ρ.put H.next w.heap.size c i=ρ i:=fun i hi=>by simp [Env.put,hi]
 have hfz:∀b A,(ρ.put H.next w.heap.size c).fz b=some A->(∃e fr,(w.alloc o).heap[b]? =some (.cells A e fr))/\∀i k' c',(H.new k).get i=some k'->ρ.put H.next w.heap.size c i=some (b,c')->k'.eT=true:=fun b A hb=>by
  obtain⟨⟨e,fr,h1⟩,h2⟩:=hH.fz b A hb;have hlt':b<w.heap.size:=(dJ.1 h1).1;refine⟨⟨e,fr,(Below.heap_alloc w o b hlt').trans h1⟩,fun i k' c' hi hr=> ?_⟩;rw [ai.gD]at hi;split at hi
  .rename_i e;subst e;rw [Env.dA]at hr;cases hr;omega
  .rename_i e;rw [hput i (fun x=>e x.symm)]at hr;exact h2 i k' c' hi hr
 refine⟨⟨fun i k' hi=> ?_,fun i j eL eY b ci ck hi hj jw fI=> ?_,fun i k' hi=> ?_,by simp;exact Nat.le_succ_of_le hH.base,hfz⟩,⟨hle,fun i hi=> ?_,Nat.le_succ _,by simp,rfl,rfl,rfl,fun b hb _=> ?_,fun b hb ho=> ?_,fun b hb ho=> ?_,fun _ _ h=> .inl h⟩⟩
 .rw [ai.gD]at hi;split at hi
  .rename_i e;subst e;cases hi;exact⟨w.heap.size,c,o,Env.dA ..,heap_alloc_new w o,hk,fun _=>hH.base⟩
  .obtain⟨b,c',o',e1,e2,e3,bV⟩:=hH.blk i k' hi;exact⟨b,c',o',hle _ _ e1,(Below.heap_alloc w o b (dJ.1 e2).1).trans e2,e3.mono hle,bV⟩
 .rw [ai.gD]at hi hj;split at hi<;>split at hj
  .omega
  .rename_i e1 e2;subst e1;rw [Env.dA]at jw;cases jw;rw [hput j (fun e=>e2 e.symm)]at fI;exact absurd (hlt j eY _ _ hj fI) (Nat.lt_irrefl _)
  .rename_i e2 e1;subst e1;rw [Env.dA]at fI;cases fI;rw [hput i (fun e=>e2 e.symm)]at jw;exact absurd (hlt i eL _ _ hi jw) (Nat.lt_irrefl _)
  .rename_i e1 e2;rw [hput i (fun e=>e1 e.symm)]at jw;rw [hput j (fun e=>e2 e.symm)]at fI;exact hH.inj i j eL eY b ci ck hi hj jw fI
 .rw [ai.gD]at hi;split at hi
  .rename_i e;subst e;exact fG _
  .exact Nat.lt_succ_of_lt (hH.lt i k' hi)
 .rw [ai.Jo]at hi;exact hput i ω
 .exact Below.heap_alloc w o b hb
 .obtain⟨i,k',c',h1,h2,h3⟩:=ho;rw [ai.gD]at h1;split at h1
  .rename_i e;subst e;rw [Env.dA]at h3;cases h3;exact absurd hb (Nat.lt_irrefl _)
  .rename_i e;rw [hput i (fun e'=>e e'.symm)]at h3;exact⟨i,k',c',h1,h2,h3⟩
 .obtain⟨i,k',c',h1,h3⟩:=ho;rw [ai.gD]at h1;split at h1
  .rename_i e;subst e;rw [Env.dA]at h3;cases h3;exact absurd hb (Nat.lt_irrefl _)
  .rename_i e;rw [hput i (fun e'=>e e'.symm)]at h3;exact⟨i,k',c',h1,h3⟩
def vL {i b c:Nat} {k0 k:bl} (hi:H.get i=some k0) (hr:ρ i=some (b,c)) (hro:k0.eT=false) (w':World) (o:Obj)
  (hos:w'.os=w.os) (ht:w'.tape=w.tape) (hout:w'.output=w.output) (hs:w'.heap.size=w.heap.size) (hb:w'.heap[b]? =some o) (mq:∀j,j≠b->w'.heap[j]? =w.heap[j]?) (hk:gM P ρ i k o):
  aZ P B ρ (H.set i k) w'/\bQ ρ H w ρ (H.set i k) w':=by
 have hown:Own ρ H b:=⟨i,k0,c,hi,hro,hr⟩;have hfz:∀b' A,ρ.fz b'=some A->(∃e fr,w'.heap[b']? =some (.cells A e fr))/\∀j k' c',(H.set i k).get j=some k'->ρ j=some (b',c')->k'.eT=true:=fun b' A hb'=>by
  obtain⟨⟨e,fr,h1⟩,h2⟩:=hH.fz b' A hb';have hne:b'≠b:=fun e=>by
   have:=h2 i k0 c hi (e ▸ hr);rw [hro]at this;cases this
  refine⟨⟨e,fr,(mq b' hne).trans h1⟩,fun j k' c' hj hr'=> ?_⟩;rw [ai.gj]at hj;split at hj
  .rename_i e;subst e;rw [hr]at hr';cases hr';exact absurd rfl hne
  .exact h2 j k' c' hj hr'
 refine⟨⟨fun j k' hj=> ?_,fun j l eY kl b' ck eD hj hl fI rl=> ?_,fun j k' hj=> ?_,by rw [hs];exact hH.base,hfz⟩,⟨cB.refl _,fun _ _=>rfl,aI _,Nat.le_of_eq hs.symm,hos,ht,hout,fun b' _ ho=>mq b' (fun e=>ho (e ▸ hown)),fun b' _ ho=> ?_,fun b' _ ho=> ?_,fun _ _ h=> .inl h⟩⟩
 .rw [ai.gj]at hj;split at hj
  .rename_i e;subst e;cases hj;obtain⟨_,_,_,bV⟩:=hH.at hi hr;exact⟨b,c,o,hr,hb,hk,fun _=>bV hro⟩
  .rename_i e;obtain⟨b',c',o',e1,e2,e3,bV⟩:=hH.blk j k' hj;refine⟨b',c',o',e1, ?_,e3,bV⟩;rw [mq b' (fun e'=>e (hH.inj i j k0 k' b c c' hi hj hr (e' ▸ e1)))];exact e2
 .have g:∀x kx,(H.set i k).get x=some kx->∃ZN,H.get x=some ZN:=fun x kx hx=>by
   rw [ai.gj]at hx;split at hx
   .rename_i e;subst e;exact⟨k0,hi⟩
   .exact⟨kx,hx⟩
  obtain⟨_,hj'⟩:=g j eY hj;obtain⟨_,hl'⟩:=g l kl hl;exact hH.inj j l _ _ b' ck eD hj' hl' fI rl
 .rw [ai.gj]at hj;split at hj
  .rename_i e;subst e;exact hH.lt i k0 hi
  .exact hH.lt j k' hj
 .obtain⟨j,k',c',h1,h2,h3⟩:=ho;rw [ai.gj]at h1;split at h1
  .rename_i e;subst e;exact⟨i,k0,c',hi,hro,h3⟩
  .exact⟨j,k',c',h1,h2,h3⟩
 .obtain⟨j,k',c',h1,h3⟩:=ho;rw [ai.gj]at h1;split at h1
  .rename_i e;subst e;exact⟨i,k0,c',hi,h3⟩
  .exact⟨j,k',c',h1,h3⟩
def ZO {i b c:Nat} {k0:bl} (hi:H.get i=some k0) (hr:ρ i=some (b,c)) (hro:k0.eT=false) (w':World)
  (hos:w'.os=w.os) (ht:w'.tape=w.tape) (hout:w'.output=w.output) (hs:w'.heap.size=w.heap.size) (mq:∀j,j≠b->w'.heap[j]? =w.heap[j]?):
  aZ P B ρ (H.drop i) w'/\bQ ρ H w ρ (H.drop i) w':=by
 have hown:Own ρ H b:=⟨i,k0,c,hi,hro,hr⟩;have g:∀j k,(H.drop i).get j=some k->i≠j/\H.get j=some k:=fun j k hj=>by
  rw [ai.o4]at hj;split at hj
  .cases hj
  .rename_i h;exact⟨h,hj⟩
 refine⟨⟨fun j k' hj=> ?_,fun j l eY kl b' ck eD hj hl fI rl=>hH.inj j l _ _ b' ck eD (g j eY hj).2 (g l kl hl).2 fI rl,fun j k' hj=>hH.lt j k' (g j k' hj).2,by rw [hs];exact hH.base,fun b' A hb'=> ?_⟩,
  ⟨cB.refl _,fun _ _=>rfl,aI _,Nat.le_of_eq hs.symm,hos,ht,hout,fun b' _ ho=>mq b' (fun e=>ho (e ▸ hown)),fun b' _ ho=> ?_,fun b' _ ho=> ?_,fun _ _ h=> .inl h⟩⟩
 .obtain⟨b',c',o',e1,e2,e3,bV⟩:=hH.blk j k' (g j k' hj).2;refine⟨b',c',o',e1, ?_,e3,bV⟩;rw [mq b' (fun e'=>(g j k' hj).1 (hH.inj i j k0 k' b c c' hi (g j k' hj).2 hr (e' ▸ e1)))];exact e2
 .obtain⟨⟨e,fr,h1⟩,h2⟩:=hH.fz b' A hb';have hne:b'≠b:=fun e=>by
   have:=h2 i k0 c hi (e ▸ hr);rw [hro]at this;cases this
  exact⟨⟨e,fr,(mq b' hne).trans h1⟩,fun j k' c' hj hr'=>h2 j k' c' (g j k' hj).2 hr'⟩
 .obtain⟨j,k',c',h1,h2,h3⟩:=ho;exact⟨j,k',c',(g j k' h1).2,h2,h3⟩
 .obtain⟨j,k',c',h1,h3⟩:=ho;exact⟨j,k',c',(g j k' h1).2,h3⟩
def Qx (i:Nat):aZ P B ρ (H.drop i) w/\bQ ρ H w ρ (H.drop i) w:=by
 have g:∀j k,(H.drop i).get j=some k->H.get j=some k:=fun j k hj=>by
  rw [ai.o4]at hj;split at hj
  .cases hj
  .exact hj
 exact⟨⟨fun j k hj=>hH.blk j k (g j k hj),fun a b ka kb x ca cb ha hb=>hH.inj a b ka kb x ca cb (g a ka ha) (g b kb hb),fun j k hj=>hH.lt j k (g j k hj),hH.base,fun b A hb=>⟨(hH.fz b A hb).1,fun j k c hj hr=>(hH.fz b A hb).2 j k c (g j k hj) hr⟩⟩,
  ⟨cB.refl _,fun _ _=>rfl,aI _,aI _,rfl,rfl,rfl,fun _ _ _=>rfl,fun b _ ⟨j,k,c,h1,h2⟩=>⟨j,k,c,g j k h1,h2⟩,fun b _ ⟨j,k,c,h1,h2⟩=>⟨j,k,c,g j k h1,h2⟩,fun _ _ h=> .inl h⟩⟩
def ZP (hf:Fr ρ H.next (H.next+1)) {i b c:Nat} {k0 k:bl} (hi:H.get i=some k0) (hr:ρ i=some (b,c)) (hro:k0.eT=false) (w':World) (o:Obj)
  (hos:w'.os=w.os) (ht:w'.tape=w.tape) (hout:w'.output=w.output) (hs:w'.heap.size=w.heap.size) (hb:w'.heap[b]? =some o) (mq:∀j,j≠b->w'.heap[j]? =w.heap[j]?) (hk:gM P (ρ.put H.next b c) H.next k o):
  aZ P B (ρ.put H.next b c) ((H.drop i).new k) w'/\bQ ρ H w (ρ.put H.next b c) ((H.drop i).new k) w':=by
 have hn:ρ H.next=none:=hf H.next (aI _) (fG _);have hle:cB ρ (ρ.put H.next b c):=Env.o5 hn;have hown:Own ρ H b:=⟨i,k0,c,hi,hro,hr⟩;have hput:∀j,j≠H.next->ρ.put H.next b c j=ρ j:=fun j hj=>by simp [Env.put,hj]
 have g:∀j k',((H.drop i).new k).get j=some k'->(j=H.next/\k'=k)\/(j≠H.next/\j≠i/\H.get j=some k'):=fun j k' hj=>by
  rw [ai.gD,ai.o4,ai.ZM]at hj;split at hj
  .rename_i e;cases hj;exact .inl ⟨e.symm,rfl⟩
  .rename_i e;split at hj
   .cases hj
   .rename_i e2;exact .inr ⟨fun x=>e x.symm,fun x=>e2 x.symm,hj⟩
 have hfz:∀b' A,(ρ.put H.next b c).fz b'=some A->(∃e fr,w'.heap[b']? =some (.cells A e fr))/\∀j k' c',((H.drop i).new k).get j=some k'->ρ.put H.next b c j=some (b',c')->k'.eT=true:=fun b' A hb'=>by
  obtain⟨⟨e,fr,h1⟩,h2⟩:=hH.fz b' A hb';have hne:b'≠b:=fun e=>by
   have:=h2 i k0 c hi (e ▸ hr);rw [hro]at this;cases this
  refine⟨⟨e,fr,(mq b' hne).trans h1⟩,fun j k' c' hj hr'=> ?_⟩;rcases g j k' hj with⟨rfl,rfl⟩|⟨g1,g2,g3⟩
  .rw [Env.dA]at hr';cases hr';exact absurd rfl hne
  .rw [hput j g1]at hr';exact h2 j k' c' g3 hr'
 refine⟨⟨fun j k' hj=> ?_,fun j l eY kl b' ck eD hj hl fI rl=> ?_,fun j k' hj=> ?_,by rw [hs];exact hH.base,hfz⟩,⟨hle,fun j hj=>hput j ?_,Nat.le_succ _,Nat.le_of_eq hs.symm,hos,ht,hout,fun b' _ ho=>mq b' (fun e=>ho (e ▸ hown)),fun b' _ ho=> ?_,fun b' _ ho=> ?_,fun _ _ h=> .inl h⟩⟩
 .rcases g j k' hj with⟨rfl,rfl⟩|⟨h1,h2,h3⟩
  .obtain⟨_,_,_,bV⟩:=hH.at hi hr;exact⟨b,c,o,Env.dA ..,hb,hk,fun _=>bV hro⟩
  .obtain⟨b',c',o',e1,e2,e3,bV⟩:=hH.blk j k' h3;refine⟨b',c',o',hle _ _ e1, ?_,e3.mono hle,bV⟩;rw [mq b' (fun e'=>h2 (hH.inj j i k' k0 b' c' c h3 hi e1 (e' ▸ hr)))];exact e2
 .rcases g j eY hj with⟨rfl,rfl⟩|⟨h1,h2,h3⟩<;>rcases g l kl hl with⟨e,rfl⟩|⟨k1,k2,dN⟩
  .exact e.symm
  .rw [Env.dA]at fI;cases fI;rw [hput l k1]at rl;exact absurd (hH.inj l i kl k0 _ _ _ dN hi rl hr) k2
  .subst e;rw [Env.dA]at rl;cases rl;rw [hput j h1]at fI;exact absurd (hH.inj j i eY k0 _ _ _ h3 hi fI hr) h2
  .rw [hput j h1]at fI;rw [hput l k1]at rl;exact hH.inj j l eY kl b' ck eD h3 dN fI rl
 .rcases g j k' hj with⟨rfl,rfl⟩|⟨h1,h2,h3⟩
  .exact fG _
  .exact Nat.lt_succ_of_lt (hH.lt j k' h3)
 .have:((H.drop i).new k).next=H.next+1:=rfl;rw [this]at hj;omega
 .obtain⟨j,k',c',h1,h2,h3⟩:=ho;rcases g j k' h1 with⟨rfl,rfl⟩|⟨e1,e2,e3⟩
  .rw [Env.dA]at h3;cases h3;exact hown
  .rw [hput j e1]at h3;exact⟨j,k',c',e3,h2,h3⟩
 .obtain⟨j,k',c',h1,h3⟩:=ho;rcases g j k' h1 with⟨rfl,rfl⟩|⟨e1,e2,e3⟩
  .rw [Env.dA]at h3;cases h3;exact hown.mo
  .rw [hput j e1]at h3;exact⟨j,k',c',e3,h3⟩
end
end
section
open Go.RowKit
def av.Jp:∀(t:av) (d:t.den),(t.cells d).length=t.size
 | .int _,_=>rfl
 | .bool,_=>rfl
 | .str,_=>rfl
 | .list _ _,_=>rfl
 | .pair a b,d=>by
   show(a.cells d.1++b.cells d.2).length=a.size+b.size;rw [cQ,a.Jp,b.Jp]
 | .ptr _,_=>rfl
 | .unit,_=>rfl
def av.Ad (t:av) (d:t.den) (xs:List t.den):t.flat (d::xs)=t.cells d++t.flat xs:=rfl
def av.Cv (t:av) (xs ys:List t.den):t.flat (xs++ys)=t.flat xs++t.flat ys:=by simp [av.flat]
def av.jb (t:av):∀xs:List t.den,(t.flat xs).length=xs.length*t.size
 |[]=>by simp [av.flat]
 |d::xs=>by rw [av.Ad,cQ,t.Jp,t.jb xs,List.length_cons,Nat.succ_mul,Nat.add_comm]
def av.Qy (t:av) (xs:List t.den) (k:Nat) (h:k<xs.length):t.flat xs=t.flat (xs.take k)++(elemAt t xs k++t.flat (xs.drop (k+1))):=by
 have e:xs=xs.take k++xs.getD k t.dflt::xs.drop (k+1):=by
  have:xs.getD k t.dflt=xs[k]:=by simp [ao,h]
  rw [this];simp
 have:t.flat xs=t.flat (xs.take k++xs.getD k t.dflt::xs.drop (k+1)):=by rw [<-e]
 rw [this,av.Cv,av.Ad];rfl
def av.Qz (t:av) (xs:List t.den) (k:Nat) (h:k<xs.length):(t.flat (xs.take k)).length=k*t.size:=by
 rw [t.jb,ek,Nat.min_eq_left (Nat.le_of_lt h)]
def QA {P:Program} {T:TypeId} {pre mid post:List aa} {off:Nat} {v:aa} (h:oQ P T mid off=some v):oQ P T (pre++(mid++post)) (pre.length+off)=some v:=by
 unfold oQ at h ⊢;cases hl:lv P T with
 |no=>rw [hl]at h;cases h
 |one=>
  rw [hl]at h;simp only [Ab]at h ⊢;have hlt:off<mid.length:=by
   rcases Nat.lt_or_ge off mid.length with h1|h1
   .exact h1
   .rw [List.getElem?_eq_none h1]at h;cases h
  rw [List.getElem?_append_right ω,show pre.length+off-pre.length=off by omega,List.getElem?_append_left hlt,h]
 |agg n=>
  rw [hl]at h;simp only at h ⊢;cases hb:Nat.ble (Nat.add off n) mid.length with
  |false=>rw [hb]at h;cases h
  |true=>
   rw [hb]at h;cases h;have hb':off+n<=mid.length:=bT hb;have kO:Nat.ble (Nat.add (pre.length+off) n) (pre++(mid++post)).length=true:=fF (by simp only [cQ];show pre.length+off+n<=_;omega);rw [kO];show some (aa.agg (cut (pre++(mid++post)) (pre.length+off) n))=_;congr 2;unfold cut;rw [List.drop_append,List.drop_eq_nil_of_le ω,List.nil_append,show pre.length+off-pre.length=off by omega,List.drop_append,List.take_append,show n-(mid.drop off).length=0 by simp;omega];simp
def QB {P:Program} {T:TypeId} {t:av} {xs:List t.den} {k off:Nat} {v:aa} (hk:k<xs.length) (h:oQ P T (elemAt t xs k) off=some v):oQ P T (t.flat xs) (k*t.size+off)=some v:=by
 rw [t.Qy xs k hk];have:=QA (pre:=t.flat (xs.take k)) (post:=t.flat (xs.drop (k+1))) h;rwa [t.Qz xs k hk]at this
def Den.tR {ρ:Env} {z:Bool} {t:av} {xs:List t.den} {x:Value} (h:Den ρ (.bn z t xs) x):(xs=[]/\∃a k,x= .slice a 0 k/\(z=true->a=none/\k=0))\/
  ∃b off k A,ρ.fz b=some A/\off+(t.flat xs).length<=A.size/\aG ρ (t.flat xs) ((A.toList.drop off).take (t.flat xs).length)/\xs.length<=k/\x= .slice (some ⟨b,off,none⟩) xs.length k/\(z=true->xs≠[]):=by
 cases h with
 |bn h ho hy hd hk hz=>subst hy;exact .inr ⟨_,_,_,_,h,ho,hd,hk,rfl,hz⟩
 |fc hz=>exact .inl ⟨rfl,_,_,rfl,hz⟩
def Den.Ae {ρ:Env} {t:av} {xs:List t.den} {k off:Nat} {x:Value} (h:Den ρ (.fy t xs k off) x):∃b o A,ρ.fz b=some A/\o+(t.flat xs).length<=A.size/\aG ρ (t.flat xs) ((A.toList.drop o).take (t.flat xs).length)/\k<xs.length/\
  x= .pointer (some ⟨b,o+(k*t.size+off),none⟩):=by
 cases h with
 |fy h ho hy hd hk=>subst hy;exact⟨_,_,_,h,ho,hd,hk,rfl⟩
def Den.xV {ρ:Env} {e:TypeId} {t:av} {i k off:Nat} {x:Value} (h:Den ρ (.dL e t i k off) x):∃b c,ρ i=some (b,c)/\x= .pointer (some ⟨b,k*t.size+off,none⟩):=by
 cases h with
 |dL h=>exact⟨_,_,h,rfl⟩
def Den.jx {ρ:Env} {e:TypeId} {t:av} {i k len:Nat} {cap:aX} {x:Value} (h:Den ρ (.bR e t i k len cap) x):(len=0/\∃a,x= .slice a 0 0)\/∃b c kc,ρ i=some (b,c)/\Ac cap c kc/\len<=kc/\x= .slice (some ⟨b,k*t.size,none⟩) len kc:=by
 cases h with
 |bR h hc hl=>exact .inr ⟨_,_,_,h,hc,hl,rfl⟩
 |qt=>exact .inl ⟨rfl,_,rfl⟩
def av.vM {ρ:Env}:∀(t:av) {l r:List aa} {d:t.den} {ys:List Value},t.tE l=some (d,r)->aG ρ l ys->∃y1 y2,ys=y1++y2/\aG ρ (t.cells d) y1/\aG ρ r y2
 | .int k,l,r,d,ys,h,hd=>by
   change zT k l=_ at h;unfold zT at h;split at h
   .split at h
    .rename_i e;subst e;cases h;cases hd with |cons h1 h2=>exact⟨[_],_,rfl, .cons h1 .nil,h2⟩
    .cases h
   .cases h
 | .bool,l,r,d,ys,h,hd=>by
   change zU l=_ at h;unfold zU at h;split at h
   .cases h;cases hd with |cons h1 h2=>exact⟨[_],_,rfl, .cons h1 .nil,h2⟩
   .cases h
 | .str,l,r,d,ys,h,hd=>by
   change wv l=_ at h;unfold wv at h;split at h
   .cases h;cases hd with |cons h1 h2=>exact⟨[_],_,rfl, .cons h1 .nil,h2⟩
   .cases h
 | .list z t,l,r,d,ys,h,hd=>by
   change I0 z t l=_ at h;unfold I0 at h;split at h
   .rename_i z' t' xs r';split at h
    .rename_i e;subst e;cases hc:(!z||z'||Nat.ble 1 xs.length)with
     |false=>rw [hc]at h;cases h
     |true=>
      rw [hc]at h;cases h;cases hd with
      |cons h1 h2=>
       refine⟨[_],_,rfl, .cons ?_ .nil,h2⟩;rcases h1.tR with⟨rfl,a,k,rfl,hz⟩|⟨b,off,k,A,g1,g2,g3,g4,rfl,g5⟩
       .refine .fc fun e=>hz ?_
        subst e;simpa using hc
       .refine .bn g1 g2 rfl g3 g4 fun e hxs=> ?_
        subst e;subst hxs;have:z'=true:=by simpa using hc
        exact g5 this rfl
    .cases h
   .cases h;cases hd with
    |cons h1 h2=>
     refine⟨[_],_,rfl, .cons ?_ .nil,h2⟩;rw [h1.cg];exact .fc fun _=>⟨rfl,rfl⟩
   .cases h
 | .pair a b,l,r,d,ys,h,hd=>by
   simp only [av.tE]at h;cases ha:a.tE l with
   |none=>rw [ha]at h;cases h
   |some p=>
    obtain⟨x,l'⟩:=p;rw [ha]at h;simp only at h;cases hb:b.tE l' with
    |none=>rw [hb]at h;cases h
    |some q=>
     obtain⟨y,r'⟩:=q;rw [hb]at h;cases h;obtain⟨y1,y2,rfl,h1,h2⟩:=a.vM ha hd;obtain⟨y3,Jq,rfl,h3,h4⟩:=b.vM hb h2;exact⟨y1++y3,Jq,by simp,h1.append h3,h4⟩
 | .ptr t,l,r,d,ys,h,hd=>by
   change ww t l=_ at h;unfold ww at h;split at h
   .split at h
    .rename_i e;subst e;cases h;cases hd with
     |cons h1 h2=>exact⟨[_],_,rfl, .cons h1 .nil,h2⟩
    .cases h
   .cases h
 | .unit,l,r,d,ys,h,hd=>by
   cases h;exact⟨[],ys,rfl, .nil,hd⟩
def av.ZQ {ρ:Env} {t:av} {l:List aa} {d:t.den} {ys:List Value} (h:t.read l=some d) (hd:aG ρ l ys):aG ρ (t.cells d) ys:=by
 unfold av.read at h;split at h
 .rename_i d' he;cases h;obtain⟨y1,y2,rfl,h1,h2⟩:=t.vM he hd;cases h2;simpa using h1
 .cases h
def av.Cw {ρ:Env} {t:av}:∀{n:Nat} {l:List aa} {ds:List t.den} {ys:List Value},t.rM n l=some ds->aG ρ l ys->aG ρ (t.flat ds) ys/\ds.length=n
 |0,[],ds,ys,h,hd=>by cases h;cases hd;exact⟨.nil,rfl⟩
 |0,_::_,ds,ys,h,hd=>by cases h
 |n+1,l,ds,ys,h,hd=>by
  have h:(match t.tE l with |some (d,r)=>(t.rM n r).map fun ds=>d::ds|none=>none)=some ds:=by cases l<;>exact h
  split at h
  .rename_i d r he;simp only [am]at h;obtain⟨ds',h1,rfl⟩:=h;obtain⟨y1,y2,rfl,g1,g2⟩:=t.vM he hd;obtain⟨g3,g4⟩:=av.Cw h1 g2;exact⟨by rw [av.Ad];exact g1.append g3,by simp [g4]⟩
  .cases h
section
variable {P:Program} {B:Nat} {ρ:Env} {H:ai} {w:World}
def Jr (e:TypeId) (t:av) (xs:List t.den):bN t (some (.own e t xs))=xs:=by simp [bN]
def vN {e:TypeId} {t:av} {b:Option bl} {k:Nat} (h:bz e t b k=true):b=some (.own e t (bN t b))/\k<(bN t b).length:=by
 unfold bz at h;split at h
 .rename_i e' t' xs;rw [ae,ae]at h;obtain⟨h1,h2,h3⟩:=h;have h1:=ac h1;have h2:=ap h2;subst h1;subst h2;rw [Jr];exact⟨rfl,bT h3⟩
 .cases h
def ZR {e:TypeId} {t:av} {b:Option bl} {n:Nat} {cap:aX} (h:wt e t b n cap=true):(b=none/\n=0/\bN t b=[]/\cap= .known 0)\/(b=some (.own e t (bN t b))/\(bN t b).length=n/\cap= .full):=by
 unfold wt at h;split at h
 .rename_i e' t' xs;simp only [ae]at h;obtain⟨h1,h2,h3,h4⟩:=h;have h1:=ac h1;have h2:=ap h2;have h3:=ac h3;subst h1;subst h2;rw [Jr];refine .inr ⟨rfl,h3, ?_⟩;cases cap<;>first |rfl |cases h4
 .rw [ae]at h;refine .inl ⟨rfl,ac h.1,rfl, ?_⟩;cases cap with
  |known m=>rw [ac h.2]
  |full=>cases h.2
  |any=>cases h.2
 .cases h
def ZS {n:Nat} (h:0<n):bH n= .full:=by cases n<;>first |omega |rfl
def ep (e:TypeId) (t:av) (xs:List t.den):bN t (bU e t xs)=xs:=by
 cases xs with
 |nil=>rfl
 |cons x l=>exact Jr e t _
def ZT (e:TypeId) (t:av) (xs:List t.den):wt e t (bU e t xs) xs.length (bH xs.length)=true:=by
 cases xs with
 |nil=>rfl
 |cons x l=>simp [bU,wt,bH,aX.isFull]
def xW (a b:Nat):Nat.ble a b=decide (a<=b):=by
 cases h:Nat.ble a b with
 |true=>exact(az (bT h)).symm
 |false=>exact(ab fun hh=>by rw [fF hh]at h;cases h).symm
section
variable (e:TypeId) (t:av) (xs:List t.den) (k:Nat)
def fm:bz e t (bU e t xs) k=decide (k<xs.length):=by
 cases xs with
 |nil=>simp [bU,bz]
 |cons x l=>simp only [bU,bz,Nat.beq_refl,decide_true,Bool.true_and];exact xW _ _
def gk:bz e t (some (.own e t xs)) k=decide (k<xs.length):=by
 simp only [bz,Nat.beq_refl,decide_true,Bool.true_and];exact xW _ _
end
def rU (hH:aZ P B ρ H w) {i b c:Nat} {e:TypeId} {t:av} {xs:List t.den} (hi:H.get i=some (.own e t xs)) (hr:ρ i=some (b,c)):
  ∃ys,w.heap[b]? =some (.cells ys e (0,0))/\aG ρ (t.flat xs) (ys.toList.take (t.flat xs).length)/\ys.size=c*P.cellsOf e/\(t.flat xs).length<=ys.size/\P.cellsOf e=t.size/\1<=t.size:=by
 obtain⟨o,h1,h2,_⟩:=hH.at hi hr;obtain⟨⟨ys,fz,rfl,g2,g3,g4,g5⟩,g6,g7⟩:=h2;have hf:=g2 rfl;subst hf;obtain⟨b',c',e1,e2⟩:=g5 rfl;rw [hr]at e1;cases e1;refine⟨ys,h1,g3,e2, ?_,g6,g7⟩;have:=g3.length;simp at this;omega
end
end
end Go.Proofs.YtibikmmdbdlafaaGreatDoor.Sv
