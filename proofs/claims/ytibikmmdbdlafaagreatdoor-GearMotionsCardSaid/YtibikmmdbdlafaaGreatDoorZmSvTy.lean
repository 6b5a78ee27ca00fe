import Derived.OrdersIn
import Derived.Below
import Derived.Scope
set_option linter.unusedSimpArgs false
namespace Go.Proofs.YtibikmmdbdlafaaGreatDoor
set_option linter.defProp false
def ax:=@decide_eq_true
def ab:=@decide_eq_false
def ac:=@Nat.eq_of_beq_eq_true
def ae:=@Bool.and_eq_true
def bS:=@Nat.le_of_ble_eq_true
def bB:=@decide_eq_true_eq
def cV:=@Array.getElem?_eq_some_iff
def fF:=@beq_eq_false_iff_ne
def gT:=@beq_iff_eq
def dz:=@Option.bind_eq_some_iff
def am:=@Option.map_eq_some_iff
def ao:=@List.getD_eq_getElem?_getD
def ap:=@of_decide_eq_true
def eU:=@Int.mul_le_mul_of_nonneg_left
def ar:=@Int.mul_le_mul_of_nonneg_right
def fo:=@Nat.ble_eq_true_of_le
def eF:=@List.take_of_length_le
def aw:=@Nat.zero_add
def aG:=@Nat.le_refl
def b6:=@List.length_set
def j7:=@List.not_mem_nil
def e6:=@Int.emod_lt_of_pos
def eG:=@Int.emod_nonneg
def dU:=@List.length_append
def dI:=@List.take_length
def ei:=@List.length_take
def ep:=@List.mem_cons
def cX:=@Nat.le_trans
def cm:=@Int.le_of_lt
def gu:=@bne_eq_false_iff_eq
def e7:=@bne_iff_ne
def j8:=@List.mem_cons_of_mem
def kK:=@List.mem_cons_self
def mV:=@List.getElem?_eq_getElem
def w4:=@List.length_map
def mW:=@List.length_drop
def jQ:=@Option.some.inj
def sV:=@Option.some.injEq
def e8:=@Nat.lt_succ_self
def q5:=@List.append_assoc
end Go.Proofs.YtibikmmdbdlafaaGreatDoor
namespace Go.Proofs.YtibikmmdbdlafaaGreatDoor.Sv
noncomputable section
inductive aZ where
 |known (n:Nat)
 |full
 |any
inductive av where
 |int (k:IntKind)
 |bool
 |str
 |list (z:Bool) (t:av)
 |pair (a b:av)
 |ptr (t:av)
 |unit
 deriving DecidableEq
@[reducible] def av.den:av->Type
  | .int _=>Int
  | .bool=>Bool
  | .str=>ByteArray
  | .list _ t=>List t.den
  | .pair a b=>a.den×b.den
  | .ptr t=>t.den
  | .unit=>Unit
def av.size:av->Nat
 | .int _=>1
 | .bool=>1
 | .str=>1
 | .list _ _=>1
 | .pair a b=>a.size+b.size
 | .ptr _=>1
 | .unit=>0
def av.dflt:(t:av)->t.den
 | .int _=>(0:Int)
 | .bool=>false
 | .str=>ByteArray.empty
 | .list _ _=>[]
 | .pair a b=>(a.dflt,b.dflt)
 | .ptr t=>t.dflt
 | .unit=>()
inductive aa where
 |raw (v:Value)
 |ptr (i off:Nat)
 |slice (i off len:Nat) (cap:aZ)
 |func (fn:Fn) (first captured:List aa)
 |yield (i:Nat)
 |map (i:Nat)
 |iface (t:TypeId) (v:aa)
 |agg (cs:List aa)
 |tuple (vs:List aa)
 |bh (z:Bool) (t:av) (xs:List t.den)
 |e9 (t:av) (xs:List t.den) (k off:Nat)
 |bR (e:TypeId) (t:av) (i k len:Nat) (cap:aZ)
 |dA (e:TypeId) (t:av) (i k off:Nat)
 |bot
def av.cells:(t:av)->t.den->List aa
 | .int k,x=>[.raw (.int k x)]
 | .bool,x=>[.raw (.bool x)]
 | .str,x=>[.raw (.string x)]
 | .list z t,x=>[.bh z t x]
 | .pair a b,x=>a.cells x.1++b.cells x.2
 | .ptr t,x=>[.e9 t [x] 0 0]
 | .unit,_=>[]
def av.flat (t:av) (xs:List t.den):List aa:=xs.flatMap t.cells
inductive aq (α:Type) where
 |nil
 |node (l:aq α) (v:Option α) (r:aq α)
def sh (f:Nat):Nat->List Bool:=
 @Nat.rec (fun _=>Nat->List Bool) (fun _=>[]) (fun _ ih i=> @Bool.rec (fun _=>List Bool) (@Bool.rec (fun _=>List Bool) (false::ih (Nat.sub (Nat.div i 2) 1)) (true::ih (Nat.div i 2)) (Nat.beq (Nat.mod i 2) 1)) [] (Nat.beq i 0)) f
def bits (i:Nat):List Bool:=sh (Nat.succ i) i
def aq.oG {α:Type} (p:List Bool):aq α->Option α:=
 @List.rec Bool (fun _=>aq α->Option α) (fun t=> @aq.rec α (fun _=>Option α) none (fun _ v _ _ _=>v) t)
   (fun b _ ih t=> @aq.rec α (fun _=>Option α) none (fun l _ r _ _=> @Bool.rec (fun _=>Option α) (ih r) (ih l) b) t) p
def aq.w5 {α:Type} (x:Option α) (p:List Bool):aq α->aq α:=
 @List.rec Bool (fun _=>aq α->aq α) (fun t=> @aq.rec α (fun _=>aq α) (.node .nil x .nil) (fun l _ r _ _=> .node l x r) t)
   (fun b _ ih t=> @aq.rec α (fun _=>aq α) (@Bool.rec (fun _=>aq α) (.node .nil none (ih .nil)) (.node (ih .nil) none .nil) b) (fun l v r _ _=> @Bool.rec (fun _=>aq α) (.node l v (ih r)) (.node (ih l) v r) b) t) p
def aq.get {α:Type} (t:aq α) (i:Nat):Option α:=aq.oG (bits i) t
def aq.set {α:Type} (t:aq α) (i:Nat) (x:Option α):aq α:=aq.w5 x (bits i) t
def nth {α:Type} (l:List α):Nat->Option α:=
 @List.rec α (fun _=>Nat->Option α) (fun _=>none) (fun a _ ih i=> @Bool.rec (fun _=>Option α) (ih (Nat.sub i 1)) (some a) (Nat.beq i 0)) l
structure Bj where
 tmps:aq aa
 size:Nat
 params:Array Tmp
 assign:Code
 body:Code
 state:LoopState
 pending:Option Code
inductive bq where
 |cells (elem:TypeId) (cs:List aa) (exact cE ro:Bool)
 |map (es:Array MapEntry) (clock:Nat)
 |loop (r:Bj)
 |deferred
 |own (elem:TypeId) (t:av) (xs:List t.den)
 |one (key:Value) (v:aa)
 |iter (i:Nat) (clock:Nat) (done:Bool)
structure ai where
 m:aq bq
 next:Nat
def ai.get (H:ai) (i:Nat):Option bq:=H.m.get i
def ai.set (H:ai) (i:Nat) (b:bq):ai:= @ai.rec (fun _=>ai) (fun m n=>⟨m.set i (some b),n⟩) H
def ai.drop (H:ai) (i:Nat):ai:= @ai.rec (fun _=>ai) (fun m n=>⟨m.set i none,n⟩) H
def ai.skip (H:ai):ai:= @ai.rec (fun _=>ai) (fun m n=>⟨m,Nat.succ n⟩) H
def ai.new (H:ai) (b:bq):ai:= @ai.rec (fun _=>ai) (fun m n=>⟨m.set n (some b),Nat.succ n⟩) H
def bm (P:Program) {α:Type}:Sem α->Option α
 | .pure a=>some a
 | .program k=>bm P (k P)
 | .mark _ k=>bm P k
 |_=>none
mutual
def aa.gU:aa->Option Value
 | .raw v=>some v
 | .iface t v=>(v.gU).map (Value.iface t)
 | .agg cs=>(aa.kL cs).map fun l=>Value.agg l.toArray
 | .tuple cs=>(aa.kL cs).map fun l=>Value.tuple l.toArray
 | .func fn fs cs=>(aa.kL fs).bind fun l=>(aa.kL cs).map fun k=>Value.func fn l.toArray k.toArray
 |_=>none
def aa.kL:List aa->Option (List Value)
 |[]=>some []
 |v::vs=>(v.gU).bind fun x=>(aa.kL vs).map fun l=>x::l
end
def aa.fc:aa->Option Value
 | .raw v=>some v
 |v=>v.gU
def io (a:Array Value):List aa:=a.toList.map .raw
def aa.cells:aa->List aa
 | .agg cs=>cs
 | .raw (.agg cs)=>io cs
 |v=>[v]
def aa.u0 (v:aa):Bool:= @aa.casesOn (fun _=>Bool) v (fun _=>false) (fun _ _=>false) (fun _ _ _ _=>false) (fun _ _ _=>false) (fun _=>false) (fun _=>false) (fun _ _=>false) (fun _=>false) (fun _=>false) (fun _ _ _=>false) (fun _ _ _ _=>false) (fun _ _ _ _ _ _=>false) (fun _ _ _ _ _=>false) true
def aa.one:aa->Bool
 | .raw (.agg _)| .raw (.tuple _)| .agg _| .tuple _| .yield _| .bot=>false
 |_=>true
inductive aK where
 |no
 |ok (v:aa) (H:ai)
 |enter (f:FuncId) (args:List aa) (H:ai)
 |round (i:Nat) (args:List aa) (H:ai)
def ag (H:ai) (x:Option aa):aK:= @Option.rec aa (fun _=>aK) .no (fun v=> .ok v H) x
def eH (x:Option (aa×ai)):aK:=match x with |none=> .no|some (v,H)=> .ok v H
abbrev dJ:=Operand->aa
def q6 (k s:Nat) (x:aa) (H:ai):aK:=match x with
 | .bh _ t xs=>cond (Nat.beq t.size s&&Nat.ble (k+1) xs.length) (.ok (.e9 t xs k 0) H) .no
 | .bR e t i k0 len _=>cond (Nat.beq t.size s&&Nat.ble (k+1) len) (.ok (.dA e t i (k0+k) 0) H) .no
 |_=> .no
def u5 (k n s:Nat) (x:aa) (H:ai):aK:=match x with
 | .e9 t xs k0 off=>cond (Nat.ble (k+1) n) (.ok (.e9 t xs k0 (off+k*s)) H) .no
 | .dA e t i k0 off=>cond (Nat.ble (k+1) n) (.ok (.dA e t i k0 (off+k*s)) H) .no
 |_=> .no
def u6 (gC n:Nat) (x:aa) (H:ai):aK:=match x with
 | .e9 t xs k off=> @Bool.rec (fun _=>aK) .no (.ok (.e9 t xs k (off+gC)) H) (Nat.ble 1 n)
 | .dA e t i k off=> @Bool.rec (fun _=>aK) .no (.ok (.dA e t i k (off+gC)) H) (Nat.ble 1 n)
 |_=> .no
def XK:TypeDesc->Bool
 | .struct _| .array _ _=>true
 |_=>false
def Bk (P:Program) (t:TypeId):Option Bool:=(P.underlying t).map XK
def ek (P:Program) (t:TypeId):Option Nat:=(P.info? t).map TypeInfo.size
def mX (P:Program) (t:TypeId):Option Value:=(P.info? t).bind TypeInfo.zero
def lz (P:Program) (t:TypeId):Option TypeId:=match P.underlying t with |some (.slice e)=>some e|_=>none
inductive HP where
 |no
 |one
 |agg (n:Nat)
def lv (P:Program) (t:TypeId):HP:=match Bk P t,ek P t with
 |some true,some n=> .agg n
 |some false,_=> .one
 |_,_=> .no
inductive OH where
 |no
 |arr (n s:Nat)
 |sl (s:Nat)
def nT (P:Program) (t:TypeId):OH:=match P.underlying t with
 |some (.array n e)=>(match ek P e with |some s=> .arr n s|none=> .no)
 |some (.slice e)=>(match ek P e with |some s=> .sl s|none=> .no)
 |_=> .no
inductive HQ where
 |no
 |mk (off size:Nat) (t:TypeId)
def fv (P:Program) (s:TypeId) (f:Nat):HQ:=match P.underlying s with
 |some (.struct fs)=>(match fs[f]? with
  |some fd=>(match ek P fd.type with |some n=> .mk fd.offset n fd.type|none=> .no)
  |none=> .no)
 |_=> .no
inductive w6 where
 |no
 |mk (i off:Nat)
inductive bw where
 |no
 |mk (i off len:Nat) (cap:aZ)
inductive u7 where
 |no
 |mk (n:Nat)
inductive mY where
 |no
 |mk (b:Bool)
inductive Bl where
 |no
 |mk (e:TypeId) (cs:List aa) (exact cE ro:Bool)
inductive w8 where
 |no
 |int (k:IntKind) (n:Int)
def HR (v:Value):w8:= @Value.casesOn (fun _=>w8) v (fun _=> .no) (fun k n=> .int k n) (fun _ _=> .no) (fun _ _ _=> .no) (fun _=> .no) (fun _=> .no) (fun _ _ _=> .no) (fun _=> .no) (fun _=> .no) (fun _ _ _=> .no) .no (fun _ _=> .no) .no (fun _=> .no) (fun _=> .no)
def iH (v:aa):w8:= @aa.casesOn (fun _=>w8) v HR (fun _ _=> .no) (fun _ _ _ _=> .no) (fun _ _ _=> .no) (fun _=> .no) (fun _=> .no) (fun _ _=> .no) (fun _=> .no) (fun _=> .no) (fun _ _ _=> .no) (fun _ _ _ _=> .no) (fun _ _ _ _ _ _=> .no) (fun _ _ _ _ _=> .no) .no
def u9 (n:Int):u7:= @Int.casesOn (fun _=>u7) n (fun m=> .mk m) (fun _=> .no)
def nU (v:aa):u7:= @w8.rec (fun _=>u7) .no (fun _ n=>u9 n) (iH v)
def HS (v:Value):mY:= @Value.casesOn (fun _=>mY) v (fun b=> .mk b) (fun _ _=> .no) (fun _ _=> .no) (fun _ _ _=> .no) (fun _=> .no) (fun _=> .no) (fun _ _ _=> .no) (fun _=> .no) (fun _=> .no) (fun _ _ _=> .no) .no (fun _ _=> .no) .no (fun _=> .no) (fun _=> .no)
def gD (v:aa):mY:= @aa.casesOn (fun _=>mY) v HS (fun _ _=> .no) (fun _ _ _ _=> .no) (fun _ _ _=> .no) (fun _=> .no) (fun _=> .no) (fun _ _=> .no) (fun _=> .no) (fun _=> .no) (fun _ _ _=> .no) (fun _ _ _ _=> .no) (fun _ _ _ _ _ _=> .no) (fun _ _ _ _ _=> .no) .no
def iI (v:aa):w6:= @aa.casesOn (fun _=>w6) v (fun _=> .no) (fun i off=> .mk i off) (fun _ _ _ _=> .no) (fun _ _ _=> .no) (fun _=> .no) (fun _=> .no) (fun _ _=> .no) (fun _=> .no) (fun _=> .no) (fun _ _ _=> .no) (fun _ _ _ _=> .no) (fun _ _ _ _ _ _=> .no) (fun _ _ _ _ _=> .no) .no
def w9 (v:aa):bw:= @aa.casesOn (fun _=>bw) v (fun _=> .no) (fun _ _=> .no) (fun i off len cap=> .mk i off len cap) (fun _ _ _=> .no) (fun _=> .no) (fun _=> .no) (fun _ _=> .no) (fun _=> .no) (fun _=> .no) (fun _ _ _=> .no) (fun _ _ _ _=> .no) (fun _ _ _ _ _ _=> .no) (fun _ _ _ _ _=> .no) .no
def q7 (v:aa):Option (List aa):= @aa.casesOn (fun _=>Option (List aa)) v (fun _=>none) (fun _ _=>none) (fun _ _ _ _=>none) (fun _ _ _=>none) (fun _=>none) (fun _=>none) (fun _ _=>none) (fun cs=>some cs) (fun _=>none) (fun _ _ _=>none) (fun _ _ _ _=>none) (fun _ _ _ _ _ _=>none) (fun _ _ _ _ _=>none) none
def y7 (v:aa):Option (List aa):= @aa.casesOn (fun _=>Option (List aa)) v (fun _=>none) (fun _ _=>none) (fun _ _ _ _=>none) (fun _ _ _=>none) (fun _=>none) (fun _=>none) (fun _ _=>none) (fun _=>none) (fun cs=>some cs) (fun _ _ _=>none) (fun _ _ _ _=>none) (fun _ _ _ _ _ _=>none) (fun _ _ _ _ _=>none) none
def sW (b:Option bq):Bl:= @Option.rec bq (fun _=>Bl) .no (fun b=> @bq.casesOn (fun _=>Bl) b (fun e cs x f r=> .mk e cs x f r) (fun _ _=> .no) (fun _=> .no) .no (fun _ _ _=> .no) (fun _ _=> .no) (fun _ _ _=> .no)) b
def bM (t:av) (b:Option bq):List t.den:=match b with
 |some (.own _ t' xs)=>if h:t'=t then h ▸ xs else []
 |_=>[]
def bz (e:TypeId) (t:av) (b:Option bq) (k:Nat):Bool:=match b with
 |some (.own e' t' xs)=>Nat.beq e e'&&(decide (t'=t)&&Nat.ble (k+1) xs.length)
 |_=>false
def aZ.isFull:aZ->Bool
 | .full=>true
 |_=>false
def aZ.isNil:aZ->Bool
 | .known n=>Nat.beq n 0
 |_=>false
def bJ:Nat->aZ
 |0=> .known 0
 |_+1=> .full
def y8 (e:TypeId) (t:av) (b:Option bq) (n:Nat) (cap:aZ):Bool:=match b with
 |some (.own e' t' xs)=>Nat.beq e e'&&(decide (t'=t)&&(Nat.beq xs.length n&&cap.isFull))
 |none=>Nat.beq n 0&&cap.isNil
 |_=>false
def ba (e:TypeId) (t:av) (xs:List t.den):Option bq:=match xs with
 |[]=>none
 |x::l=>some (.own e t (x::l))
def elemAt (t:av) (xs:List t.den) (k:Nat):List aa:=t.cells (xs.getD k t.dflt)
def y9 (k:IntKind) (l:List aa):Option (Int×List aa):=match l with | .raw (.int k' x)::r=>(if k=k' then some (x,r)else none)|_=>none
def za (l:List aa):Option (Bool×List aa):=match l with | .raw (.bool x)::r=>some (x,r)|_=>none
def vx (l:List aa):Option (ByteArray×List aa):=match l with | .raw (.string x)::r=>some (x,r)|_=>none
def HT (z:Bool) (t:av) (l:List aa):Option (List t.den×List aa):=match l with
 | .bh z' t' xs::r=>if h:t'=t then(cond (!z||z'||Nat.ble 1 xs.length) (some (h ▸ xs,r)) none)else none
 | .raw (.slice none 0 0)::r=>some ([],r)
 |_=>none
def vy (t:av) (l:List aa):Option (t.den×List aa):=match l with
 | .e9 t' [x] 0 0::r=>if h:t'=t then some (h ▸ x,r)else none
 |_=>none
def av.sX:(t:av)->List aa->Option (t.den×List aa)
 | .int k,l=>y9 k l
 | .bool,l=>za l
 | .str,l=>vx l
 | .list z t,l=>HT z t l
 | .pair a b,l=>match a.sX l with
   |some (x,l')=>(match b.sX l' with |some (y,r)=>some ((x,y),r)|none=>none)
   |none=>none
 | .ptr t,l=>vy t l
 | .unit,l=>some ((),l)
def av.read (t:av) (l:List aa):Option t.den:=match t.sX l with |some (d,[])=>some d|_=>none
def av.q8 (t:av):Nat->List aa->Option (List t.den)
 |0,[]=>some []
 |0,_::_=>none
 |n+1,l=>match t.sX l with |some (d,r)=>(t.q8 n r).map fun ds=>d::ds|none=>none
def cut (cs:List aa) (off n:Nat):List aa:=(cs.drop off).take n
def apart (P:Program) (t:TypeId) (cs:List aa) (off:Nat):Option aa:=
 @HP.rec (fun _=>Option aa) none (nth cs off) (fun n=>some (.agg (cut cs off n))) (lv P t)
def kw (P:Program) (t:TypeId) (cs:List aa) (off:Nat):Option aa:=
 @HP.rec (fun _=>Option aa) none (nth cs off) (fun n=> @Bool.rec (fun _=>Option aa) none (some (.agg (cut cs off n))) (Nat.ble (Nat.add off n) cs.length)) (lv P t)
def HU (v:aa) (cs:List aa):Nat->Option (List aa):=
 @List.rec aa (fun _=>Nat->Option (List aa)) (fun _=>none) (fun a l ih off=> @Bool.rec (fun _=>Option (List aa)) (@Option.rec (List aa) (fun _=>Option (List aa)) none (fun r=>some (a::r)) (ih (Nat.sub off 1))) (some (v::l)) (Nat.beq off 0)) cs
def kM (cs:List aa) (off:Nat) (vs:List aa):Option (List aa):=
 match vs with
 |[v]=>HU v cs off
 |vs=>cond (Nat.ble (off+vs.length) cs.length) (some (cs.take off++vs++cs.drop (off+vs.length))) none
def q9 (place:Nat->Option (Nat×Nat)):List aa->List (Nat×aa)->Option (List aa)
 |cells,[]=>some cells
 |cells,(i,v)::rest=>
  (place i).bind fun p=>cond (cond v.u0 false (Nat.beq v.cells.length p.2)) ((kM cells p.1 v.cells).bind fun cells=>q9 place cells rest) none
def sameKind:aa->aa->Bool
 | .ptr .., .raw (.pointer none)| .slice .., .raw (.slice none _ _)| .func .., .raw .nilFunc| .iface .., .raw .nilIface| .map _, .raw (.map none)=>true
 |_,_=>false
def fm (P:Program) (t:TypeId):aa->Bool
 | .ptr .. =>match P.underlying t with |some (.pointer _)=>true|_=>false
 | .slice .. =>match P.underlying t with |some (.slice _)=>true|_=>false
 | .func .. =>match P.underlying t with |some (.func _ _ _)=>true|_=>false
 | .iface .. =>match P.underlying t with |some (.interface _)=>true|_=>false
 | .map _=>match P.underlying t with |some (.map _ _)=>true|_=>false
 |_=>false
def ri (ev:dJ) (x:Operand):Value:=((ev x).fc).getD undef
def gen (P:Program) (o:Oper) (ev:dJ):Option aa:=
 cond (o.op.operands.toList.all fun x=>(ev x).fc.isSome)
  (match bm P (execOp (ri ev) o)with
    |some (.value v)=>some (.raw v)
    |some .skip=>some (.raw undef)
    |_=>none) none
def l8 (v:aa):Option Nat:= @u7.rec (fun _=>Option Nat) none (fun n=>some n) (nU v)
def l9 (o:Option aa) (d:Nat):Option Nat:=match o with |none=>some d|some v=>l8 v
def zb (P:Program) (e:TypeId) (s n:Nat) (lo hi mx:Option aa) (k:Nat->Nat->aa):Option aa:=
 (ek P e).bind fun s'=>(l9 hi n).bind fun h=>(l9 lo 0).bind fun l=>cond (mx.isNone&&Nat.beq s s'&&Nat.ble l h&&Nat.ble h n) (some (k l h)) none
def PH (c:aZ) (len:Nat):Nat:=match c with
 | .known n=>n
 |_=>len
def Bm (P:Program) (t:TypeId) (x:aa) (lo hi mx:Option aa):Option aa:=
 match P.underlying t,x with
 |some (.array n e), .ptr i off=>
  (ek P e).bind fun s=>(l9 mx n).bind fun m=>(l9 hi n).bind fun h=>(l9 lo 0).bind fun l=>
    cond (Nat.ble l h&&Nat.ble h m&&Nat.ble m n&&(mx.isNone||hi.isSome)) (some (.slice i (cond (Nat.beq m l) off (off+l*s)) (h-l) (.known (m-l)))) none
 |some (.slice e), .slice i off len cap=>
  (ek P e).bind fun s=>(l9 hi len).bind fun h=>(l9 lo 0).bind fun l=>
    match mx,cap with
    |none, .known c=>cond (Nat.ble l h&&Nat.ble h c) (some (.slice i (cond (Nat.beq c l) off (off+l*s)) (h-l) (.known (c-l)))) none
    |none,c=>cond (Nat.ble l h&&Nat.ble h len) (cond (Nat.beq l 0) (some (.slice i off h c)) (cond (Nat.ble (l+1) len) (some (.slice i (off+l*s) (h-l) .any)) none)) none
    |some mv,c=>(l8 mv).bind fun m=>cond (Nat.ble l h&&Nat.ble h m&&Nat.ble m (PH c len)&&hi.isSome) (some (.slice i (cond (Nat.beq m l) off (off+l*s)) (h-l) (.known (m-l)))) none
 |some (.slice e), .bh _ t xs=>zb P e t.size xs.length lo hi mx (fun l h=>cond (Nat.ble (l+1) h) (.bh false t ((xs.take h).drop l)) (.bh false t []))
 |some (.slice e), .bR e' t i k len cap=>zb P e t.size len lo hi mx (fun l h=>cond (Nat.beq l 0) (.bR e' t i k h cap) (cond (Nat.ble (l+1) h) (.bR e' t i (k+l) (h-l) .any) (.bh false t [])))
 |_,_=>none
def src (H:ai) (s:Nat):aa->Option (List aa×Nat)
 | .raw (.slice none 0 _)=>some ([],0)
 | .raw (.string b)=>cond (Nat.beq s 1) (some (b.data.toList.map fun x=> .raw (.int .u8 x.toNat),b.size)) none
 | .slice i off len _=>match H.get i with
   |some (.cells _ cs _ _ _)=>cond (Nat.ble (off+len*s) cs.length) (some (cut cs off (len*s),len)) none
   |_=>none
 |_=>none
def bounded (n bytes:Nat):Bool:=Nat.ble (n*bytes) 140737488355328&&Nat.ble n 140737488355328
def eO:List aa->Bool
 |[]=>true
 |v::l=>cond v.one (eO l) false
def sm (e:TypeId) (sz bytes:Nat) (i len:Nat) (cap:aZ) (news:List aa) (n:Nat) (H:ai):Option (aa×ai):=
 cond (bounded (len+n) bytes) (match H.get i with
  |some (.cells e' cs exact false false)=>
   cond (Nat.beq e e'&&Nat.ble (len*sz) cs.length) (match cap with
    | .known c=>
      cond (Nat.ble (len+n) c)
       ((kM cs (len*sz) news).map fun cs'=>(.slice i 0 (len+n) (.known c),H.set i (.cells e cs' exact false false)))
       (some (.slice H.next 0 (len+n) .full,H.new (.cells e (cs.take (len*sz)++news) false false false)))
    | .full=>cond exact none (some (.slice H.next 0 (len+n) .full,(H.drop i).new (.cells e (cs.take (len*sz)++news) false false false)))
    | .any=>none) none
  |_=>none) none
def zc (P:Program) (t:TypeId) (s x:aa) (H:ai):Option (aa×ai):=
 (lz P t).bind fun e=>(P.info? e).bind fun inf=>(inf.zero).bind fun z=>
 cond (Nat.beq z.cells.size inf.size&&Nat.ble 1 inf.size)
 ((src H inf.size x).bind fun sn=>
   cond (Nat.beq sn.2 0) (match s with | .raw (.slice none 0 0)| .slice .. =>some (s,H)|_=>none)
   (cond (eO sn.1) (match s with
     | .raw (.slice none 0 0)=>cond (bounded sn.2 inf.bytes) (some (.slice H.next 0 sn.2 .full,H.new (.cells e sn.1 false false false))) none
     | .slice i 0 len cap=>sm e inf.size inf.bytes i len cap sn.1 sn.2 H
     |_=>none) none)) none
def dN (b:ByteArray):List Int:=b.data.toList.map fun x=>(x.toNat:Int)
def ze (H:ai) (ty:av) (s:Nat):aa->Option (List ty.den×Nat)
 | .raw (.slice none 0 _)=>some ([],0)
 | .raw (.string b)=>if h:av.int .u8=ty then some (h ▸ dN b,b.size)else none
 | .bh _ u ys=>if h:u=ty then some (h ▸ ys,ys.length)else none
 | .bR e u j k len _=>cond (decide (u=ty)&&(Nat.beq len 0||bz e ty (H.get j) (k+len-1))) (some (((bM ty (H.get j)).drop k).take len,len)) none
 | .slice j off n cap=>(src H s (.slice j off n cap)).bind fun sn=>(ty.q8 n sn.1).map fun ds=>(ds,n)
 |_=>none
def rj (P:Program) (t:TypeId) (e:TypeId) (ty:av) (i k len:Nat) (cap:aZ) (sk:Bool) (x:aa) (H:ai):Option (aa×ai):=
 (lz P t).bind fun el=>(P.info? el).bind fun inf=>(inf.zero).bind fun z=>
 cond (Nat.beq z.cells.size inf.size&&Nat.ble 1 inf.size&&Nat.beq el e&&Nat.beq ty.size inf.size&&Nat.beq k 0)
 ((ze H ty inf.size x).bind fun sn=>
   cond (Nat.beq sn.2 0) (some (.bR e ty i k len cap,cond sk H.skip H))
   (cond (y8 e ty (H.get i) len cap&&bounded (len+sn.2) inf.bytes)
     (some (.bR e ty H.next 0 (len+sn.2) .full,(H.drop i).new (.own e ty (bM ty (H.get i)++sn.1)))) none)) none
def D0 (s:aa):Bool:=match s with
 | .slice _ _ n (.known c)=>Nat.beq n 0&&Nat.beq c 0
 | .raw (.slice none 0 0)=>true
 |_=>false
def D1 (P:Program) (t:TypeId) (ty:av) (x:aa) (H:ai):Option (aa×ai):=match lz P t with
 |some e=>rj P t e ty H.next 0 0 (.known 0) true x H
 |none=>none
def xb (ty:av) (x:aa) (H:ai):Option (Bool×ai):=match ty,x with
 | .list false _, .slice j off 1 _=>(match H.get j with
   |some (.cells e cs ex f r)=>(match nth cs off with
    |some (.bR e2 u2 i 0 len _)=>(match H.get i with
     |some (.own e3 u3 xs)=>(match decide (u2=u3)&&(Nat.beq e2 e3&& !Nat.beq i j)with
      |true=>some (Nat.beq len xs.length,(H.drop i).set j (.cells e (cs.set off (.bh false u3 xs)) ex f r))
      |false=>none)
     |_=>none)
    |_=>none)
   |_=>none)
 |_,_=>none
def Bn (P:Program) (t:TypeId) (e:TypeId) (ty:av) (i k len:Nat) (cap:aZ) (x:aa) (H:ai):Option (aa×ai):=match xb ty x H with
 |some (b,H')=>cond b (rj P t e ty i k len cap false x H') none
 |none=>rj P t e ty i k len cap false x H
def mb (P:Program) (t:TypeId) (s x:aa) (H:ai):Option (aa×ai):=match s with
 | .bR e ty i k len cap=>Bn P t e ty i k len cap x H
 |s=>match x with
  | .bh z ty ys=>cond (D0 s) (D1 P t ty (.bh z ty ys) H) none
  |x=>zc P t s x H
def zf (P:Program) (t:TypeId) (d x:aa) (H:ai):Option (aa×ai):=
 (lz P t).bind fun e=>(ek P e).bind fun s=>match x,d with
   | .slice j rq n cj, .slice i off len _=>(src H s (.slice j rq n cj)).bind fun sn=>match H.get i with
     |some (.cells e' cs exact false false)=>
      cond (eO (sn.1.take (Nat.min n len*s))) ((kM cs off (sn.1.take (Nat.min n len*s))).map fun cs'=>(.raw (goInt (Nat.min n len)),H.set i (.cells e' cs' exact false false))) none
     |_=>none
   | .raw (.slice none 0 0), .slice _ _ _ _=>some (.raw (goInt 0),H)
   |_,_=>none
def pb (P:Program) (t:TypeId) (i off len:Nat) (H:ai):Option (aa×ai):=
 (lz P t).bind fun e=>(ek P e).bind fun s=>(mX P e).bind fun z=>match H.get i with
   |some (.cells e' cs exact false false)=>cond (Nat.ble 1 len&&Nat.beq z.cells.size s&&eO (List.replicate len (io z.cells)).flatten) ((kM cs off (List.replicate len (io z.cells)).flatten).map fun cs'=>(.raw (.tuple #[]),H.set i (.cells e' cs' exact false false))) none
   |_=>none
def bytesOf:List aa->Option (List UInt8)
 |[]=>some []
 | .raw (.int .u8 (.ofNat n))::l=>cond (Nat.ble (n+1) 256) ((bytesOf l).map fun r=>UInt8.ofNat n::r) none
 |_=>none
def HV (P:Program) (t:TypeId):aa->aa->Option Bool
 | .ptr i off, .ptr j off'=>match P.underlying t with
   |some (.pointer e)=>match ek P e with
    |some (_+1)=>cond (Nat.beq i j) (some (Nat.beq off off')) none
    |_=>none
   |_=>none
 |_,_=>none
def HW (P:Program) (t:TypeId) (es:Array MapEntry) (kv:Value) (ok:Bool):Option Value:=
 match P.underlying t with
 |some (.map kt et)=>(bm P (Instr.checkKey es.isEmpty 10000 kt kv)).bind fun _=>(bm P (Instr.findKey kt kv es.toList)).bind fun r=>
  match r with
  |some p=>some (if ok then .tuple #[p.2, .bool true]else p.2)
  |none=>(mX P et).map fun z=>if ok then .tuple #[z, .bool false]else z
 |_=>none
def HX (P:Program) (t:TypeId) (es:Array MapEntry) (clock:Nat) (kv xv:Value):Option (Array MapEntry×Nat):=
 match P.underlying t with
 |some (.map kt _)=>(bm P (Instr.checkKey false 10000 kt kv)).bind fun _=>(bm P (Instr.findKey kt kv es.toList)).bind fun r=>
  match r with
  |some p=>(bm P (Instr.keyThatStays (((es[p.1]?).map (·.key)).getD kv) kv)).map fun k=>(es.modify p.1 fun e=>{e with key:=k,val:=xv},clock)
  |none=>some (es.push {key:=kv,val:=xv,born:=clock},clock+1)
 |_=>none
def zg (P:Program) (f:FuncId) (fn:Func) (args:List aa) (H:ai):Option (aa×ai):=
 match aa.kL args with
 |some vs=>match bm P (callFunc f vs.toArray)with
  |some (.value v)=>some (.raw v,H)
  |_=>cond (fn.name== "internal/bytealg.MakeNoZero")
   (match args,fn.resultTypes[0]? with
     |[.raw (.int .i64 (.ofNat n))],some t=>(lz P t).bind fun e=>cond (Nat.ble n 140737488355328&&Nat.beq (P.cellsOf e) 1) (some (.slice H.next 0 n .full,H.new (.cells e [] false false false))) none
     |_,_=>none) none
 |none=>match args with
  |[x]=>cond (fn.name== "internal/abi.NoEscape") (some (x,H)) none
  |_=>none
def sY (P:Program) (f:FuncId) (args:List aa) (H:ai):aK:=
 @Option.rec Func (fun _=>aK) .no (fun fn=> @Option.rec Code (fun _=>aK) (eH (zg P f fn args H)) (fun _=> .enter f args H) fn.body) (P.funcs[f]?)
inductive HY where
 |no
 |fn (f:FuncId)
def OI (f:Fn):HY:=match f with | .func f=> .fn f|_=> .no
def xd (v:Value):HY:=match v with
 | .func fn ⟨[]⟩ ⟨[]⟩=>OI fn
 |_=> .no
def mg (P:Program) (fv:aa) (args:List aa) (H:ai):aK:=
 match fv with
 | .raw v=> @HY.rec (fun _=>aK) (match v with | .func (.func f) first captured=>sY P f (io first++args++io captured) H|_=> .no) (fun f=>sY P f args H) (xd v)
 | .func (.func f) first captured=>sY P f (first++args++captured) H
 | .yield i=> .round i args H
 |_=> .no
abbrev fq:=Program->Oper->dJ->ai->aK
def oH:fq:=fun _ _ _ _=> .no
def ve:fq:=fun P o ev H=>ag H (gen P o ev)
def ru (x:Operand):fq:=fun _ _ ev H=> .ok (ev x) H
def jn (c a b:Operand):fq:=fun _ _ ev H=> @mY.rec (fun _=>aK) .no (fun b'=> @Bool.rec (fun _=>aK) (.ok (ev b) H) (.ok (ev a) H) b') (gD (ev c))
def gk (ev:dJ) (parts:Array (Nat×Operand)):List (Nat×aa):=parts.toList.map fun p=>(p.1,ev p.2)
def OJ (P:Program) (fs:Array Field) (i:Nat):Option (Nat×Nat):=(fs[i]?).bind fun f=>(ek P f.type).map fun s=>(f.offset,s)
def HZ (P:Program) (ev:dJ) (t:TypeId) (parts:Array (Nat×Operand)):Option aa:=
 (mX P t).bind fun z=>
   match P.underlying t with
   |some (.struct fs)=>(q9 (OJ P fs) (io z.cells) (gk ev parts)).bind fun cs=>
     cond (fs.toList.all fun f=>(ek P f.type).isSome) (some (.agg cs)) none
   |some (.array _ e)=>(ek P e).bind fun s=>(q9 (fun i=>some (i*s,s)) (io z.cells) (gk ev parts)).map .agg
   |_=>none
def so (t:TypeId) (parts:Array (Nat×Operand)):fq:=fun P _ ev H=>ag H (HZ P ev t parts)
def H6 (P:Program) (o:Oper) (ev:dJ) (x:Operand):Option aa:=match ev x with
 | .func (.func f) a b=>some (.func (.func f) a b)
 | .yield i=>some (.yield i)
 | .e9 t xs k off=>some (.e9 t xs k off)
 | .dA e t i k off=>some (.dA e t i k off)
 |_=>gen P o ev
def pY (x:Operand):fq:=fun P o ev H=> @w6.rec (fun _=>aK) (ag H (H6 P o ev x)) (fun i off=> .ok (.ptr i off) H) (iI (ev x))
def sZ (P:Program) (op:BinOp) (k:IntKind) (a b:Int):Option Value:=
 match op with
 | .add| .sub| .mul=>bm P (Op.intArith op k a b)
 | .quo| .rem=>bm P (Op.intDiv op k a b)
 | .and| .or| .xor| .andNot=>bm P (Op.intBits op k a b)
 | .shl| .shr=>none
 |_=>bm P (Op.intCmp op a b)
def D2:aa->Option (Int×Int)
 | .agg [.raw (.int .i64 a), .raw (.int .i64 b)]=>some (a,b)
 |_=>none
def D3 (P:Program) (t:TypeId) (x y:aa):Option Bool:=match x,y with
 | .raw (.int .i64 a), .raw (.int .i64 b)=>(match P.underlying t with |some (.int .i64)=>cond (P.plainKey t) (some (a==b)) none|_=>none)
 | .raw (.string a), .raw (.string b)=>(match P.underlying t with |some .string=>cond (P.plainKey t) (some (a.toList==b.toList)) none|_=>none)
 |_,_=>none
def H7 (P:Program) (t:TypeId) (x y:aa):Option Bool:=match x,y with
 | .agg [a,b], .agg [c,d]=>(match P.underlying t with
   |some (.struct fs)=>(match fs.toList with
    |[f,g]=>cond (f.name != "_" &&(g.name != "_" &&(Nat.beq f.offset 0&&(Nat.beq g.offset 1&&(!P.eqGuardType P.depth t&& !P.stoodInHeld t))))) (match D3 P f.type a c,D3 P g.type b d with
     |some p,some q=>some (p&&q)
     |_,_=>none) none
    |_=>none)
   |_=>none)
 |_,_=>none
def H8 (P:Program) (t:TypeId) (x y:aa):Option Bool:=
 match D2 x,D2 y with
 |some p,some q=>(match P.underlying t with
  |some (.array n e)=>(match P.underlying e with
   |some (.int .i64)=>cond (Nat.beq n 2&&(!P.eqGuardType P.depth t&&(P.plainKey e&&(Nat.beq (P.cellsOf e) 1&&(P.info? e).isSome)))) (some (p.1==q.1&&p.2==q.2)) none
   |_=>none)
  |_=>none)
 |_,_=>none
def BY (P:Program) (t:TypeId) (x y:aa):Option Bool:=match H7 P t x y with
 |some b=>some b
 |none=>H8 P t x y
def H9:aa->Option Bool
 | .bh true _ xs=>some xs.isEmpty
 |_=>none
def D4:aa->Bool
 | .raw (.slice none 0 0)=>true
 |_=>false
def Ia (P:Program) (t:TypeId) (x y:aa):Option Bool:=
 match H9 x with
 |some b=>(match P.underlying t with |some (.slice _)=>cond (D4 y) (some b) none|_=>none)
 |none=>none
def Bo (P:Program) (o:Oper) (ev:dJ) (t:TypeId) (want:Bool) (x y:aa):Option aa:=
 match Ia P t x y with
 |some b=>some (.raw (.bool (b==want)))
 |none=>
 match BY P t x y with
 |some b=>some (.raw (.bool (b==want)))
 |none=>
 match HV P t x y with
 |some b=>some (.raw (.bool (b==want)))
 |none=>cond (fm P t x&&sameKind x y) (some (.raw (.bool !want))) (cond (fm P t y&&sameKind y x) (some (.raw (.bool !want))) (gen P o ev))
def xe (P:Program) (o:Oper) (ev:dJ) (op:BinOp) (t:TypeId) (x y:aa):Option aa:=
 match op with
 | .eql=>Bo P o ev t true x y
 | .neq=>Bo P o ev t false x y
 |_=>gen P o ev
def rx (P:Program) (o:Oper) (ev:dJ) (op:BinOp) (k k':IntKind) (a b:Int):Option aa:=
 cond (k==k') (match sZ P op k a b with |some v=>some (.raw v)|none=>gen P o ev) (gen P o ev)
def s4:Nat->Nat->Option aa:=fun _ _=>none
def small (n:Nat):Option aa:= @Bool.rec (fun _=>Option aa) none (some (.raw (.int .i64 (.ofNat n)))) (Nat.ble (Nat.succ n) 9223372036854775808)
def zh:BinOp->Nat->Nat->Option aa:=
 @BinOp.rec (fun _=>Nat->Nat->Option aa) (fun a b=>small (Nat.add a b)) (fun a b=> @Bool.rec (fun _=>Option aa) none (small (Nat.sub a b)) (Nat.ble b a)) s4 s4 s4 s4 s4 s4 s4 s4 s4
   (fun a b=>some (.raw (.bool (Nat.beq a b)))) (fun a b=>some (.raw (.bool (!(Nat.beq a b))))) (fun a b=>some (.raw (.bool (Nat.ble (Nat.succ a) b)))) (fun a b=>some (.raw (.bool (Nat.ble a b))))
   (fun a b=>some (.raw (.bool (Nat.ble (Nat.succ b) a)))) (fun a b=>some (.raw (.bool (Nat.ble b a))))
def Bp:IntKind->Bool:= @IntKind.rec (fun _=>Bool) false false false true false false false false
def ju (op:BinOp) (k k':IntKind) (a b:Int):Option aa:=
 @u7.rec (fun _=>Option aa) none (fun m=> @u7.rec (fun _=>Option aa) none (fun n=> @Bool.rec (fun _=>Option aa) none (@Bool.rec (fun _=>Option aa) none (zh op m n) (Bp k')) (Bp k)) (u9 b)) (u9 a)
def i7 (op:BinOp) (t:TypeId) (x y:Operand) (_yt:TypeId):fq:=fun P o ev H=>
 @w8.rec (fun _=>aK) (ag H (xe P o ev op t (ev x) (ev y)))
   (fun k a=> @w8.rec (fun _=>aK) (ag H (gen P o ev)) (fun k' b=> @Option.rec aa (fun _=>aK) (ag H (rx P o ev op k k' a b)) (fun v=> .ok v H) (ju op k k' a b)) (iH (ev y))) (iH (ev x))
def OK (P:Program) (t:TypeId) (v:aa):Option aa:=match P.underlying t with
 |some (.interface _)|none=>none
 |some _=>some (.iface t v)
def Bq (t:TypeId) (x:Operand):fq:=fun P _ ev H=>ag H (OK P t (ev x))
def Br (fn:Fn) (first captured:Array Operand):fq:=fun _ _ ev H=> .ok (.func fn (first.toList.map ev) (captured.toList.map ev)) H
def Bs (P:Program) (o:Oper) (ev:dJ) (t:TypeId) (x:Operand) (lo hi mx:Option Operand):Option aa:=match ev x with
 | .raw _=>gen P o ev
 |x=>Bm P t x (lo.map ev) (hi.map ev) (mx.map ev)
def oI (t:TypeId) (x:Operand) (lo hi mx:Option Operand):fq:=fun P o ev H=>ag H (Bs P o ev t x lo hi mx)
def pZ (s:TypeId) (x:Operand) (f:Nat):fq:=fun P _ ev H=>
 @HQ.rec (fun _=>aK) .no (fun gC n _=> @w6.rec (fun _=>aK) (u6 gC n (ev x) H) (fun i off=> @Bool.rec (fun _=>aK) .no (.ok (.ptr i (Nat.add off gC)) H) (Nat.ble 1 n)) (iI (ev x))) (fv P s f)
def p0 (t:TypeId) (x:Operand) (f:Nat):fq:=fun P o ev H=>
 @Option.rec (List aa) (fun _=>aK) (ag H (gen P o ev)) (fun cs=> @HQ.rec (fun _=>aK) .no (fun gC _ ft=>ag H (apart P ft cs gC)) (fv P t f)) (q7 (ev x))
def mZ (t:TypeId) (x ix:Operand):fq:=fun P _ ev H=>
 @u7.rec (fun _=>aK) .no (fun k=> @OH.rec (fun _=>aK) .no
   (fun n s=> @w6.rec (fun _=>aK) (u5 k n s (ev x) H) (fun i off=> @Bool.rec (fun _=>aK) .no (.ok (.ptr i (Nat.add off (Nat.mul k s))) H) (Nat.ble (Nat.succ k) n)) (iI (ev x)))
   (fun s=> @bw.rec (fun _=>aK) (q6 k s (ev x) H) (fun i off len _=> @Bool.rec (fun _=>aK) .no (.ok (.ptr i (Nat.add off (Nat.mul k s))) H) (Nat.ble (Nat.succ k) len)) (w9 (ev x)))
   (nT P t)) (nU (ev ix))
def OL (P:Program) (t:TypeId) (cs:List aa) (ix:aa):Option aa:=match P.underlying t with
 |some (.array n e)=>(l8 ix).bind fun k=>(ek P e).bind fun s=>cond (Nat.ble (k+1) n) (apart P e cs (k*s)) none
 |_=>none
def mh (t:TypeId) (x ix:Operand):fq:=fun P o ev H=>
 @Option.rec (List aa) (fun _=>aK) (ag H (gen P o ev)) (fun cs=>ag H (OL P t cs (ev ix))) (q7 (ev x))
def p4 (x:Operand) (i:Nat):fq:=fun P o ev H=>
 @Option.rec (List aa) (fun _=>aK) (ag H (gen P o ev)) (fun vs=>ag H (nth vs i)) (y7 (ev x))
def s5 (P:Program) (t:TypeId) (x:aa) (H:ai):aK:=match x with
 | .e9 u xs k off=>ag H (kw P t (elemAt u xs k) off)
 | .dA e u i k off=>cond (bz e u (H.get i) k) (ag H (kw P t (elemAt u (bM u (H.get i)) k) off)) .no
 |_=> .no
def nV (t:TypeId) (x:Operand):fq:=fun P _ ev H=>
 @w6.rec (fun _=>aK) (s5 P t (ev x) H) (fun i off=> @Bl.rec (fun _=>aK) .no (fun _ cs _ _ _=>ag H (kw P t cs off)) (sW (H.get i))) (iI (ev x))
def Ib (P:Program) (o:Oper) (ev:dJ) (t:TypeId) (m k:aa) (ok:Bool) (H:ai):Option aa:=match m,k.fc with
 | .map i,some kv=>match H.get i with
   |some (.map es _)=>(HW P t es kv ok).map .raw
   |_=>none
 |_,_=>gen P o ev
def Bt (t:TypeId) (m k:Operand) (ok:Bool):fq:=fun P o ev H=>ag H (Ib P o ev t (ev m) (ev k) ok H)
def Bu (P:Program) (o:Oper) (ev:dJ) (s d:TypeId) (x:aa) (H:ai):Option (aa×ai):=match x with
 | .slice i off len _=>match P.underlying s,P.underlying d,H.get i with
   |some (.slice e),some .string,some (.cells _ cs _ _ _)=>match P.underlying e with
    |some (.int .u8)=>cond (Nat.ble (off+len) cs.length) ((bytesOf (cut cs off len)).map fun bs=>(.raw (.string ⟨bs.toArray⟩),H)) none
    |_=>none
   |_,_,_=>none
 | .ptr i off=>match P.underlying s,P.underlying d,H.get i with
   |some (.pointer t),some .unsafePointer,some (.cells _ cs _ _ _)=>match ek P t with
    |some (_+1)=>cond (Nat.ble (off+1) cs.length) (some (.ptr i off,H)) none
    |_=>none
   |some .unsafePointer,some (.pointer u),some (.cells e cs true _ _)=>cond ((ek P u).isSome&&liesAt P P.depth e (cs.length/P.cellsOf e) off u 1) (some (.ptr i off,H)) none
   |_,_,_=>none
 | .raw (.string b)=>match P.underlying s,P.underlying d with
   |some .string,some (.slice e)=>match P.underlying e with
    |some (.int .u8)=>cond (Nat.beq (P.cellsOf e) 1) (some (.slice H.next 0 b.size .full,H.new (.cells e (b.data.toList.map fun x=> .raw (.int .u8 x.toNat)) false true false))) none
    |_=>none
   |_,_=>(gen P o ev).map fun v=>(v,H)
 |_=>(gen P o ev).map fun v=>(v,H)
def zi (s d:TypeId) (x:Operand):fq:=fun P o ev H=>eH (Bu P o ev s d (ev x) H)
def s6 (e:TypeId):fq:=fun P _ _ H=> @Option.rec Value (fun _=>aK) .no (fun z=> .ok (.ptr H.next 0) (H.new (.cells e (io z.cells) true false false))) (mX P e)
def oJ (e:TypeId) (x:Operand):fq:=fun _ _ ev H=> @Bool.rec (fun _=>aK) (.ok (.ptr H.next 0) (H.new (.cells e (ev x).cells true false false))) .no (ev x).u0
def oK (P:Program) (ev:dJ) (t:TypeId) (len:Nat) (parts:Array (Nat×Operand)) (H:ai):Option (aa×ai):=
 (lz P t).bind fun e=>(ek P e).bind fun s=>(mX P e).bind fun z=>
   cond (Nat.ble 1 s&&Nat.ble (len*s) 16777216&&Nat.beq z.cells.size s)
    ((q9 (fun i=>some (i*s,s)) (List.replicate len (io z.cells)).flatten (gk ev parts)).map fun cs=>
      (.slice H.next 0 len (.known len),H.new (.cells e cs true false false))) none
def zj (t:TypeId) (len:Nat) (parts:Array (Nat×Operand)):fq:=fun P _ ev H=>eH (oK P ev t len parts H)
def p5 (P:Program) (t:TypeId) (l c:aa) (H:ai):Option (aa×ai):=
 (lz P t).bind fun e=>(P.info? e).bind fun inf=>(inf.zero).bind fun z=>(l8 l).bind fun l=>(l8 c).bind fun c=>
   cond (Nat.ble l c&&Nat.ble 1 inf.size&&bounded c inf.bytes&&Nat.beq z.cells.size inf.size)
    (some (.slice H.next 0 l (.known c),H.new (.cells e (List.replicate c (io z.cells)).flatten true false false))) none
def s7 (t:TypeId) (l c:Operand):fq:=fun P _ ev H=>eH (p5 P t (ev l) (ev c) H)
def s8 (P:Program) (t:TypeId) (n:Nat):Bool:=match ek P t with |some m=>Nat.beq n m|none=>false
def Bv (P:Program) (t:TypeId) (i off:Nat) (y:aa) (H:ai) (e:TypeId) (cs:List aa) (exact:Bool):Option (aa×ai):=
 cond (eO y.cells&&s8 P t y.cells.length)
  ((kM cs off y.cells).map fun cs'=>(.raw undef,H.set i (.cells e cs' exact false false))) none
def xg (P:Program) (t:TypeId) (x y:aa) (H:ai):aK:=match x with
 | .dA e u i k off=>cond (bz e u (H.get i) k) (cond (eO y.cells&&s8 P t y.cells.length) (match(kM (elemAt u (bM u (H.get i)) k) off y.cells).bind u.read with
     |some d=> .ok (.raw undef) (H.set i (.own e u ((bM u (H.get i)).set k d)))
     |none=> .no) .no) .no
 |_=> .no
def p6 (t:TypeId) (x y:Operand):fq:=fun P _ ev H=>
 @w6.rec (fun _=>aK) (xg P t (ev x) (ev y) H) (fun i off=> @Bl.rec (fun _=>aK) .no (fun e cs exact cE ro=> @Bool.rec (fun _=>aK) (@Bool.rec (fun _=>aK) (eH (Bv P t i off (ev y) H e cs exact)) .no cE) .no ro) (sW (H.get i))) (iI (ev x))
def ry (P:Program) (ev:dJ) (t:TypeId) (r:Option Operand) (H:ai):Option (aa×ai):=match r with
 |none=>some (.map H.next,H.new (.map #[] 0))
 |some h=>match P.underlying t,ev h with |some (.map _ _), .raw (.int _ _)=>some (.map H.next,H.new (.map #[] 0))|_,_=>none
def zk (t:TypeId) (r:Option Operand):fq:=fun P _ ev H=>eH (ry P ev t r H)
def D5 (P:Program) (t:TypeId) (kv:Value):Bool:=match P.underlying t with
 |some (.map kt _)=>match bm P (Instr.checkKey false 10000 kt kv),bm P (Instr.findKey kt kv [])with
  |some _,some none=>true
  |_,_=>false
 |_=>false
def Ic (P:Program) (t:TypeId) (m k x:aa) (H:ai):Option (aa×ai):=match m,k.fc with
 | .map i,some kv=>match H.get i with
   |some (.map ⟨[]⟩ 0)=>cond (D5 P t kv) (some (.raw undef,H.set i (.one kv x))) none
   |_=>none
 |_,_=>none
def Bw (P:Program) (t:TypeId) (m k x:aa) (H:ai):Option (aa×ai):=match m,k.fc,x.fc with
 | .map i,some kv,some xv=>match H.get i with
   |some (.map es clock)=>(HX P t es clock kv xv).map fun r=>(.raw undef,H.set i (.map r.1 r.2))
   |_=>none
 |_,_,none=>Ic P t m k x H
 |_,_,_=>none
def D6 (P:Program) (t:TypeId) (x:aa) (H:ai):Option (aa×ai):=match P.underlying t,x with
 |some (.map _ _), .map i=>match H.get i with
  |some (.map ⟨[]⟩ 0)=>some (.ptr H.next 0,H.new (.iter i 0 false))
  |some (.one _ _)=>some (.ptr H.next 0,H.new (.iter i 1 false))
  |_=>none
 |_,_=>none
def pc (t:TypeId) (x:Operand):fq:=fun P _ ev H=>eH (D6 P t (ev x) H)
def Ie (j:Nat) (H:ai):Option bq->Option (aa×ai)
 |some (.iter i 0 false)=>match H.get i with
  |some (.map ⟨[]⟩ 0)=>some (.tuple [.raw (.bool false)],H)
  |_=>none
 |some (.iter i 1 false)=>match H.get i with
  |some (.one kv v)=>some (.tuple [.raw (.bool true), .raw kv,v],H.set j (.iter i 1 true))
  |_=>none
 |some (.iter i 1 true)=>match H.get i with
  |some (.one _ _)=>some (.tuple [.raw (.bool false)],H)
  |_=>none
 |_=>none
def D7 (x:aa) (s:Bool) (H:ai):Option (aa×ai):=match x,s with
 | .ptr j 0,false=>Ie j H (H.get j)
 |_,_=>none
def zl (x:Operand) (s:Bool):fq:=fun _ _ ev H=>eH (D7 (ev x) s H)
def OM (H:ai):Option bq->Option aa
 |some (.iter i 1 true)=>match H.get i with
  |some (.one kv v)=>some (.tuple [.raw kv,v])
  |_=>none
 |_=>none
def OO (x:aa) (H:ai):Option aa:=match x with
 | .ptr j 0=>OM H (H.get j)
 |_=>none
def Bx (x:Operand):fq:=fun _ _ ev H=>ag H (OO (ev x) H)
def oL (t:TypeId) (m k x:Operand):fq:=fun P _ ev H=>eH (Bw P t (ev m) (ev k) (ev x) H)
def oM (l:List Int):ByteArray:=⟨(l.map fun x=>UInt8.ofNat x.toNat).toArray⟩
def Ig (l:List Int):Bool:=decide (dN (oM l)=l)
def D8 (P:Program) (pt e':TypeId) (u:av):Bool:=match P.underlying pt with
 |some (.pointer e)=>Nat.beq e e'&&(Nat.beq (P.cellsOf e) 1&&decide (u= .int .u8))
 |_=>false
def vg (P:Program) (pt:TypeId) (x n:aa) (H:ai):Option (aa×ai):=match x with
 | .ptr i 0=>match n with
   | .raw (.int .i64 (.ofNat n))=>match P.underlying pt,H.get i with
     |some (.pointer e),some (.cells e' cs exact _ false)=>
      cond (Nat.beq e e'&&Nat.beq (P.cellsOf e) 1&&Nat.ble 1 n&&Nat.ble n cs.length&&Nat.ble n 140737488355328)
       ((bytesOf (cs.take n)).map fun bs=>(.raw (.string ⟨bs.toArray⟩),H.set i (.cells e' cs exact true false))) none
     |_,_=>none
   |_=>none
 | .dA e' u i 0 0=>match n with
   | .raw (.int .i64 (.ofNat n))=>
     cond (D8 P pt e' u&&(Nat.ble 1 n&&(Nat.ble n 140737488355328&&(bz e' (.int .u8) (H.get i) (n-1)&&Ig ((bM (.int .u8) (H.get i)).take n)))))
      (some (.raw (.string (oM ((bM (.int .u8) (H.get i)).take n))),H.drop i)) none
   |_=>none
 |_=>none
def OP (H:ai) (i:Nat):Option aa:=match H.get i with
 |some (.map es _)=>some (.raw (.int .i64 (.ofNat es.size)))
 |some (.one _ _)=>some (.raw (.int .i64 (.ofNat 1)))
 |_=>none
def By (P:Program) (t:Option TypeId) (v:aa) (H:ai):Option aa:=t.bind fun t=>match P.underlying t,v with
 |some (.map _ _), .map i=>OP H i
 |_,_=>none
def Ih (P:Program) (t:Option TypeId) (v:aa):Option aa:=t.bind fun t=>match P.underlying t,v with
 |some (.slice _), .slice _ _ len _=>some (.raw (.int .i64 (.ofNat len)))
 |some (.slice _), .bh _ _ xs=>some (.raw (.int .i64 (.ofNat xs.length)))
 |some (.slice _), .bR _ _ _ _ len _=>some (.raw (.int .i64 (.ofNat len)))
 |some (.array n _), .agg _=>some (.raw (.int .i64 (.ofNat n)))
 |some .string, .raw (.string b)=>some (.raw (.int .i64 (.ofNat b.size)))
 |_,_=>none
def Ii (P:Program) (t:Option TypeId) (v:aa):Option aa:=t.bind fun t=>match P.underlying t,v with
 |some (.slice _), .slice _ _ _ (.known n)=>some (.raw (.int .i64 (.ofNat n)))
 |_,_=>none
def nW (P:Program) (o:Oper) (ev:dJ) (b:Builtin) (argTypes:Array TypeId) (args:List aa) (H:ai):aK:=
 match b,args with
 | .len,[v]=>match By P argTypes[0]? v H with |some r=> .ok r H|none=>match Ih P argTypes[0]? v with |some r=> .ok r H|none=>ag H (gen P o ev)
 | .cap,[v]=>match Ii P argTypes[0]? v with |some r=> .ok r H|none=>ag H (gen P o ev)
 | .append,[s,x]=>match argTypes.toList with
   |[t,t']=>match P.underlying t' with
    |some (.slice _)=>eH (mb P t s x H)
    |some .string=>eH (mb P t s x H)
    |_=> .no
   |_=> .no
 | .copy,[d,x]=>match argTypes.toList with |[t,_]=>eH (zf P t d x H)|_=> .no
 | .clear,[.slice i off (len+1) _]=>match argTypes.toList with |[t]=>eH (pb P t i off (len+1) H)|_=> .no
 | .clear,[.slice _ _ 0 _]=>match argTypes.toList with
   |[t]=>match P.underlying t with |some (.slice _)=> .ok (.raw (.tuple #[])) H|_=> .no
   |_=> .no
 | .unsafeString,[p,n]=>match argTypes.toList with |[pt,_]=>eH (vg P pt p n H)|_=> .no
 | .unsafeSliceData,[.slice i off len _]=> @Bool.rec (fun _=>aK) .no (.ok (.ptr i off) H) (Nat.ble 1 len)
 | .unsafeSliceData,[.bR e t i k len _]=> @Bool.rec (fun _=>aK) .no (.ok (.dA e t i k 0) H) (Nat.ble 1 len)
 |_,_=>ag H (gen P o ev)
def iY (c:Call):fq:=fun P o ev H=>
 match c.callee with
 | .value f=>mg P (ev f) (c.args.toList.map ev) H
 | .builtin b=>nW P o ev b c.argTypes (c.args.toList.map ev) H
 | .invoke _ _=> .no
def eV:Op->fq:=
 @Op.rec (fun _=>fq) ru ru jn s6 oJ so zj oL nV p6 (fun _=>oH) (fun _=>oH) pY i7 (fun _ _ _=>ve) zi (fun _ _=>oH) Bq Br zk (fun _ _=>oH) s7
   oI pZ p0 mZ mh Bt oL (fun _ _ _=>oH) (fun _ _ _ _=>oH) pc zl Bx (fun _ _ _ _=>ve) p4 iY (fun _=>oH) (fun _=>oH) (fun _=>oH) (fun _ _=>oH) (fun _ _ _=>oH) (fun _ _=>oH)
--EV
def ck (T:aq aa):dJ:=fun x=>
 @Operand.rec (fun _=>aa) (fun t=> @Option.rec aa (fun _=>aa) (.raw undef) (fun v=>v) (T.get t)) (fun v=> .raw v) (fun g=> @Bool.rec (fun _=>aa) (.raw (.pointer (some ⟨g,0,none⟩))) (.ptr g 0) (Nat.ble (Nat.succ g) 64)) (fun f=> .raw (.func (.func f) #[] #[])) x
--VE
inductive R where
 |no
 |normal (T:aq aa) (H:ai) (m:List Nat)
 |exit (id:Nat) (T:aq aa) (H:ai) (m:List Nat)
 |goto (l:Nat) (T:aq aa) (H:ai) (m:List Nat)
 |ret (T:aq aa) (H:ai) (m:List Nat)
def iJ (T:aq aa) (n:Nat) (dst:Option Tmp) (v:aa):Option (aq aa):=
 @Option.rec Tmp (fun _=>Option (aq aa)) (some T) (fun d=> @Bool.rec (fun _=>Option (aq aa)) none (some (T.set d (some v))) (Nat.ble (Nat.succ d) n)) dst
def xh (T:aq aa) (ops:Array Oper) (g:Nat×Bool):Option Bool:=
 match(ops[g.1]?).bind (·.dst)with
 |some d=>match T.get d with |some (.raw (.bool b))=>some (b==g.2)|some .bot=>none|_=>some false
 |none=>none
def cf (T:aq aa) (ops:Array Oper) (o:Oper):Option Bool:=
 @Option.rec (Nat×Bool) (fun _=>Option Bool) (some true) (fun g=>xh T ops g) o.guard
abbrev er:=FuncId->List aa->ai->aK
abbrev jR:=Nat->List aa->ai->aK
def iZ (P:Program) (call:er) (round:jR) (o:Oper) (ev:dJ) (H:ai):aK:=
 @aK.rec (fun _=>aK) .no (fun v H=> .ok v H) (fun f args H=>call f args H) (fun i args H=>round i args H) (eV o.op P o ev H)
inductive eP where
 |no
 |mk (T:aq aa) (H:ai)
def p7 (k:aq aa->ai->eP) (H:ai) (T:Option (aq aa)):eP:= @Option.rec (aq aa) (fun _=>eP) .no (fun T=>k T H) T
def s9 (n:Nat) (dst:Option Tmp) (k:aq aa->ai->eP) (T:aq aa) (r:aK):eP:=
 @aK.rec (fun _=>eP) .no (fun v H=>p7 k H (iJ T n dst v)) (fun _ _ _=> .no) (fun _ _ _=> .no) r
def xj (P:Program) (call:er) (round:jR) (ops:Array Oper) (n:Nat) (o:Oper) (T:aq aa) (H:ai) (k:aq aa->ai->eP):eP:=
 @Option.rec Bool (fun _=>eP) .no (fun b=> @Bool.rec (fun _=>eP) (p7 k H (iJ T n o.dst (.raw undef))) (s9 n o.dst k T (iZ P call round o (ck T) H)) b) (cf T ops o)
def xk (P:Program) (call:er) (round:jR) (ops:Array Oper) (n:Nat) (l:List Oper):aq aa->ai->eP:=
 @List.rec Oper (fun _=>aq aa->ai->eP) (fun T H=> .mk T H) (fun o _ ih T H=>xj P call round ops n o T H ih) l
abbrev gV:=Code->(n:Nat)->(aL:Bool)->aq aa->ai->List Nat->R
def iter (body:aq aa->ai->List Nat->R) (k:Nat):aq aa->ai->List Nat->R:=
 @Nat.rec (fun _=>aq aa->ai->List Nat->R) (fun _ _ _=> .no) (fun _ ih T H m=> @R.rec (fun _=>R) .no ih .exit .goto .ret (body T H m)) k
def Ij (P:Program) (T:aq aa) (H:ai):ResultVar->Option aa
 | .tmp t=>some ((T.get t).getD (.raw undef))
 | .cell a t=>match T.get a with
   |some (.ptr i off)=>match H.get i with
    |some (.cells _ cs _ _ _)=>kw P t cs off
    |_=>none
   |_=>none
def Bz (P:Program) (T:aq aa) (H:ai):List ResultVar->Option (List aa)
 |[]=>some []
 |r::l=>(Ij P T H r).bind fun v=>(Bz P T H l).map fun vs=>v::vs
def jS (P:Program) (fn:Func) (T:aq aa) (H:ai):aK:=
 match Bz P T H fn.results.toList with
 |some [v]=> .ok v H
 |some vs=> .ok (.tuple vs) H
 |none=> .no
def de (l:List aa):aq aa->Nat->aq aa:=
 @List.rec aa (fun _=>aq aa->Nat->aq aa) (fun T _=>T) (fun v _ ih T k=>ih (T.set k (some v)) (Nat.succ k)) l
def xm:List Nat->ai->Option ai
 |[],H=>some H
 |i::m,H=>match H.get i with
  |some .deferred=>xm m (H.drop i)
  |_=>none
def j9 (P:Program) (fn:Func) (T:aq aa) (H:ai) (m:List Nat):aK:=
 @Option.rec ai (fun _=>aK) .no (fun H=>jS P fn T H) (xm m H)
def Ik (P:Program) (ih:gV) (args:List aa) (H:ai) (fn:Func) (c:Code):aK:=
 @Bool.rec (fun _=>aK) .no (@R.rec (fun _=>aK) .no (fun T H m=>j9 P fn T H m) (fun _ _ _ _=> .no) (fun _ _ _ _=> .no) (fun T H m=>j9 P fn T H m)
   (ih c fn.ntmps false (de args .nil 0) H [])) (Nat.ble args.length fn.ntmps)
def nc (P:Program) (ih:gV):er:=fun f args H=>
 @Option.rec Func (fun _=>aK) .no (fun fn=> @Option.rec Code (fun _=>aK) .no (fun c=>Ik P ih args H fn c) fn.body) (P.funcs[f]?)
def xo (T:aq aa) (l:List (Tmp×aa)):aq aa:=l.foldl (fun T p=>T.set p.1 (some p.2)) T
def td (i:Nat):R->aK
 | .normal _ H _=>match H.get i with |some (.loop r)=> .ok (.raw (.bool true)) (H.set i (.loop {r with state:= .ready,pending:=none}))|_=> .no
 | .ret _ H _=>match H.get i with |some (.loop r)=> .ok (.raw (.bool false)) (H.set i (.loop {r with state:= .done,pending:=some .ret}))|_=> .no
 | .exit id _ H _=>match H.get i with |some (.loop r)=> .ok (.raw (.bool false)) (H.set i (.loop {r with state:= .done,pending:=some (.exit id)}))|_=> .no
 | .goto l _ H _=>match H.get i with |some (.loop r)=> .ok (.raw (.bool false)) (H.set i (.loop {r with state:= .done,pending:=some (.goto l)}))|_=> .no
 | .no=> .no
def th (ih:gV):jR:=fun i args H=>
 match H.get i with
 |some (.loop r)=>
  match r.state with
  | .ready=>cond (Nat.beq args.length r.params.size&&r.params.toList.all fun t=>Nat.ble (t+1) r.size)
    (match ih r.assign r.size true (xo r.tmps (r.params.toList.zip args)) H []with
      | .normal T H []=>match H.get i with
        |some (.loop r')=>match r'.state with
         | .ready=>td i (ih r.body r.size true T (H.set i (.loop {r' with state:= .busy})) [])
         |_=> .no
        |_=> .no
      |_=> .no) .no
  |_=> .no
 |_=> .no
def rounds:Nat:=4096
def BA (ih:gV) (n:Nat) (T:aq aa) (D:Nat) (m:List Nat):aK->R
 | .ok _ H3=>match H3.get (Nat.succ D)with
   |some (.loop r)=>match r.state with
    | .busy=> .no
    |_=>match r.pending with
     |none=> .normal T (H3.set (Nat.succ D) (.loop {r with state:= .exhausted})) (D::m)
     |some c=>ih c n false T (H3.set (Nat.succ D) (.loop {r with state:= .exhausted})) (D::m)
   |_=> .no
 |_=> .no
def i8 (P:Program) (ih:gV) (f:Operand) (params:Array Tmp) (assign body:Code) (n:Nat) (T:aq aa) (H:ai) (m:List Nat):R:=
 match mg P (ck T f) [.yield (Nat.succ H.next)] ((H.new .deferred).new (.loop {tmps:=T,size:=n,params,assign,body,state:= .ready,pending:=none}))with
 | .enter g args H2=>BA ih n T H.next m (nc P ih g args H2)
 |_=> .no
abbrev Il:=er->jR->Array Oper->Nat->aq aa->ai->eP
abbrev oN:=Bool->Il
abbrev co:=Program->oN->gV->(n:Nat)->(aL:Bool)->aq aa->ai->List Nat->R
def zm (m:List Nat) (r:eP):R:= @eP.rec (fun _=>R) .no (fun T H=> .normal T H m) r
def OQ:co:=fun _ _ _ _ _ T H m=> .normal T H m
def XL (_id:Nat) (ops:Array Oper) (d:Bool):co:=fun P draw ih n _ T H m=>
 zm m (draw d (nc P ih) (th ih) ops n T H)
def XM (a b:Code) (_ _:co):co:=fun _ _ ih n aL T H m=> @R.rec (fun _=>R) .no (fun T H m=>ih b n aL T H m) .exit .goto .ret (ih a n aL T H m)
def XN (c:Operand) (x y:Code) (_ _:co):co:=fun _ _ ih n aL T H m=>
 @mY.rec (fun _=>R) .no (fun b=> @Bool.rec (fun _=>R) (ih y n aL T H m) (ih x n aL T H m) b) (gD (ck T c))
def XO (id:Nat) (b:Code) (_:co):co:=fun _ _ ih n aL T H m=>
 @R.rec (fun _=>R) .no .normal (fun i T H m=> @Bool.rec (fun _=>R) (.exit i T H m) (.normal T H m) (Nat.beq i id)) .goto .ret (ih b n aL T H m)
def OS (b:Code) (_:co):co:=fun _ _ ih n aL T H m=>iter (ih b n aL) rounds T H m
def XP (f:Operand) (params:Array Tmp) (assign body:Code) (_ _:co):co:=fun P _ ih n aL T H m=>
 @Bool.rec (fun _=>R) (i8 P ih f params assign body n T H m) .no aL
def XQ (id:Nat):co:=fun _ _ _ _ _ T H m=> .exit id T H m
def XR (b:Code) (_:co):co:=fun _ _ ih n aL T H m=> @R.rec (fun _=>R) .no .normal .exit (fun _ _ _ _=> .no) .ret (ih b n aL T H m)
def XS (l:Nat):co:=fun _ _ _ _ _ T H m=> .goto l T H m
def XT:co:=fun _ _ _ _ _ T H m=> .ret T H m
def XU:co:=fun _ _ _ _ _ _ _ _=> .no
def zn:Code->co:=
 @Code.rec (fun _=>co) OQ XL XM XN XO OS XP XQ XR (fun _=>OQ) XS XT (fun _=>XU)
def vh (S:er) (call:er):er:=fun f args H=> @aK.rec (fun _=>aK) (call f args H) (fun v H=> .ok v H) .enter .round (S f args H)
def p8 (P:Program) (draw:oN) (fuel:Nat):gV:=
 @Nat.rec (fun _=>gV) (fun _ _ _ _ _ _=> .no) (fun _ ih c=>zn c P draw ih) fuel
end
section
open Go.RowKit
def xp:List Bool->Nat
 |[]=>0
 |true::l=>2*xp l+1
 |false::l=>2*xp l+2
theorem D9:∀(f i:Nat),i<f->xp (sh f i)=i
 |0,i,h=>by omega
 |f+1,i,h=>by
  have e:sh (f+1) i= @Bool.rec (fun _=>List Bool) (@Bool.rec (fun _=>List Bool) (false::sh f (Nat.sub (Nat.div i 2) 1)) (true::sh f (Nat.div i 2)) (Nat.beq (Nat.mod i 2) 1)) [] (Nat.beq i 0):=rfl;rw [e];cases h0:Nat.beq i 0 with
  |true=>simpa [xp]using(ac h0).symm
  |false=>
   have hi:i≠0:=Nat.ne_of_beq_eq_false h0;have d1:Nat.div i 2=i/2:=rfl;have m1:Nat.mod i 2=i%2:=rfl;cases h1:Nat.beq (Nat.mod i 2) 1 with
   |true=>
    have:=ac h1;show 2*xp (sh f (Nat.div i 2))+1=i;rw [D9 f _ (by rw [d1];omega),d1];omega
   |false=>
    have:=Nat.ne_of_beq_eq_false h1;show 2*xp (sh f (Nat.sub (Nat.div i 2) 1))+2=i;have e2:Nat.sub (Nat.div i 2) 1=i/2-1:=rfl;rw [e2,D9 f _ (by omega)];omega
theorem XV {i j:Nat} (h:bits i=bits j):i=j:=by
 have:=congrArg xp h;rwa [bits,bits,D9 _ _ (e8 i),D9 _ _ (e8 j)]at this
theorem aq.xq {α:Type} (p:List Bool):aq.oG p (aq.nil:aq α)=none:=by cases p<;>rfl
theorem aq.Im {α:Type} (x:Option α):∀(p q:List Bool) (t:aq α),aq.oG q (aq.w5 x p t)=if p=q then x else aq.oG q t
 |[],[], .nil=>rfl
 |[],[], .node l v r=>rfl
 |[],c::q, .nil=>by
  have:aq.oG (c::q) (aq.w5 x [] (aq.nil:aq α))=none:=by
   show @Bool.rec (fun _=>Option α) (aq.oG q .nil) (aq.oG q .nil) c=none
   cases c<;>simp [aq.xq]
  simp [this,aq.xq]
 |[],c::q, .node l v r=>by simp;rfl
 |b::p,[], .nil=>by
  simp only [List.cons_ne_nil,if_false,aq.xq];cases b<;>rfl
 |b::p,[], .node l v r=>by simp only [List.cons_ne_nil,if_false];cases b<;>rfl
 |b::p,c::q, .nil=>by
  have e:aq.oG (c::q) (aq.w5 x (b::p) (aq.nil:aq α))=if b=c then aq.oG q (aq.w5 x p .nil)else none:=by
   cases b<;>cases c<;>first |rfl |exact aq.xq q
  rw [e,aq.Im x p q .nil,aq.xq,aq.xq];by_cases h:b=c<;>simp [h]
 |b::p,c::q, .node l v r=>by
  have e:aq.oG (c::q) (aq.w5 x (b::p) (aq.node l v r))=if b=c then aq.oG q (aq.w5 x p (cond b l r))else aq.oG (c::q) (aq.node l v r):=by
   cases b<;>cases c<;>rfl
  rw [e];by_cases h:b=c
  .subst h;rw [if_pos rfl,aq.Im x p q];cases b<;>by_cases hp:p=q<;>simp [hp]<;>rfl
  .simp [h]
theorem aq.fU {α:Type} (t:aq α) (i j:Nat) (x:Option α):(t.set i x).get j=if i=j then x else t.get j:=by
 unfold aq.get aq.set;rw [aq.Im];by_cases h:i=j
 .subst h;simp
 .rw [if_neg (fun e=>h (XV e)),if_neg h]
theorem aq.get_nil {α:Type} (i:Nat):(aq.nil:aq α).get i=none:=aq.xq _
theorem pd {α:Type}:∀(l:List α) (i:Nat),nth l i=l[i]?
 |[],i=>by cases i<;>rfl
 |a::l,0=>rfl
 |a::l,i+1=>by
  show @Bool.rec (fun _=>Option α) (nth l (Nat.sub (i+1) 1)) (some a) (Nat.beq (i+1) 0)=_
  have:Nat.beq (i+1) 0=false:=rfl;rw [this];have e:Nat.sub (i+1) 1=i:=rfl;rw [e,pd l i];rfl
theorem w7 (v:aa):∀(cs:List aa) (off:Nat),HU v cs off=if off<cs.length then some (cs.set off v)else none
 |[],off=>by simp;rfl
 |a::l,0=>by simp;rfl
 |a::l,i+1=>by
  show @Option.rec (List aa) (fun _=>Option (List aa)) none (fun r=>some (a::r)) (HU v l i)=_
  rw [w7 v l i];by_cases h:i<l.length<;>simp [h]
theorem OT {α:Type} (cs:List α) (off:Nat) (v:α) (h:off<cs.length):cs.set off v=cs.take off++[v]++cs.drop (off+1):=by
 rw [List.set_eq_take_append_cons_drop,if_pos h];simp
theorem BB {cs vs r:List aa} {off:Nat} (h:kM cs off vs=some r):off+vs.length<=cs.length/\r=cs.take off++vs++cs.drop (off+vs.length):=by
 unfold kM at h;split at h
 .rw [w7]at h;split at h
  .rename_i hl;injection h with h
   refine⟨by simp;omega, ?_⟩;rw [<-h,OT _ _ _ hl];rfl
  .cases h
 .cases hb:Nat.ble (off+vs.length) cs.length with
  |false=>rw [hb]at h;cases h
  |true=>
   rw [hb]at h;injection h with h
   exact⟨bS hb,h.symm⟩
structure Env where
 at':Nat->Option (Nat×Nat)
 fz:Nat->Option (Array Value)
instance:CoeFun Env (fun _=>Nat->Option (Nat×Nat)):=⟨Env.at'⟩
def zo (cap:aZ) (c k:Nat):Prop:=match cap with
 | .known n=>k=n
 | .full=>k=c
 | .any=>True
mutual
inductive Den (ρ:Env):aa->Value->Prop
 |raw (v:Value):Den ρ (.raw v) v
 |ptr {i off b c:Nat} (h:ρ i=some (b,c)):Den ρ (.ptr i off) (.pointer (some ⟨b,off,none⟩))
 |slice {i off len b c k:Nat} {cap:aZ} (h:ρ i=some (b,c)) (hc:zo cap c k) (hl:len<=k):Den ρ (.slice i off len cap) (.slice (some ⟨b,off,none⟩) len k)
 |func {fn:Fn} {fs cs:List aa} {xs ys:List Value} (hf:aF ρ fs xs) (hc:aF ρ cs ys):Den ρ (.func fn fs cs) (.func fn xs.toArray ys.toArray)
 |yield {i b c:Nat} (h:ρ i=some (b,c)):Den ρ (.yield i) (.func (.yield b) #[] #[])
 |map {i b c:Nat} (h:ρ i=some (b,c)):Den ρ (.map i) (.map (some b))
 |iface {t:TypeId} {v:aa} {x:Value} (h:Den ρ v x):Den ρ (.iface t v) (.iface t x)
 |agg {cs:List aa} {xs:List Value} (h:aF ρ cs xs):Den ρ (.agg cs) (.agg xs.toArray)
 |tuple {cs:List aa} {xs:List Value} (h:aF ρ cs xs):Den ρ (.tuple cs) (.tuple xs.toArray)
 |bh {z:Bool} {t:av} {xs:List t.den} {b off k:Nat} {A:Array Value} {ys:List Value} (h:ρ.fz b=some A) (ho:off+(t.flat xs).length<=A.size) (hy:(A.toList.drop off).take (t.flat xs).length=ys) (hd:aF ρ (t.flat xs) ys) (hk:xs.length<=k) (hz:z=true->xs≠[]):Den ρ (.bh z t xs) (.slice (some ⟨b,off,none⟩) xs.length k)
 |dW {z:Bool} {t:av} {a:Option Addr} {k:Nat} (hz:z=true->a=none/\k=0):Den ρ (.bh z t []) (.slice a 0 k)
 |e9 {t:av} {xs:List t.den} {k off b o:Nat} {A:Array Value} {ys:List Value} (h:ρ.fz b=some A) (ho:o+(t.flat xs).length<=A.size) (hy:(A.toList.drop o).take (t.flat xs).length=ys) (hd:aF ρ (t.flat xs) ys) (hk:k<xs.length):Den ρ (.e9 t xs k off) (.pointer (some ⟨b,o+(k*t.size+off),none⟩))
 |bR {e:TypeId} {t:av} {i k len b c kc:Nat} {cap:aZ} (h:ρ i=some (b,c)) (hc:zo cap c kc) (hl:len<=kc):Den ρ (.bR e t i k len cap) (.slice (some ⟨b,k*t.size,none⟩) len kc)
 |p9 {e:TypeId} {t:av} {i k:Nat} {cap:aZ} {a:Option Addr}:Den ρ (.bR e t i k 0 cap) (.slice a 0 0)
 |dA {e:TypeId} {t:av} {i k off b c:Nat} (h:ρ i=some (b,c)):Den ρ (.dA e t i k off) (.pointer (some ⟨b,k*t.size+off,none⟩))
 |bot (x:Value):Den ρ .bot x
inductive aF (ρ:Env):List aa->List Value->Prop
 |nil:aF ρ [] []
 |cons {v:aa} {x:Value} {vs:List aa} {xs:List Value} (h:Den ρ v x) (hs:aF ρ vs xs):aF ρ (v::vs) (x::xs)
end
structure cB (ρ ρ':Env):Prop where
 at':∀i x,ρ i=some x->ρ' i=some x
 fz:∀b A,ρ.fz b=some A->ρ'.fz b=some A
instance {ρ ρ':Env}:CoeFun (cB ρ ρ') (fun _=>∀i x,ρ i=some x->ρ' i=some x):=⟨cB.at'⟩
theorem cB.refl (ρ:Env):cB ρ ρ:=⟨fun _ _ h=>h,fun _ _ h=>h⟩
theorem cB.trans {a b c:Env} (h:cB a b) (k:cB b c):cB a c:=⟨fun i x hx=>k i x (h i x hx),fun i x hx=>k.fz i x (h.fz i x hx)⟩
mutual
theorem Den.mono {ρ ρ':Env} (hl:cB ρ ρ'):∀{v:aa} {x:Value},Den ρ v x->Den ρ' v x
 |_,_, .raw v=> .raw v
 |_,_, .ptr h=> .ptr (hl _ _ h)
 |_,_, .slice h hc hk=> .slice (hl _ _ h) hc hk
 |_,_, .func hf hc=> .func (aF.mono hl hf) (aF.mono hl hc)
 |_,_, .yield h=> .yield (hl _ _ h)
 |_,_, .map h=> .map (hl _ _ h)
 |_,_, .iface h=> .iface (Den.mono hl h)
 |_,_, .agg h=> .agg (aF.mono hl h)
 |_,_, .tuple h=> .tuple (aF.mono hl h)
 |_,_, .bh h ho hy hd hk hz=> .bh (hl.fz _ _ h) ho hy (aF.mono hl hd) hk hz
 |_,_, .dW hz=> .dW hz
 |_,_, .e9 h ho hy hd hk=> .e9 (hl.fz _ _ h) ho hy (aF.mono hl hd) hk
 |_,_, .bR h hc hk=> .bR (hl _ _ h) hc hk
 |_,_, .p9=> .p9
 |_,_, .dA h=> .dA (hl _ _ h)
 |_,_, .bot x=> .bot x
theorem aF.mono {ρ ρ':Env} (hl:cB ρ ρ'):∀{v:List aa} {x:List Value},aF ρ v x->aF ρ' v x
 |_,_, .nil=> .nil
 |_,_, .cons h hs=> .cons (Den.mono hl h) (aF.mono hl hs)
end
section
variable {ρ:Env}
theorem aF.length:∀{vs:List aa} {xs:List Value},aF ρ vs xs->xs.length=vs.length
 |_,_, .nil=>rfl
 |_,_, .cons _ hs=>by simp [aF.length hs]
theorem aF.append:∀{vs ws:List aa} {xs ys:List Value},aF ρ vs xs->aF ρ ws ys->aF ρ (vs++ws) (xs++ys)
 |_,_,_,_, .nil,h=>h
 |_,_,_,_, .cons h hs,k=> .cons h (aF.append hs k)
theorem aF.take:∀{vs:List aa} {xs:List Value} (n:Nat),aF ρ vs xs->aF ρ (vs.take n) (xs.take n)
 |_,_,0,h=>by simpa using aF.nil
 |_,_,n+1, .nil=>by simpa using aF.nil
 |_,_,n+1, .cons h hs=> .cons h (aF.take n hs)
theorem aF.drop:∀{vs:List aa} {xs:List Value} (n:Nat),aF ρ vs xs->aF ρ (vs.drop n) (xs.drop n)
 |_,_,0,h=>by simpa using h
 |_,_,n+1, .nil=>by simpa using aF.nil
 |_,_,n+1, .cons h hs=>by simpa using aF.drop n hs
theorem aF.get:∀{vs:List aa} {xs:List Value} {i:Nat} {v:aa},aF ρ vs xs->vs[i]? =some v->∃x,xs[i]? =some x/\Den ρ v x
 |_,_,i,v, .nil,h=>by simp at h
 |_,_,0,v, .cons h hs,k=>by simp at k;subst k;exact⟨_,by simp,h⟩
 |_,_,i+1,v, .cons h hs,k=>by simpa using aF.get hs (by simpa using k)
theorem aF.rz:∀(l:List Value),aF ρ (l.map .raw) l
 |[]=> .nil
 |x::l=> .cons (.raw x) (aF.rz l)
theorem aF.OU:∀{vs:List aa} {xs:List Value},xs.length=vs.length->(∀(i:Nat) (v:aa) (x:Value),vs[i]? =some v->xs[i]? =some x->Den ρ v x)->aF ρ vs xs
 |[],[],_,_=> .nil
 |[],_::_,h,_=>by simp at h
 |_::_,[],h,_=>by simp at h
 |v::vs,x::xs,h,k=> .cons (k 0 v x (by simp) (by simp)) (aF.OU (by simpa using h) fun i v x hv hx=>k (i+1) v x (by simpa using hv) (by simpa using hx))
mutual
theorem Den.gU:∀{v:aa} {x w:Value},Den ρ v x->v.gU=some w->x=w
 |_,_,w, .raw v,h=>by simp [aa.gU]at h;exact h
 |_,_,w, .ptr _,h=>by simp [aa.gU]at h
 |_,_,w, .slice _ _ _,h=>by simp [aa.gU]at h
 |_,_,w, .func hf hc,h=>by
  simp only [aa.gU,dz,am]at h;obtain⟨l,hl,k,hk,rfl⟩:=h;rw [aF.kL hf hl,aF.kL hc hk]
 |_,_,w, .yield _,h=>by simp [aa.gU]at h
 |_,_,w, .map _,h=>by simp [aa.gU]at h
 |_,_,w, .iface hv,h=>by
  simp only [aa.gU,am]at h;obtain⟨l,hl,rfl⟩:=h;rw [Den.gU hv hl]
 |_,_,w, .agg hv,h=>by
  simp only [aa.gU,am]at h;obtain⟨l,hl,rfl⟩:=h;rw [aF.kL hv hl]
 |_,_,w, .tuple hv,h=>by
  simp only [aa.gU,am]at h;obtain⟨l,hl,rfl⟩:=h;rw [aF.kL hv hl]
 |_,_,w, .bh _ _ _ _ _ _,h=>by simp [aa.gU]at h
 |_,_,w, .dW _,h=>by simp [aa.gU]at h
 |_,_,w, .e9 _ _ _ _ _,h=>by simp [aa.gU]at h
 |_,_,w, .bR _ _ _,h=>by simp [aa.gU]at h
 |_,_,w, .p9,h=>by simp [aa.gU]at h
 |_,_,w, .dA _,h=>by simp [aa.gU]at h
 |_,_,w, .bot _,h=>by simp [aa.gU]at h
theorem aF.kL:∀{v:List aa} {x w:List Value},aF ρ v x->aa.kL v=some w->x=w
 |_,_,w, .nil,h=>by simp [aa.kL]at h;exact h.symm
 |_,_,w, .cons hv hs,h=>by
  simp only [aa.kL,dz,am]at h;obtain⟨l,hl,k,hk,rfl⟩:=h;rw [Den.gU hv hl,aF.kL hs hk]
end
theorem Den.fc {v:aa} {x w:Value} (h:Den ρ v x) (k:v.fc=some w):x=w:=by
 unfold aa.fc at k;split at k
 .cases h;injection k
 .exact h.gU k
theorem Den.b8 {v x:Value} (h:Den ρ (.raw v) x):x=v:=by cases h;rfl
theorem Den.kN {i off:Nat} {x:Value} (h:Den ρ (.ptr i off) x):∃b c,ρ i=some (b,c)/\x= .pointer (some ⟨b,off,none⟩):=by cases h;exact⟨_,_, ‹_›,rfl⟩
theorem Den.ic {i off len:Nat} {cap:aZ} {x:Value} (h:Den ρ (.slice i off len cap) x):∃b c k,ρ i=some (b,c)/\zo cap c k/\len<=k/\x= .slice (some ⟨b,off,none⟩) len k:=by cases h;exact⟨_,_,_, ‹_›, ‹_›, ‹_›,rfl⟩
theorem Den.BC {fn:Fn} {fs cs:List aa} {x:Value} (h:Den ρ (.func fn fs cs) x):∃xs ys:List Value,aF ρ fs xs/\aF ρ cs ys/\x= .func fn xs.toArray ys.toArray:=by cases h;exact⟨_,_, ‹_›, ‹_›,rfl⟩
theorem Den.Io {i:Nat} {x:Value} (h:Den ρ (.yield i) x):∃b c,ρ i=some (b,c)/\x= .func (.yield b) #[] #[]:=by cases h;exact⟨_,_, ‹_›,rfl⟩
theorem Den.vk {i:Nat} {x:Value} (h:Den ρ (.map i) x):∃b c,ρ i=some (b,c)/\x= .map (some b):=by cases h;exact⟨_,_, ‹_›,rfl⟩
theorem Den.OV {t:TypeId} {v:aa} {x:Value} (h:Den ρ (.iface t v) x):∃y,Den ρ v y/\x= .iface t y:=by cases h;exact⟨_, ‹_›,rfl⟩
theorem Den.tj {cs:List aa} {x:Value} (h:Den ρ (.agg cs) x):∃xs:List Value,aF ρ cs xs/\x= .agg xs.toArray:=by cases h;exact⟨_, ‹_›,rfl⟩
theorem Den.BD {cs:List aa} {x:Value} (h:Den ρ (.tuple cs) x):∃xs:List Value,aF ρ cs xs/\x= .tuple xs.toArray:=by cases h;exact⟨_, ‹_›,rfl⟩
theorem Den.cells {v:aa} {x:Value} (h:Den ρ v x) (hb:v.u0=false):aF ρ v.cells x.cells.toList:=by
 cases h with
 |bot=>cases hb
 |bh h ho hy hd hk hz=>exact .cons (.bh h ho hy hd hk hz) .nil
 |dW hz=>exact .cons (.dW hz) .nil
 |e9 h ho hy hd hk=>exact .cons (.e9 h ho hy hd hk) .nil
 |bR h hc hk=>exact .cons (.bR h hc hk) .nil
 |p9=>exact .cons .p9 .nil
 |dA h=>exact .cons (.dA h) .nil
 |raw=>
  cases x with
  |agg cs=>simpa [aa.cells,Value.cells,io]using aF.rz cs.toList
  |_=>exact .cons (.raw _) .nil
 |agg h=>simpa [aa.cells,Value.cells]using h
 |ptr h=>exact .cons (.ptr h) .nil
 |slice h hc hl=>exact .cons (.slice h hc hl) .nil
 |func h k=>exact .cons (.func h k) .nil
 |yield h=>exact .cons (.yield h) .nil
 |map h=>exact .cons (.map h) .nil
 |iface h=>exact .cons (.iface h) .nil
 |tuple h=>exact .cons (.tuple h) .nil
theorem Den.one {v:aa} {x:Value} (h:Den ρ v x) (k:v.one=true):x.oneCell'=true:=by
 cases h with
 |raw=>cases x<;>first |rfl |(simp [aa.one]at k)
 |agg h=>simp [aa.one]at k
 |tuple h=>simp [aa.one]at k
 |yield h=>simp [aa.one]at k
 |bot=>simp [aa.one]at k
 |_=>rfl
theorem Ip {v:aa} {l:List aa} (h:eO (v::l)=true):v.one=true/\eO l=true:=by
 cases ha:v.one with
 |false=>simp [eO,ha]at h
 |true=>simpa [eO,ha]using h
theorem aF.one:∀{vs:List aa} {xs:List Value},aF ρ vs xs->eO vs=true->∀x∈xs,x.oneCell'=true
 |_,_, .nil,_,x,h=>by simp at h
 |_,_, .cons hv hs,k,x,hx=>by
  obtain⟨k1,k2⟩:=Ip k;rcases ep.1 hx with rfl |hx
  .exact hv.one k1
  .exact aF.one hs k2 x hx
end
structure jT (ρ:Env) (T:aq aa) (n:Nat) (tmps:Array Value):Prop where
 size:tmps.size=n
 get:∀t,Den ρ ((T.get t).getD (.raw undef)) (tmps.getD t undef)
theorem jT.mono {ρ ρ':Env} (hl:cB ρ ρ') {T:aq aa} {n:Nat} {tmps:Array Value} (h:jT ρ T n tmps):jT ρ' T n tmps:=
 ⟨h.size,fun t=>(h.get t).mono hl⟩
structure Iq (ρ:Env) (r:Bj) (R:Loop):Prop where
 state:R.state=r.state
 pending:R.pending=r.pending
 params:R.params=r.params
 assign:R.assign=r.assign
 body:R.body=r.body
 tmps:jT ρ r.tmps r.size R.tmps
def xu (P:Program) (ρ:Env) (i:Nat) (e:TypeId) (cs:List aa) (exact cE:Bool) (o:Obj):Prop:=
 ∃xs fz,o= .cells xs e fz/\(cE=false->fz=(0,0))/\aF ρ cs (xs.toList.take cs.length)/\(exact=true->xs.size=cs.length)/\
   (exact=false->∃b c,ρ i=some (b,c)/\xs.size=c*P.cellsOf e)
def gF (P:Program) (ρ:Env) (i:Nat):bq->Obj->Prop
 | .cells e cs exact cE _,o=>xu P ρ i e cs exact cE o
 | .own e t xs,o=>xu P ρ i e (t.flat xs) false false o/\P.cellsOf e=t.size/\1<=t.size
 | .map es clock,o=>o= .map es clock
 | .loop r,o=>∃R,o= .loop R/\Iq ρ r R
 | .deferred,o=>o= .deferred (some [])
 | .one kv v,o=>∃x,o= .map #[{key:=kv,val:=x,born:=0}] 1/\Den ρ v x
 | .iter i c d,o=>∃b q,ρ i=some (b,q)/\o= .mapIter (some b) c (match d with |true=> #[0]|false=> #[]) c
theorem xu.mono {P:Program} {ρ ρ':Env} (hl:cB ρ ρ') {i:Nat} {e:TypeId} {cs:List aa} {exact cE:Bool} {o:Obj} (h:xu P ρ i e cs exact cE o):xu P ρ' i e cs exact cE o:=by
  obtain⟨xs,fz,h1,h2,h3,h4,h5⟩:=h;exact⟨xs,fz,h1,h2,h3.mono hl,h4,fun hx=>let ⟨b,c,h6,h7⟩:=h5 hx;⟨b,c,hl _ _ h6,h7⟩⟩
theorem gF.mono {P:Program} {ρ ρ':Env} (hl:cB ρ ρ') {i:Nat} {k:bq} {o:Obj} (h:gF P ρ i k o):gF P ρ' i k o:=by
 cases k with
 |cells e cs exact cE ro=>exact xu.mono hl h
 |own e t xs=>exact⟨xu.mono hl h.1,h.2⟩
 |map es clock=>exact h
 |loop r=>
  obtain⟨R,h1,h2⟩:=h;exact⟨R,h1,h2.state,h2.pending,h2.params,h2.assign,h2.body,h2.tmps.mono hl⟩
 |deferred=>exact h
 |one kv v=>exact let ⟨x,h1,h2⟩:=h;⟨x,h1,h2.mono hl⟩
 |iter i c d=>exact let ⟨b,q,h1,h2⟩:=h;⟨b,q,hl _ _ h1,h2⟩
def bq.eL:bq->Bool
 | .cells _ _ _ _ ro=>ro
 |_=>false
structure bf (P:Program) (B:Nat) (ρ:Env) (H:ai) (w:World):Prop where
 blk:∀i k,H.get i=some k->∃b c o,ρ i=some (b,c)/\w.heap[b]? =some o/\gF P ρ i k o/\(k.eL=false->B<=b)
 inj:∀i j eC eR b ci cj,H.get i=some eC->H.get j=some eR->ρ i=some (b,ci)->ρ j=some (b,cj)->i=j
 lt:∀i k,H.get i=some k->i<H.next
 base:B<=w.heap.size
 fz:∀b A,ρ.fz b=some A->(∃e fr,w.heap[b]? =some (.cells A e fr))/\∀i k c,H.get i=some k->ρ i=some (b,c)->k.eL=true
def oO (ρ:Env) (H:ai) (b:Nat):Prop:=∃i k c,H.get i=some k/\ρ i=some (b,c)
def Own (ρ:Env) (H:ai) (b:Nat):Prop:=∃i k c,H.get i=some k/\k.eL=false/\ρ i=some (b,c)
theorem Own.mj {ρ:Env} {H:ai} {b:Nat} (h:Own ρ H b):oO ρ H b:=let ⟨i,k,c,h1,_,h2⟩:=h;⟨i,k,c,h1,h2⟩
structure bO (ρ:Env) (H:ai) (w:World) (ρ':Env) (H':ai) (w':World):Prop where
 le:cB ρ ρ'
 ext:∀i,i<H.next\/H'.next<=i->ρ' i=ρ i
 next:H.next<=H'.next
 size:w.heap.size<=w'.heap.size
 os:w'.os=w.os
 tape:w'.tape=w.tape
 output:w'.output=w.output
 frame:∀b,b<w.heap.size->¬Own ρ H b->w'.heap[b]? =w.heap[b]?
 own:∀b,b<w.heap.size->Own ρ' H' b->Own ρ H b
 mj:∀b,b<w.heap.size->oO ρ' H' b->oO ρ H b
 ng:∀b A,ρ'.fz b=some A->ρ.fz b=some A\/w.heap.size<=b\/Own ρ H b
theorem bO.refl (ρ:Env) (H:ai) (w:World):bO ρ H w ρ H w:=
 ⟨cB.refl _,fun _ _=>rfl,aG _,aG _,rfl,rfl,rfl,fun _ _ _=>rfl,fun _ _ h=>h,fun _ _ h=>h,fun _ _ h=> .inl h⟩
theorem bO.trans {ρ cL dX:Env} {H H1 H2:ai} {w w1 w2:World} (h:bO ρ H w cL H1 w1) (k:bO cL H1 w1 dX H2 w2):bO ρ H w dX H2 w2 where
 le:=h.le.trans k.le
 ext i hi:=by
  rcases hi with hi|hi
  .rw [k.ext i (.inl (Nat.lt_of_lt_of_le hi h.next)),h.ext i (.inl hi)]
  .rw [k.ext i (.inr hi),h.ext i (.inr (cX k.next hi))]
 next:=cX h.next k.next
 size:=cX h.size k.size
 os:=k.os.trans h.os
 tape:=k.tape.trans h.tape
 output:=k.output.trans h.output
 frame b hb ho:=by rw [k.frame b (Nat.lt_of_lt_of_le hb h.size) (fun hh=>ho (h.own b hb hh)),h.frame b hb ho]
 own b hb ho:=h.own b hb (k.own b (Nat.lt_of_lt_of_le hb h.size) ho)
 mj b hb ho:=h.mj b hb (k.mj b (Nat.lt_of_lt_of_le hb h.size) ho)
 ng b A hb:=by
  rcases k.ng b A hb with hb|hb
  .exact h.ng b A hb
  .rcases hb with hb|hb
   .exact .inr (.inl (cX h.size hb))
   .by_cases hl:b<w.heap.size
    .exact .inr (.inr (h.own b hl hb))
    .exact .inr (.inl (by omega))
theorem bO.drew {ρ ρ':Env} {H H':ai} {w w':World} (h:bO ρ H w.drew ρ' H' w'):bO ρ H w ρ' H' w':=
 ⟨h.le,h.ext,h.next,h.size,h.os,h.tape,h.output,h.frame,h.own,h.mj,h.ng⟩
theorem bf.drew {P:Program} {B:Nat} {ρ:Env} {H:ai} {w:World} (h:bf P B ρ H w):bf P B ρ H w.drew:=⟨h.blk,h.inj,h.lt,h.base,h.fz⟩
theorem bO.below {P:Program} {B:Nat} {ρ ρ':Env} {H H':ai} {w w':World} (h:bO ρ H w ρ' H' w') (hH:bf P B ρ H w):Below B w w':=
 ⟨h.os,h.tape,h.output,h.size,fun k hk=>h.frame k (Nat.lt_of_lt_of_le hk hH.base) (fun⟨i,kk,c,h1,h2,h3⟩=>by
   obtain⟨b,c',o,e1,_,_,bU⟩:=hH.blk i kk h1;rw [h3]at e1;cases e1;exact absurd (bU h2) (by omega))⟩
def Fr (ρ:Env) (a b:Nat):Prop:=∀i,a<=i->i<b->ρ i=none
theorem bf.at {P:Program} {B:Nat} {ρ:Env} {H:ai} {w:World} (h:bf P B ρ H w) {i b c:Nat} {k:bq} (hi:H.get i=some k) (hr:ρ i=some (b,c)):
  ∃o,w.heap[b]? =some o/\gF P ρ i k o/\(k.eL=false->B<=b):=by
 obtain⟨b',c',o,e1,e2,e3,bU⟩:=h.blk i k hi;rw [hr]at e1;cases e1;exact⟨o,e2,e3,bU⟩
theorem ai.fU (H:ai) (i j:Nat) (b:bq):(H.set i b).get j=if i=j then some b else H.get j:=aq.fU H.m i j (some b)
theorem ai.oP (H:ai) (i j:Nat):(H.drop i).get j=if i=j then none else H.get j:=aq.fU H.m i j none
theorem ai.gv (H:ai) (j:Nat) (b:bq):(H.new b).get j=if H.next=j then some b else H.get j:=aq.fU H.m H.next j (some b)
theorem ai.XW (H:ai) (i:Nat):(H.drop i).next=H.next:=rfl
theorem ai.Ir (H:ai) (b:bq):(H.new b).next=H.next+1:=rfl
def Env.put (ρ:Env) (i b c:Nat):Env:=⟨fun j=>if j=i then some (b,c)else ρ j,ρ.fz⟩
theorem Env.oQ {ρ:Env} {i b c:Nat} (h:ρ i=none):cB ρ (ρ.put i b c):=⟨fun j x hx=>by
 unfold Env.put;show(if j=i then some (b,c)else ρ j)=some x;split
 .rename_i e;subst e;rw [h]at hx;cases hx
 .exact hx,fun _ _ h=>h⟩
theorem Env.dr (ρ:Env) (i b c:Nat):ρ.put i b c i=some (b,c):=by simp [Env.put]
variable {P:Program} {B:Nat} {ρ:Env} {H:ai} {w:World}
theorem tq (hH:bf P B ρ H w) (hf:Fr ρ H.next (H.next+1)) (c:Nat) (k:bq) (o:Obj) (hk:gF P (ρ.put H.next w.heap.size c) H.next k o):
  bf P B (ρ.put H.next w.heap.size c) (H.new k) (w.alloc o)/\bO ρ H w (ρ.put H.next w.heap.size c) (H.new k) (w.alloc o):=by
 have hn:ρ H.next=none:=hf H.next (aG _) (e8 _);have hle:cB ρ (ρ.put H.next w.heap.size c):=Env.oQ hn;have hne:∀i k,H.get i=some k->i≠H.next:=fun i k hi=>Nat.ne_of_lt (hH.lt i k hi)
 have hlt:∀i k b c',H.get i=some k->ρ i=some (b,c')->b<w.heap.size:=fun i k b c' hi hr=>by
  obtain⟨o,e,_⟩:=hH.at hi hr;exact(cV.1 e).1
 have hput:∀i,i≠H.next->ρ.put H.next w.heap.size c i=ρ i:=fun i hi=>by simp [Env.put,hi]
 have hfz:∀b A,(ρ.put H.next w.heap.size c).fz b=some A->(∃e fr,(w.alloc o).heap[b]? =some (.cells A e fr))/\∀i k' c',(H.new k).get i=some k'->ρ.put H.next w.heap.size c i=some (b,c')->k'.eL=true:=fun b A hb=>by
  obtain⟨⟨e,fr,h1⟩,h2⟩:=hH.fz b A hb;have hlt':b<w.heap.size:=(cV.1 h1).1;refine⟨⟨e,fr,(Below.heap_alloc w o b hlt').trans h1⟩,fun i k' c' hi hr=> ?_⟩;rw [ai.gv]at hi;split at hi
  .rename_i e;subst e;rw [Env.dr]at hr;cases hr;omega
  .rename_i e;rw [hput i (fun x=>e x.symm)]at hr;exact h2 i k' c' hi hr
 refine⟨⟨fun i k' hi=> ?_,fun i j eC eR b ci cj hi hj iK fu=> ?_,fun i k' hi=> ?_,by simp;exact Nat.le_succ_of_le hH.base,hfz⟩,⟨hle,fun i hi=> ?_,Nat.le_succ _,by simp,rfl,rfl,rfl,fun b hb _=> ?_,fun b hb ho=> ?_,fun b hb ho=> ?_,fun _ _ h=> .inl h⟩⟩
 .rw [ai.gv]at hi;split at hi
  .rename_i e;subst e;cases hi;exact⟨w.heap.size,c,o,Env.dr ..,heap_alloc_new w o,hk,fun _=>hH.base⟩
  .obtain⟨b,c',o',e1,e2,e3,bU⟩:=hH.blk i k' hi;exact⟨b,c',o',hle _ _ e1,(Below.heap_alloc w o b (cV.1 e2).1).trans e2,e3.mono hle,bU⟩
 .rw [ai.gv]at hi hj;split at hi<;>split at hj
  .omega
  .rename_i e1 e2;subst e1;rw [Env.dr]at iK;cases iK;rw [hput j (fun e=>e2 e.symm)]at fu;exact absurd (hlt j eR _ _ hj fu) (Nat.lt_irrefl _)
  .rename_i e2 e1;subst e1;rw [Env.dr]at fu;cases fu;rw [hput i (fun e=>e2 e.symm)]at iK;exact absurd (hlt i eC _ _ hi iK) (Nat.lt_irrefl _)
  .rename_i e1 e2;rw [hput i (fun e=>e1 e.symm)]at iK;rw [hput j (fun e=>e2 e.symm)]at fu;exact hH.inj i j eC eR b ci cj hi hj iK fu
 .rw [ai.gv]at hi;split at hi
  .rename_i e;subst e;exact e8 _
  .exact Nat.lt_succ_of_lt (hH.lt i k' hi)
 .rw [ai.Ir]at hi;exact hput i (by omega)
 .exact Below.heap_alloc w o b hb
 .obtain⟨i,k',c',h1,h2,h3⟩:=ho;rw [ai.gv]at h1;split at h1
  .rename_i e;subst e;rw [Env.dr]at h3;cases h3;exact absurd hb (Nat.lt_irrefl _)
  .rename_i e;rw [hput i (fun e'=>e e'.symm)]at h3;exact⟨i,k',c',h1,h2,h3⟩
 .obtain⟨i,k',c',h1,h3⟩:=ho;rw [ai.gv]at h1;split at h1
  .rename_i e;subst e;rw [Env.dr]at h3;cases h3;exact absurd hb (Nat.lt_irrefl _)
  .rename_i e;rw [hput i (fun e'=>e e'.symm)]at h3;exact⟨i,k',c',h1,h3⟩
theorem vn (hH:bf P B ρ H w) {i b c:Nat} {k0 k:bq} (hi:H.get i=some k0) (hr:ρ i=some (b,c)) (hro:k0.eL=false) (w':World) (o:Obj)
  (hos:w'.os=w.os) (ht:w'.tape=w.tape) (hout:w'.output=w.output) (hs:w'.heap.size=w.heap.size) (hb:w'.heap[b]? =some o) (mm:∀j,j≠b->w'.heap[j]? =w.heap[j]?) (hk:gF P ρ i k o):
  bf P B ρ (H.set i k) w'/\bO ρ H w ρ (H.set i k) w':=by
 have hown:Own ρ H b:=⟨i,k0,c,hi,hro,hr⟩;have hfz:∀b' A,ρ.fz b'=some A->(∃e fr,w'.heap[b']? =some (.cells A e fr))/\∀j k' c',(H.set i k).get j=some k'->ρ j=some (b',c')->k'.eL=true:=fun b' A hb'=>by
  obtain⟨⟨e,fr,h1⟩,h2⟩:=hH.fz b' A hb';have hne:b'≠b:=fun e=>by
   have:=h2 i k0 c hi (e ▸ hr);rw [hro]at this;cases this
  refine⟨⟨e,fr,(mm b' hne).trans h1⟩,fun j k' c' hj hr'=> ?_⟩;rw [ai.fU]at hj;split at hj
  .rename_i e;subst e;rw [hr]at hr';cases hr';exact absurd rfl hne
  .exact h2 j k' c' hj hr'
 refine⟨⟨fun j k' hj=> ?_,fun j l eR kl b' cj eu hj hl fu rl=> ?_,fun j k' hj=> ?_,by rw [hs];exact hH.base,hfz⟩,⟨cB.refl _,fun _ _=>rfl,aG _,Nat.le_of_eq hs.symm,hos,ht,hout,fun b' _ ho=>mm b' (fun e=>ho (e ▸ hown)),fun b' _ ho=> ?_,fun b' _ ho=> ?_,fun _ _ h=> .inl h⟩⟩
 .rw [ai.fU]at hj;split at hj
  .rename_i e;subst e;cases hj;obtain⟨_,_,_,bU⟩:=hH.at hi hr;exact⟨b,c,o,hr,hb,hk,fun _=>bU hro⟩
  .rename_i e;obtain⟨b',c',o',e1,e2,e3,bU⟩:=hH.blk j k' hj;refine⟨b',c',o',e1, ?_,e3,bU⟩;rw [mm b' (fun e'=>e (hH.inj i j k0 k' b c c' hi hj hr (e' ▸ e1)))];exact e2
 .have g:∀x kx,(H.set i k).get x=some kx->∃XX,H.get x=some XX:=fun x kx hx=>by
   rw [ai.fU]at hx;split at hx
   .rename_i e;subst e;exact⟨k0,hi⟩
   .exact⟨kx,hx⟩
  obtain⟨_,hj'⟩:=g j eR hj;obtain⟨_,hl'⟩:=g l kl hl;exact hH.inj j l _ _ b' cj eu hj' hl' fu rl
 .rw [ai.fU]at hj;split at hj
  .rename_i e;subst e;exact hH.lt i k0 hi
  .exact hH.lt j k' hj
 .obtain⟨j,k',c',h1,h2,h3⟩:=ho;rw [ai.fU]at h1;split at h1
  .rename_i e;subst e;exact⟨i,k0,c',hi,hro,h3⟩
  .exact⟨j,k',c',h1,h2,h3⟩
 .obtain⟨j,k',c',h1,h3⟩:=ho;rw [ai.fU]at h1;split at h1
  .rename_i e;subst e;exact⟨i,k0,c',hi,h3⟩
  .exact⟨j,k',c',h1,h3⟩
theorem XY (hH:bf P B ρ H w) {i b c:Nat} {k0:bq} (hi:H.get i=some k0) (hr:ρ i=some (b,c)) (hro:k0.eL=false) (w':World)
  (hos:w'.os=w.os) (ht:w'.tape=w.tape) (hout:w'.output=w.output) (hs:w'.heap.size=w.heap.size) (mm:∀j,j≠b->w'.heap[j]? =w.heap[j]?):
  bf P B ρ (H.drop i) w'/\bO ρ H w ρ (H.drop i) w':=by
 have hown:Own ρ H b:=⟨i,k0,c,hi,hro,hr⟩;have g:∀j k,(H.drop i).get j=some k->i≠j/\H.get j=some k:=fun j k hj=>by
  rw [ai.oP]at hj;split at hj
  .cases hj
  .rename_i h;exact⟨h,hj⟩
 refine⟨⟨fun j k' hj=> ?_,fun j l eR kl b' cj eu hj hl fu rl=>hH.inj j l _ _ b' cj eu (g j eR hj).2 (g l kl hl).2 fu rl,fun j k' hj=>hH.lt j k' (g j k' hj).2,by rw [hs];exact hH.base,fun b' A hb'=> ?_⟩,
  ⟨cB.refl _,fun _ _=>rfl,aG _,Nat.le_of_eq hs.symm,hos,ht,hout,fun b' _ ho=>mm b' (fun e=>ho (e ▸ hown)),fun b' _ ho=> ?_,fun b' _ ho=> ?_,fun _ _ h=> .inl h⟩⟩
 .obtain⟨b',c',o',e1,e2,e3,bU⟩:=hH.blk j k' (g j k' hj).2;refine⟨b',c',o',e1, ?_,e3,bU⟩;rw [mm b' (fun e'=>(g j k' hj).1 (hH.inj i j k0 k' b c c' hi (g j k' hj).2 hr (e' ▸ e1)))];exact e2
 .obtain⟨⟨e,fr,h1⟩,h2⟩:=hH.fz b' A hb';have hne:b'≠b:=fun e=>by
   have:=h2 i k0 c hi (e ▸ hr);rw [hro]at this;cases this
  exact⟨⟨e,fr,(mm b' hne).trans h1⟩,fun j k' c' hj hr'=>h2 j k' c' (g j k' hj).2 hr'⟩
 .obtain⟨j,k',c',h1,h2,h3⟩:=ho;exact⟨j,k',c',(g j k' h1).2,h2,h3⟩
 .obtain⟨j,k',c',h1,h3⟩:=ho;exact⟨j,k',c',(g j k' h1).2,h3⟩
theorem OW (hH:bf P B ρ H w) (i:Nat):bf P B ρ (H.drop i) w/\bO ρ H w ρ (H.drop i) w:=by
 have g:∀j k,(H.drop i).get j=some k->H.get j=some k:=fun j k hj=>by
  rw [ai.oP]at hj;split at hj
  .cases hj
  .exact hj
 exact⟨⟨fun j k hj=>hH.blk j k (g j k hj),fun a b ka kb x ca cb ha hb=>hH.inj a b ka kb x ca cb (g a ka ha) (g b kb hb),fun j k hj=>hH.lt j k (g j k hj),hH.base,fun b A hb=>⟨(hH.fz b A hb).1,fun j k c hj hr=>(hH.fz b A hb).2 j k c (g j k hj) hr⟩⟩,
  ⟨cB.refl _,fun _ _=>rfl,aG _,aG _,rfl,rfl,rfl,fun _ _ _=>rfl,fun b _ ⟨j,k,c,h1,h2⟩=>⟨j,k,c,g j k h1,h2⟩,fun b _ ⟨j,k,c,h1,h2⟩=>⟨j,k,c,g j k h1,h2⟩,fun _ _ h=> .inl h⟩⟩
theorem XZ (hH:bf P B ρ H w) (hf:Fr ρ H.next (H.next+1)) {i b c:Nat} {k0 k:bq} (hi:H.get i=some k0) (hr:ρ i=some (b,c)) (hro:k0.eL=false) (w':World) (o:Obj)
  (hos:w'.os=w.os) (ht:w'.tape=w.tape) (hout:w'.output=w.output) (hs:w'.heap.size=w.heap.size) (hb:w'.heap[b]? =some o) (mm:∀j,j≠b->w'.heap[j]? =w.heap[j]?) (hk:gF P (ρ.put H.next b c) H.next k o):
  bf P B (ρ.put H.next b c) ((H.drop i).new k) w'/\bO ρ H w (ρ.put H.next b c) ((H.drop i).new k) w':=by
 have hn:ρ H.next=none:=hf H.next (aG _) (e8 _);have hle:cB ρ (ρ.put H.next b c):=Env.oQ hn;have hown:Own ρ H b:=⟨i,k0,c,hi,hro,hr⟩;have hput:∀j,j≠H.next->ρ.put H.next b c j=ρ j:=fun j hj=>by simp [Env.put,hj]
 have g:∀j k',((H.drop i).new k).get j=some k'->(j=H.next/\k'=k)\/(j≠H.next/\j≠i/\H.get j=some k'):=fun j k' hj=>by
  rw [ai.gv,ai.oP,ai.XW]at hj;split at hj
  .rename_i e;cases hj;exact .inl ⟨e.symm,rfl⟩
  .rename_i e;split at hj
   .cases hj
   .rename_i e2;exact .inr ⟨fun x=>e x.symm,fun x=>e2 x.symm,hj⟩
 have hfz:∀b' A,(ρ.put H.next b c).fz b'=some A->(∃e fr,w'.heap[b']? =some (.cells A e fr))/\∀j k' c',((H.drop i).new k).get j=some k'->ρ.put H.next b c j=some (b',c')->k'.eL=true:=fun b' A hb'=>by
  obtain⟨⟨e,fr,h1⟩,h2⟩:=hH.fz b' A hb';have hne:b'≠b:=fun e=>by
   have:=h2 i k0 c hi (e ▸ hr);rw [hro]at this;cases this
  refine⟨⟨e,fr,(mm b' hne).trans h1⟩,fun j k' c' hj hr'=> ?_⟩;rcases g j k' hj with⟨rfl,rfl⟩|⟨g1,g2,g3⟩
  .rw [Env.dr]at hr';cases hr';exact absurd rfl hne
  .rw [hput j g1]at hr';exact h2 j k' c' g3 hr'
 refine⟨⟨fun j k' hj=> ?_,fun j l eR kl b' cj eu hj hl fu rl=> ?_,fun j k' hj=> ?_,by rw [hs];exact hH.base,hfz⟩,⟨hle,fun j hj=>hput j ?_,Nat.le_succ _,Nat.le_of_eq hs.symm,hos,ht,hout,fun b' _ ho=>mm b' (fun e=>ho (e ▸ hown)),fun b' _ ho=> ?_,fun b' _ ho=> ?_,fun _ _ h=> .inl h⟩⟩
 .rcases g j k' hj with⟨rfl,rfl⟩|⟨h1,h2,h3⟩
  .obtain⟨_,_,_,bU⟩:=hH.at hi hr;exact⟨b,c,o,Env.dr ..,hb,hk,fun _=>bU hro⟩
  .obtain⟨b',c',o',e1,e2,e3,bU⟩:=hH.blk j k' h3;refine⟨b',c',o',hle _ _ e1, ?_,e3.mono hle,bU⟩;rw [mm b' (fun e'=>h2 (hH.inj j i k' k0 b' c' c h3 hi e1 (e' ▸ hr)))];exact e2
 .rcases g j eR hj with⟨rfl,rfl⟩|⟨h1,h2,h3⟩<;>rcases g l kl hl with⟨e,rfl⟩|⟨k1,k2,dF⟩
  .exact e.symm
  .rw [Env.dr]at fu;cases fu;rw [hput l k1]at rl;exact absurd (hH.inj l i kl k0 _ _ _ dF hi rl hr) k2
  .subst e;rw [Env.dr]at rl;cases rl;rw [hput j h1]at fu;exact absurd (hH.inj j i eR k0 _ _ _ h3 hi fu hr) h2
  .rw [hput j h1]at fu;rw [hput l k1]at rl;exact hH.inj j l eR kl b' cj eu h3 dF fu rl
 .rcases g j k' hj with⟨rfl,rfl⟩|⟨h1,h2,h3⟩
  .exact e8 _
  .exact Nat.lt_succ_of_lt (hH.lt j k' h3)
 .have:((H.drop i).new k).next=H.next+1:=rfl;rw [this]at hj;omega
 .obtain⟨j,k',c',h1,h2,h3⟩:=ho;rcases g j k' h1 with⟨rfl,rfl⟩|⟨e1,e2,e3⟩
  .rw [Env.dr]at h3;cases h3;exact hown
  .rw [hput j e1]at h3;exact⟨j,k',c',e3,h2,h3⟩
 .obtain⟨j,k',c',h1,h3⟩:=ho;rcases g j k' h1 with⟨rfl,rfl⟩|⟨e1,e2,e3⟩
  .rw [Env.dr]at h3;cases h3;exact hown.mj
  .rw [hput j e1]at h3;exact⟨j,k',c',e3,h3⟩
end
section
open Go.RowKit
theorem av.Is:∀(t:av) (d:t.den),(t.cells d).length=t.size
 | .int _,_=>rfl
 | .bool,_=>rfl
 | .str,_=>rfl
 | .list _ _,_=>rfl
 | .pair a b,d=>by
   show(a.cells d.1++b.cells d.2).length=a.size+b.size;rw [dU,a.Is,b.Is]
 | .ptr _,_=>rfl
 | .unit,_=>rfl
theorem av.zq (t:av) (d:t.den) (xs:List t.den):t.flat (d::xs)=t.cells d++t.flat xs:=rfl
theorem av.BE (t:av) (xs ys:List t.den):t.flat (xs++ys)=t.flat xs++t.flat ys:=by simp [av.flat]
theorem av.ig (t:av):∀xs:List t.den,(t.flat xs).length=xs.length*t.size
 |[]=>by simp [av.flat]
 |d::xs=>by rw [av.zq,dU,t.Is,t.ig xs,List.length_cons,Nat.succ_mul,Nat.add_comm]
theorem av.OX (t:av) (xs:List t.den) (k:Nat) (h:k<xs.length):t.flat xs=t.flat (xs.take k)++(elemAt t xs k++t.flat (xs.drop (k+1))):=by
 have e:xs=xs.take k++xs.getD k t.dflt::xs.drop (k+1):=by
  have:xs.getD k t.dflt=xs[k]:=by simp [ao,h]
  rw [this];simp
 have:t.flat xs=t.flat (xs.take k++xs.getD k t.dflt::xs.drop (k+1)):=by rw [<-e]
 rw [this,av.BE,av.zq];rfl
theorem av.OY (t:av) (xs:List t.den) (k:Nat) (h:k<xs.length):(t.flat (xs.take k)).length=k*t.size:=by
 rw [t.ig,ei,Nat.min_eq_left (Nat.le_of_lt h)]
theorem OZ {P:Program} {T:TypeId} {pre mid post:List aa} {off:Nat} {v:aa} (h:kw P T mid off=some v):kw P T (pre++(mid++post)) (pre.length+off)=some v:=by
 unfold kw at h ⊢;cases hl:lv P T with
 |no=>rw [hl]at h;cases h
 |one=>
  rw [hl]at h;simp only [pd]at h ⊢;have hlt:off<mid.length:=by
   rcases Nat.lt_or_ge off mid.length with h1|h1
   .exact h1
   .rw [List.getElem?_eq_none h1]at h;cases h
  rw [List.getElem?_append_right (by omega),show pre.length+off-pre.length=off by omega,List.getElem?_append_left hlt,h]
 |agg n=>
  rw [hl]at h;simp only at h ⊢;cases hb:Nat.ble (Nat.add off n) mid.length with
  |false=>rw [hb]at h;cases h
  |true=>
   rw [hb]at h;cases h;have hb':off+n<=mid.length:=bS hb;have kO:Nat.ble (Nat.add (pre.length+off) n) (pre++(mid++post)).length=true:=fo (by simp only [dU];show pre.length+off+n<=_;omega);rw [kO];show some (aa.agg (cut (pre++(mid++post)) (pre.length+off) n))=_;congr 2;unfold cut;rw [List.drop_append,List.drop_eq_nil_of_le (by omega),List.nil_append,show pre.length+off-pre.length=off by omega,List.drop_append,List.take_append,show n-(mid.drop off).length=0 by simp;omega];simp
theorem sE {P:Program} {T:TypeId} {t:av} {xs:List t.den} {k off:Nat} {v:aa} (hk:k<xs.length) (h:kw P T (elemAt t xs k) off=some v):kw P T (t.flat xs) (k*t.size+off)=some v:=by
 rw [t.OX xs k hk];have:=OZ (pre:=t.flat (xs.take k)) (post:=t.flat (xs.drop (k+1))) h;rwa [t.OY xs k hk]at this
theorem Den.tr {ρ:Env} {z:Bool} {t:av} {xs:List t.den} {x:Value} (h:Den ρ (.bh z t xs) x):(xs=[]/\∃a k,x= .slice a 0 k/\(z=true->a=none/\k=0))\/
  ∃b off k A,ρ.fz b=some A/\off+(t.flat xs).length<=A.size/\aF ρ (t.flat xs) ((A.toList.drop off).take (t.flat xs).length)/\xs.length<=k/\x= .slice (some ⟨b,off,none⟩) xs.length k/\(z=true->xs≠[]):=by
 cases h with
 |bh h ho hy hd hk hz=>subst hy;exact .inr ⟨_,_,_,_,h,ho,hd,hk,rfl,hz⟩
 |dW hz=>exact .inl ⟨rfl,_,_,rfl,hz⟩
theorem Den.zu {ρ:Env} {t:av} {xs:List t.den} {k off:Nat} {x:Value} (h:Den ρ (.e9 t xs k off) x):∃b o A,ρ.fz b=some A/\o+(t.flat xs).length<=A.size/\aF ρ (t.flat xs) ((A.toList.drop o).take (t.flat xs).length)/\k<xs.length/\
  x= .pointer (some ⟨b,o+(k*t.size+off),none⟩):=by
 cases h with
 |e9 h ho hy hd hk=>subst hy;exact⟨_,_,_,h,ho,hd,hk,rfl⟩
theorem Den.xw {ρ:Env} {e:TypeId} {t:av} {i k off:Nat} {x:Value} (h:Den ρ (.dA e t i k off) x):∃b c,ρ i=some (b,c)/\x= .pointer (some ⟨b,k*t.size+off,none⟩):=by
 cases h with
 |dA h=>exact⟨_,_,h,rfl⟩
theorem Den.jv {ρ:Env} {e:TypeId} {t:av} {i k len:Nat} {cap:aZ} {x:Value} (h:Den ρ (.bR e t i k len cap) x):(len=0/\∃a,x= .slice a 0 0)\/∃b c kc,ρ i=some (b,c)/\zo cap c kc/\len<=kc/\x= .slice (some ⟨b,k*t.size,none⟩) len kc:=by
 cases h with
 |bR h hc hl=>exact .inr ⟨_,_,_,h,hc,hl,rfl⟩
 |p9=>exact .inl ⟨rfl,_,rfl⟩
theorem av.vo {ρ:Env}:∀(t:av) {l r:List aa} {d:t.den} {ys:List Value},t.sX l=some (d,r)->aF ρ l ys->∃y1 y2,ys=y1++y2/\aF ρ (t.cells d) y1/\aF ρ r y2
 | .int k,l,r,d,ys,h,hd=>by
   change y9 k l=_ at h;unfold y9 at h;split at h
   .split at h
    .rename_i e;subst e;cases h;cases hd with |cons h1 h2=>exact⟨[_],_,rfl, .cons h1 .nil,h2⟩
    .cases h
   .cases h
 | .bool,l,r,d,ys,h,hd=>by
   change za l=_ at h;unfold za at h;split at h
   .cases h;cases hd with |cons h1 h2=>exact⟨[_],_,rfl, .cons h1 .nil,h2⟩
   .cases h
 | .str,l,r,d,ys,h,hd=>by
   change vx l=_ at h;unfold vx at h;split at h
   .cases h;cases hd with |cons h1 h2=>exact⟨[_],_,rfl, .cons h1 .nil,h2⟩
   .cases h
 | .list z t,l,r,d,ys,h,hd=>by
   change HT z t l=_ at h;unfold HT at h;split at h
   .rename_i z' t' xs r';split at h
    .rename_i e;subst e;cases hc:(!z||z'||Nat.ble 1 xs.length)with
     |false=>rw [hc]at h;cases h
     |true=>
      rw [hc]at h;cases h;cases hd with
      |cons h1 h2=>
       refine⟨[_],_,rfl, .cons ?_ .nil,h2⟩;rcases h1.tr with⟨rfl,a,k,rfl,hz⟩|⟨b,off,k,A,g1,g2,g3,g4,rfl,g5⟩
       .refine .dW fun e=>hz ?_
        subst e;simpa using hc
       .refine .bh g1 g2 rfl g3 g4 fun e hxs=> ?_
        subst e;subst hxs;have:z'=true:=by simpa using hc
        exact g5 this rfl
    .cases h
   .cases h;cases hd with
    |cons h1 h2=>
     refine⟨[_],_,rfl, .cons ?_ .nil,h2⟩;rw [h1.b8];exact .dW fun _=>⟨rfl,rfl⟩
   .cases h
 | .pair a b,l,r,d,ys,h,hd=>by
   simp only [av.sX]at h;cases ha:a.sX l with
   |none=>rw [ha]at h;cases h
   |some p=>
    obtain⟨x,l'⟩:=p;rw [ha]at h;simp only at h;cases hb:b.sX l' with
    |none=>rw [hb]at h;cases h
    |some q=>
     obtain⟨y,r'⟩:=q;rw [hb]at h;cases h;obtain⟨y1,y2,rfl,h1,h2⟩:=a.vo ha hd;obtain⟨y3,It,rfl,h3,h4⟩:=b.vo hb h2;exact⟨y1++y3,It,by simp,h1.append h3,h4⟩
 | .ptr t,l,r,d,ys,h,hd=>by
   change vy t l=_ at h;unfold vy at h;split at h
   .split at h
    .rename_i e;subst e;cases h;cases hd with
     |cons h1 h2=>exact⟨[_],_,rfl, .cons h1 .nil,h2⟩
    .cases h
   .cases h
 | .unit,l,r,d,ys,h,hd=>by
   cases h;exact⟨[],ys,rfl, .nil,hd⟩
theorem av.X0 {ρ:Env} {t:av} {l:List aa} {d:t.den} {ys:List Value} (h:t.read l=some d) (hd:aF ρ l ys):aF ρ (t.cells d) ys:=by
 unfold av.read at h;split at h
 .rename_i d' he;cases h;obtain⟨y1,y2,rfl,h1,h2⟩:=t.vo he hd;cases h2;simpa using h1
 .cases h
theorem av.BF {ρ:Env} {t:av}:∀{n:Nat} {l:List aa} {ds:List t.den} {ys:List Value},t.q8 n l=some ds->aF ρ l ys->aF ρ (t.flat ds) ys/\ds.length=n
 |0,[],ds,ys,h,hd=>by cases h;cases hd;exact⟨.nil,rfl⟩
 |0,_::_,ds,ys,h,hd=>by cases h
 |n+1,l,ds,ys,h,hd=>by
  have h:(match t.sX l with |some (d,r)=>(t.q8 n r).map fun ds=>d::ds|none=>none)=some ds:=by cases l<;>exact h
  split at h
  .rename_i d r he;simp only [am]at h;obtain⟨ds',h1,rfl⟩:=h;obtain⟨y1,y2,rfl,g1,g2⟩:=t.vo he hd;obtain⟨g3,g4⟩:=av.BF h1 g2;exact⟨by rw [av.zq];exact g1.append g3,by simp [g4]⟩
  .cases h
section
variable {P:Program} {B:Nat} {ρ:Env} {H:ai} {w:World}
theorem pe (e:TypeId) (t:av) (xs:List t.den):bM t (some (.own e t xs))=xs:=by simp [bM]
theorem vp {e:TypeId} {t:av} {b:Option bq} {k:Nat} (h:bz e t b k=true):b=some (.own e t (bM t b))/\k<(bM t b).length:=by
 unfold bz at h;split at h
 .rename_i e' t' xs;rw [ae,ae]at h;obtain⟨h1,h2,h3⟩:=h;have h1:=ac h1;have h2:=ap h2;subst h1;subst h2;rw [pe];exact⟨rfl,bS h3⟩
 .cases h
theorem X1 {e:TypeId} {t:av} {b:Option bq} {n:Nat} {cap:aZ} (h:y8 e t b n cap=true):(b=none/\n=0/\bM t b=[]/\cap= .known 0)\/(b=some (.own e t (bM t b))/\(bM t b).length=n/\cap= .full):=by
 unfold y8 at h;split at h
 .rename_i e' t' xs;simp only [ae]at h;obtain⟨h1,h2,h3,h4⟩:=h;have h1:=ac h1;have h2:=ap h2;have h3:=ac h3;subst h1;subst h2;rw [pe];refine .inr ⟨rfl,h3, ?_⟩;cases cap<;>first |rfl |cases h4
 .rw [ae]at h;refine .inl ⟨rfl,ac h.1,rfl, ?_⟩;cases cap with
  |known m=>rw [ac h.2]
  |full=>cases h.2
  |any=>cases h.2
 .cases h
theorem X2 {n:Nat} (h:0<n):bJ n= .full:=by cases n<;>first |omega |rfl
theorem ew (e:TypeId) (t:av) (xs:List t.den):bM t (ba e t xs)=xs:=by
 cases xs with
 |nil=>rfl
 |cons x l=>exact pe e t _
theorem X3 (e:TypeId) (t:av) (xs:List t.den):y8 e t (ba e t xs) xs.length (bJ xs.length)=true:=by
 cases xs with
 |nil=>rfl
 |cons x l=>simp [ba,y8,bJ,aZ.isFull]
theorem xx (a b:Nat):Nat.ble a b=decide (a<=b):=by
 cases h:Nat.ble a b with
 |true=>exact(ax (bS h)).symm
 |false=>exact(ab fun hh=>by rw [fo hh]at h;cases h).symm
theorem Ea (e:TypeId) (t:av) (xs:List t.den) (k:Nat):bz e t (ba e t xs) k=decide (k<xs.length):=by
 cases xs with
 |nil=>simp [ba,bz]
 |cons x l=>simp only [ba,bz,Nat.beq_refl,decide_true,Bool.true_and];exact xx _ _
theorem zv (e:TypeId) (t:av) (xs:List t.den) (k:Nat):bz e t (some (.own e t xs)) k=decide (k<xs.length):=by
 simp only [bz,Nat.beq_refl,decide_true,Bool.true_and];exact xx _ _
theorem rA (hH:bf P B ρ H w) {i b c:Nat} {e:TypeId} {t:av} {xs:List t.den} (hi:H.get i=some (.own e t xs)) (hr:ρ i=some (b,c)):
  ∃ys,w.heap[b]? =some (.cells ys e (0,0))/\aF ρ (t.flat xs) (ys.toList.take (t.flat xs).length)/\ys.size=c*P.cellsOf e/\(t.flat xs).length<=ys.size/\P.cellsOf e=t.size/\1<=t.size:=by
 obtain⟨o,h1,h2,_⟩:=hH.at hi hr;obtain⟨⟨ys,fz,rfl,g2,g3,g4,g5⟩,g6,g7⟩:=h2;have hf:=g2 rfl;subst hf;obtain⟨b',c',e1,e2⟩:=g5 rfl;rw [hr]at e1;cases e1;refine⟨ys,h1,g3,e2, ?_,g6,g7⟩;have:=g3.length;simp at this;omega
end
end
end Go.Proofs.YtibikmmdbdlafaaGreatDoor.Sv
