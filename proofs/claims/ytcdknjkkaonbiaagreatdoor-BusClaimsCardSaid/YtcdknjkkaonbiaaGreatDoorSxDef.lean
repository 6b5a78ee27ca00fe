/- A runner over an abstract memory, whose blocks bear numbers of its own: definitions. -/
import Derived.RowKit
namespace Go.Proofs.YtcdknjkkaonbiaaGreatDoor.Sx
noncomputable section

/-- capacity of a slice: known; the whole block's (from its start); not known -/
inductive Cap where
  | known (n : Nat)
  | full
  | any

/-- abstract values -/
inductive AV where
  | raw (v : Value)
  | ptr (i off : Nat)
  | slice (i off len : Nat) (cap : Cap)
  | func (fn : Fn) (first captured : List AV)
  | yield (i : Nat)
  | map (i : Nat)
  | iface (t : TypeId) (v : AV)
  | agg (cs : List AV)
  | tuple (vs : List AV)

/-- a tree over numbers -/
inductive Tr (α : Type) where
  | nil
  | node (l : Tr α) (v : Option α) (r : Tr α)

/-- the way to a number's place in a tree -/
def bitsF (f : Nat) : Nat → List Bool :=
  @Nat.rec (fun _ => Nat → List Bool) (fun _ => []) (fun _ ih i => @Bool.rec (fun _ => List Bool) (@Bool.rec (fun _ => List Bool) (false :: ih (Nat.sub (Nat.div i 2) 1)) (true :: ih (Nat.div i 2)) (Nat.beq (Nat.mod i 2) 1)) [] (Nat.beq i 0)) f
def bits (i : Nat) : List Bool := bitsF (Nat.succ i) i
def Tr.getP {α : Type} (p : List Bool) : Tr α → Option α :=
  @List.rec Bool (fun _ => Tr α → Option α) (fun t => @Tr.rec α (fun _ => Option α) none (fun _ v _ _ _ => v) t)
    (fun b _ ih t => @Tr.rec α (fun _ => Option α) none (fun l _ r _ _ => @Bool.rec (fun _ => Option α) (ih r) (ih l) b) t) p
def Tr.setP {α : Type} (x : Option α) (p : List Bool) : Tr α → Tr α :=
  @List.rec Bool (fun _ => Tr α → Tr α) (fun t => @Tr.rec α (fun _ => Tr α) (.node .nil x .nil) (fun l _ r _ _ => .node l x r) t)
    (fun b _ ih t => @Tr.rec α (fun _ => Tr α) (@Bool.rec (fun _ => Tr α) (.node .nil none (ih .nil)) (.node (ih .nil) none .nil) b) (fun l v r _ _ => @Bool.rec (fun _ => Tr α) (.node l v (ih r)) (.node (ih l) v r) b) t) p
def Tr.get {α : Type} (t : Tr α) (i : Nat) : Option α := Tr.getP (bits i) t
def Tr.set {α : Type} (t : Tr α) (i : Nat) (x : Option α) : Tr α := Tr.setP x (bits i) t
def nth {α : Type} (l : List α) : Nat → Option α :=
  @List.rec α (fun _ => Nat → Option α) (fun _ => none) (fun a _ ih i => @Bool.rec (fun _ => Option α) (ih (Nat.sub i 1)) (some a) (Nat.beq i 0)) l

/-- a loop over a function that is under way -/
structure ALoop where
  tmps : Tr AV
  size : Nat
  params : Array Tmp
  assign : Code
  body : Code
  state : LoopState
  pending : Option Code

/-- an abstract block: cells ('exact': it holds these and no more; 'frz': parts may be frozen; 'ro': never written); a map of plain entries; a loop's record -/
inductive ABlk where
  | cells (elem : TypeId) (cs : List AV) (exact frz ro : Bool)
  | map (es : Array MapEntry) (clock : Nat)
  | loop (r : ALoop)
  | deferred

structure AHeap where
  m : Tr ABlk
  next : Nat

def AHeap.get (H : AHeap) (i : Nat) : Option ABlk := H.m.get i
def AHeap.set (H : AHeap) (i : Nat) (b : ABlk) : AHeap := @AHeap.rec (fun _ => AHeap) (fun m n => ⟨m.set i (some b), n⟩) H
def AHeap.drop (H : AHeap) (i : Nat) : AHeap := @AHeap.rec (fun _ => AHeap) (fun m n => ⟨m.set i none, n⟩) H
def AHeap.new (H : AHeap) (b : ABlk) : AHeap := @AHeap.rec (fun _ => AHeap) (fun m n => ⟨m.set n (some b), Nat.succ n⟩) H

/-- what a computation yields that asks for nothing but the program -/
def runPure (P : Program) {α : Type} : Sem α → Option α
  | .pure a => some a
  | .program k => runPure P (k P)
  | .mark _ k => runPure P k
  | _ => none

mutual
def AV.toRaw0 : AV → Option Value
  | .raw v => some v
  | .iface t v => (v.toRaw0).map (Value.iface t)
  | .agg cs => (AV.toRaws cs).map fun l => Value.agg l.toArray
  | .tuple cs => (AV.toRaws cs).map fun l => Value.tuple l.toArray
  | .func fn fs cs => (AV.toRaws fs).bind fun l => (AV.toRaws cs).map fun k => Value.func fn l.toArray k.toArray
  | _ => none
def AV.toRaws : List AV → Option (List Value)
  | [] => some []
  | v :: vs => (v.toRaw0).bind fun x => (AV.toRaws vs).map fun l => x :: l
end
def AV.toRaw : AV → Option Value
  | .raw v => some v
  | v => v.toRaw0

def rawL (a : Array Value) : List AV := a.toList.map .raw
def AV.cells : AV → List AV
  | .agg cs => cs
  | .raw (.agg cs) => rawL cs
  | v => [v]
/-- fits one cell of memory -/
def AV.one : AV → Bool
  | .raw (.agg _) | .raw (.tuple _) | .agg _ | .tuple _ | .yield _ => false
  | _ => true


/-- what an operation comes to -/
inductive VR where
  | no
  | ok (v : AV) (H : AHeap)
  | enter (f : FuncId) (args : List AV) (H : AHeap)
  | round (i : Nat) (args : List AV) (H : AHeap)
def vr (H : AHeap) (x : Option AV) : VR := @Option.rec AV (fun _ => VR) .no (fun v => .ok v H) x
def vr2 (x : Option (AV × AHeap)) : VR := match x with | none => .no | some (v, H) => .ok v H

abbrev Ev := Operand → AV

def isAggD : TypeDesc → Bool
  | .struct _ | .array _ _ => true
  | _ => false
def isAggB (P : Program) (t : TypeId) : Option Bool := (P.underlying t).map isAggD
def sizeB (P : Program) (t : TypeId) : Option Nat := (P.info? t).map TypeInfo.size
def zeroB (P : Program) (t : TypeId) : Option Value := (P.info? t).bind TypeInfo.zero
def elemB (P : Program) (t : TypeId) : Option TypeId := match P.underlying t with | some (.slice e) => some e | _ => none

/-- a type as the hot operations want it: one cell; n cells -/
inductive LV where
  | no
  | one
  | agg (n : Nat)
def lv (P : Program) (t : TypeId) : LV := match isAggB P t, sizeB P t with
  | some true, some n => .agg n
  | some false, _ => .one
  | _, _ => .no
/-- a type as an index wants it: an array of n elements of s cells; a slice; a string -/
inductive TV where
  | no
  | arr (n s : Nat)
  | sl (s : Nat)
def tv (P : Program) (t : TypeId) : TV := match P.underlying t with
  | some (.array n e) => (match sizeB P e with | some s => .arr n s | none => .no)
  | some (.slice e) => (match sizeB P e with | some s => .sl s | none => .no)
  | _ => .no
/-- the place of a field: its offset, its type -/
inductive FV where
  | no
  | mk (off size : Nat) (t : TypeId)
def fv (P : Program) (s : TypeId) (f : Nat) : FV := match P.underlying s with
  | some (.struct fs) => (match fs[f]? with
    | some fd => (match sizeB P fd.type with | some n => .mk fd.offset n fd.type | none => .no)
    | none => .no)
  | _ => .no

inductive PV where
  | no
  | mk (i off : Nat)
inductive SV where
  | no
  | mk (i off len : Nat) (cap : Cap)
inductive NV where
  | no
  | mk (n : Nat)
inductive BV where
  | no
  | mk (b : Bool)
inductive CV where
  | no
  | mk (e : TypeId) (cs : List AV) (exact frz ro : Bool)
inductive WV where
  | no
  | int (k : IntKind) (n : Int)
def wV (v : Value) : WV := @Value.casesOn (fun _ => WV) v (fun _ => .no) (fun k n => .int k n) (fun _ _ => .no) (fun _ _ _ => .no) (fun _ => .no) (fun _ => .no) (fun _ _ _ => .no) (fun _ => .no) (fun _ => .no) (fun _ _ _ => .no) .no (fun _ _ => .no) .no (fun _ => .no) (fun _ => .no)
def avW (v : AV) : WV := @AV.casesOn (fun _ => WV) v wV (fun _ _ => .no) (fun _ _ _ _ => .no) (fun _ _ _ => .no) (fun _ => .no) (fun _ => .no) (fun _ _ => .no) (fun _ => .no) (fun _ => .no)
def intN (n : Int) : NV := @Int.casesOn (fun _ => NV) n (fun m => .mk m) (fun _ => .no)
def natV (v : AV) : NV := @WV.rec (fun _ => NV) .no (fun _ n => intN n) (avW v)
def bV (v : Value) : BV := @Value.casesOn (fun _ => BV) v (fun b => .mk b) (fun _ _ => .no) (fun _ _ => .no) (fun _ _ _ => .no) (fun _ => .no) (fun _ => .no) (fun _ _ _ => .no) (fun _ => .no) (fun _ => .no) (fun _ _ _ => .no) .no (fun _ _ => .no) .no (fun _ => .no) (fun _ => .no)
def boolV (v : AV) : BV := @AV.casesOn (fun _ => BV) v bV (fun _ _ => .no) (fun _ _ _ _ => .no) (fun _ _ _ => .no) (fun _ => .no) (fun _ => .no) (fun _ _ => .no) (fun _ => .no) (fun _ => .no)
def ptrV (v : AV) : PV := @AV.casesOn (fun _ => PV) v (fun _ => .no) (fun i off => .mk i off) (fun _ _ _ _ => .no) (fun _ _ _ => .no) (fun _ => .no) (fun _ => .no) (fun _ _ => .no) (fun _ => .no) (fun _ => .no)
def sliceV (v : AV) : SV := @AV.casesOn (fun _ => SV) v (fun _ => .no) (fun _ _ => .no) (fun i off len cap => .mk i off len cap) (fun _ _ _ => .no) (fun _ => .no) (fun _ => .no) (fun _ _ => .no) (fun _ => .no) (fun _ => .no)
def aggV (v : AV) : Option (List AV) := @AV.casesOn (fun _ => Option (List AV)) v (fun _ => none) (fun _ _ => none) (fun _ _ _ _ => none) (fun _ _ _ => none) (fun _ => none) (fun _ => none) (fun _ _ => none) (fun cs => some cs) (fun _ => none)
def tupV (v : AV) : Option (List AV) := @AV.casesOn (fun _ => Option (List AV)) v (fun _ => none) (fun _ _ => none) (fun _ _ _ _ => none) (fun _ _ _ => none) (fun _ => none) (fun _ => none) (fun _ _ => none) (fun _ => none) (fun cs => some cs)
def blkV (b : Option ABlk) : CV := @Option.rec ABlk (fun _ => CV) .no (fun b => @ABlk.casesOn (fun _ => CV) b (fun e cs x f r => .mk e cs x f r) (fun _ _ => .no) (fun _ => .no) .no) b

/-- n cells from off on -/
def cut (cs : List AV) (off n : Nat) : List AV := (cs.drop off).take n
/-- part of a row of cells as a value of type t -/
def apart (P : Program) (t : TypeId) (cs : List AV) (off : Nat) : Option AV :=
  @LV.rec (fun _ => Option AV) none (nth cs off) (fun n => some (.agg (cut cs off n))) (lv P t)
/-- load: the cells must be known -/
def aload (P : Program) (t : TypeId) (cs : List AV) (off : Nat) : Option AV :=
  @LV.rec (fun _ => Option AV) none (nth cs off) (fun n => @Bool.rec (fun _ => Option AV) none (some (.agg (cut cs off n))) (Nat.ble (Nat.add off n) cs.length)) (lv P t)
/-- the cells with one of them, or several, written -/
def put1 (v : AV) (cs : List AV) : Nat → Option (List AV) :=
  @List.rec AV (fun _ => Nat → Option (List AV)) (fun _ => none) (fun a l ih off => @Bool.rec (fun _ => Option (List AV)) (@Option.rec (List AV) (fun _ => Option (List AV)) none (fun r => some (a :: r)) (ih (Nat.sub off 1))) (some (v :: l)) (Nat.beq off 0)) cs
def aput (cs : List AV) (off : Nat) (vs : List AV) : Option (List AV) :=
  match vs with
  | [v] => put1 v cs off
  | vs => cond (Nat.ble (off + vs.length) cs.length) (some (cs.take off ++ vs ++ cs.drop (off + vs.length))) none

def afill (place : Nat → Option (Nat × Nat)) : List AV → List (Nat × AV) → Option (List AV)
  | cells, [] => some cells
  | cells, (i, v) :: rest =>
    (place i).bind fun p => cond (Nat.beq v.cells.length p.2) ((aput cells p.1 v.cells).bind fun cells => afill place cells rest) none

def sameKind : AV → AV → Bool
  | .ptr .., .raw (.pointer none) | .slice .., .raw (.slice none _ _) | .func .., .raw .nilFunc | .iface .., .raw .nilIface | .map _, .raw (.map none) => true
  | _, _ => false
def fitsEq (P : Program) (t : TypeId) : AV → Bool
  | .ptr .. => match P.underlying t with | some (.pointer _) => true | _ => false
  | .slice .. => match P.underlying t with | some (.slice _) => true | _ => false
  | .func .. => match P.underlying t with | some (.func _ _ _) => true | _ => false
  | .iface .. => match P.underlying t with | some (.interface _) => true | _ => false
  | .map _ => match P.underlying t with | some (.map _ _) => true | _ => false
  | _ => false

def evRaw (ev : Ev) (x : Operand) : Value := ((ev x).toRaw).getD undef
/-- by the model's own operation, where every operand is plain -/
def gen (P : Program) (o : Oper) (ev : Ev) : Option AV :=
  cond (o.op.operands.toList.all fun x => (ev x).toRaw.isSome)
    (match runPure P (execOp (evRaw ev) o) with
      | some (.value v) => some (.raw v)
      | some .skip => some (.raw undef)
      | _ => none) none

def natO (v : AV) : Option Nat := @NV.rec (fun _ => Option Nat) none (fun n => some n) (natV v)
def numO (o : Option AV) (d : Nat) : Option Nat := match o with | none => some d | some v => natO v
def aslice (P : Program) (t : TypeId) (x : AV) (lo hi mx : Option AV) : Option AV :=
  match P.underlying t, x with
  | some (.array n e), .ptr i off =>
    (sizeB P e).bind fun s => (numO mx n).bind fun m => (numO hi n).bind fun h => (numO lo 0).bind fun l =>
      cond (Nat.ble l h && Nat.ble h m && Nat.ble m n && (mx.isNone || hi.isSome)) (some (.slice i (cond (Nat.beq m l) off (off + l * s)) (h - l) (.known (m - l)))) none
  | some (.slice e), .slice i off len cap =>
    (sizeB P e).bind fun s => (numO hi len).bind fun h => (numO lo 0).bind fun l =>
      match mx, cap with
      | none, .known c => cond (Nat.ble l h && Nat.ble h c) (some (.slice i (cond (Nat.beq c l) off (off + l * s)) (h - l) (.known (c - l)))) none
      | none, c => cond (Nat.ble l h && Nat.ble h len) (cond (Nat.beq l 0) (some (.slice i off h c)) (cond (Nat.ble (l + 1) len) (some (.slice i (off + l * s) (h - l) .any)) none)) none
      | _, _ => none
  | _, _ => none

/-- the cells that append or copy takes from their source: n elements of size s -/
def src (H : AHeap) (s : Nat) : AV → Option (List AV × Nat)
  | .raw (.slice none 0 _) => some ([], 0)
  | .raw (.string b) => cond (Nat.beq s 1) (some (b.data.toList.map fun x => .raw (.int .u8 x.toNat), b.size)) none
  | .slice i off len _ => match H.get i with
    | some (.cells _ cs _ _ _) => cond (Nat.ble (off + len * s) cs.length) (some (cut cs off (len * s), len)) none
    | _ => none
  | _ => none

def bounded (n bytes : Nat) : Bool := Nat.ble (n * bytes) 140737488355328 && Nat.ble n 140737488355328
def allOne : List AV → Bool
  | [] => true
  | v :: l => cond v.one (allOne l) false

def agrow (e : TypeId) (sz bytes : Nat) (i len : Nat) (cap : Cap) (news : List AV) (n : Nat) (H : AHeap) : Option (AV × AHeap) :=
  cond (bounded (len + n) bytes) (match H.get i with
    | some (.cells e' cs exact false false) =>
      cond (Nat.beq e e' && Nat.ble (len * sz) cs.length) (match cap with
        | .known c =>
          cond (Nat.ble (len + n) c)
            ((aput cs (len * sz) news).map fun cs' => (.slice i 0 (len + n) (.known c), H.set i (.cells e cs' exact false false)))
            (some (.slice H.next 0 (len + n) .full, H.new (.cells e (cs.take (len * sz) ++ news) false false false)))
        | .full => cond exact none (some (.slice H.next 0 (len + n) .full, (H.drop i).new (.cells e (cs.take (len * sz) ++ news) false false false)))
        | .any => none) none
    | _ => none) none

def aappend (P : Program) (t : TypeId) (s x : AV) (H : AHeap) : Option (AV × AHeap) :=
  (elemB P t).bind fun e => (P.info? e).bind fun inf => (inf.zero).bind fun z =>
  cond (Nat.beq z.cells.size inf.size && Nat.ble 1 inf.size)
  ((src H inf.size x).bind fun sn =>
    cond (Nat.beq sn.2 0) (match s with | .raw (.slice none 0 0) | .slice .. => some (s, H) | _ => none)
    (cond (allOne sn.1) (match s with
      | .raw (.slice none 0 0) => cond (bounded sn.2 inf.bytes) (some (.slice H.next 0 sn.2 .full, H.new (.cells e sn.1 false false false))) none
      | .slice i 0 len cap => agrow e inf.size inf.bytes i len cap sn.1 sn.2 H
      | _ => none) none)) none

def acopy (P : Program) (t : TypeId) (d x : AV) (H : AHeap) : Option (AV × AHeap) :=
  (elemB P t).bind fun e => (sizeB P e).bind fun s => match x, d with
    | .slice j offj n cj, .slice i off len _ => (src H s (.slice j offj n cj)).bind fun sn => match H.get i with
      | some (.cells e' cs exact false false) =>
        cond (allOne (sn.1.take (Nat.min n len * s))) ((aput cs off (sn.1.take (Nat.min n len * s))).map fun cs' => (.raw (goInt (Nat.min n len)), H.set i (.cells e' cs' exact false false))) none
      | _ => none
    | .raw (.slice none 0 0), .slice _ _ _ _ => some (.raw (goInt 0), H)
    | _, _ => none

def bytesOf : List AV → Option (List UInt8)
  | [] => some []
  | .raw (.int .u8 (.ofNat n)) :: l => cond (Nat.ble (n + 1) 256) ((bytesOf l).map fun r => UInt8.ofNat n :: r) none
  | _ => none

/-- two pointers into one block -/
def samePtr (P : Program) (t : TypeId) : AV → AV → Option Bool
  | .ptr i off, .ptr j off' => match P.underlying t with
    | some (.pointer e) => match sizeB P e with
      | some (_ + 1) => cond (Nat.beq i j) (some (Nat.beq off off')) none
      | _ => none
    | _ => none
  | _, _ => none

/-- the operations on a map of plain entries, by the model's own -/
def mLookup (P : Program) (t : TypeId) (es : Array MapEntry) (kv : Value) (ok : Bool) : Option Value :=
  match P.underlying t with
  | some (.map kt et) => (runPure P (Instr.checkKey es.isEmpty 10000 kt kv)).bind fun _ => (runPure P (Instr.findKey kt kv es.toList)).bind fun r =>
    match r with
    | some p => some (if ok then .tuple #[p.2, .bool true] else p.2)
    | none => (zeroB P et).map fun z => if ok then .tuple #[z, .bool false] else z
  | _ => none
def mUpdate (P : Program) (t : TypeId) (es : Array MapEntry) (clock : Nat) (kv xv : Value) : Option (Array MapEntry × Nat) :=
  match P.underlying t with
  | some (.map kt _) => (runPure P (Instr.checkKey false 10000 kt kv)).bind fun _ => (runPure P (Instr.findKey kt kv es.toList)).bind fun r =>
    match r with
    | some p => (runPure P (Instr.keyThatStays (((es[p.1]?).map (·.key)).getD kv) kv)).map fun k => (es.modify p.1 fun e => { e with key := k, val := xv }, clock)
    | none => some (es.push { key := kv, val := xv, born := clock }, clock + 1)
  | _ => none

/-- functions without a body -/
def aextern (P : Program) (f : FuncId) (fn : Func) (args : List AV) (H : AHeap) : Option (AV × AHeap) :=
  match AV.toRaws args with
  | some vs => match runPure P (callFunc f vs.toArray) with
    | some (.value v) => some (.raw v, H)
    | _ => cond (fn.name == "internal/bytealg.MakeNoZero")
      (match args, fn.resultTypes[0]? with
        | [.raw (.int .i64 (.ofNat n))], some t => (elemB P t).bind fun e => cond (Nat.ble n 140737488355328 && Nat.beq (P.cellsOf e) 1) (some (.slice H.next 0 n .full, H.new (.cells e [] false false false))) none
        | _, _ => none) none
  | none => match args with
    | [x] => cond (fn.name == "internal/abi.NoEscape") (some (x, H)) none
    | _ => none

def aenter (P : Program) (f : FuncId) (args : List AV) (H : AHeap) : VR :=
  @Option.rec Func (fun _ => VR) .no (fun fn => @Option.rec Code (fun _ => VR) (vr2 (aextern P f fn args H)) (fun _ => .enter f args H) fn.body) (P.funcs[f]?)
/-- a function value that captures nothing -/
inductive GV where
  | no
  | fn (f : FuncId)
def fnV (f : Fn) : GV := match f with | .func f => .fn f | _ => .no
def rawG (v : Value) : GV := match v with
  | .func fn ⟨[]⟩ ⟨[]⟩ => fnV fn
  | _ => .no
def acallee (P : Program) (fv : AV) (args : List AV) (H : AHeap) : VR :=
  match fv with
  | .raw v => @GV.rec (fun _ => VR) (match v with | .func (.func f) first captured => aenter P f (rawL first ++ args ++ rawL captured) H | _ => .no) (fun f => aenter P f args H) (rawG v)
  | .func (.func f) first captured => aenter P f (first ++ args ++ captured) H
  | .yield i => .round i args H
  | _ => .no

/-! ### the operations: each as a function of its parts; then the program, the whole operation, the slots, the memory -/
abbrev Handler := Program → Oper → Ev → AHeap → VR

def hNo : Handler := fun _ _ _ _ => .no
def hGen : Handler := fun P o ev H => vr H (gen P o ev)
def hMove (x : Operand) : Handler := fun _ _ ev H => .ok (ev x) H
def hPick (c a b : Operand) : Handler := fun _ _ ev H => @BV.rec (fun _ => VR) .no (fun b' => @Bool.rec (fun _ => VR) (.ok (ev b) H) (.ok (ev a) H) b') (boolV (ev c))
def partsOf (ev : Ev) (parts : Array (Nat × Operand)) : List (Nat × AV) := parts.toList.map fun p => (p.1, ev p.2)
def fieldPlaceB (P : Program) (fs : Array Field) (i : Nat) : Option (Nat × Nat) := (fs[i]?).bind fun f => (sizeB P f.type).map fun s => (f.offset, s)
def pBuild (P : Program) (ev : Ev) (t : TypeId) (parts : Array (Nat × Operand)) : Option AV :=
  (zeroB P t).bind fun z =>
    match P.underlying t with
    | some (.struct fs) => (afill (fieldPlaceB P fs) (rawL z.cells) (partsOf ev parts)).bind fun cs =>
        cond (fs.toList.all fun f => (sizeB P f.type).isSome) (some (.agg cs)) none
    | some (.array _ e) => (sizeB P e).bind fun s => (afill (fun i => some (i * s, s)) (rawL z.cells) (partsOf ev parts)).map .agg
    | _ => none
def hBuild (t : TypeId) (parts : Array (Nat × Operand)) : Handler := fun P _ ev H => vr H (pBuild P ev t parts)
def pNil (P : Program) (o : Oper) (ev : Ev) (x : Operand) : Option AV := match ev x with
  | .func (.func f) a b => some (.func (.func f) a b)
  | .yield i => some (.yield i)
  | _ => gen P o ev
def hNil (x : Operand) : Handler := fun P o ev H => @PV.rec (fun _ => VR) (vr H (pNil P o ev x)) (fun i off => .ok (.ptr i off) H) (ptrV (ev x))
/-- integers of one kind -/
def aint (P : Program) (op : BinOp) (k : IntKind) (a b : Int) : Option Value :=
  match op with
  | .add | .sub | .mul => runPure P (Op.intArith op k a b)
  | .quo | .rem => runPure P (Op.intDiv op k a b)
  | .and | .or | .xor | .andNot => runPure P (Op.intBits op k a b)
  | .shl | .shr => none
  | _ => runPure P (Op.intCmp op a b)
def aeq (P : Program) (o : Oper) (ev : Ev) (t : TypeId) (want : Bool) (x y : AV) : Option AV :=
  match samePtr P t x y with
  | some b => some (.raw (.bool (b == want)))
  | none => cond (fitsEq P t x && sameKind x y) (some (.raw (.bool !want))) (cond (fitsEq P t y && sameKind y x) (some (.raw (.bool !want))) (gen P o ev))
def pBin (P : Program) (o : Oper) (ev : Ev) (op : BinOp) (t : TypeId) (x y : AV) : Option AV :=
  match op with
  | .eql => aeq P o ev t true x y
  | .neq => aeq P o ev t false x y
  | _ => gen P o ev
def pInt (P : Program) (o : Oper) (ev : Ev) (op : BinOp) (k k' : IntKind) (a b : Int) : Option AV :=
  cond (k == k') (match aint P op k a b with | some v => some (.raw v) | none => gen P o ev) (gen P o ev)
/-- small numbers: the ways that are gone most -/
def nNo : Nat → Nat → Option AV := fun _ _ => none
def small (n : Nat) : Option AV := @Bool.rec (fun _ => Option AV) none (some (.raw (.int .i64 (.ofNat n)))) (Nat.ble (Nat.succ n) 9223372036854775808)
def nBin : BinOp → Nat → Nat → Option AV :=
  @BinOp.rec (fun _ => Nat → Nat → Option AV) (fun a b => small (Nat.add a b)) (fun a b => @Bool.rec (fun _ => Option AV) none (small (Nat.sub a b)) (Nat.ble b a)) nNo nNo nNo nNo nNo nNo nNo nNo nNo
    (fun a b => some (.raw (.bool (Nat.beq a b)))) (fun a b => some (.raw (.bool (!(Nat.beq a b))))) (fun a b => some (.raw (.bool (Nat.ble (Nat.succ a) b)))) (fun a b => some (.raw (.bool (Nat.ble a b))))
    (fun a b => some (.raw (.bool (Nat.ble (Nat.succ b) a)))) (fun a b => some (.raw (.bool (Nat.ble b a))))
def isI64 : IntKind → Bool := @IntKind.rec (fun _ => Bool) false false false true false false false false
def fastInt (op : BinOp) (k k' : IntKind) (a b : Int) : Option AV :=
  @NV.rec (fun _ => Option AV) none (fun m => @NV.rec (fun _ => Option AV) none (fun n => @Bool.rec (fun _ => Option AV) none (@Bool.rec (fun _ => Option AV) none (nBin op m n) (isI64 k')) (isI64 k)) (intN b)) (intN a)
def hBin (op : BinOp) (t : TypeId) (x y : Operand) (_yt : TypeId) : Handler := fun P o ev H =>
  @WV.rec (fun _ => VR) (vr H (pBin P o ev op t (ev x) (ev y)))
    (fun k a => @WV.rec (fun _ => VR) (vr H (gen P o ev)) (fun k' b => @Option.rec AV (fun _ => VR) (vr H (pInt P o ev op k k' a b)) (fun v => .ok v H) (fastInt op k k' a b)) (avW (ev y))) (avW (ev x))
def pIface (P : Program) (t : TypeId) (v : AV) : Option AV := match P.underlying t with
  | some (.interface _) | none => none
  | some _ => some (.iface t v)
def hIface (t : TypeId) (x : Operand) : Handler := fun P _ ev H => vr H (pIface P t (ev x))
def hFunc (fn : Fn) (first captured : Array Operand) : Handler := fun _ _ ev H => .ok (.func fn (first.toList.map ev) (captured.toList.map ev)) H
def pSlice (P : Program) (o : Oper) (ev : Ev) (t : TypeId) (x : Operand) (lo hi mx : Option Operand) : Option AV := match ev x with
  | .raw _ => gen P o ev
  | x => aslice P t x (lo.map ev) (hi.map ev) (mx.map ev)
def hSlice (t : TypeId) (x : Operand) (lo hi mx : Option Operand) : Handler := fun P o ev H => vr H (pSlice P o ev t x lo hi mx)
def hFieldAddr (s : TypeId) (x : Operand) (f : Nat) : Handler := fun P _ ev H =>
  @FV.rec (fun _ => VR) .no (fun foff n _ => @PV.rec (fun _ => VR) .no (fun i off => @Bool.rec (fun _ => VR) .no (.ok (.ptr i (Nat.add off foff)) H) (Nat.ble 1 n)) (ptrV (ev x))) (fv P s f)
def hField (t : TypeId) (x : Operand) (f : Nat) : Handler := fun P o ev H =>
  @Option.rec (List AV) (fun _ => VR) (vr H (gen P o ev)) (fun cs => @FV.rec (fun _ => VR) .no (fun foff _ ft => vr H (apart P ft cs foff)) (fv P t f)) (aggV (ev x))
def hIndexAddr (t : TypeId) (x ix : Operand) : Handler := fun P _ ev H =>
  @NV.rec (fun _ => VR) .no (fun k => @TV.rec (fun _ => VR) .no
    (fun n s => @PV.rec (fun _ => VR) .no (fun i off => @Bool.rec (fun _ => VR) .no (.ok (.ptr i (Nat.add off (Nat.mul k s))) H) (Nat.ble (Nat.succ k) n)) (ptrV (ev x)))
    (fun s => @SV.rec (fun _ => VR) .no (fun i off len _ => @Bool.rec (fun _ => VR) .no (.ok (.ptr i (Nat.add off (Nat.mul k s))) H) (Nat.ble (Nat.succ k) len)) (sliceV (ev x)))
    (tv P t)) (natV (ev ix))
def pIndex (P : Program) (t : TypeId) (cs : List AV) (ix : AV) : Option AV := match P.underlying t with
  | some (.array n e) => (natO ix).bind fun k => (sizeB P e).bind fun s => cond (Nat.ble (k + 1) n) (apart P e cs (k * s)) none
  | _ => none
def hIndex (t : TypeId) (x ix : Operand) : Handler := fun P o ev H =>
  @Option.rec (List AV) (fun _ => VR) (vr H (gen P o ev)) (fun cs => vr H (pIndex P t cs (ev ix))) (aggV (ev x))
def hExtract (x : Operand) (i : Nat) : Handler := fun P o ev H =>
  @Option.rec (List AV) (fun _ => VR) (vr H (gen P o ev)) (fun vs => vr H (nth vs i)) (tupV (ev x))
def hLoad (t : TypeId) (x : Operand) : Handler := fun P _ ev H =>
  @PV.rec (fun _ => VR) .no (fun i off => @CV.rec (fun _ => VR) .no (fun _ cs _ _ _ => vr H (aload P t cs off)) (blkV (H.get i))) (ptrV (ev x))
def pLookup (P : Program) (o : Oper) (ev : Ev) (t : TypeId) (m k : AV) (ok : Bool) (H : AHeap) : Option AV := match m, k.toRaw with
  | .map i, some kv => match H.get i with
    | some (.map es _) => (mLookup P t es kv ok).map .raw
    | _ => none
  | _, _ => gen P o ev
def hLookup (t : TypeId) (m k : Operand) (ok : Bool) : Handler := fun P o ev H => vr H (pLookup P o ev t (ev m) (ev k) ok H)
def pConvert (P : Program) (o : Oper) (ev : Ev) (s d : TypeId) (x : AV) (H : AHeap) : Option (AV × AHeap) := match x with
  | .slice i off len _ => match P.underlying s, P.underlying d, H.get i with
    | some (.slice e), some .string, some (.cells _ cs _ _ _) => match P.underlying e with
      | some (.int .u8) => cond (Nat.ble (off + len) cs.length) ((bytesOf (cut cs off len)).map fun bs => (.raw (.string ⟨bs.toArray⟩), H)) none
      | _ => none
    | _, _, _ => none
  | .ptr i off => match P.underlying s, P.underlying d, H.get i with
    | some (.pointer t), some .unsafePointer, some (.cells _ cs _ _ _) => match sizeB P t with
      | some (_ + 1) => cond (Nat.ble (off + 1) cs.length) (some (.ptr i off, H)) none
      | _ => none
    | some .unsafePointer, some (.pointer u), some (.cells e cs true _ _) => cond ((sizeB P u).isSome && liesAt P P.depth e (cs.length / P.cellsOf e) off u 1) (some (.ptr i off, H)) none
    | _, _, _ => none
  | .raw (.string b) => match P.underlying s, P.underlying d with
    | some .string, some (.slice e) => match P.underlying e with
      | some (.int .u8) => cond (Nat.beq (P.cellsOf e) 1) (some (.slice H.next 0 b.size .full, H.new (.cells e (b.data.toList.map fun x => .raw (.int .u8 x.toNat)) false true false))) none
      | _ => none
    | _, _ => (gen P o ev).map fun v => (v, H)
  | _ => (gen P o ev).map fun v => (v, H)
def hConvert (s d : TypeId) (x : Operand) : Handler := fun P o ev H => vr2 (pConvert P o ev s d (ev x) H)

def hAlloc (e : TypeId) : Handler := fun P _ _ H => @Option.rec Value (fun _ => VR) .no (fun z => .ok (.ptr H.next 0) (H.new (.cells e (rawL z.cells) true false false))) (zeroB P e)
def hBox (e : TypeId) (x : Operand) : Handler := fun _ _ ev H => .ok (.ptr H.next 0) (H.new (.cells e (ev x).cells true false false))
def eBuildSlice (P : Program) (ev : Ev) (t : TypeId) (len : Nat) (parts : Array (Nat × Operand)) (H : AHeap) : Option (AV × AHeap) :=
  (elemB P t).bind fun e => (sizeB P e).bind fun s => (zeroB P e).bind fun z =>
    cond (Nat.ble 1 (len * s) && Nat.ble (len * s) 16777216 && Nat.beq z.cells.size s)
      ((afill (fun i => some (i * s, s)) (List.replicate len (rawL z.cells)).flatten (partsOf ev parts)).map fun cs =>
        (.slice H.next 0 len (.known len), H.new (.cells e cs true false false))) none
def hBuildSlice (t : TypeId) (len : Nat) (parts : Array (Nat × Operand)) : Handler := fun P _ ev H => vr2 (eBuildSlice P ev t len parts H)
def eMakeSlice (P : Program) (t : TypeId) (l c : AV) (H : AHeap) : Option (AV × AHeap) :=
  (elemB P t).bind fun e => (P.info? e).bind fun inf => (inf.zero).bind fun z => (natO l).bind fun l => (natO c).bind fun c =>
    cond (Nat.ble l c && Nat.ble 1 (c * inf.size) && bounded c inf.bytes && Nat.beq z.cells.size inf.size)
      (some (.slice H.next 0 l (.known c), H.new (.cells e (List.replicate c (rawL z.cells)).flatten true false false))) none
def hMakeSlice (t : TypeId) (l c : Operand) : Handler := fun P _ ev H => vr2 (eMakeSlice P t (ev l) (ev c) H)
def sizeIs (P : Program) (t : TypeId) (n : Nat) : Bool := match sizeB P t with | some m => Nat.beq n m | none => false
def eStore (P : Program) (t : TypeId) (i off : Nat) (y : AV) (H : AHeap) (e : TypeId) (cs : List AV) (exact : Bool) : Option (AV × AHeap) :=
  cond (allOne y.cells && sizeIs P t y.cells.length)
    ((aput cs off y.cells).map fun cs' => (.raw undef, H.set i (.cells e cs' exact false false))) none
def hStore (t : TypeId) (x y : Operand) : Handler := fun P _ ev H =>
  @PV.rec (fun _ => VR) .no (fun i off => @CV.rec (fun _ => VR) .no (fun e cs exact frz ro => @Bool.rec (fun _ => VR) (@Bool.rec (fun _ => VR) (vr2 (eStore P t i off (ev y) H e cs exact)) .no frz) .no ro) (blkV (H.get i))) (ptrV (ev x))
def eMakeMap (P : Program) (ev : Ev) (t : TypeId) (r : Option Operand) (H : AHeap) : Option (AV × AHeap) := match r with
  | none => some (.map H.next, H.new (.map #[] 0))
  | some h => match P.underlying t, ev h with | some (.map _ _), .raw (.int _ _) => some (.map H.next, H.new (.map #[] 0)) | _, _ => none
def hMakeMap (t : TypeId) (r : Option Operand) : Handler := fun P _ ev H => vr2 (eMakeMap P ev t r H)
def eMapUpdate (P : Program) (t : TypeId) (m k x : AV) (H : AHeap) : Option (AV × AHeap) := match m, k.toRaw, x.toRaw with
  | .map i, some kv, some xv => match H.get i with
    | some (.map es clock) => (mUpdate P t es clock kv xv).map fun r => (.raw undef, H.set i (.map r.1 r.2))
    | _ => none
  | _, _, _ => none
def hMapUpdate (t : TypeId) (m k x : Operand) : Handler := fun P _ ev H => vr2 (eMapUpdate P t (ev m) (ev k) (ev x) H)
def eUnsafeString (P : Program) (pt : TypeId) (x n : AV) (H : AHeap) : Option (AV × AHeap) := match x with
  | .ptr i 0 => match n with
    | .raw (.int .i64 (.ofNat n)) => match P.underlying pt, H.get i with
      | some (.pointer e), some (.cells e' cs exact _ false) =>
        cond (Nat.beq e e' && Nat.beq (P.cellsOf e) 1 && Nat.ble 1 n && Nat.ble n cs.length && Nat.ble n 140737488355328)
          ((bytesOf (cs.take n)).map fun bs => (.raw (.string ⟨bs.toArray⟩), H.set i (.cells e' cs exact true false))) none
      | _, _ => none
    | _ => none
  | _ => none
def pLen (P : Program) (t : Option TypeId) (v : AV) : Option AV := t.bind fun t => match P.underlying t, v with
  | some (.slice _), .slice _ _ len _ => some (.raw (.int .i64 (.ofNat len)))
  | some (.array n _), .agg _ => some (.raw (.int .i64 (.ofNat n)))
  | some .string, .raw (.string b) => some (.raw (.int .i64 (.ofNat b.size)))
  | _, _ => none
def pCap (P : Program) (t : Option TypeId) (v : AV) : Option AV := t.bind fun t => match P.underlying t, v with
  | some (.slice _), .slice _ _ _ (.known n) => some (.raw (.int .i64 (.ofNat n)))
  | _, _ => none
def eBuiltin (P : Program) (o : Oper) (ev : Ev) (b : Builtin) (argTypes : Array TypeId) (args : List AV) (H : AHeap) : VR :=
  match b, args with
  | .len, [v] => match pLen P argTypes[0]? v with | some r => .ok r H | none => vr H (gen P o ev)
  | .cap, [v] => match pCap P argTypes[0]? v with | some r => .ok r H | none => vr H (gen P o ev)
  | .append, [s, x] => match argTypes.toList with
    | [t, t'] => match P.underlying t' with
      | some (.slice _) => vr2 (aappend P t s x H)
      | some .string => vr2 (aappend P t s x H)
      | _ => .no
    | _ => .no
  | .copy, [d, x] => match argTypes.toList with | [t, _] => vr2 (acopy P t d x H) | _ => .no
  | .unsafeString, [p, n] => match argTypes.toList with | [pt, _] => vr2 (eUnsafeString P pt p n H) | _ => .no
  | .unsafeSliceData, [.slice i off len _] => @Bool.rec (fun _ => VR) .no (.ok (.ptr i off) H) (Nat.ble 1 len)
  | _, _ => vr H (gen P o ev)
def hCall (c : Call) : Handler := fun P o ev H =>
  match c.callee with
  | .value f => acallee P (ev f) (c.args.toList.map ev) H
  | .builtin b => eBuiltin P o ev b c.argTypes (c.args.toList.map ev) H
  | .invoke _ _ => .no

/-- one operation -/
def aop : Op → Handler :=
  @Op.rec (fun _ => Handler) hMove hMove hPick hAlloc hBox hBuild hBuildSlice hMapUpdate hLoad hStore (fun _ => hNo) (fun _ => hNo) hNil hBin (fun _ _ _ => hGen) hConvert (fun _ _ => hNo) hIface hFunc hMakeMap (fun _ _ => hNo) hMakeSlice
    hSlice hFieldAddr hField hIndexAddr hIndex hLookup hMapUpdate (fun _ _ _ => hNo) (fun _ _ _ _ => hNo) (fun _ _ => hNo) (fun _ _ => hNo) (fun _ => hNo) (fun _ _ _ _ => hGen) hExtract hCall (fun _ => hNo) (fun _ => hNo) (fun _ => hNo) (fun _ _ => hNo) (fun _ _ _ => hNo) (fun _ _ => hNo)

--EV
def evT (T : Tr AV) : Ev := fun x =>
  @Operand.rec (fun _ => AV) (fun t => @Option.rec AV (fun _ => AV) (.raw undef) (fun v => v) (T.get t)) (fun v => .raw v) (fun g => @Bool.rec (fun _ => AV) (.raw (.pointer (some ⟨g, 0, none⟩))) (.ptr g 0) (Nat.ble (Nat.succ g) 64)) (fun f => .raw (.func (.func f) #[] #[])) x
--VE

/-- how code is left -/
inductive R where
  | no
  | normal (T : Tr AV) (H : AHeap) (m : List Nat)
  | exit (id : Nat) (T : Tr AV) (H : AHeap) (m : List Nat)
  | goto (l : Nat) (T : Tr AV) (H : AHeap) (m : List Nat)
  | ret (T : Tr AV) (H : AHeap) (m : List Nat)

def putT (T : Tr AV) (n : Nat) (dst : Option Tmp) (v : AV) : Option (Tr AV) :=
  @Option.rec Tmp (fun _ => Option (Tr AV)) (some T) (fun d => @Bool.rec (fun _ => Option (Tr AV)) none (some (T.set d (some v))) (Nat.ble (Nat.succ d) n)) dst

/-- is an operation wanted: its guard -/
def awantedG (T : Tr AV) (ops : Array Oper) (g : Nat × Bool) : Option Bool :=
  match (ops[g.1]?).bind (·.dst) with
  | some d => match T.get d with | some (.raw (.bool b)) => some (b == g.2) | _ => some false
  | none => none
def awanted (T : Tr AV) (ops : Array Oper) (o : Oper) : Option Bool :=
  @Option.rec (Nat × Bool) (fun _ => Option Bool) (some true) (fun g => awantedG T ops g) o.guard

abbrev Caller := FuncId → List AV → AHeap → VR
abbrev Rounder := Nat → List AV → AHeap → VR

/-- an operation with its call: its value and the memory behind it -/
def aoper (P : Program) (call : Caller) (round : Rounder) (o : Oper) (ev : Ev) (H : AHeap) : VR :=
  @VR.rec (fun _ => VR) .no (fun v H => .ok v H) (fun f args H => call f args H) (fun i args H => round i args H) (aop o.op P o ev H)

/-- the slots and the memory behind a region -/
inductive TH where
  | no
  | mk (T : Tr AV) (H : AHeap)
def th (k : Tr AV → AHeap → TH) (H : AHeap) (T : Option (Tr AV)) : TH := @Option.rec (Tr AV) (fun _ => TH) .no (fun T => k T H) T
def thV (n : Nat) (dst : Option Tmp) (k : Tr AV → AHeap → TH) (T : Tr AV) (r : VR) : TH :=
  @VR.rec (fun _ => TH) .no (fun v H => th k H (putT T n dst v)) (fun _ _ _ => .no) (fun _ _ _ => .no) r

def astep (P : Program) (call : Caller) (round : Rounder) (ops : Array Oper) (n : Nat) (o : Oper) (T : Tr AV) (H : AHeap) (k : Tr AV → AHeap → TH) : TH :=
  @Option.rec Bool (fun _ => TH) .no (fun b => @Bool.rec (fun _ => TH) (th k H (putT T n o.dst (.raw undef))) (thV n o.dst k T (aoper P call round o (evT T) H)) b) (awanted T ops o)

def aseq (P : Program) (call : Caller) (round : Rounder) (ops : Array Oper) (n : Nat) (l : List Oper) : Tr AV → AHeap → TH :=
  @List.rec Oper (fun _ => Tr AV → AHeap → TH) (fun T H => .mk T H) (fun o _ ih T H => astep P call round ops n o T H ih) l

abbrev Runner := Code → (n : Nat) → (rnd : Bool) → Tr AV → AHeap → List Nat → R

def iter (body : Tr AV → AHeap → List Nat → R) (k : Nat) : Tr AV → AHeap → List Nat → R :=
  @Nat.rec (fun _ => Tr AV → AHeap → List Nat → R) (fun _ _ _ => .no) (fun _ ih T H m => @R.rec (fun _ => R) .no ih .exit .goto .ret (body T H m)) k

def aresult (P : Program) (T : Tr AV) (H : AHeap) : ResultVar → Option AV
  | .tmp t => some ((T.get t).getD (.raw undef))
  | .cell a t => match T.get a with
    | some (.ptr i off) => match H.get i with
      | some (.cells _ cs _ _ _) => aload P t cs off
      | _ => none
    | _ => none
def aresultL (P : Program) (T : Tr AV) (H : AHeap) : List ResultVar → Option (List AV)
  | [] => some []
  | r :: l => (aresult P T H r).bind fun v => (aresultL P T H l).map fun vs => v :: vs
def aresults (P : Program) (fn : Func) (T : Tr AV) (H : AHeap) : VR :=
  match aresultL P T H fn.results.toList with
  | some [v] => .ok v H
  | some vs => .ok (.tuple vs) H
  | none => .no

def initT (l : List AV) : Tr AV → Nat → Tr AV :=
  @List.rec AV (fun _ => Tr AV → Nat → Tr AV) (fun T _ => T) (fun v _ ih T k => ih (T.set k (some v)) (Nat.succ k)) l

/-- the blocks of the loops over functions that an activation has begun are given up -/
def closeM : List Nat → AHeap → Option AHeap
  | [], H => some H
  | i :: m, H => match H.get i with
    | some .deferred => closeM m (H.drop i)
    | _ => none
def aleave (P : Program) (fn : Func) (T : Tr AV) (H : AHeap) (m : List Nat) : VR :=
  @Option.rec AHeap (fun _ => VR) .no (fun H => aresults P fn T H) (closeM m H)
/-- a call of a function with a body -/
def acallB (P : Program) (ih : Runner) (args : List AV) (H : AHeap) (fn : Func) (c : Code) : VR :=
  @Bool.rec (fun _ => VR) .no (@R.rec (fun _ => VR) .no (fun T H m => aleave P fn T H m) (fun _ _ _ _ => .no) (fun _ _ _ _ => .no) (fun T H m => aleave P fn T H m)
    (ih c fn.ntmps false (initT args .nil 0) H [])) (Nat.ble args.length fn.ntmps)
def acall (P : Program) (ih : Runner) : Caller := fun f args H =>
  @Option.rec Func (fun _ => VR) .no (fun fn => @Option.rec Code (fun _ => VR) .no (fun c => acallB P ih args H fn c) fn.body) (P.funcs[f]?)

def setPairs (T : Tr AV) (l : List (Tmp × AV)) : Tr AV := l.foldl (fun T p => T.set p.1 (some p.2)) T

/-- the end of a round -/
def aroundEnd (i : Nat) : R → VR
  | .normal _ H _ => match H.get i with | some (.loop r) => .ok (.raw (.bool true)) (H.set i (.loop { r with state := .ready, pending := none })) | _ => .no
  | .ret _ H _ => match H.get i with | some (.loop r) => .ok (.raw (.bool false)) (H.set i (.loop { r with state := .done, pending := some .ret })) | _ => .no
  | .exit id _ H _ => match H.get i with | some (.loop r) => .ok (.raw (.bool false)) (H.set i (.loop { r with state := .done, pending := some (.exit id) })) | _ => .no
  | .goto l _ H _ => match H.get i with | some (.loop r) => .ok (.raw (.bool false)) (H.set i (.loop { r with state := .done, pending := some (.goto l) })) | _ => .no
  | .no => .no
/-- one round of a loop over a function -/
def around (ih : Runner) : Rounder := fun i args H =>
  match H.get i with
  | some (.loop r) =>
    match r.state with
    | .ready => cond (Nat.beq args.length r.params.size && r.params.toList.all fun t => Nat.ble (t + 1) r.size)
      (match ih r.assign r.size true (setPairs r.tmps (r.params.toList.zip args)) H [] with
        | .normal T H [] => match H.get i with
          | some (.loop r') => match r'.state with
            | .ready => aroundEnd i (ih r.body r.size true T (H.set i (.loop { r' with state := .busy })) [])
            | _ => .no
          | _ => .no
        | _ => .no) .no
    | _ => .no
  | _ => .no

def rounds : Nat := 4096

/-- behind the call of the iterator -/
def arangeEnd (ih : Runner) (n : Nat) (T : Tr AV) (D : Nat) (m : List Nat) : VR → R
  | .ok _ H3 => match H3.get (Nat.succ D) with
    | some (.loop r) => match r.state with
      | .busy => .no
      | _ => match r.pending with
        | none => .normal T (H3.set (Nat.succ D) (.loop { r with state := .exhausted })) (D :: m)
        | some c => ih c n false T (H3.set (Nat.succ D) (.loop { r with state := .exhausted })) (D :: m)
    | _ => .no
  | _ => .no
def arange (P : Program) (ih : Runner) (f : Operand) (params : Array Tmp) (assign body : Code) (n : Nat) (T : Tr AV) (H : AHeap) (m : List Nat) : R :=
  match acallee P (evT T f) [.yield (Nat.succ H.next)] ((H.new .deferred).new (.loop { tmps := T, size := n, params, assign, body, state := .ready, pending := none })) with
  | .enter g args H2 => arangeEnd ih n T H.next m (acall P ih g args H2)
  | _ => .no

abbrev Drawer := Caller → Rounder → Array Oper → Nat → Tr AV → AHeap → TH
abbrev CHandler := Program → Drawer → Runner → (n : Nat) → (rnd : Bool) → Tr AV → AHeap → List Nat → R

def thR (m : List Nat) (r : TH) : R := @TH.rec (fun _ => R) .no (fun T H => .normal T H m) r
def cSkip : CHandler := fun _ _ _ _ _ T H m => .normal T H m
def cRegion (_id : Nat) (ops : Array Oper) (d : Bool) : CHandler := fun P draw ih n _ T H m =>
  thR m (@Bool.rec (fun _ => TH) (aseq P (acall P ih) (around ih) ops n ops.toList T H) (draw (acall P ih) (around ih) ops n T H) d)
def cSeq (a b : Code) (_ _ : CHandler) : CHandler := fun _ _ ih n rnd T H m => @R.rec (fun _ => R) .no (fun T H m => ih b n rnd T H m) .exit .goto .ret (ih a n rnd T H m)
def cCond (c : Operand) (x y : Code) (_ _ : CHandler) : CHandler := fun _ _ ih n rnd T H m =>
  @BV.rec (fun _ => R) .no (fun b => @Bool.rec (fun _ => R) (ih y n rnd T H m) (ih x n rnd T H m) b) (boolV (evT T c))
def cBlock (id : Nat) (b : Code) (_ : CHandler) : CHandler := fun _ _ ih n rnd T H m =>
  @R.rec (fun _ => R) .no .normal (fun i T H m => @Bool.rec (fun _ => R) (.exit i T H m) (.normal T H m) (Nat.beq i id)) .goto .ret (ih b n rnd T H m)
def cLoop (b : Code) (_ : CHandler) : CHandler := fun _ _ ih n rnd T H m => iter (ih b n rnd) rounds T H m
def cRange (f : Operand) (params : Array Tmp) (assign body : Code) (_ _ : CHandler) : CHandler := fun P _ ih n rnd T H m =>
  @Bool.rec (fun _ => R) (arange P ih f params assign body n T H m) .no rnd
def cExit (id : Nat) : CHandler := fun _ _ _ _ _ T H m => .exit id T H m
def cScope (b : Code) (_ : CHandler) : CHandler := fun _ _ ih n rnd T H m => @R.rec (fun _ => R) .no .normal .exit (fun _ _ _ _ => .no) .ret (ih b n rnd T H m)
def cGoto (l : Nat) : CHandler := fun _ _ _ _ _ T H m => .goto l T H m
def cRet : CHandler := fun _ _ _ _ _ T H m => .ret T H m
def cNo : CHandler := fun _ _ _ _ _ _ _ _ => .no
def chandle : Code → CHandler :=
  @Code.rec (fun _ => CHandler) cSkip cRegion cSeq cCond cBlock cLoop cRange cExit cScope (fun _ => cSkip) cGoto cRet (fun _ => cNo)

def acode (P : Program) (draw : Drawer) (fuel : Nat) : Runner :=
  @Nat.rec (fun _ => Runner) (fun _ _ _ _ _ _ => .no) (fun _ ih c => chandle c P draw ih) fuel

end
end Go.Proofs.YtcdknjkkaonbiaaGreatDoor.Sx
