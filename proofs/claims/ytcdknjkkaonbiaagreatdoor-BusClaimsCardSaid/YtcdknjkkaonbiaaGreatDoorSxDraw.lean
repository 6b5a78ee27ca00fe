/- The runner over an abstract memory: regions that draw their order: definitions. -/
import Derived.Test.YtcdknjkkaonbiaaGreatDoorSxCode4
namespace Go.Proofs.YtcdknjkkaonbiaaGreatDoor.Sx
noncomputable section

inductive Kd where
  | p | r | a | e
def kdCall (c : Call) : Kd := match c.callee with
  | .builtin .append => .e
  | .builtin .copy => .e
  | .builtin .unsafeString => .e
  | .builtin _ => .p
  | _ => .e
/-- neither reads nor writes memory; reads it; lays a zero variable; any other -/
def kdOf : Op → Kd :=
  @Op.rec (fun _ => Kd) (fun _ => .p) (fun _ => .p) (fun _ _ _ => .p) (fun _ => .a) (fun _ _ => .e) (fun _ _ => .p) (fun _ _ _ => .e) (fun _ _ _ _ => .e) (fun _ _ => .r) (fun _ _ _ => .e) (fun _ => .e) (fun _ => .e) (fun _ => .p) (fun _ _ _ _ _ => .p) (fun _ _ _ => .p)
    (fun _ _ _ => .e) (fun _ _ => .e) (fun _ _ => .p) (fun _ _ _ => .p) (fun _ _ => .e) (fun _ _ => .e) (fun _ _ _ => .e) (fun _ _ _ _ _ => .p) (fun _ _ _ => .p) (fun _ _ _ => .p) (fun _ _ _ => .p) (fun _ _ _ => .p) (fun _ _ _ _ => .r) (fun _ _ _ _ => .e)
    (fun _ _ _ => .e) (fun _ _ _ _ => .e) (fun _ _ => .e) (fun _ _ => .e) (fun _ => .e) (fun _ _ _ _ => .p) (fun _ _ => .p) kdCall (fun _ => .e) (fun _ => .e) (fun _ => .e) (fun _ _ => .e) (fun _ _ _ => .e) (fun _ _ => .e)

def depsOf (o : Oper) : List Nat := (o.after.toList.filter (Region.binds .any)).map Edge.on
def memN (i : Nat) (l : List Nat) : Bool := @List.rec Nat (fun _ => Bool) false (fun a _ ih => @Bool.rec (fun _ => Bool) ih true (Nat.beq a i)) l
def tmpsOf (o : Oper) : List Tmp := o.op.operands.toList.filterMap fun x => match x with | .tmp t => some t | _ => none
def dstIs (t : Tmp) (o : Oper) : Bool := match o.dst with | some d => Nat.beq d t | none => false
/-- the first operation that writes a slot -/
def writer (t : Tmp) : List Oper → Nat → Option (Nat × Oper)
  | [], _ => none
  | o :: l, i => cond (dstIs t o) (some (i, o)) (writer t l (i + 1))
def opOk (ops : List Oper) (i : Nat) (o : Oper) : Bool :=
  (depsOf o).all (fun d => Nat.ble (d + 1) i) &&
  (tmpsOf o).all (fun t => match writer t ops 0 with | none => true | some q => memN q.1 (depsOf o) || memN i (depsOf q.2)) &&
  (match o.dst with | none => true | some d => match writer d ops 0 with | some q => Nat.beq q.1 i | none => false) &&
  (match o.guard with | none => true | some g => memN g.1 (depsOf o))
def opsOk (ops : List Oper) : List Oper → Nat → Bool
  | [], _ => true
  | o :: l, i => cond (opOk ops i o) (opsOk ops l (i + 1)) false

def vsame : Value → Value → Bool
  | .int k a, .int k' b => decide (k = k') && decide (a = b)
  | .bool a, .bool b => a == b
  | .string a, .string b => decide (a = b)
  | .pointer none, .pointer none => true
  | .slice none l c, .slice none l' c' => Nat.beq l l' && Nat.beq c c'
  | .map none, .map none => true
  | .nilFunc, .nilFunc => true
  | .nilIface, .nilIface => true
  | .func f ⟨[]⟩ ⟨[]⟩, .func g ⟨[]⟩ ⟨[]⟩ => decide (f = g)
  | _, _ => false
def all2 (f : Value → Value → Bool) : List Value → List Value → Bool
  | [], [] => true
  | a :: l, b :: m => cond (f a b) (all2 f l m) false
  | _, _ => false
def vsameD : Nat → Value → Value → Bool
  | 0, a, b => vsame a b
  | n + 1, a, b => match a, b with
    | .agg ⟨l⟩, .agg ⟨m⟩ => all2 (vsameD n) l m
    | .tuple ⟨l⟩, .tuple ⟨m⟩ => all2 (vsameD n) l m
    | a, b => vsame a b
def Cap.same : Cap → Cap → Bool
  | .known a, .known b => Nat.beq a b
  | .full, .full => true
  | .any, .any => true
  | _, _ => false
def same1 : AV → AV → Bool
  | .raw a, .raw b => vsameD 3 a b
  | .ptr i o, .ptr j q => Nat.beq i j && Nat.beq o q
  | .slice i o l c, .slice j q m d => Nat.beq i j && Nat.beq o q && Nat.beq l m && c.same d
  | .map i, .map j => Nat.beq i j
  | .func f [] [], .func g [] [] => decide (f = g)
  | _, _ => false
def sameL : List AV → List AV → Bool
  | [], [] => true
  | a :: l, b :: m => same1 a b && sameL l m
  | _, _ => false
def AV.same : AV → AV → Bool
  | .agg l, .agg m => sameL l m
  | .tuple l, .tuple m => sameL l m
  | a, b => same1 a b

/-- a reading operation yields v here too -/
def rsame (P : Program) (o : Oper) (ev : Ev) (v : AV) (H : AHeap) : Bool := match aop o.op P o ev H with | .ok v' _ => AV.same v' v | _ => false
def rall (P : Program) (o : Oper) (ev : Ev) (v : AV) : List AHeap → Bool
  | [] => true
  | H :: l => cond (rsame P o ev v H) (rall P o ev v l) false
structure Pend where
  i : Nat
  o : Oper
  T : Tr AV
  v : AV
/-- the reads that may still come behind the effect just done -/
def stillPend (ds : List Nat) : List Pend → List Pend
  | [] => []
  | q :: l => cond (memN q.i ds) (stillPend ds l) (q :: stillPend ds l)
def pendOk (P : Program) (H : AHeap) : List Pend → Bool
  | [] => true
  | q :: l => cond (rsame P q.o (evT q.T) q.v H) (pendOk P H l) false
def level (lev : Tr Nat) : List Nat → Nat
  | [] => 0
  | d :: l => Nat.max ((lev.get d).getD 0) (level lev l)
def subN (l ds : List Nat) : Bool := l.all fun i => memN i ds

structure DS where
  i : Nat
  k : Nat
  T : Tr AV
  cur : AHeap
  hs : List AHeap
  lev : Tr Nat
  pend : List Pend
  als : List Nat

def dput (n : Nat) (o : Oper) (s : DS) (v : AV) (f : Tr AV → DS) : Option DS := (putT s.T n o.dst v).map f
def dstep (P : Program) (call : Caller) (round : Rounder) (ops : Array Oper) (n : Nat) (o : Oper) (s : DS) : Option DS :=
  let ds := depsOf o
  let lv := level s.lev ds
  match awanted s.T ops o with
  | none => none
  | some false => dput n o s (.raw undef) fun T => { s with i := s.i + 1, T := T, lev := s.lev.set s.i (some lv) }
  | some true => match kdOf o.op with
    | .p => match aop o.op P o (evT s.T) s.cur with
      | .ok v _ => dput n o s v fun T => { s with i := s.i + 1, T := T, lev := s.lev.set s.i (some lv) }
      | _ => none
    | .r => match s.hs with
      | H :: _ => match aop o.op P o (evT s.T) H with
        | .ok v _ => cond (rall P o (evT s.T) v (s.hs.take (s.k + 1 - lv)))
          (dput n o s v fun T => { s with i := s.i + 1, T := T, lev := s.lev.set s.i (some lv), pend := ⟨s.i, o, s.T, v⟩ :: s.pend }) none
        | _ => none
      | [] => none
    | .a => match aop o.op P o (evT s.T) s.cur with
      | .ok v H => dput n o s v fun T => { s with i := s.i + 1, T := T, cur := H, lev := s.lev.set s.i (some lv), als := s.i :: s.als }
      | _ => none
    | .e => cond (Nat.beq lv s.k && subN s.als ds)
      (match aoper P call round o (evT s.T) s.cur with
        | .ok v H => cond (pendOk P H (stillPend ds s.pend))
          (dput n o s v fun T => { i := s.i + 1, k := s.k + 1, T := T, cur := H, hs := H :: s.hs, lev := s.lev.set s.i (some (s.k + 1)), pend := stillPend ds s.pend, als := [] }) none
        | _ => none) none
def dgo (P : Program) (call : Caller) (round : Rounder) (ops : Array Oper) (n : Nat) : List Oper → DS → TH
  | [], s => .mk s.T s.cur
  | o :: l, s => match dstep P call round ops n o s with
    | some s => dgo P call round ops n l s
    | none => .no
/-- a region that draws its order -/
def adraw (P : Program) : Drawer := fun call round ops n T H =>
  cond (opsOk ops.toList ops.toList 0) (dgo P call round ops n ops.toList { i := 0, k := 0, T := T, cur := H, hs := [H], lev := .nil, pend := [], als := [] }) .no
end
end Go.Proofs.YtcdknjkkaonbiaaGreatDoor.Sx
