/- The runner over an abstract memory: how its values, blocks and states stand to the model's. -/
import Derived.Test.YtcdknjkkaonbiaaGreatDoorSxDef
import Derived.Laws.AppendOwn
import Derived.Laws.CopyRow
import Derived.OrdersIn
import Derived.Below
import Derived.Scope
namespace Go.Proofs.YtcdknjkkaonbiaaGreatDoor.Sx
open Go.RowKit

/-! ### trees -/
def unbits : List Bool → Nat
  | [] => 0
  | true :: l => 2 * unbits l + 1
  | false :: l => 2 * unbits l + 2
theorem unbits_bitsF : ∀ (f i : Nat), i < f → unbits (bitsF f i) = i
  | 0, i, h => by omega
  | f + 1, i, h => by
    have e : bitsF (f + 1) i = @Bool.rec (fun _ => List Bool) (@Bool.rec (fun _ => List Bool) (false :: bitsF f (Nat.sub (Nat.div i 2) 1)) (true :: bitsF f (Nat.div i 2)) (Nat.beq (Nat.mod i 2) 1)) [] (Nat.beq i 0) := rfl
    rw [e]
    cases h0 : Nat.beq i 0 with
    | true => simpa [unbits] using (Nat.eq_of_beq_eq_true h0).symm
    | false =>
      have hi : i ≠ 0 := Nat.ne_of_beq_eq_false h0
      have d1 : Nat.div i 2 = i / 2 := rfl
      have m1 : Nat.mod i 2 = i % 2 := rfl
      cases h1 : Nat.beq (Nat.mod i 2) 1 with
      | true =>
        have := Nat.eq_of_beq_eq_true h1
        show 2 * unbits (bitsF f (Nat.div i 2)) + 1 = i
        rw [unbits_bitsF f _ (by rw [d1]; omega), d1]; omega
      | false =>
        have := Nat.ne_of_beq_eq_false h1
        show 2 * unbits (bitsF f (Nat.sub (Nat.div i 2) 1)) + 2 = i
        have e2 : Nat.sub (Nat.div i 2) 1 = i / 2 - 1 := rfl
        rw [e2, unbits_bitsF f _ (by omega)]; omega
theorem bits_inj {i j : Nat} (h : bits i = bits j) : i = j := by
  have := congrArg unbits h
  rwa [bits, bits, unbits_bitsF _ _ (Nat.lt_succ_self i), unbits_bitsF _ _ (Nat.lt_succ_self j)] at this

theorem Tr.getP_nil {α : Type} (p : List Bool) : Tr.getP p (Tr.nil : Tr α) = none := by cases p <;> rfl
theorem Tr.getP_setP {α : Type} (x : Option α) : ∀ (p q : List Bool) (t : Tr α), Tr.getP q (Tr.setP x p t) = if p = q then x else Tr.getP q t
  | [], [], .nil => rfl
  | [], [], .node l v r => rfl
  | [], c :: q, .nil => by
    have : Tr.getP (c :: q) (Tr.setP x [] (Tr.nil : Tr α)) = none := by
      show @Bool.rec (fun _ => Option α) (Tr.getP q .nil) (Tr.getP q .nil) c = none
      cases c <;> simp [Tr.getP_nil]
    simp [this, Tr.getP_nil]
  | [], c :: q, .node l v r => by simp; rfl
  | b :: p, [], .nil => by
    simp only [List.cons_ne_nil, if_false, Tr.getP_nil]
    cases b <;> rfl
  | b :: p, [], .node l v r => by simp only [List.cons_ne_nil, if_false]; cases b <;> rfl
  | b :: p, c :: q, .nil => by
    have e : Tr.getP (c :: q) (Tr.setP x (b :: p) (Tr.nil : Tr α)) = if b = c then Tr.getP q (Tr.setP x p .nil) else none := by
      cases b <;> cases c <;> first | rfl | exact Tr.getP_nil q
    rw [e, Tr.getP_setP x p q .nil, Tr.getP_nil, Tr.getP_nil]
    by_cases h : b = c <;> simp [h]
  | b :: p, c :: q, .node l v r => by
    have e : Tr.getP (c :: q) (Tr.setP x (b :: p) (Tr.node l v r)) = if b = c then Tr.getP q (Tr.setP x p (cond b l r)) else Tr.getP (c :: q) (Tr.node l v r) := by
      cases b <;> cases c <;> rfl
    rw [e]
    by_cases h : b = c
    · subst h
      rw [if_pos rfl, Tr.getP_setP x p q]
      cases b <;> by_cases hp : p = q <;> simp [hp] <;> rfl
    · simp [h]
theorem Tr.get_set {α : Type} (t : Tr α) (i j : Nat) (x : Option α) : (t.set i x).get j = if i = j then x else t.get j := by
  unfold Tr.get Tr.set
  rw [Tr.getP_setP]
  by_cases h : i = j
  · subst h; simp
  · rw [if_neg (fun e => h (bits_inj e)), if_neg h]
theorem Tr.get_nil {α : Type} (i : Nat) : (Tr.nil : Tr α).get i = none := Tr.getP_nil _

/-! ### lists -/
theorem nth_eq {α : Type} : ∀ (l : List α) (i : Nat), nth l i = l[i]?
  | [], i => by cases i <;> rfl
  | a :: l, 0 => rfl
  | a :: l, i + 1 => by
    show @Bool.rec (fun _ => Option α) (nth l (Nat.sub (i + 1) 1)) (some a) (Nat.beq (i + 1) 0) = _
    have : Nat.beq (i + 1) 0 = false := rfl
    rw [this]
    have e : Nat.sub (i + 1) 1 = i := rfl
    rw [e, nth_eq l i]; rfl
theorem put1_eq (v : AV) : ∀ (cs : List AV) (off : Nat), put1 v cs off = if off < cs.length then some (cs.set off v) else none
  | [], off => by simp; rfl
  | a :: l, 0 => by simp; rfl
  | a :: l, i + 1 => by
    show @Option.rec (List AV) (fun _ => Option (List AV)) none (fun r => some (a :: r)) (put1 v l i) = _
    rw [put1_eq v l i]
    by_cases h : i < l.length <;> simp [h]
theorem set_eq_splice {α : Type} (cs : List α) (off : Nat) (v : α) (h : off < cs.length) : cs.set off v = cs.take off ++ [v] ++ cs.drop (off + 1) := by
  rw [List.set_eq_take_append_cons_drop, if_pos h]; simp
theorem aput_some {cs vs r : List AV} {off : Nat} (h : aput cs off vs = some r) : off + vs.length ≤ cs.length ∧ r = cs.take off ++ vs ++ cs.drop (off + vs.length) := by
  unfold aput at h
  split at h
  · rw [put1_eq] at h
    split at h
    · rename_i hl
      injection h with h
      refine ⟨by simp; omega, ?_⟩
      rw [← h, set_eq_splice _ _ _ hl]; rfl
    · cases h
  · cases hb : Nat.ble (off + vs.length) cs.length with
    | false => rw [hb] at h; cases h
    | true =>
      rw [hb] at h
      injection h with h
      exact ⟨Nat.le_of_ble_eq_true hb, h.symm⟩

/-! ### values -/
abbrev Env := Nat → Option (Nat × Nat)

def capOk (cap : Cap) (c k : Nat) : Prop := match cap with
  | .known n => k = n
  | .full => k = c
  | .any => True

mutual
inductive Den (ρ : Env) : AV → Value → Prop
  | raw (v : Value) : Den ρ (.raw v) v
  | ptr {i off b c : Nat} (h : ρ i = some (b, c)) : Den ρ (.ptr i off) (.pointer (some ⟨b, off, none⟩))
  | slice {i off len b c k : Nat} {cap : Cap} (h : ρ i = some (b, c)) (hc : capOk cap c k) (hl : len ≤ k) : Den ρ (.slice i off len cap) (.slice (some ⟨b, off, none⟩) len k)
  | func {fn : Fn} {fs cs : List AV} {xs ys : List Value} (hf : Dens ρ fs xs) (hc : Dens ρ cs ys) : Den ρ (.func fn fs cs) (.func fn xs.toArray ys.toArray)
  | yield {i b c : Nat} (h : ρ i = some (b, c)) : Den ρ (.yield i) (.func (.yield b) #[] #[])
  | map {i b c : Nat} (h : ρ i = some (b, c)) : Den ρ (.map i) (.map (some b))
  | iface {t : TypeId} {v : AV} {x : Value} (h : Den ρ v x) : Den ρ (.iface t v) (.iface t x)
  | agg {cs : List AV} {xs : List Value} (h : Dens ρ cs xs) : Den ρ (.agg cs) (.agg xs.toArray)
  | tuple {cs : List AV} {xs : List Value} (h : Dens ρ cs xs) : Den ρ (.tuple cs) (.tuple xs.toArray)
inductive Dens (ρ : Env) : List AV → List Value → Prop
  | nil : Dens ρ [] []
  | cons {v : AV} {x : Value} {vs : List AV} {xs : List Value} (h : Den ρ v x) (hs : Dens ρ vs xs) : Dens ρ (v :: vs) (x :: xs)
end

def Le (ρ ρ' : Env) : Prop := ∀ i x, ρ i = some x → ρ' i = some x
theorem Le.refl (ρ : Env) : Le ρ ρ := fun _ _ h => h
theorem Le.trans {a b c : Env} (h : Le a b) (k : Le b c) : Le a c := fun i x hx => k i x (h i x hx)

mutual
theorem Den.mono {ρ ρ' : Env} (hl : Le ρ ρ') : ∀ {v : AV} {x : Value}, Den ρ v x → Den ρ' v x
  | _, _, .raw v => .raw v
  | _, _, .ptr h => .ptr (hl _ _ h)
  | _, _, .slice h hc hk => .slice (hl _ _ h) hc hk
  | _, _, .func hf hc => .func (Dens.mono hl hf) (Dens.mono hl hc)
  | _, _, .yield h => .yield (hl _ _ h)
  | _, _, .map h => .map (hl _ _ h)
  | _, _, .iface h => .iface (Den.mono hl h)
  | _, _, .agg h => .agg (Dens.mono hl h)
  | _, _, .tuple h => .tuple (Dens.mono hl h)
theorem Dens.mono {ρ ρ' : Env} (hl : Le ρ ρ') : ∀ {v : List AV} {x : List Value}, Dens ρ v x → Dens ρ' v x
  | _, _, .nil => .nil
  | _, _, .cons h hs => .cons (Den.mono hl h) (Dens.mono hl hs)
end

section
variable {ρ : Env}
theorem Dens.length : ∀ {vs : List AV} {xs : List Value}, Dens ρ vs xs → xs.length = vs.length
  | _, _, .nil => rfl
  | _, _, .cons _ hs => by simp [Dens.length hs]
theorem Dens.append : ∀ {vs ws : List AV} {xs ys : List Value}, Dens ρ vs xs → Dens ρ ws ys → Dens ρ (vs ++ ws) (xs ++ ys)
  | _, _, _, _, .nil, h => h
  | _, _, _, _, .cons h hs, k => .cons h (Dens.append hs k)
theorem Dens.take : ∀ {vs : List AV} {xs : List Value} (n : Nat), Dens ρ vs xs → Dens ρ (vs.take n) (xs.take n)
  | _, _, 0, h => by simpa using Dens.nil
  | _, _, n + 1, .nil => by simpa using Dens.nil
  | _, _, n + 1, .cons h hs => .cons h (Dens.take n hs)
theorem Dens.drop : ∀ {vs : List AV} {xs : List Value} (n : Nat), Dens ρ vs xs → Dens ρ (vs.drop n) (xs.drop n)
  | _, _, 0, h => by simpa using h
  | _, _, n + 1, .nil => by simpa using Dens.nil
  | _, _, n + 1, .cons h hs => by simpa using Dens.drop n hs
theorem Dens.get : ∀ {vs : List AV} {xs : List Value} {i : Nat} {v : AV}, Dens ρ vs xs → vs[i]? = some v → ∃ x, xs[i]? = some x ∧ Den ρ v x
  | _, _, i, v, .nil, h => by simp at h
  | _, _, 0, v, .cons h hs, k => by simp at k; subst k; exact ⟨_, by simp, h⟩
  | _, _, i + 1, v, .cons h hs, k => by simpa using Dens.get hs (by simpa using k)
theorem Dens.raws : ∀ (l : List Value), Dens ρ (l.map .raw) l
  | [] => .nil
  | x :: l => .cons (.raw x) (Dens.raws l)
theorem Dens.of_get : ∀ {vs : List AV} {xs : List Value}, xs.length = vs.length → (∀ (i : Nat) (v : AV) (x : Value), vs[i]? = some v → xs[i]? = some x → Den ρ v x) → Dens ρ vs xs
  | [], [], _, _ => .nil
  | [], _ :: _, h, _ => by simp at h
  | _ :: _, [], h, _ => by simp at h
  | v :: vs, x :: xs, h, k => .cons (k 0 v x (by simp) (by simp)) (Dens.of_get (by simpa using h) fun i v x hv hx => k (i + 1) v x (by simpa using hv) (by simpa using hx))
mutual
theorem Den.toRaw0 : ∀ {v : AV} {x w : Value}, Den ρ v x → v.toRaw0 = some w → x = w
  | _, _, w, .raw v, h => by simp [AV.toRaw0] at h; exact h
  | _, _, w, .ptr _, h => by simp [AV.toRaw0] at h
  | _, _, w, .slice _ _ _, h => by simp [AV.toRaw0] at h
  | _, _, w, .func hf hc, h => by
    simp only [AV.toRaw0, Option.bind_eq_some_iff, Option.map_eq_some_iff] at h
    obtain ⟨l, hl, k, hk, rfl⟩ := h
    rw [Dens.toRaws hf hl, Dens.toRaws hc hk]
  | _, _, w, .yield _, h => by simp [AV.toRaw0] at h
  | _, _, w, .map _, h => by simp [AV.toRaw0] at h
  | _, _, w, .iface hv, h => by
    simp only [AV.toRaw0, Option.map_eq_some_iff] at h
    obtain ⟨l, hl, rfl⟩ := h
    rw [Den.toRaw0 hv hl]
  | _, _, w, .agg hv, h => by
    simp only [AV.toRaw0, Option.map_eq_some_iff] at h
    obtain ⟨l, hl, rfl⟩ := h
    rw [Dens.toRaws hv hl]
  | _, _, w, .tuple hv, h => by
    simp only [AV.toRaw0, Option.map_eq_some_iff] at h
    obtain ⟨l, hl, rfl⟩ := h
    rw [Dens.toRaws hv hl]
theorem Dens.toRaws : ∀ {v : List AV} {x w : List Value}, Dens ρ v x → AV.toRaws v = some w → x = w
  | _, _, w, .nil, h => by simp [AV.toRaws] at h; exact h.symm
  | _, _, w, .cons hv hs, h => by
    simp only [AV.toRaws, Option.bind_eq_some_iff, Option.map_eq_some_iff] at h
    obtain ⟨l, hl, k, hk, rfl⟩ := h
    rw [Den.toRaw0 hv hl, Dens.toRaws hs hk]
end
theorem Den.toRaw {v : AV} {x w : Value} (h : Den ρ v x) (k : v.toRaw = some w) : x = w := by
  unfold AV.toRaw at k
  split at k
  · cases h; injection k
  · exact h.toRaw0 k
theorem Den.raw_eq {v x : Value} (h : Den ρ (.raw v) x) : x = v := by cases h; rfl
theorem Den.ptr_inv {i off : Nat} {x : Value} (h : Den ρ (.ptr i off) x) : ∃ b c, ρ i = some (b, c) ∧ x = .pointer (some ⟨b, off, none⟩) := by cases h; exact ⟨_, _, ‹_›, rfl⟩
theorem Den.slice_inv {i off len : Nat} {cap : Cap} {x : Value} (h : Den ρ (.slice i off len cap) x) : ∃ b c k, ρ i = some (b, c) ∧ capOk cap c k ∧ len ≤ k ∧ x = .slice (some ⟨b, off, none⟩) len k := by cases h; exact ⟨_, _, _, ‹_›, ‹_›, ‹_›, rfl⟩
theorem Den.func_inv {fn : Fn} {fs cs : List AV} {x : Value} (h : Den ρ (.func fn fs cs) x) : ∃ xs ys : List Value, Dens ρ fs xs ∧ Dens ρ cs ys ∧ x = .func fn xs.toArray ys.toArray := by cases h; exact ⟨_, _, ‹_›, ‹_›, rfl⟩
theorem Den.yield_inv {i : Nat} {x : Value} (h : Den ρ (.yield i) x) : ∃ b c, ρ i = some (b, c) ∧ x = .func (.yield b) #[] #[] := by cases h; exact ⟨_, _, ‹_›, rfl⟩
theorem Den.map_inv {i : Nat} {x : Value} (h : Den ρ (.map i) x) : ∃ b c, ρ i = some (b, c) ∧ x = .map (some b) := by cases h; exact ⟨_, _, ‹_›, rfl⟩
theorem Den.iface_inv {t : TypeId} {v : AV} {x : Value} (h : Den ρ (.iface t v) x) : ∃ y, Den ρ v y ∧ x = .iface t y := by cases h; exact ⟨_, ‹_›, rfl⟩
theorem Den.agg_inv {cs : List AV} {x : Value} (h : Den ρ (.agg cs) x) : ∃ xs : List Value, Dens ρ cs xs ∧ x = .agg xs.toArray := by cases h; exact ⟨_, ‹_›, rfl⟩
theorem Den.tuple_inv {cs : List AV} {x : Value} (h : Den ρ (.tuple cs) x) : ∃ xs : List Value, Dens ρ cs xs ∧ x = .tuple xs.toArray := by cases h; exact ⟨_, ‹_›, rfl⟩
theorem Den.cells {v : AV} {x : Value} (h : Den ρ v x) : Dens ρ v.cells x.cells.toList := by
  cases h with
  | raw =>
    cases x with
    | agg cs => simpa [AV.cells, Value.cells, rawL] using Dens.raws cs.toList
    | _ => exact .cons (.raw _) .nil
  | agg h => simpa [AV.cells, Value.cells] using h
  | ptr h => exact .cons (.ptr h) .nil
  | slice h hc hl => exact .cons (.slice h hc hl) .nil
  | func h k => exact .cons (.func h k) .nil
  | yield h => exact .cons (.yield h) .nil
  | map h => exact .cons (.map h) .nil
  | iface h => exact .cons (.iface h) .nil
  | tuple h => exact .cons (.tuple h) .nil
theorem Den.one {v : AV} {x : Value} (h : Den ρ v x) (k : v.one = true) : x.oneCell' = true := by
  cases h with
  | raw => cases x <;> first | rfl | (simp [AV.one] at k)
  | agg h => simp [AV.one] at k
  | tuple h => simp [AV.one] at k
  | yield h => simp [AV.one] at k
  | _ => rfl
theorem allOne_cons {v : AV} {l : List AV} (h : allOne (v :: l) = true) : v.one = true ∧ allOne l = true := by
  cases ha : v.one with
  | false => simp [allOne, ha] at h
  | true => simpa [allOne, ha] using h
theorem Dens.one : ∀ {vs : List AV} {xs : List Value}, Dens ρ vs xs → allOne vs = true → ∀ x ∈ xs, x.oneCell' = true
  | _, _, .nil, _, x, h => by simp at h
  | _, _, .cons hv hs, k, x, hx => by
    obtain ⟨k1, k2⟩ := allOne_cons k
    rcases List.mem_cons.1 hx with rfl | hx
    · exact hv.one k1
    · exact Dens.one hs k2 x hx
end

/-- the slots -/
structure TDen (ρ : Env) (T : Tr AV) (n : Nat) (tmps : Array Value) : Prop where
  size : tmps.size = n
  get : ∀ t, Den ρ ((T.get t).getD (.raw undef)) (tmps.getD t undef)
theorem TDen.mono {ρ ρ' : Env} (hl : Le ρ ρ') {T : Tr AV} {n : Nat} {tmps : Array Value} (h : TDen ρ T n tmps) : TDen ρ' T n tmps :=
  ⟨h.size, fun t => (h.get t).mono hl⟩

/-! ### blocks -/
structure LoopDen (ρ : Env) (r : ALoop) (R : Loop) : Prop where
  state : R.state = r.state
  pending : R.pending = r.pending
  params : R.params = r.params
  assign : R.assign = r.assign
  body : R.body = r.body
  tmps : TDen ρ r.tmps r.size R.tmps

def BDen (P : Program) (ρ : Env) (i : Nat) : ABlk → Obj → Prop
  | .cells e cs exact frz _, o => ∃ xs fz, o = .cells xs e fz ∧ (frz = false → fz = (0, 0)) ∧ Dens ρ cs (xs.toList.take cs.length) ∧ (exact = true → xs.size = cs.length) ∧
      (exact = false → ∃ b c, ρ i = some (b, c) ∧ xs.size = c * P.cellsOf e)
  | .map es clock, o => o = .map es clock
  | .loop r, o => ∃ R, o = .loop R ∧ LoopDen ρ r R
  | .deferred, o => o = .deferred (some [])
theorem BDen.mono {P : Program} {ρ ρ' : Env} (hl : Le ρ ρ') {i : Nat} {k : ABlk} {o : Obj} (h : BDen P ρ i k o) : BDen P ρ' i k o := by
  cases k with
  | cells e cs exact frz ro =>
    obtain ⟨xs, fz, h1, h2, h3, h4, h5⟩ := h
    exact ⟨xs, fz, h1, h2, h3.mono hl, h4, fun hx => let ⟨b, c, h6, h7⟩ := h5 hx; ⟨b, c, hl _ _ h6, h7⟩⟩
  | map es clock => exact h
  | loop r =>
    obtain ⟨R, h1, h2⟩ := h
    exact ⟨R, h1, h2.state, h2.pending, h2.params, h2.assign, h2.body, h2.tmps.mono hl⟩
  | deferred => exact h

def ABlk.isRo : ABlk → Bool
  | .cells _ _ _ _ ro => ro
  | _ => false

/-- the abstract memory stands for a part of the model's -/
structure HDen (P : Program) (B : Nat) (ρ : Env) (H : AHeap) (w : World) : Prop where
  blk : ∀ i k, H.get i = some k → ∃ b c o, ρ i = some (b, c) ∧ w.heap[b]? = some o ∧ BDen P ρ i k o ∧ (k.isRo = false → B ≤ b)
  inj : ∀ i j ki kj b ci cj, H.get i = some ki → H.get j = some kj → ρ i = some (b, ci) → ρ j = some (b, cj) → i = j
  lt : ∀ i k, H.get i = some k → i < H.next
  base : B ≤ w.heap.size

def Img (ρ : Env) (H : AHeap) (b : Nat) : Prop := ∃ i k c, H.get i = some k ∧ ρ i = some (b, c)
def Own (ρ : Env) (H : AHeap) (b : Nat) : Prop := ∃ i k c, H.get i = some k ∧ k.isRo = false ∧ ρ i = some (b, c)
theorem Own.img {ρ : Env} {H : AHeap} {b : Nat} (h : Own ρ H b) : Img ρ H b := let ⟨i, k, c, h1, _, h2⟩ := h; ⟨i, k, c, h1, h2⟩

/-- a step from one state to another: what stays -/
structure Stp (ρ : Env) (H : AHeap) (w : World) (ρ' : Env) (H' : AHeap) (w' : World) : Prop where
  le : Le ρ ρ'
  ext : ∀ i, i < H.next ∨ H'.next ≤ i → ρ' i = ρ i
  next : H.next ≤ H'.next
  size : w.heap.size ≤ w'.heap.size
  os : w'.os = w.os
  tape : w'.tape = w.tape
  output : w'.output = w.output
  frame : ∀ b, b < w.heap.size → ¬ Own ρ H b → w'.heap[b]? = w.heap[b]?
  own : ∀ b, b < w.heap.size → Own ρ' H' b → Own ρ H b
  img : ∀ b, b < w.heap.size → Img ρ' H' b → Img ρ H b

theorem Stp.refl (ρ : Env) (H : AHeap) (w : World) : Stp ρ H w ρ H w :=
  ⟨Le.refl _, fun _ _ => rfl, Nat.le_refl _, Nat.le_refl _, rfl, rfl, rfl, fun _ _ _ => rfl, fun _ _ h => h, fun _ _ h => h⟩
theorem Stp.trans {ρ ρ1 ρ2 : Env} {H H1 H2 : AHeap} {w w1 w2 : World} (h : Stp ρ H w ρ1 H1 w1) (k : Stp ρ1 H1 w1 ρ2 H2 w2) : Stp ρ H w ρ2 H2 w2 where
  le := h.le.trans k.le
  ext i hi := by
    rcases hi with hi | hi
    · rw [k.ext i (.inl (Nat.lt_of_lt_of_le hi h.next)), h.ext i (.inl hi)]
    · rw [k.ext i (.inr hi), h.ext i (.inr (Nat.le_trans k.next hi))]
  next := Nat.le_trans h.next k.next
  size := Nat.le_trans h.size k.size
  os := k.os.trans h.os
  tape := k.tape.trans h.tape
  output := k.output.trans h.output
  frame b hb ho := by rw [k.frame b (Nat.lt_of_lt_of_le hb h.size) (fun hh => ho (h.own b hb hh)), h.frame b hb ho]
  own b hb ho := h.own b hb (k.own b (Nat.lt_of_lt_of_le hb h.size) ho)
  img b hb ho := h.img b hb (k.img b (Nat.lt_of_lt_of_le hb h.size) ho)
theorem Stp.drew {ρ ρ' : Env} {H H' : AHeap} {w w' : World} (h : Stp ρ H w.drew ρ' H' w') : Stp ρ H w ρ' H' w' :=
  ⟨h.le, h.ext, h.next, h.size, h.os, h.tape, h.output, h.frame, h.own, h.img⟩
theorem HDen.drew {P : Program} {B : Nat} {ρ : Env} {H : AHeap} {w : World} (h : HDen P B ρ H w) : HDen P B ρ H w.drew := ⟨h.blk, h.inj, h.lt, h.base⟩
theorem Stp.below {P : Program} {B : Nat} {ρ ρ' : Env} {H H' : AHeap} {w w' : World} (h : Stp ρ H w ρ' H' w') (hH : HDen P B ρ H w) : Below B w w' :=
  ⟨h.os, h.tape, h.output, h.size, fun k hk => h.frame k (Nat.lt_of_lt_of_le hk hH.base) (fun ⟨i, kk, c, h1, h2, h3⟩ => by
    obtain ⟨b, c', o, e1, _, _, e4⟩ := hH.blk i kk h1
    rw [h3] at e1
    cases e1
    exact absurd (e4 h2) (by omega))⟩

def Fr (ρ : Env) (a b : Nat) : Prop := ∀ i, a ≤ i → i < b → ρ i = none

theorem HDen.at {P : Program} {B : Nat} {ρ : Env} {H : AHeap} {w : World} (h : HDen P B ρ H w) {i b c : Nat} {k : ABlk} (hi : H.get i = some k) (hr : ρ i = some (b, c)) :
    ∃ o, w.heap[b]? = some o ∧ BDen P ρ i k o ∧ (k.isRo = false → B ≤ b) := by
  obtain ⟨b', c', o, e1, e2, e3, e4⟩ := h.blk i k hi
  rw [hr] at e1
  cases e1
  exact ⟨o, e2, e3, e4⟩

/-! ### the abstract memory's own operations -/
theorem AHeap.get_set (H : AHeap) (i j : Nat) (b : ABlk) : (H.set i b).get j = if i = j then some b else H.get j := Tr.get_set H.m i j (some b)
theorem AHeap.get_drop (H : AHeap) (i j : Nat) : (H.drop i).get j = if i = j then none else H.get j := Tr.get_set H.m i j none
theorem AHeap.get_new (H : AHeap) (j : Nat) (b : ABlk) : (H.new b).get j = if H.next = j then some b else H.get j := Tr.get_set H.m H.next j (some b)
theorem AHeap.next_set (H : AHeap) (i : Nat) (b : ABlk) : (H.set i b).next = H.next := rfl
theorem AHeap.next_drop (H : AHeap) (i : Nat) : (H.drop i).next = H.next := rfl
theorem AHeap.next_new (H : AHeap) (b : ABlk) : (H.new b).next = H.next + 1 := rfl

def Env.put (ρ : Env) (i b c : Nat) : Env := fun j => if j = i then some (b, c) else ρ j
theorem Env.put_le {ρ : Env} {i b c : Nat} (h : ρ i = none) : Le ρ (ρ.put i b c) := fun j x hx => by
  unfold Env.put
  split
  · rename_i e; subst e; rw [h] at hx; cases hx
  · exact hx
theorem Env.put_same (ρ : Env) (i b c : Nat) : ρ.put i b c i = some (b, c) := by simp [Env.put]

variable {P : Program} {B : Nat} {ρ : Env} {H : AHeap} {w : World}
/-- a new block -/
theorem sim_new (hH : HDen P B ρ H w) (hf : Fr ρ H.next (H.next + 1)) (c : Nat) (k : ABlk) (o : Obj) (hk : BDen P (ρ.put H.next w.heap.size c) H.next k o) :
    HDen P B (ρ.put H.next w.heap.size c) (H.new k) (w.alloc o) ∧ Stp ρ H w (ρ.put H.next w.heap.size c) (H.new k) (w.alloc o) := by
  have hn : ρ H.next = none := hf H.next (Nat.le_refl _) (Nat.lt_succ_self _)
  have hle : Le ρ (ρ.put H.next w.heap.size c) := Env.put_le hn
  have hne : ∀ i k, H.get i = some k → i ≠ H.next := fun i k hi => Nat.ne_of_lt (hH.lt i k hi)
  have hlt : ∀ i k b c', H.get i = some k → ρ i = some (b, c') → b < w.heap.size := fun i k b c' hi hr => by
    obtain ⟨o, e, _⟩ := hH.at hi hr
    exact (Array.getElem?_eq_some_iff.1 e).1
  have hput : ∀ i, i ≠ H.next → ρ.put H.next w.heap.size c i = ρ i := fun i hi => by simp [Env.put, hi]
  refine ⟨⟨fun i k' hi => ?_, fun i j ki kj b ci cj hi hj ri rj => ?_, fun i k' hi => ?_, by simp; exact Nat.le_succ_of_le hH.base⟩, ⟨hle, fun i hi => ?_, Nat.le_succ _, by simp, rfl, rfl, rfl, fun b hb _ => ?_, fun b hb ho => ?_, fun b hb ho => ?_⟩⟩
  · rw [AHeap.get_new] at hi
    split at hi
    · rename_i e; subst e; cases hi
      exact ⟨w.heap.size, c, o, Env.put_same .., heap_alloc_new w o, hk, fun _ => hH.base⟩
    · obtain ⟨b, c', o', e1, e2, e3, e4⟩ := hH.blk i k' hi
      exact ⟨b, c', o', hle _ _ e1, (Below.heap_alloc w o b (Array.getElem?_eq_some_iff.1 e2).1).trans e2, e3.mono hle, e4⟩
  · rw [AHeap.get_new] at hi hj
    split at hi <;> split at hj
    · omega
    · rename_i e1 e2; subst e1
      rw [Env.put_same] at ri; cases ri
      rw [hput j (fun e => e2 e.symm)] at rj
      exact absurd (hlt j kj _ _ hj rj) (Nat.lt_irrefl _)
    · rename_i e2 e1; subst e1
      rw [Env.put_same] at rj; cases rj
      rw [hput i (fun e => e2 e.symm)] at ri
      exact absurd (hlt i ki _ _ hi ri) (Nat.lt_irrefl _)
    · rename_i e1 e2
      rw [hput i (fun e => e1 e.symm)] at ri
      rw [hput j (fun e => e2 e.symm)] at rj
      exact hH.inj i j ki kj b ci cj hi hj ri rj
  · rw [AHeap.get_new] at hi
    split at hi
    · rename_i e; subst e; exact Nat.lt_succ_self _
    · exact Nat.lt_succ_of_lt (hH.lt i k' hi)
  · rw [AHeap.next_new] at hi
    exact hput i (by omega)
  · exact Below.heap_alloc w o b hb
  · obtain ⟨i, k', c', h1, h2, h3⟩ := ho
    rw [AHeap.get_new] at h1
    split at h1
    · rename_i e; subst e; rw [Env.put_same] at h3; cases h3; exact absurd hb (Nat.lt_irrefl _)
    · rename_i e
      rw [hput i (fun e' => e e'.symm)] at h3
      exact ⟨i, k', c', h1, h2, h3⟩
  · obtain ⟨i, k', c', h1, h3⟩ := ho
    rw [AHeap.get_new] at h1
    split at h1
    · rename_i e; subst e; rw [Env.put_same] at h3; cases h3; exact absurd hb (Nat.lt_irrefl _)
    · rename_i e
      rw [hput i (fun e' => e e'.symm)] at h3
      exact ⟨i, k', c', h1, h3⟩

/-- a block of the runner's own turned -/
theorem sim_set (hH : HDen P B ρ H w) {i b c : Nat} {k0 k : ABlk} (hi : H.get i = some k0) (hr : ρ i = some (b, c)) (hro : k0.isRo = false) (w' : World) (o : Obj)
    (hos : w'.os = w.os) (ht : w'.tape = w.tape) (hout : w'.output = w.output) (hs : w'.heap.size = w.heap.size) (hb : w'.heap[b]? = some o) (hother : ∀ j, j ≠ b → w'.heap[j]? = w.heap[j]?) (hk : BDen P ρ i k o) :
    HDen P B ρ (H.set i k) w' ∧ Stp ρ H w ρ (H.set i k) w' := by
  have hown : Own ρ H b := ⟨i, k0, c, hi, hro, hr⟩
  refine ⟨⟨fun j k' hj => ?_, fun j l kj kl b' cj cl hj hl rj rl => ?_, fun j k' hj => ?_, by rw [hs]; exact hH.base⟩, ⟨Le.refl _, fun _ _ => rfl, Nat.le_refl _, Nat.le_of_eq hs.symm, hos, ht, hout, fun b' _ ho => hother b' (fun e => ho (e ▸ hown)), fun b' _ ho => ?_, fun b' _ ho => ?_⟩⟩
  · rw [AHeap.get_set] at hj
    split at hj
    · rename_i e; subst e; cases hj
      obtain ⟨_, _, _, e4⟩ := hH.at hi hr
      exact ⟨b, c, o, hr, hb, hk, fun _ => e4 hro⟩
    · rename_i e
      obtain ⟨b', c', o', e1, e2, e3, e4⟩ := hH.blk j k' hj
      refine ⟨b', c', o', e1, ?_, e3, e4⟩
      rw [hother b' (fun e' => e (hH.inj i j k0 k' b c c' hi hj hr (e' ▸ e1)))]
      exact e2
  · have g : ∀ x kx, (H.set i k).get x = some kx → ∃ kx', H.get x = some kx' := fun x kx hx => by
      rw [AHeap.get_set] at hx
      split at hx
      · rename_i e; subst e; exact ⟨k0, hi⟩
      · exact ⟨kx, hx⟩
    obtain ⟨_, hj'⟩ := g j kj hj
    obtain ⟨_, hl'⟩ := g l kl hl
    exact hH.inj j l _ _ b' cj cl hj' hl' rj rl
  · rw [AHeap.get_set] at hj
    split at hj
    · rename_i e; subst e; exact hH.lt i k0 hi
    · exact hH.lt j k' hj
  · obtain ⟨j, k', c', h1, h2, h3⟩ := ho
    rw [AHeap.get_set] at h1
    split at h1
    · rename_i e; subst e; exact ⟨i, k0, c', hi, hro, h3⟩
    · exact ⟨j, k', c', h1, h2, h3⟩
  · obtain ⟨j, k', c', h1, h3⟩ := ho
    rw [AHeap.get_set] at h1
    split at h1
    · rename_i e; subst e; exact ⟨i, k0, c', hi, h3⟩
    · exact ⟨j, k', c', h1, h3⟩

/-- a block given up -/
theorem sim_drop (hH : HDen P B ρ H w) (i : Nat) : HDen P B ρ (H.drop i) w ∧ Stp ρ H w ρ (H.drop i) w := by
  have g : ∀ j k, (H.drop i).get j = some k → H.get j = some k := fun j k hj => by
    rw [AHeap.get_drop] at hj
    split at hj
    · cases hj
    · exact hj
  exact ⟨⟨fun j k hj => hH.blk j k (g j k hj), fun a b ka kb x ca cb ha hb => hH.inj a b ka kb x ca cb (g a ka ha) (g b kb hb), fun j k hj => hH.lt j k (g j k hj), hH.base⟩,
    ⟨Le.refl _, fun _ _ => rfl, Nat.le_refl _, Nat.le_refl _, rfl, rfl, rfl, fun _ _ _ => rfl, fun b _ ⟨j, k, c, h1, h2⟩ => ⟨j, k, c, g j k h1, h2⟩, fun b _ ⟨j, k, c, h1, h2⟩ => ⟨j, k, c, g j k h1, h2⟩⟩⟩

/-- a block given up, its place under a new number, turned -/
theorem sim_move (hH : HDen P B ρ H w) (hf : Fr ρ H.next (H.next + 1)) {i b c : Nat} {k0 k : ABlk} (hi : H.get i = some k0) (hr : ρ i = some (b, c)) (hro : k0.isRo = false) (w' : World) (o : Obj)
    (hos : w'.os = w.os) (ht : w'.tape = w.tape) (hout : w'.output = w.output) (hs : w'.heap.size = w.heap.size) (hb : w'.heap[b]? = some o) (hother : ∀ j, j ≠ b → w'.heap[j]? = w.heap[j]?) (hk : BDen P (ρ.put H.next b c) H.next k o) :
    HDen P B (ρ.put H.next b c) ((H.drop i).new k) w' ∧ Stp ρ H w (ρ.put H.next b c) ((H.drop i).new k) w' := by
  have hn : ρ H.next = none := hf H.next (Nat.le_refl _) (Nat.lt_succ_self _)
  have hle : Le ρ (ρ.put H.next b c) := Env.put_le hn
  have hown : Own ρ H b := ⟨i, k0, c, hi, hro, hr⟩
  have hput : ∀ j, j ≠ H.next → ρ.put H.next b c j = ρ j := fun j hj => by simp [Env.put, hj]
  have g : ∀ j k', ((H.drop i).new k).get j = some k' → (j = H.next ∧ k' = k) ∨ (j ≠ H.next ∧ j ≠ i ∧ H.get j = some k') := fun j k' hj => by
    rw [AHeap.get_new, AHeap.get_drop, AHeap.next_drop] at hj
    split at hj
    · rename_i e; cases hj; exact .inl ⟨e.symm, rfl⟩
    · rename_i e
      split at hj
      · cases hj
      · rename_i e2; exact .inr ⟨fun x => e x.symm, fun x => e2 x.symm, hj⟩
  refine ⟨⟨fun j k' hj => ?_, fun j l kj kl b' cj cl hj hl rj rl => ?_, fun j k' hj => ?_, by rw [hs]; exact hH.base⟩, ⟨hle, fun j hj => hput j ?_, Nat.le_succ _, Nat.le_of_eq hs.symm, hos, ht, hout, fun b' _ ho => hother b' (fun e => ho (e ▸ hown)), fun b' _ ho => ?_, fun b' _ ho => ?_⟩⟩
  · rcases g j k' hj with ⟨rfl, rfl⟩ | ⟨h1, h2, h3⟩
    · obtain ⟨_, _, _, e4⟩ := hH.at hi hr
      exact ⟨b, c, o, Env.put_same .., hb, hk, fun _ => e4 hro⟩
    · obtain ⟨b', c', o', e1, e2, e3, e4⟩ := hH.blk j k' h3
      refine ⟨b', c', o', hle _ _ e1, ?_, e3.mono hle, e4⟩
      rw [hother b' (fun e' => h2 (hH.inj j i k' k0 b' c' c h3 hi e1 (e' ▸ hr)))]
      exact e2
  · rcases g j kj hj with ⟨rfl, rfl⟩ | ⟨h1, h2, h3⟩ <;> rcases g l kl hl with ⟨e, rfl⟩ | ⟨k1, k2, k3⟩
    · exact e.symm
    · rw [Env.put_same] at rj; cases rj
      rw [hput l k1] at rl
      exact absurd (hH.inj l i kl k0 _ _ _ k3 hi rl hr) k2
    · subst e
      rw [Env.put_same] at rl; cases rl
      rw [hput j h1] at rj
      exact absurd (hH.inj j i kj k0 _ _ _ h3 hi rj hr) h2
    · rw [hput j h1] at rj
      rw [hput l k1] at rl
      exact hH.inj j l kj kl b' cj cl h3 k3 rj rl
  · rcases g j k' hj with ⟨rfl, rfl⟩ | ⟨h1, h2, h3⟩
    · exact Nat.lt_succ_self _
    · exact Nat.lt_succ_of_lt (hH.lt j k' h3)
  · have : ((H.drop i).new k).next = H.next + 1 := rfl
    rw [this] at hj; omega
  · obtain ⟨j, k', c', h1, h2, h3⟩ := ho
    rcases g j k' h1 with ⟨rfl, rfl⟩ | ⟨e1, e2, e3⟩
    · rw [Env.put_same] at h3; cases h3; exact hown
    · rw [hput j e1] at h3; exact ⟨j, k', c', e3, h2, h3⟩
  · obtain ⟨j, k', c', h1, h3⟩ := ho
    rcases g j k' h1 with ⟨rfl, rfl⟩ | ⟨e1, e2, e3⟩
    · rw [Env.put_same] at h3; cases h3; exact hown.img
    · rw [hput j e1] at h3; exact ⟨j, k', c', e3, h3⟩
end Go.Proofs.YtcdknjkkaonbiaaGreatDoor.Sx
