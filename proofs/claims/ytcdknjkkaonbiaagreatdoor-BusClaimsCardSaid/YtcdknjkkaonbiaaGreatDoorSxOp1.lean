/- The runner over an abstract memory: operations that neither read nor write it. -/
import Derived.Test.YtcdknjkkaonbiaaGreatDoorSxRel
import Derived.IntWalk
namespace Go.Proofs.YtcdknjkkaonbiaaGreatDoor.Sx
open Go.RowKit

def Nx : Next → Value → Prop
  | .value v, x => x = v
  | .skip, x => x = undef
  | _, _ => False

/-- what an operation of the runner's says of the model's -/
def OpOk (P : Program) (B : Nat) (ρ : Env) (H : AHeap) (w : World) (r : Result Next) : VR → Prop
  | .no => True
  | .ok v H' => Fr ρ H.next H'.next → ∃ ρ' x w' nx, r = .ok nx w' ∧ Nx nx x ∧ Den ρ' v x ∧ HDen P B ρ' H' w' ∧ Stp ρ H w ρ' H' w'
  | .enter f args H' => H' = H ∧ ∃ xs : List Value, r = .ok (.enter f xs.toArray) w ∧ Dens ρ args xs
  | .round i args H' => H' = H ∧ ∃ (b c : Nat) (xs : List Value), ρ i = some (b, c) ∧ r = (Instr.yield b xs.toArray).run P w ∧ Dens ρ args xs

theorem runPure_run {P : Program} {α : Type} : ∀ (s : Sem α) {a : α} (w : World), runPure P s = some a → s.run P w = .ok a w
  | .pure a, _, w, h => by simp [runPure] at h; subst h; rfl
  | .program k, _, w, h => by
    have := runPure_run (k P) w (by simpa [runPure] using h)
    simpa [Sem.run] using this
  | .mark m k, _, w, h => by
    have := runPure_run k w (by simpa [runPure] using h)
    simpa [Sem.run] using this
  | .load .., _, _, h => by simp [runPure] at h
  | .store .., _, _, h => by simp [runPure] at h
  | .new .., _, _, h => by simp [runPure] at h
  | .shape .., _, _, h => by simp [runPure] at h
  | .freeze .., _, _, h => by simp [runPure] at h
  | .frozen .., _, _, h => by simp [runPure] at h
  | .getObj .., _, _, h => by simp [runPure] at h
  | .setObj .., _, _, h => by simp [runPure] at h
  | .choose .., _, _, h => by simp [runPure] at h
  | .sys .., _, _, h => by simp [runPure] at h
  | .halt .., _, _, h => by simp [runPure] at h

section
variable {P : Program} {B : Nat} {ρ : Env} {H : AHeap} {w : World} {r : Result Next}

theorem ok_pure (hH : HDen P B ρ H w) {x : Option AV} (h : ∀ v, x = some v → ∃ nx y, r = .ok nx w ∧ Nx nx y ∧ Den ρ v y) : OpOk P B ρ H w r (vr H x) := by
  cases x with
  | none => trivial
  | some v =>
    obtain ⟨nx, y, h1, h2, h3⟩ := h v rfl
    exact fun _ => ⟨ρ, y, w, nx, h1, h2, h3, hH, Stp.refl _ _ _⟩
theorem ok_val (hH : HDen P B ρ H w) {v : AV} {y : Value} (h : r = .ok (.value y) w) (hd : Den ρ v y) : OpOk P B ρ H w r (.ok v H) :=
  fun _ => ⟨ρ, y, w, .value y, h, rfl, hd, hH, Stp.refl _ _ _⟩

/-! ### views -/
theorem ptrV_mk {v : AV} {i off : Nat} (h : ptrV v = .mk i off) : v = .ptr i off := by
  cases v <;> first | (cases h; rfl) | (simp [ptrV] at h)
theorem sliceV_mk {v : AV} {i off len : Nat} {cap : Cap} (h : sliceV v = .mk i off len cap) : v = .slice i off len cap := by
  cases v <;> first | (cases h; rfl) | (simp [sliceV] at h)
theorem aggV_some {v : AV} {cs : List AV} (h : aggV v = some cs) : v = .agg cs := by
  cases v <;> first | (cases h; rfl) | (simp [aggV] at h)
theorem tupV_some {v : AV} {cs : List AV} (h : tupV v = some cs) : v = .tuple cs := by
  cases v <;> first | (cases h; rfl) | (simp [tupV] at h)
theorem bV_mk {v : Value} {b : Bool} (h : bV v = .mk b) : v = .bool b := by
  cases v <;> first | (cases h; rfl) | (simp [bV] at h)
theorem boolV_mk {v : AV} {b : Bool} (h : boolV v = .mk b) : v = .raw (.bool b) := by
  cases v <;> first | (rw [bV_mk h]) | (simp [boolV] at h)
theorem wV_int {v : Value} {k : IntKind} {n : Int} (h : wV v = .int k n) : v = .int k n := by
  cases v <;> first | (cases h; rfl) | (simp [wV] at h)
theorem avW_int {v : AV} {k : IntKind} {n : Int} (h : avW v = .int k n) : v = .raw (.int k n) := by
  cases v <;> first | (rw [wV_int h]) | (simp [avW] at h)
theorem intN_mk {n : Int} {m : Nat} (h : intN n = .mk m) : n = m := by
  cases n <;> first | (cases h; rfl) | (simp [intN] at h)
theorem natV_mk {v : AV} {m : Nat} (h : natV v = .mk m) : ∃ k, v = .raw (.int k m) := by
  unfold natV at h
  cases hw : avW v with
  | no => rw [hw] at h; cases h
  | int k n =>
    rw [hw] at h
    have := intN_mk h
    subst this
    exact ⟨k, avW_int hw⟩
theorem natO_some {v : AV} {m : Nat} (h : natO v = some m) : ∃ k, v = .raw (.int k m) := by
  unfold natO at h
  cases hw : natV v with
  | no => rw [hw] at h; cases h
  | mk n => rw [hw] at h; cases h; exact natV_mk hw
theorem blkV_mk {b : Option ABlk} {e : TypeId} {cs : List AV} {x f r : Bool} (h : blkV b = .mk e cs x f r) : b = some (.cells e cs x f r) := by
  cases b with
  | none => cases h
  | some b => cases b <;> first | (cases h; rfl) | (simp [blkV] at h)

/-! ### types -/
theorem sizeB_some {t : TypeId} {n : Nat} (h : sizeB P t = some n) : ∃ i, P.info? t = some i ∧ i.size = n := by
  simpa [sizeB, Option.map_eq_some_iff] using h
theorem zeroB_some {t : TypeId} {z : Value} (h : zeroB P t = some z) : ∃ i, P.info? t = some i ∧ i.zero = some z := by
  simpa [zeroB, Option.bind_eq_some_iff] using h
theorem elemB_some {t e : TypeId} (h : elemB P t = some e) : P.underlying t = some (.slice e) := by
  unfold elemB at h
  split at h
  · rename_i e' he; cases h; exact he
  · cases h
theorem run_sizeB {t : TypeId} {n : Nat} (h : sizeB P t = some n) (w : World) : (sizeOf t).run P w = .ok n w := by
  obtain ⟨i, hi, rfl⟩ := sizeB_some h
  simp [sizeOf, typeInfo, hi]
theorem run_zeroB {t : TypeId} {z : Value} (h : zeroB P t = some z) (w : World) : (zeroValue t).run P w = .ok z w := by
  obtain ⟨i, hi, hz⟩ := zeroB_some h
  simp [zeroValue, typeInfo, hi, hz]
theorem run_und {t : TypeId} {d : TypeDesc} (h : P.underlying t = some d) (w : World) : (underlying t).run P w = .ok d w := by
  simp [underlying, h]
theorem run_isAggB {t : TypeId} {b : Bool} (h : isAggB P t = some b) (w : World) : (isAgg t).run P w = .ok b w := by
  simp only [isAggB, Option.map_eq_some_iff] at h
  obtain ⟨d, hd, rfl⟩ := h
  unfold isAgg
  simp only [Sem.run_bind, run_und hd, Result.andThen_ok]
  cases d <;> rfl
theorem lv_one {t : TypeId} (h : lv P t = .one) : isAggB P t = some false := by
  unfold lv at h
  split at h <;> first | assumption | (cases h)
theorem lv_agg {t : TypeId} {n : Nat} (h : lv P t = .agg n) : isAggB P t = some true ∧ sizeB P t = some n := by
  unfold lv at h
  split at h
  · rename_i h1 h2; cases h; exact ⟨h1, h2⟩
  · cases h
  · cases h
theorem tv_arr {t : TypeId} {n s : Nat} (h : tv P t = .arr n s) : ∃ e, P.underlying t = some (.array n e) ∧ sizeB P e = some s := by
  unfold tv at h
  split at h
  · rename_i n' e he
    split at h
    · rename_i s' hs; cases h; exact ⟨e, he, hs⟩
    · cases h
  · split at h <;> cases h
  · cases h
theorem tv_sl {t : TypeId} {s : Nat} (h : tv P t = .sl s) : ∃ e, P.underlying t = some (.slice e) ∧ sizeB P e = some s := by
  unfold tv at h
  split at h
  · split at h <;> cases h
  · rename_i e he
    split at h
    · rename_i s' hs; cases h; exact ⟨e, he, hs⟩
    · cases h
  · cases h
theorem fv_mk {s : TypeId} {f off n : Nat} {t : TypeId} (h : fv P s f = .mk off n t) : ∃ fs fd, P.underlying s = some (.struct fs) ∧ fs[f]? = some fd ∧ fd.offset = off ∧ fd.type = t ∧ sizeB P t = some n := by
  unfold fv at h
  split at h
  · rename_i fs hs
    split at h
    · rename_i fd hf
      split at h
      · rename_i n' hn; cases h; exact ⟨fs, fd, hs, hf, rfl, rfl, hn⟩
      · cases h
    · cases h
  · cases h

/-! ### by the model's own operation -/
def plainOp : Op → Bool
  | .select .. => false
  | _ => true
theorem execOp_congr {e e' : Operand → Value} {o : Oper} (hs : plainOp o.op = true) (h : ∀ x ∈ o.op.operands.toList, e x = e' x) : execOp e o = execOp e' o := by
  obtain ⟨dst, op, type, pos, after, guard⟩ := o
  cases op with
  | call c =>
    obtain ⟨callee, args, argTypes⟩ := c
    have ha : args.map e = args.map e' := by
      apply Array.map_congr_left
      intro x hx
      exact h x (by simp [Op.operands, Call.operands, hx])
    cases callee with
    | value f =>
      have hf := h f (by simp [Op.operands, Call.operands])
      simp [execOp, resolve, ha, hf]
    | invoke f m =>
      have hf := h f (by simp [Op.operands, Call.operands])
      simp [execOp, resolve, ha, hf]
    | builtin b => simp [execOp, resolve, ha]
  | go c =>
    obtain ⟨callee, args, argTypes⟩ := c
    have ha : args.map e = args.map e' := by
      apply Array.map_congr_left
      intro x hx
      exact h x (by simp [Op.operands, Call.operands, hx])
    cases callee with
    | value f =>
      have hf := h f (by simp [Op.operands, Call.operands])
      simp [execOp, resolve, ha, hf]
    | invoke f m =>
      have hf := h f (by simp [Op.operands, Call.operands])
      simp [execOp, resolve, ha, hf]
    | builtin b => simp [execOp, resolve, ha]
  | defer c =>
    obtain ⟨callee, args, argTypes⟩ := c
    have ha : args.map e = args.map e' := by
      apply Array.map_congr_left
      intro x hx
      exact h x (by simp [Op.operands, Call.operands, hx])
    cases callee with
    | value f =>
      have hf := h f (by simp [Op.operands, Call.operands])
      simp [execOp, resolve, ha, hf]
    | invoke f m =>
      have hf := h f (by simp [Op.operands, Call.operands])
      simp [execOp, resolve, ha, hf]
    | builtin b => simp [execOp, resolve, ha]
  | build t ps =>
    have ha : (ps.map fun (i, x) => (i, e x)) = ps.map fun (i, x) => (i, e' x) := by
      apply Array.map_congr_left
      intro x hx
      have := h x.2 (by simp only [Op.operands]; exact List.mem_map_of_mem (Array.mem_toList_iff.2 hx))
      simp [this]
    simp [execOp, ha]
  | buildSlice t l ps =>
    have ha : (ps.map fun (i, x) => (i, e x)) = ps.map fun (i, x) => (i, e' x) := by
      apply Array.map_congr_left
      intro x hx
      have := h x.2 (by simp only [Op.operands]; exact List.mem_map_of_mem (Array.mem_toList_iff.2 hx))
      simp [this]
    simp [execOp, ha]
  | makeFunc fn f c =>
    have h1 : f.map e = f.map e' := Array.map_congr_left fun x hx => h x (by simp [Op.operands, hx])
    have h2 : c.map e = c.map e' := Array.map_congr_left fun x hx => h x (by simp [Op.operands, hx])
    simp [execOp, h1, h2]
  | makeMap t r => cases r <;> simp_all [Op.operands, execOp]
  | slice t x l hi m => cases l <;> cases hi <;> cases m <;> simp_all [Op.operands, execOp]
  | select cs b => cases hs
  | _ => simp_all [Op.operands, execOp]
theorem evRaw_eq {ev : Ev} {e : Operand → Value} (he : ∀ x, Den ρ (ev x) (e x)) {x : Operand} (h : (ev x).toRaw.isSome = true) : evRaw ev x = e x := by
  obtain ⟨v, hv⟩ := Option.isSome_iff_exists.1 h
  rw [evRaw, hv, (he x).toRaw hv]; rfl
theorem gen_ok {o : Oper} {ev : Ev} {e : Operand → Value} (he : ∀ x, Den ρ (ev x) (e x)) (hs : plainOp o.op = true) {v : AV} (h : gen P o ev = some v) (w : World) :
    ∃ nx y, (execOp e o).run P w = .ok nx w ∧ Nx nx y ∧ Den ρ v y := by
  unfold gen at h
  cases hb : (o.op.operands.toList.all fun x => (ev x).toRaw.isSome) with
  | false => rw [hb] at h; cases h
  | true =>
    rw [hb] at h
    have hc : execOp (evRaw ev) o = execOp e o := execOp_congr hs fun x hx => evRaw_eq he (List.all_eq_true.1 hb x hx)
    simp only [cond_true, hc] at h
    split at h
    · rename_i y hy; cases h; exact ⟨_, y, runPure_run _ w hy, rfl, .raw y⟩
    · rename_i hy; cases h; exact ⟨_, undef, runPure_run _ w hy, rfl, .raw undef⟩
    · cases h
theorem gen_pure {o : Oper} {ev : Ev} {e : Operand → Value} (hH : HDen P B ρ H w) (he : ∀ x, Den ρ (ev x) (e x)) (hs : plainOp o.op = true) : OpOk P B ρ H w ((execOp e o).run P w) (vr H (gen P o ev)) :=
  ok_pure hH fun _ h => gen_ok he hs h w

/-! ### the handlers -/
variable {o : Oper} {ev : Ev} {e : Operand → Value}
theorem hMove_ok (hH : HDen P B ρ H w) (he : ∀ x, Den ρ (ev x) (e x)) {x : Operand} (ho : o.op = .move x) : OpOk P B ρ H w ((execOp e o).run P w) (hMove x P o ev H) :=
  ok_val hH (y := e x) (by simp [execOp, ho]) (he x)
theorem hAssign_ok (hH : HDen P B ρ H w) (he : ∀ x, Den ρ (ev x) (e x)) {x : Operand} (ho : o.op = .assign x) : OpOk P B ρ H w ((execOp e o).run P w) (hMove x P o ev H) :=
  ok_val hH (y := e x) (by simp [execOp, ho]) (he x)
theorem hPick_ok (hH : HDen P B ρ H w) (he : ∀ x, Den ρ (ev x) (e x)) {c a b : Operand} (ho : o.op = .pick c a b) : OpOk P B ρ H w ((execOp e o).run P w) (hPick c a b P o ev H) := by
  unfold hPick
  cases hb : boolV (ev c) with
  | no => trivial
  | mk k =>
    have hc := he c
    rw [boolV_mk hb] at hc
    have hc := hc.raw_eq
    cases k
    · exact ok_val hH (y := e b) (by simp [execOp, ho, hc, asBool]) (he b)
    · exact ok_val hH (y := e a) (by simp [execOp, ho, hc, asBool]) (he a)
theorem hNil_ok (hH : HDen P B ρ H w) (he : ∀ x, Den ρ (ev x) (e x)) {x : Operand} (ho : o.op = .nilCheck x) : OpOk P B ρ H w ((execOp e o).run P w) (hNil x P o ev H) := by
  unfold hNil
  have hx := he x
  cases hp : ptrV (ev x) with
  | mk i off =>
    rw [ptrV_mk hp] at hx
    obtain ⟨b, c, h1, h2⟩ := hx.ptr_inv
    exact ok_val hH (y := e x) (by simp [execOp, ho, h2]) hx
  | no =>
    refine ok_pure hH fun v hv => ?_
    unfold pNil at hv
    split at hv
    · rename_i f a b hx'
      cases hv
      rw [hx'] at hx
      obtain ⟨xs, ys, h1, h2, h3⟩ := hx.func_inv
      exact ⟨_, e x, by simp [execOp, ho, h3]; rfl, by rw [h3]; rfl, hx⟩
    · rename_i i hx'
      cases hv
      rw [hx'] at hx
      obtain ⟨b, c, h1, h2⟩ := hx.yield_inv
      exact ⟨_, e x, by simp [execOp, ho, h2]; rfl, by rw [h2]; rfl, hx⟩
    · exact gen_ok he (by simp [ho, plainOp]) hv w
theorem hFunc_ok (hH : HDen P B ρ H w) (he : ∀ x, Den ρ (ev x) (e x)) {fn : Fn} {a c : Array Operand} (ho : o.op = .makeFunc fn a c) : OpOk P B ρ H w ((execOp e o).run P w) (hFunc fn a c P o ev H) := by
  have hl : ∀ l : List Operand, Dens ρ (l.map ev) (l.map e) := fun l => by
    induction l with
    | nil => exact .nil
    | cons x l ih => exact .cons (he x) ih
  have h := Den.func (fn := fn) (hl a.toList) (hl c.toList)
  have e1 : (a.toList.map e).toArray = a.map e := by apply Array.ext'; simp
  have e2 : (c.toList.map e).toArray = c.map e := by apply Array.ext'; simp
  rw [e1, e2] at h
  exact ok_val hH (by simp [execOp, ho, Instr.makeFunc]) h
theorem hIface_ok (hH : HDen P B ρ H w) (he : ∀ x, Den ρ (ev x) (e x)) {t : TypeId} {x : Operand} (ho : o.op = .makeInterface t x) : OpOk P B ρ H w ((execOp e o).run P w) (hIface t x P o ev H) := by
  refine ok_pure hH fun v hv => ?_
  unfold pIface at hv
  split at hv
  · cases hv
  · cases hv
  · rename_i d hd hn
    cases hv
    refine ⟨.value (.iface t (e x)), .iface t (e x), ?_, rfl, .iface (he x)⟩
    simp only [execOp, ho, Instr.makeInterface, Sem.run_bind, run_und hn, Result.andThen_ok]
    cases d <;> first | rfl | exact absurd rfl (hd _)
theorem hFieldAddr_ok (hH : HDen P B ρ H w) (he : ∀ x, Den ρ (ev x) (e x)) {s : TypeId} {x : Operand} {f : Nat} (ho : o.op = .fieldAddr s x f) : OpOk P B ρ H w ((execOp e o).run P w) (hFieldAddr s x f P o ev H) := by
  unfold hFieldAddr
  cases hf : fv P s f with
  | no => trivial
  | mk foff n t =>
    cases hp : ptrV (ev x) with
    | no => trivial
    | mk i off =>
      cases hb : Nat.ble 1 n with
      | false => simp only [hb]; trivial
      | true =>
        simp only [hb]
        have hx := he x
        rw [ptrV_mk hp] at hx
        obtain ⟨b, c, h1, h2⟩ := hx.ptr_inv
        obtain ⟨fs, fd, g1, g2, g3, g4, g5⟩ := fv_mk hf
        have hn : n ≠ 0 := by have := Nat.le_of_ble_eq_true hb; omega
        have ha : (⟨b, off, none⟩ : Addr).add foff = ⟨b, off + foff, none⟩ := by
          unfold Addr.add; split
          · rename_i e; subst e; rfl
          · rfl
        refine ok_val hH (y := .pointer (some ⟨b, off + foff, none⟩)) ?_ (.ptr h1)
        subst g3; subst g4
        simp [execOp, ho, Instr.fieldAt, run_und g1, g2, h2, Instr.sureAddr, fieldPlace, run_sizeB g5, hn, ha]
theorem addr_add (b off n : Nat) : (⟨b, off, none⟩ : Addr).add n = ⟨b, off + n, none⟩ := by
  unfold Addr.add; split
  · rename_i e; subst e; rfl
  · rfl
theorem hIndexAddr_ok (hH : HDen P B ρ H w) (he : ∀ x, Den ρ (ev x) (e x)) {t : TypeId} {x ix : Operand} (ho : o.op = .indexAddr t x ix) : OpOk P B ρ H w ((execOp e o).run P w) (hIndexAddr t x ix P o ev H) := by
  unfold hIndexAddr
  cases hk : natV (ev ix) with
  | no => trivial
  | mk k =>
    obtain ⟨ki, hk'⟩ := natV_mk hk
    have hix := he ix
    rw [hk'] at hix
    have hix := hix.raw_eq
    have hx := he x
    cases ht : tv P t with
    | no => trivial
    | arr n s =>
      cases hp : ptrV (ev x) with
      | no => trivial
      | mk i off =>
        cases hb : Nat.ble (Nat.succ k) n with
        | false => simp only [hb]; trivial
        | true =>
          simp only [hb]
          have hb := Nat.le_of_ble_eq_true hb
          rw [ptrV_mk hp] at hx
          obtain ⟨b, c, h1, h2⟩ := hx.ptr_inv
          obtain ⟨el, g1, g2⟩ := tv_arr ht
          refine ok_val hH (y := .pointer (some ⟨b, off + k * s, none⟩)) ?_ (.ptr h1)
          have hlt : k < n := hb
          simp [execOp, ho, Instr.indexAt, hix, asIntOf, run_und g1, h2, Instr.sureAddr, run_sizeB g2, hlt, addr_add]
    | sl s =>
      cases hp : sliceV (ev x) with
      | no => trivial
      | mk i off len cap =>
        cases hb : Nat.ble (Nat.succ k) len with
        | false => simp only [hb]; trivial
        | true =>
          simp only [hb]
          have hb := Nat.le_of_ble_eq_true hb
          rw [sliceV_mk hp] at hx
          obtain ⟨b, c, kk, h1, _, _, h2⟩ := hx.slice_inv
          obtain ⟨el, g1, g2⟩ := tv_sl ht
          refine ok_val hH (y := .pointer (some ⟨b, off + k * s, none⟩)) ?_ (.ptr h1)
          have hlt : k < len := hb
          simp [execOp, ho, Instr.indexAt, hix, asIntOf, run_und g1, h2, run_sizeB g2, hlt, addr_add]
theorem apart_ok {t : TypeId} {cs : List AV} {off : Nat} {v : AV} (h : apart P t cs off = some v) {xs : List Value} (hd : Dens ρ cs xs) (w : World) : ∃ y, (part t xs.toArray off).run P w = .ok y w ∧ Den ρ v y := by
  unfold apart at h
  cases hl : lv P t with
  | no => rw [hl] at h; cases h
  | one =>
    rw [hl] at h
    simp only [nth_eq] at h
    obtain ⟨y, h1, h2⟩ := hd.get h
    refine ⟨y, ?_, h2⟩
    simp [part, run_isAggB (lv_one hl), h1]
  | agg n =>
    rw [hl] at h
    cases h
    refine ⟨.agg ((xs.drop off).take n).toArray, ?_, .agg ((hd.drop off).take n)⟩
    obtain ⟨h1, h2⟩ := lv_agg hl
    have e1 : ((xs.drop off).take n).toArray = xs.toArray.extract off (off + n) := by apply Array.ext'; simp
    rw [e1]
    simp [part, run_isAggB h1, run_sizeB h2]
theorem hField_ok (hH : HDen P B ρ H w) (he : ∀ x, Den ρ (ev x) (e x)) {t : TypeId} {x : Operand} {f : Nat} (ho : o.op = .field t x f) : OpOk P B ρ H w ((execOp e o).run P w) (hField t x f P o ev H) := by
  unfold hField
  cases ha : aggV (ev x) with
  | none => exact gen_pure hH he (by simp [ho, plainOp])
  | some cs =>
    have hx := he x
    rw [aggV_some ha] at hx
    obtain ⟨xs, h1, h2⟩ := hx.agg_inv
    cases hf : fv P t f with
    | no => trivial
    | mk foff n ft =>
      refine ok_pure hH fun v hv => ?_
      obtain ⟨fs, fd, g1, g2, g3, g4, g5⟩ := fv_mk hf
      subst g3; subst g4
      obtain ⟨y, k1, k2⟩ := apart_ok hv h1 w
      exact ⟨.value y, y, by simp [execOp, ho, Instr.field, run_und g1, g2, h2, asAgg, k1], rfl, k2⟩
theorem hIndex_ok (hH : HDen P B ρ H w) (he : ∀ x, Den ρ (ev x) (e x)) {t : TypeId} {x ix : Operand} (ho : o.op = .index t x ix) : OpOk P B ρ H w ((execOp e o).run P w) (hIndex t x ix P o ev H) := by
  unfold hIndex
  cases ha : aggV (ev x) with
  | none => exact gen_pure hH he (by simp [ho, plainOp])
  | some cs =>
    have hx := he x
    rw [aggV_some ha] at hx
    obtain ⟨xs, h1, h2⟩ := hx.agg_inv
    refine ok_pure hH fun v hv => ?_
    unfold pIndex at hv
    split at hv
    · rename_i n el hu
      simp only [Option.bind_eq_some_iff] at hv
      obtain ⟨k, hk, s, hs, hv⟩ := hv
      obtain ⟨ki, hk'⟩ := natO_some hk
      have hix := he ix
      rw [hk'] at hix
      have hix := hix.raw_eq
      cases hb : Nat.ble (k + 1) n with
      | false => rw [hb] at hv; cases hv
      | true =>
        rw [hb] at hv
        have hb := Nat.le_of_ble_eq_true hb
        obtain ⟨y, k1, k2⟩ := apart_ok hv h1 w
        have hlt : k < n := hb
        exact ⟨.value y, y, by simp [execOp, ho, Instr.index, hix, asIntOf, run_und hu, h2, hlt, run_sizeB hs, k1], rfl, k2⟩
    · cases hv
theorem hExtract_ok (hH : HDen P B ρ H w) (he : ∀ x, Den ρ (ev x) (e x)) {x : Operand} {i : Nat} (ho : o.op = .extract x i) : OpOk P B ρ H w ((execOp e o).run P w) (hExtract x i P o ev H) := by
  unfold hExtract
  cases ha : tupV (ev x) with
  | none => exact gen_pure hH he (by simp [ho, plainOp])
  | some cs =>
    have hx := he x
    rw [tupV_some ha] at hx
    obtain ⟨xs, h1, h2⟩ := hx.tuple_inv
    refine ok_pure hH fun v hv => ?_
    rw [nth_eq] at hv
    obtain ⟨y, k1, k2⟩ := h1.get hv
    exact ⟨.value y, y, by simp [execOp, ho, Instr.extract, h2, k1], rfl, k2⟩
end
end Go.Proofs.YtcdknjkkaonbiaaGreatDoor.Sx
