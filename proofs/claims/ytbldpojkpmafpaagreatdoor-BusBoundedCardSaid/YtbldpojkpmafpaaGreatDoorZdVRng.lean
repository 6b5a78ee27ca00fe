/- The runner's goals: a range over an iterator that writes blocks of its own and hands over rows. -/
import Derived.Test.YtbldpojkpmafpaaGreatDoorZdBusLaw2
import Derived.Test.YtbldpojkpmafpaaGreatDoorZdOrdLaw
namespace Go.Proofs.YtbldpojkpmafpaaGreatDoor
open Go.RowKit Sv
set_option linter.unusedVariables false
noncomputable section
mutual
def avIds : AV → List Nat
  | .ptr i _ => [i]
  | .slice i _ _ _ => [i]
  | .func _ a b => avsIds a ++ avsIds b
  | .yield i => [i]
  | .map i => [i]
  | .iface _ v => avIds v
  | .agg l => avsIds l
  | .tuple l => avsIds l
  | .osl _ _ i _ _ _ => [i]
  | .optr _ _ i _ _ => [i]
  | .raw _ => []
  | .lst _ _ _ => []
  | .lptr _ _ _ _ => []
  | .bot => []
def avsIds : List AV → List Nat
  | [] => []
  | v :: l => avIds v ++ avsIds l
end
section
variable {ρ ρ' : Env}
mutual
theorem den_pins (hf : ∀ b A, ρ.fz b = some A → ρ'.fz b = some A) : ∀ {v : AV} {x : Value}, (∀ i ∈ avIds v, ∀ y, ρ i = some y → ρ' i = some y) → Den ρ v x → Den ρ' v x
  | _, _, _, .raw v => .raw v
  | _, _, hp, .ptr h => .ptr (hp _ (by simp [avIds]) _ h)
  | _, _, hp, .slice h hc hk => .slice (hp _ (by simp [avIds]) _ h) hc hk
  | _, _, hp, .func h1 h2 => .func (dens_pins hf (fun i hi => hp i (by simp only [avIds, List.mem_append]; exact .inl hi)) h1) (dens_pins hf (fun i hi => hp i (by simp only [avIds, List.mem_append]; exact .inr hi)) h2)
  | _, _, hp, .yield h => .yield (hp _ (by simp [avIds]) _ h)
  | _, _, hp, .map h => .map (hp _ (by simp [avIds]) _ h)
  | _, _, hp, .iface h => .iface (den_pins hf (fun i hi => hp i (by simp only [avIds]; exact hi)) h)
  | _, _, hp, .agg h => .agg (dens_pins hf (fun i hi => hp i (by simp only [avIds]; exact hi)) h)
  | _, _, hp, .tuple h => .tuple (dens_pins hf (fun i hi => hp i (by simp only [avIds]; exact hi)) h)
  | _, _, _, .lst h ho hy hd hk hz => .lst (hf _ _ h) ho hy (flat_of_cells (fun d ys => cells_fz hf _ d ys) _ _ hd) hk hz
  | _, _, _, .lstNil hz => .lstNil hz
  | _, _, _, .lptr h ho hy hd hk => .lptr (hf _ _ h) ho hy (flat_of_cells (fun d ys => cells_fz hf _ d ys) _ _ hd) hk
  | _, _, hp, .osl h hc hk => .osl (hp _ (by simp [avIds]) _ h) hc hk
  | _, _, _, .oslNil => .oslNil
  | _, _, hp, .optr h => .optr (hp _ (by simp [avIds]) _ h)
  | _, _, _, .bot x => .bot x
theorem dens_pins (hf : ∀ b A, ρ.fz b = some A → ρ'.fz b = some A) : ∀ {v : List AV} {x : List Value}, (∀ i ∈ avsIds v, ∀ y, ρ i = some y → ρ' i = some y) → Dens ρ v x → Dens ρ' v x
  | _, _, _, .nil => .nil
  | _, _, hp, .cons h1 h2 => .cons (den_pins hf (fun i hi => hp i (by simp only [avsIds, List.mem_append]; exact .inl hi)) h1) (dens_pins hf (fun i hi => hp i (by simp only [avsIds, List.mem_append]; exact .inr hi)) h2)
end
def slIn (pin : List Nat) (sl : List (Nat × AV)) : Bool := sl.all fun p => (avIds p.2).all fun i => pin.contains i
theorem tden_pins {s : St} {n : Nat} {tmps : Array Value} {pin : List Nat} (hf : ∀ b A, ρ.fz b = some A → ρ'.fz b = some A) (hs : slIn pin s.sl = true) (hp : ∀ i ∈ pin, ∀ y, ρ i = some y → ρ' i = some y) (h : TDen ρ s.T n tmps) : TDen ρ' s.T n tmps := by
  refine ⟨h.size, fun t => ?_⟩
  have hg := h.get t
  have e : s.T.get t = match s.sl.find? (fun p => Nat.beq p.1 t) with | some p => some p.2 | none => (botT s.n).get t := get_setSl s.sl t
  rw [e] at hg ⊢
  cases hfd : s.sl.find? (fun p => Nat.beq p.1 t) with
  | some p =>
    rw [hfd] at hg
    have hm := List.mem_of_find?_eq_some hfd
    have h1 := List.all_eq_true.1 hs p hm
    exact den_pins hf (fun i hi => hp i (by simpa using List.all_eq_true.1 h1 i hi)) hg
  | none =>
    rw [hfd] at hg
    rw [get_botT] at hg ⊢
    by_cases ht : t < s.n
    · rw [if_pos ht]; exact .bot _
    · rw [if_neg ht] at hg ⊢; rw [hg.raw_eq]; exact .raw _
end
def entW : Ent → Bool
  | .blk (.cells _ _ _ _ r) => !r
  | _ => true
theorem enW {en : List (Nat × Ent)} (h : en.all (fun p => entW p.2) = true) {i : Nat} {k : ABlk} (hi : (setEn .nil en).get i = some k) : k.isRo = false := by
  rw [get_setEn] at hi
  cases hf : en.find? (fun p => Nat.beq p.1 i) with
  | none => rw [hf, Tr.get_nil] at hi; cases hi
  | some p =>
    rw [hf] at hi
    have h1 := List.all_eq_true.1 h p (List.mem_of_find?_eq_some hf)
    obtain ⟨q, e⟩ := p
    cases e with
    | blk b =>
      have hi : some b = some k := hi
      injection hi with hi
      subst hi
      have h2 : entW (.blk b) = true := h1
      revert h2
      cases b <;> intro h2
      · simpa [entW, ABlk.isRo] using h2
      all_goals rfl
    | opt e t xs =>
      have hi : optOwn e t xs = some k := hi
      cases xs with
      | nil => cases hi
      | cons x l => cases hi; rfl

section
variable {P : Program} {n : Nat}
def LeaveR (P : Program) (fn : Func) (fresh : Bool) (res : AV) (w : World) (F : Env) (a : Act) (w' : World) : Prop :=
  LeavesInM (FF none) 0 P fn a.tmps (fun e w2 => ∃ x F', e = .returned x ∧ Den F' res x ∧ OkF w2 F' ∧ (∀ b A, F'.fz b = some A → (fresh = false ∧ F.fz b = some A) ∨ w.heap.size ≤ b) ∧ Below w.heap.size w w2) a.defers .returning w'
def XR (P : Program) (fn : Func) (fresh : Bool) (res : AV) (w : World) (F : Env) : Ext := { rd := none, K := fun _ => none, R := LeaveR P fn fresh res w F }
def retQM (P : Program) (fresh : Bool) (fn : Func) (res : AV) (m : List Nat) : Exit → Tr AV → AHeap → Prop := fun e T H => e = .ret ∧ (match aleave P fn T H m with | .ok v H2 => frz fresh H2 v res | _ => False)
theorem leave_ok {w w' : World} {F ρ : Env} {fn : Func} {fresh : Bool} {res : AV} {m : List Nat} {T : Tr AV} {H : AHeap} {a : Act} (hF : OkF w F) (hAR : AR P w.heap.size ρ n T H a w') (hd : DM ρ m a.defers) (hfz : ∀ b A, ρ.fz b = some A → F.fz b = some A ∨ w.heap.size ≤ b)
    (hb : Below w.heap.size w w') (hr : match aleave P fn T H m with | .ok v H2 => frz fresh H2 v res | _ => False) : LeaveR P fn fresh res w F a w' := by
  split at hr
  · rename_i v H2 hres
    refine aleave_ok (T := T) (H := H) m hAR hd hres fun y w2 r1 r2 r3 => ?_
    refine ⟨y, outF fresh w.heap.size w2 F, rfl, frz_den r2 hF hfz hr r1, ⟨hF.glob, hF.all, fun b A hb' => ?_⟩, fun b A hb' => ?_, hb.trans (r3.below hAR.H)⟩
    · have hb' : (if w.heap.size ≤ b then cellsOf? w2 b else if fresh then none else F.fz b) = some A := hb'
      by_cases h0 : w.heap.size ≤ b
      · rw [if_pos h0] at hb'; exact cellsOf?_some.1 hb'
      · rw [if_neg h0] at hb'
        cases hfr : fresh with
        | true => rw [hfr] at hb'; cases hb'
        | false =>
          rw [hfr] at hb'
          obtain ⟨e, fr, h3⟩ := hF.fz b A hb'
          exact ⟨e, fr, ((hb.trans (r3.below hAR.H)).block b (by omega)).trans h3⟩
    · have hb' : (if w.heap.size ≤ b then cellsOf? w2 b else if fresh then none else F.fz b) = some A := hb'
      by_cases h0 : w.heap.size ≤ b
      · exact .inr h0
      · rw [if_neg h0] at hb'
        cases hfr : fresh with
        | true => rw [hfr] at hb'; cases hb'
        | false => rw [hfr] at hb'; exact .inl ⟨rfl, hb'⟩
  · exact hr.elim

def WL (F : Fence) (k : Nat) (P : Program) (Q : Exit → Act → World → Prop) : List Code → Act → World → Prop
  | [], a, w => Q .normal a w
  | c :: l, a, w => c.wpIn F k P (fun e a' w' => match e with | .normal => WL F k P Q l a' w' | e => Q e a' w') a w
theorem WL_mono {F : Fence} {k : Nat} {Q Q' : Exit → Act → World → Prop} (hq : ∀ e a w, Q e a w → Q' e a w) : ∀ {l : List Code} {a : Act} {w : World}, WL F k P Q l a w → WL F k P Q' l a w
  | [], _, _, h => hq _ _ _ h
  | c :: l, _, _, h => wpIn_mono h fun e a' w' h' => by
    cases e with
    | normal => exact WL_mono hq h'
    | _ => exact hq _ _ _ h'
theorem WL_app {F : Fence} {k : Nat} {Q : Exit → Act → World → Prop} : ∀ {l1 l2 : List Code} {a : Act} {w : World}, WL F k P Q (l1 ++ l2) a w → WL F k P (fun e a w => match e with | .normal => WL F k P Q l2 a w | e => Q e a w) l1 a w
  | [], _, _, _, h => h
  | c :: l1, l2, _, _, h => wpIn_mono h fun e a' w' h' => by
    cases e with
    | normal => exact WL_app h'
    | _ => exact h'
theorem WL_flat {F : Fence} {k : Nat} : ∀ {c : Code} {Q : Exit → Act → World → Prop} {a : Act} {w : World}, WL F k P Q (flatC c) a w → c.wpIn F k P Q a w
  | .seq x y, Q, a, w, h => by
    refine wpIn_seq (wpIn_mono (WL_flat (c := x) (WL_app (l1 := flatC x) (l2 := flatC y) h)) fun e a' w' h' => ?_)
    cases e with
    | normal => exact WL_flat (c := y) h'
    | _ => exact h'
  | .skip, Q, a, w, h => wpIn_mono h fun e a w h => by cases e <;> exact h
  | .region _ _ _, Q, a, w, h => wpIn_mono h fun e a w h => by cases e <;> exact h
  | .cond _ _ _, Q, a, w, h => wpIn_mono h fun e a w h => by cases e <;> exact h
  | .block _ _, Q, a, w, h => wpIn_mono h fun e a w h => by cases e <;> exact h
  | .loop _, Q, a, w, h => wpIn_mono h fun e a w h => by cases e <;> exact h
  | .rangeFunc _ _ _ _, Q, a, w, h => wpIn_mono h fun e a w h => by cases e <;> exact h
  | .exit _, Q, a, w, h => wpIn_mono h fun e a w h => by cases e <;> exact h
  | .scope _, Q, a, w, h => wpIn_mono h fun e a w h => by cases e <;> exact h
  | .label _, Q, a, w, h => wpIn_mono h fun e a w h => by cases e <;> exact h
  | .goto _, Q, a, w, h => wpIn_mono h fun e a w h => by cases e <;> exact h
  | .ret, Q, a, w, h => wpIn_mono h fun e a w h => by cases e <;> exact h
  | .refuse _, Q, a, w, h => wpIn_mono h fun e a w h => by cases e <;> exact h
def GoalW (X : Ext) (P : Program) (w0 : World) (F : Env) (n : Nat) (l : List Code) (T : Tr AV) (H : AHeap) (Q : Exit → Tr AV → AHeap → Prop) : Prop :=
  ∀ a w, SatX X P w0 F n T H a w → ∀ k, WL (FF X.rd) k P (fun e a' w' => (∃ T' H', Q e T' H' ∧ SatX X P w0 F n T' H' a' w') ∨ (e = .ret ∧ X.R a' w')) l a w
variable {X : Ext} {w0 : World} {F : Env} {T : Tr AV} {H : AHeap} {Q : Exit → Tr AV → AHeap → Prop}
theorem GoalW.of : ∀ {l1 l2 : List Code} {T : Tr AV} {H : AHeap}, GoalLX X P w0 F n l1 T H (onN (fun T H => GoalW X P w0 F n l2 T H Q) Q) → GoalW X P w0 F n (l1 ++ l2) T H Q
  | [], _, _, _, h => h
  | c :: l1, l2, T, H, h => fun a w hs k => wpIn_mono (h a w hs k) fun e a' w' hh => by
    rcases hh with ⟨T', H', h1, h2⟩ | ⟨rfl, hh⟩
    · cases e with
      | normal => exact GoalW.of h1 a' w' h2 k
      | _ => exact .inl ⟨T', H', h1, h2⟩
    · exact .inr ⟨rfl, hh⟩
theorem GoalW.cut {l : List Code} (k : Nat) (h : GoalLX X P w0 F n (l.take k) T H (onN (fun T H => GoalW X P w0 F n (l.drop k) T H Q) Q)) : GoalW X P w0 F n l T H Q := by
  have := GoalW.of h
  rwa [List.take_append_drop] at this
theorem GoalW.goal {c : Code} (h : GoalW X P w0 F n (flatC c) T H Q) : GoalX X P w0 F n c T H Q := fun a w hs k => WL_flat (h a w hs k)
theorem holds_ofR {f : FuncId} {fn : Func} {c : Code} {args : List AV} {res : AV} {fresh : Bool} (hf : P.funcs[f]? = some fn) (hb : fn.body = some c) (hn : args.length ≤ fn.ntmps)
    (h : ∀ w F, OkF w F → GoalX (XR P fn fresh res w F) P w F fn.ntmps c (initT args .nil 0) H0 (retQ P fresh fn res)) : Holds P fresh f args res := by
  intro w F xs hF hd
  have hg := h w F hF
  have hH : HDen P w.heap.size F H0 w := ⟨fun i k h => (by rw [show H0.get i = none from Tr.get_nil i] at h; cases h), fun i j ki kj b ci cj h => (by rw [show H0.get i = none from Tr.get_nil i] at h; cases h), fun i k h => (by rw [show H0.get i = none from Tr.get_nil i] at h; cases h), Nat.le_refl _,
    fun b A h => ⟨hF.fz b A h, fun i k c hi => (by rw [show H0.get i = none from Tr.get_nil i] at hi; cases hi)⟩⟩
  have hs : SatX (XR P fn fresh res w F) P w F fn.ntmps (initT args .nil 0) H0 { tmps := xs.toArray ++ Array.replicate (fn.ntmps - xs.toArray.size) undef, defers := [] } w := by
    refine ⟨⟨F, ⟨initT_ok hd hn, hH, hF.all⟩, fun i hi => ?_, fun b A h => .inl h, ⟨fun b o h => (by cases h), fun i hi => (by cases hi), fun b A h => (by cases h), Nat.zero_le _, fun b o h => (by cases h), rfl⟩⟩, Below.refl _ _, rfl⟩
    have hi : 64 ≤ i := hi
    cases hfi : F i with
    | none => rfl
    | some x => exact absurd (hF.glob i x hfi) (by omega)
  suffices hc : CallsIn (FF none) 0 P f xs.toArray w (fun e w' => ∃ x F', e = .returned x ∧ Den F' res x ∧ OkF w' F' ∧ (∀ b A, F'.fz b = some A → (fresh = false ∧ F.fz b = some A) ∨ w.heap.size ≤ b) ∧ Below w.heap.size w w') from callsIn_wide.1 hc
  refine callsIn_of_wp_marks hf hb trivial (wpIn_mono (hg _ _ hs 0) fun e a' w' hh => ?_)
  rcases hh with ⟨T', H', h1, h2⟩ | ⟨rfl, hh⟩
  · obtain ⟨ρ, hAR, hnone, hfz, hkp⟩ := h2.ex
    have hd' : DM ρ [] a'.defers := h2.defers
    have key : (match aresults P fn T' H' with | .ok v _ => frz fresh H' v res | _ => False) → LeaveR P fn fresh res w F a' w' := fun hr => by
      refine leave_ok (m := []) hF hAR hd' hfz h2.below ?_
      show match aresults P fn T' H' with | .ok v H2 => frz fresh H2 v res | _ => False
      split at hr
      · rename_i v H2 hres
        obtain ⟨rfl, _⟩ := aresults_ok hAR hres
        exact hr
      · exact hr.elim
    cases e with
    | normal => exact key h1
    | ret => exact key h1
    | _ => exact h1.elim
  · exact hh
theorem holds_flW {f : FuncId} {fn : Func} {c : Code} {args : List AV} {res : AV} {fresh : Bool} (hf : P.funcs[f]? = some fn) (hb : fn.body = some c) (hl : Nat.ble args.length fn.ntmps = true)
    (h : ∀ w F, OkF w F → GoalW (XR P fn fresh res w F) P w F fn.ntmps (fl c []) (initT args .nil 0) H0 (retQ P fresh fn res)) : Holds P fresh f args res :=
  holds_ofR hf hb (Nat.le_of_ble_eq_true hl) fun w F hF => GoalW.goal (by have := h w F hF; rwa [fl, cat_nil] at this)
def XM (P : Program) (fn : Func) (fresh : Bool) (res : AV) (w : World) (F : Env) (d D : Nat) : Ext := { XR P fn fresh res w F with m := [d], ds := [{ target := .collected D, args := #[] }] }
def marked (H : AHeap) : AHeap := H.new .deferred
theorem GoalL.retM {SV : VCaller} (hK : Known P) (hm : P.follows .mixedOrders = true) (hS : CallOk P (gS SV)) {l : List Code} {fn : Func} {fresh : Bool} {res : AV} {m : List Nat} (D : List Bool) (h : (Sv.vlist P SV n l T H).path D (fun r => match r with | .ret T H [] => retQM P fresh fn res m .ret T H | _ => False)) :
    GoalLX X P w0 F n l T H (retQM P fresh fn res m) := by
  obtain ⟨r, h1, h2⟩ := Tst.path_gr _ _ h
  refine GoalL.vlist hK hm hS (Q1 := fun r => match r with | .ret T H [] => retQM P fresh fn res m .ret T H | _ => False) (fun r hr => ?_) h1 h2
  split at hr
  · exact hr
  · exact hr.elim
theorem GoalW.full : ∀ {l : List Code} {T : Tr AV} {H : AHeap}, GoalLX X P w0 F n l T H Q → GoalW X P w0 F n l T H Q
  | [], _, _, h => fun a w hs _ => .inl ⟨_, _, h, hs⟩
  | c :: l, _, _, h => fun a w hs k => wpIn_mono (h a w hs k) fun e a' w' hh => by
    rcases hh with ⟨T', H', h1, h2⟩ | ⟨rfl, hh⟩
    · cases e with
      | normal => exact GoalW.full h1 a' w' h2 k
      | _ => exact .inl ⟨T', H', h1, h2⟩
    · exact .inr ⟨rfl, hh⟩
def toRetM (P : Program) (fn : Func) (fresh : Bool) (res : AV) (m : List Nat) : R → Prop
  | .ret T H [] => retQM P fresh fn res m .ret T H
  | _ => False
def vallM (P : Program) (SV : VCaller) (l : List Code) (s : St) : Tst R := Sv.vlist P SV s.n l s.T (marked s.H)
theorem GoalL.stRetM {SV : VCaller} (hK : Known P) (hm : P.follows .mixedOrders = true) (hS : CallOk P (gS SV)) {l : List Code} {s : St} {fn : Func} {fresh : Bool} {res : AV} {m : List Nat} (D : List Bool) (h : (vallM P SV l s).path D (toRetM P fn fresh res m)) :
    GoalLX X P w0 F s.n l s.T (marked s.H) (retQM P fresh fn res m) := by
  obtain ⟨r, h1, h2⟩ := Tst.path_gr _ _ h
  refine GoalL.vlist hK hm hS (Q1 := toRetM P fn fresh res m) (fun r hr => ?_) h1 h2
  unfold toRetM at hr
  split at hr
  · exact hr
  · exact hr.elim
theorem GoalW.to {SV : VCaller} (hK : Known P) (hm : P.follows .mixedOrders = true) (hS : CallOk P (gS SV)) {l : List Code} {s' : St} {σ : Ren} (k : Nat) (D : List Bool) (h : (Sv.vlist P SV n (l.take k) T H).path D (toSt P n .normal σ s')) (hne : (l.take k).isEmpty = false)
    (hq : GoalW X P w0 F n (l.drop k) s'.T s'.H Q) (hp : pinned σ s'.H.next X.pins = true := by rfl) : GoalW X P w0 F n l T H Q := by
  refine GoalW.cut k ?_
  refine GoalL.to hK hm hS (l := l.take k) (s' := s') (e := .normal) (σ := σ) k D (by rw [List.take_take, Nat.min_self]; exact h) (by rw [List.take_take, Nat.min_self]; exact hne) ?_ hp
  have e : (l.take k).drop k = [] := by rw [List.drop_take]; simp
  rw [e]
  exact hq
def set2 (tmps : Array Value) (p d : Nat) (v : Value) : Array Value := (tmps.setIfInBounds p v).setIfInBounds d v
theorem tden_put {ρ : Env} {n : Nat} {T : Tr AV} {tmps : Array Value} {p : Nat} {v : AV} {x : Value} (h : TDen ρ T n tmps) (hp : p < n) (hv : Den ρ v x) : TDen ρ (T.set p (some v)) n (tmps.setIfInBounds p x) := by
  refine ⟨by rw [Array.size_setIfInBounds]; exact h.size, fun t => ?_⟩
  have ht := h.get t
  rw [Tr.get_set]
  by_cases e : p = t
  · subst e
    rw [if_pos rfl]
    have : (tmps.setIfInBounds p x)[p]? = some x := by rw [Array.getElem?_setIfInBounds, if_pos rfl, if_pos (by rw [h.size]; exact hp)]
    simpa [this] using hv
  · rw [if_neg e]
    have : (tmps.setIfInBounds p x)[t]? = tmps[t]? := by rw [Array.getElem?_setIfInBounds, if_neg e]
    simpa [this] using ht
theorem set2_den {ρ : Env} {n : Nat} {T : Tr AV} {tmps : Array Value} {p d : Nat} {v : AV} {x : Value} (h : TDen ρ T n tmps) (hp : p < n) (hd : d < n) (hv : Den ρ v x) : TDen ρ ((T.set p (some v)).set d (some v)) n (set2 tmps p d x) := by
  have h1 := tden_put h hp hv
  unfold set2
  exact tden_put h1 hd hv
theorem ints_dens (ρ : Env) : ∀ l : List Int, Dens ρ ((Ty.int .i64).flat l) (ic l)
  | [] => .nil
  | x :: l => by
    show Dens ρ (.raw (.int .i64 x) :: (Ty.int .i64).flat l) (.int .i64 x :: ic l)
    exact .cons (.raw _) (ints_dens ρ l)
theorem GoalW.rangeRows {ι : Type} {id : Nat} {fn : Func} {fresh : Bool} {res : AV} (hF : OkF w0 F) {g : Operand} {ps : Array Tmp} {assign body : Code} {rest : List Code} {gf ib : Nat} {e : TypeId} {m : Int} {G : List Int → Prop} {S : List (List Int) → Prop} {s0 : St} {σ : Ren}
    (I : ι → St) (i0 : ι) (R : List (List Int) → ι → Prop) (pin : List Nat) (T1 : List Int → Tr AV) (a1 : Array Value → Value → Array Value)
    (hev : evT s0.T g = .func (.func gf) [] [.ptr ib 0]) (hib : s0.H.get ib = some (.cells e [.raw (.int .i64 m)] true false false)) (eg : ∀ args w, (callFunc gf args).run P w = .ok (.enter gf args) w)
    (hseq : ∀ (bn : Nat) (W : World), Blk W bn e #[.int .i64 m] → SeqOwn P gf #[.pointer (some ⟨bn, 0, none⟩)] (fun b => b = bn) G S W) (hps : ps.size = 1)
    (h0 : fit P σ n s0.T (s0.H.drop ib) (I i0)) (hsl : ∀ i, (I i).sl = (I i0).sl ∧ (I i).n = (I i0).n ∧ (I i).next = (I i0).next) (hen : ∀ i, (I i).en.all (fun p => entW p.2) = true)
    (hpin : slIn pin (I i0).sl = true) (hpn : pin.all (fun i => Nat.ble (i + 1) (I i0).next) = true) (hR0 : R [] i0)
    (hassign : ∀ (l : Nat) (tmps : Array Value) (v : Value) (W : World) (K : Act → World → Prop), tmps.size = n → K { tmps := a1 tmps v, defers := [] } W → assign.wpIn (Fence.wide.inRound l) 0 P (Exit.then K (fun _ _ _ => False)) { tmps := (ps.zip #[v]).foldl (fun t (p, v) => t.setIfInBounds p v) tmps, defers := [] } W)
    (hT1 : ∀ (ρ : Env) (tmps : Array Value) (v : Value) (ch : List Int), TDen ρ (I i0).T n tmps → Den ρ (.lst false (.int .i64) ch) v → TDen ρ (T1 ch) n (a1 tmps v))
    (hbody : ∀ (pre : List (List Int)) (i : ι) (ch : List Int), R pre i → G ch → ∀ (l : Nat) (K : Nat → Option Obj) (A : Nat → Option (Nat × Nat)) (Z : Nat → Option (Array Value)) (sz : Nat),
      GoalLX { rd := some l, K := K, R := fun _ _ => False, pin := pin, A := A, Z := Z, sz := sz } P w0 F n (flatC body) (T1 ch) (I i).H (onN (fun T H => ∃ j, R (pre ++ [ch]) j ∧ H = (I j).H) (fun _ _ _ => False)))
    (hrest : ∀ (xs : List (List Int)) (i : ι), S xs → R xs i → ∀ D : Nat, GoalLX (XM P fn fresh res w0 F (I i0).next D) P w0 F n rest (I i0).T (marked (I i).H) (retQM P fresh fn res [(I i0).next])) :
    GoalW (XR P fn fresh res w0 F) P w0 F n (.block id (.rangeFunc g ps assign body) :: rest) s0.T s0.H Q := by
  intro a w hs k
  obtain ⟨⟨ρ, hAR, hnone, hfz, hkp⟩, hb, hd⟩ := hs
  have hd : a.defers = [] := hd
  have hg := evT_ok hAR.T hAR.G g
  rw [hev] at hg
  obtain ⟨xs, ys, hx1, hy1, hgv⟩ := hg.func_inv
  cases hx1
  cases hy1 with
  | cons hy1 hy2 =>
  cases hy2
  obtain ⟨bn, cn, hbn, rfl⟩ := hy1.ptr_inv
  obtain ⟨o, ho1, ho2, ho3⟩ := hAR.H.at hib hbn
  have ho3 := ho3 rfl
  obtain ⟨zs, fz, rfl, hfz0, hds, hsz, _⟩ := ho2
  have hfz0 := hfz0 rfl
  subst hfz0
  have hsz := hsz rfl
  have hzs : zs = #[.int .i64 m] := by
    have hl : zs.toList.length = 1 := by simpa using hsz
    obtain ⟨z, hz⟩ := List.length_eq_one_iff.1 hl
    rw [hz] at hds
    cases hds with
    | cons h1 h2 =>
      rw [h1.raw_eq] at hz
      have : zs = zs.toList.toArray := by simp
      rw [this, hz]
  subst hzs
  have hblk : Blk w bn e #[.int .i64 m] := ho1
  have hbnlt := hblk.lt
  have hAR2 : AR P w0.heap.size ρ n s0.T (s0.H.drop ib) a w := ⟨hAR.T, (sim_drop hAR.H ib).1, hAR.G⟩
  obtain ⟨g1, g2⟩ := fit_ok hAR2 h0
  have hno : ¬ Sv.Own ρ (s0.H.drop ib) bn := by
    rintro ⟨i, kk, c', h1, h2, h3⟩
    rw [AHeap.get_drop] at h1
    split at h1
    · cases h1
    · rename_i hne
      exact hne (hAR.H.inj _ _ _ _ _ _ _ hib h1 hbn h3)
  have hno2 : ¬ Sv.Own (ren σ ρ) (I i0).H bn := fun h => hno (fit_own hAR2 h0 h)
  have hzn : ρ.fz bn = none := by
    cases hz : ρ.fz bn with
    | none => rfl
    | some A =>
      have := (hAR.H.fz bn A hz).2 ib _ cn hib hbn
      cases this
  have hT : ∀ i, (I i).T = (I i0).T := fun i => by
    show setSl (botT (I i).n) (I i).sl = setSl (botT (I i0).n) (I i0).sl
    rw [(hsl i).1, (hsl i).2.1]
  have hnx : ∀ i, (I i).H.next = (I i0).next := fun i => (hsl i).2.2
  generalize hρ1 : ren σ ρ = ρ1 at g1 g2 hno2
  have hz1 : ρ1.fz = ρ.fz := by rw [← hρ1]; rfl
  obtain ⟨LI, hLI⟩ : ∃ LI : List Lst → (Nat → Prop) → World → Prop, LI = fun pre O W => ∃ i ρ', R (pre.map fun x => x.2.2) i ∧ TDen ρ' (I i0).T n a.tmps ∧ HDen P w0.heap.size ρ' (I i).H W ∧ Glob ρ' ∧ (∀ j, (I i0).next ≤ j → ρ' j = none) ∧ (∀ b A, ρ'.fz b = some A → F.fz b = some A ∨ w0.heap.size ≤ b) ∧
    Below w0.heap.size w0 W ∧ ∀ b, O b → w0.heap.size ≤ b ∧ ¬ Sv.Own ρ' (I i).H b ∧ ρ'.fz b = none := ⟨_, rfl⟩
  show (Code.block id (Code.rangeFunc g ps assign body)).wpIn Fence.wide k P _ a w
  refine wpIn_block ?_
  refine wpIn_rangeFunc_set (O0 := fun b => b = bn) (G := G) (S := S) (w0 := w) hgv eg (hseq bn w hblk) (Below.refl _ _) hps (fun b hb => hb ▸ hbnlt) LI ?abides ?start (fun x => { tmps := a1 a.tmps (ordV x), defers := [] }) (fun l x W K hK => hassign l a.tmps (ordV x) W K hAR.T.size hK) ?body ?done
  case abides =>
    subst hLI
    rintro pre O O' A B ⟨i, ρ', hR, hTd, hH, hG, hn, hz, hbl, hO⟩ ht hOO
    have hkeep : ∀ b, b < A.heap.size → ¬ O b → B.heap[b]? = A.heap[b]? := fun b h1 h2 => ht.block b h1 h2
    have hlt : ∀ {b : Nat} {o : Obj}, A.heap[b]? = some o → b < A.heap.size := fun h => (Array.getElem?_eq_some_iff.1 h).1
    refine ⟨i, ρ', hR, hTd, ⟨fun j kk hj => ?_, hH.inj, hH.lt, Nat.le_trans hH.base ht.size, fun b A' hb => ?_⟩, hG, hn, hz, hbl.trans (ht.below (fun b hb => (hO b hb).1) hH.base), fun b hb => ?_⟩
    · obtain ⟨b, c, o, e1, e2, e3, e4⟩ := hH.blk j kk hj
      refine ⟨b, c, o, e1, (hkeep b (hlt e2) fun hb => (hO b hb).2.1 ⟨j, kk, c, hj, enW (hen i) hj, e1⟩).trans e2, e3, e4⟩
    · obtain ⟨⟨e', fr, h1⟩, h2⟩ := hH.fz b A' hb
      refine ⟨⟨e', fr, (hkeep b (hlt h1) fun hb' => by rw [(hO b hb').2.2] at hb; cases hb).trans h1⟩, h2⟩
    · rcases hOO b hb with h | h
      · exact hO b h
      · have hsz := hH.base
        refine ⟨by omega, fun ⟨j, kk, c, h1, _, h3⟩ => ?_, ?_⟩
        · obtain ⟨b', c', o, e1, e2, _⟩ := hH.blk j kk h1
          rw [h3] at e1; cases e1
          have := hlt e2; omega
        · cases hzb : ρ'.fz b with
          | none => rfl
          | some A' =>
            obtain ⟨⟨e', fr, h1⟩, _⟩ := hH.fz b A' hzb
            have := hlt h1; omega
  case start =>
    subst hLI
    refine ⟨i0, ρ1, hR0, g1.T, g1.H, g1.G, g2, fun b A h => hfz b A (by rw [← hz1]; exact h), hb, fun b hb' => ?_⟩
    subst hb'
    exact ⟨ho3, hno2, by rw [hz1]; exact hzn⟩
  case body =>
    subst hLI
    rintro l pre x O W ⟨i, ρ', hR, hTd, hH, hG, hn, hz, hbl, hO⟩ hlo hup ⟨hown, hin, hgood⟩
    obtain ⟨ρ2, hat, hle, hden, hz2, hfrom⟩ : ∃ ρ2 : Env, (∀ j, ρ2 j = ρ' j) ∧ Le ρ' ρ2 ∧ Den ρ2 (.lst false (.int .i64) x.2.2) (ordV x) ∧ (∀ b, O b → some b ≠ (ordV x).ownBlock → ρ2.fz b = none) ∧
        (∀ b A, ρ2.fz b = some A → ρ'.fz b = some A ∨ (O b ∧ ∃ e fr, W.heap[b]? = some (.cells A e fr))) := by
      rcases hown with ⟨hl0, ⟨hv, hx0⟩ | ⟨gb, cap, cur, hv, hbase, hcur, hcap, hmax, hsize, htake⟩⟩
      · refine ⟨ρ', fun _ => rfl, Le.refl _, ?_, fun b hb _ => (hO b hb).2.2, fun b A h => .inl h⟩
        have hnil : x.2.2 = [] := List.eq_nil_of_length_eq_zero hx0
        rw [hv, hnil]
        exact .lstNil fun e => by cases e
      · have hOg : O gb := hin gb (by rw [hv]; rfl)
        have hg0 := (hO gb hOg).2.2
        have hle : Le ρ' ⟨ρ'.at', fun q => if q = gb then some cur else ρ'.fz q⟩ := ⟨fun _ _ h => h, fun q A h => by
          show (if q = gb then some cur else ρ'.fz q) = some A
          by_cases hq : q = gb
          · subst hq; rw [hg0] at h; cases h
          · rw [if_neg hq]; exact h⟩
        refine ⟨⟨ρ'.at', fun q => if q = gb then some cur else ρ'.fz q⟩, fun _ => rfl, hle, ?_, fun b hb hne => ?_, fun b A h => ?_⟩
        · rw [hv]
          have hfl : ((Ty.int .i64).flat x.2.2).length = x.2.2.length := by
            have := (ints_dens ρ' x.2.2).length
            have h2 : (ic x.2.2).length = x.2.2.length := by simp [ic]
            omega
          rw [Nat.mul_one] at htake hsize
          refine .lst (A := cur) (b := gb) (off := 0) (by show (if gb = gb then some cur else _) = _; rw [if_pos rfl]) (by rw [hfl]; omega) rfl ?_ hcap fun e => by cases e
          rw [hfl, List.drop_zero, htake]
          exact ints_dens _ _
        · show (if b = gb then some cur else ρ'.fz b) = none
          rw [if_neg (fun e => hne (by rw [hv, e]; rfl))]
          exact (hO b hb).2.2
        · have h : (if b = gb then some cur else ρ'.fz b) = some A := h
          by_cases hq : b = gb
          · subst hq
            rw [if_pos rfl] at h
            cases h
            exact .inr ⟨hOg, _, _, hcur⟩
          · rw [if_neg hq] at h; exact .inl h
    have hown2 : ∀ {H' : AHeap} {b : Nat}, Sv.Own ρ2 H' b → Sv.Own ρ' H' b := fun ⟨j, kk, c, h1, h2, h3⟩ => ⟨j, kk, c, h1, h2, by rw [hat] at h3; exact h3⟩
    have hs : SatX { rd := some l, K := fun b => open Classical in if Less O x b then W.heap[b]? else none, R := fun _ _ => False, pin := pin, A := fun j => ρ' j, Z := ρ2.fz, sz := W.heap.size } P w0 F n (T1 x.2.2) (I i).H { tmps := a1 a.tmps (ordV x), defers := [] } W := by
      refine ⟨⟨ρ2, ⟨hT1 ρ2 a.tmps (ordV x) x.2.2 (hTd.mono hle) hden, ⟨fun j kk hj => ?_, fun i1 i2 k1 k2 b c1 c2 q1 q2 q3 q4 => ?_, hH.lt, hH.base, fun b A h => ?_⟩, hG.mono hle⟩, fun j hj => ?_, fun b A h => ?_, ⟨fun b o h => ?_, fun j hj => ⟨?_, fun y hy => ?_⟩, fun b A h => h, Nat.le_refl _, fun b o h => ?_, rfl⟩⟩, hbl, rfl⟩
      · obtain ⟨b, c, o, e1, e2, e3, e4⟩ := hH.blk j kk hj
        exact ⟨b, c, o, hle _ _ e1, e2, e3.mono hle, e4⟩
      · rw [hat] at q3 q4
        exact hH.inj _ _ _ _ _ _ _ q1 q2 q3 q4
      · rcases hfrom b A h with h | ⟨hOb, e', fr, h⟩
        · refine ⟨(hH.fz b A h).1, fun j kk c q1 q2 => (hH.fz b A h).2 j kk c q1 (by rw [hat] at q2; exact q2)⟩
        · refine ⟨⟨e', fr, h⟩, fun j kk c q1 q2 => ?_⟩
          rw [hat] at q2
          exact absurd ⟨j, kk, c, q1, enW (hen i) q1, q2⟩ (hO b hOb).2.1
      · rw [hat]; exact hn j (by rw [hnx] at hj; exact hj)
      · rcases hfrom b A h with h | ⟨hOb, _⟩
        · exact hz b A h
        · exact .inr (hO b hOb).1
      · have h : (open Classical in if Less O x b then W.heap[b]? else none) = some o := h
        split at h
        · rename_i hL
          exact ⟨h, fun hh => (hO b hL.1).2.1 (hown2 hh)⟩
        · cases h
      · rw [hnx]; exact Nat.le_of_ble_eq_true (List.all_eq_true.1 hpn j hj)
      · rw [hat]; exact hy
      · have h : (open Classical in if Less O x b then W.heap[b]? else none) = some o := h
        split at h
        · rename_i hL; exact hz2 b hL.1 hL.2
        · cases h
    have hbg := hbody (pre.map fun x => x.2.2) i x.2.2 hR hgood l (fun b => open Classical in if Less O x b then W.heap[b]? else none) (fun j => ρ' j) ρ2.fz W.heap.size
    refine wpIn_mono (goal_flat hbg _ _ hs 0) fun e' a' w' hh => ?_
    rcases hh with ⟨T', H', h1, h2⟩ | ⟨_, hh⟩
    · cases e' with
      | normal =>
        obtain ⟨j, hRj, rfl⟩ := h1
        obtain ⟨⟨ρ3, hAR3, hn3, hfz3, hk3⟩, hb3, _⟩ := h2
        have hK : ∀ b, Less O x b → ∃ o, W.heap[b]? = some o ∧ (open Classical in if Less O x b then W.heap[b]? else none) = some o := fun b hb => by
          refine ⟨W.heap[b]'(hup b hb.1), Array.getElem?_eq_getElem _, ?_⟩
          rw [if_pos hb]
          exact Array.getElem?_eq_getElem _
        refine ⟨⟨j, ρ3, by simpa using hRj, ?_, hAR3.H, hAR3.G, fun q hq => hn3 q (by rw [hnx]; exact hq), hfz3, hb3, fun b hb => ?_⟩, hb3.os.trans hbl.os.symm, hb3.tape.trans hbl.tape.symm, hb3.output.trans hbl.output.symm, hk3.sz, fun b hlt hnl => ?_⟩
        · exact tden_pins (ρ := ρ') (fun b A h => hk3.z b A (hle.fz _ _ h)) hpin (fun q hq y hy => (hk3.pin q hq).2 y hy) hTd
        · obtain ⟨o, _, ho⟩ := hK b hb
          exact ⟨(hO b hb.1).1, (hk3.k b o ho).2, hk3.kz b o ho⟩
        · have hL : Less O x b := Classical.byContradiction hnl
          obtain ⟨o, ho', ho⟩ := hK b hL
          rw [ho']
          exact (hk3.k b o ho).1
      | _ => exact h1.elim
    · exact hh.elim
  case done =>
    subst hLI
    rintro D xs O W hD hOD hS ⟨i, ρ', hR, hTd, hH, hG, hn, hz, hbl, hO⟩ hdef
    obtain ⟨hD0, hD1, hD2⟩ := hO D hOD
    have hnd : ρ' (I i0).next = none := hn _ (Nat.le_refl _)
    have hle : Le ρ' (ρ'.put (I i0).next D 0) := Env.put_le hnd
    have hput : ∀ j, j ≠ (I i0).next → ρ'.put (I i0).next D 0 j = ρ' j := fun j hj => by simp [Env.put, hj]
    have hget : ∀ j kk, (marked (I i).H).get j = some kk → (j = (I i0).next ∧ kk = .deferred) ∨ (j ≠ (I i0).next ∧ (I i).H.get j = some kk) := fun j kk hj => by
      unfold marked at hj
      rw [AHeap.get_new, hnx] at hj
      split at hj
      · rename_i e1; cases hj; exact .inl ⟨e1.symm, rfl⟩
      · rename_i e1; exact .inr ⟨fun h => e1 h.symm, hj⟩
    have hs : SatX (XM P fn fresh res w0 F (I i0).next D) P w0 F n (I i0).T (marked (I i).H) { a with defers := { target := .collected D, args := #[] } :: a.defers } W := by
      refine ⟨⟨ρ'.put (I i0).next D 0, ⟨hTd.mono hle, ⟨fun j kk hj => ?_, fun i1 i2 k1 k2 b c1 c2 q1 q2 q3 q4 => ?_, fun j kk hj => ?_, hH.base, fun b A h => ⟨(hH.fz b A h).1, fun j kk c q1 q2 => ?_⟩⟩, hG.mono hle⟩, fun j hj => ?_, hz, ⟨fun b o h => (by cases h), fun j hj => (by cases hj), fun b A h => (by cases h), Nat.zero_le _, fun b o h => (by cases h), ⟨D, 0, [], Env.put_same .., rfl, rfl⟩⟩⟩, hbl, by rw [hd]; rfl⟩
      · rcases hget j kk hj with ⟨rfl, rfl⟩ | ⟨h1, h2⟩
        · exact ⟨D, 0, _, Env.put_same .., hdef, rfl, fun _ => hD0⟩
        · obtain ⟨b, c, o, e1, e2, e3, e4⟩ := hH.blk j kk h2
          exact ⟨b, c, o, hle _ _ e1, e2, e3.mono hle, e4⟩
      · rcases hget _ _ q1 with ⟨rfl, rfl⟩ | ⟨h1, h2⟩ <;> rcases hget _ _ q2 with ⟨e1, rfl⟩ | ⟨h3, h4⟩
        · exact e1.symm
        · rw [Env.put_same] at q3; cases q3
          rw [hput _ h3] at q4
          exact absurd ⟨_, _, _, h4, enW (hen i) h4, q4⟩ hD1
        · subst e1
          rw [Env.put_same] at q4; cases q4
          rw [hput _ h1] at q3
          exact absurd ⟨_, _, _, h2, enW (hen i) h2, q3⟩ hD1
        · rw [hput _ h1] at q3
          rw [hput _ h3] at q4
          exact hH.inj _ _ _ _ _ _ _ h2 h4 q3 q4
      · have e1 : (marked (I i).H).next = (I i0).next + 1 := by rw [← hnx i]; rfl
        rw [e1]
        rcases hget j kk hj with ⟨rfl, rfl⟩ | ⟨h1, h2⟩
        · exact Nat.lt_succ_self _
        · have := hH.lt j kk h2
          rw [hnx] at this
          omega
      · rcases hget j kk q1 with ⟨rfl, rfl⟩ | ⟨h1, h2⟩
        · rw [Env.put_same] at q2; cases q2
          have h : ρ'.fz D = some A := h
          rw [hD2] at h; cases h
        · rw [hput _ h1] at q2
          exact (hH.fz b A h).2 j kk c h2 q2
      · have e1 : (marked (I i).H).next = (I i0).next + 1 := by rw [← hnx i]; rfl
        rw [e1] at hj
        rw [hput _ (by omega)]
        exact hn j (by omega)
    have hr := GoalW.full (hrest (xs.map fun x => x.2.2) i hS hR D) _ _ hs k
    show WL _ _ _ _ _ _ _
    refine WL_mono ?_ hr
    rintro e' a' w' (⟨T', H', ⟨rfl, h1⟩, h2⟩ | hh)
    · refine .inr ⟨rfl, ?_⟩
      obtain ⟨⟨ρ3, hAR3, hn3, hfz3, hk3⟩, hb3, hd3⟩ := h2
      exact leave_ok hF hAR3 (by rw [hd3]; exact hk3.dm) hfz3 hb3 h1
    · exact .inr hh
end
end
end Go.Proofs.YtbldpojkpmafpaaGreatDoor
