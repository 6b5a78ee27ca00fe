/- The runner over an abstract memory: code, calls. -/
import Derived.Test.YtcdknjkkaonbiaaGreatDoorSxCode1
import Derived.LoopNIn
import Derived.RangeFuncIn
import Derived.RangeFuncLeaves
import Derived.RangeFuncRecord
namespace Go.Proofs.YtcdknjkkaonbiaaGreatDoor.Sx
open Go.RowKit

def R.out : R → Option (Exit × Tr AV × AHeap × List Nat)
  | .no => none
  | .normal T H m => some (.normal, T, H, m)
  | .exit id T H m => some (.exit id, T, H, m)
  | .goto l T H m => some (.goto l, T, H, m)
  | .ret T H m => some (.ret, T, H, m)

/-- the marks of the loops over functions -/
def DM (ρ : Env) : List Nat → List Deferred → Prop
  | [], ds => ds = []
  | i :: m, ds => ∃ b c ds', ρ i = some (b, c) ∧ ds = { target := .collected b, args := #[] } :: ds' ∧ DM ρ m ds'
theorem DM.mono {ρ ρ' : Env} (hl : Le ρ ρ') : ∀ {m : List Nat} {ds : List Deferred}, DM ρ m ds → DM ρ' m ds
  | [], _, h => h
  | _ :: _, _, ⟨b, c, ds', h1, h2, h3⟩ => ⟨b, c, ds', hl _ _ h1, h2, DM.mono hl h3⟩

structure RunOk (P : Program) (ih : Runner) : Prop where
  mono : ∀ c n rnd T H m e T' H' m', (ih c n rnd T H m).out = some (e, T', H', m') → H.next ≤ H'.next
  sim : ∀ c n rnd T H m e T' H' m', (ih c n rnd T H m).out = some (e, T', H', m') → ∀ B ρ a w rd k (Q : Exit → Act → World → Prop), rd.isSome = rnd → AR P B ρ n T H a w → DM ρ m a.defers → Fr ρ H.next H'.next →
    (∀ ρ' a' w', AR P B ρ' n T' H' a' w' → Stp ρ H w ρ' H' w' → DM ρ' m' a'.defers → Q e a' w') → c.wpIn (FF rd) k P Q a w
structure DrawOk (P : Program) (draw : Drawer) : Prop where
  mono : ∀ call round, CallOk P call → RoundOk P round → ∀ ops n T H T' H', draw call round ops n T H = .mk T' H' → H.next ≤ H'.next
  sim : ∀ call round, CallOk P call → RoundOk P round → ∀ id ops n T H T' H', draw call round ops n T H = .mk T' H' → ∀ B ρ a w rd k (Q : Exit → Act → World → Prop), AR P B ρ n T H a w → Fr ρ H.next H'.next →
    (∀ ρ' a' w', AR P B ρ' n T' H' a' w' → Stp ρ H w ρ' H' w' → a'.defers = a.defers → Q .normal a' w') → (Code.region id ops true).wpIn (FF rd) k P Q a w

section
variable {P : Program} {B : Nat} {ρ : Env} {n : Nat} {T : Tr AV} {H : AHeap} {a : Act} {w : World}

theorem range_map (ops : Array Oper) : (List.range ops.size).map (ops[·]?) = ops.toList.map some := by
  apply List.ext_getElem?
  intro i
  simp only [List.getElem?_map]
  by_cases h : i < ops.size
  · simp [h]
  · simp [h]

theorem stepR_scope {b : Frame} {k : List Item} {cs : List Frame} {c : Code} : step P (lone (b.atR a (.code (.scope c) :: k)) cs w) = .next (lone (b.atR a (.code c :: .inScope c :: k)) cs w) :=
  step_lone_go (by simp [stepG, stepG.exec, Frame.atR])
theorem stepR_inScope {b : Frame} {k : List Item} {cs : List Frame} {c : Code} : step P (lone (b.atR a (.inScope c :: k)) cs w) = .next (lone (b.atR a k) cs w) :=
  step_lone_go (by simp [stepG, stepG.exec, Frame.atR])
theorem wpIn_scope_straight {F : Fence} {n : Nat} {Q : Exit → Act → World → Prop} {c : Code} (h : c.wpIn F n P (Exit.noGoto Q) a w) : (Code.scope c).wpIn F n P Q a w := by
  intro b k cs hro hb hr
  obtain ⟨e, a₁, w₁, hq, harr⟩ := h b (.inScope c :: k) cs hro hb hr
  have h0 : (lone (b.atR a (.code (.scope c) :: k)) cs w).fenced P F := fenced_calm hb hr rfl
  cases e with
  | normal => exact ⟨.normal, a₁, w₁, hq, .head h0 stepR_scope (StepsIn.trans harr (.one (fenced_calm (fr := b.atR a₁ (.inScope c :: k)) hb hr rfl) stepR_inScope))⟩
  | exit id =>
    have hx : exitTo id (.inScope c :: k) = exitTo id k := by simp [exitTo]
    exact ⟨.exit id, a₁, w₁, hq, fun k' hk => .head h0 stepR_scope (harr.1 k' (by rw [hx]; exact hk)), fun hr' hk => let ⟨k₁, h1, h2⟩ := harr.2 hr' (by rw [hx]; exact hk); ⟨k₁, h1, .head h0 stepR_scope h2⟩⟩
  | goto l => exact hq.elim
  | ret => exact ⟨_, a₁, w₁, hq, .of_steps (.one h0 stepR_scope) harr⟩
  | panic ch => exact ⟨_, a₁, w₁, hq, .of_steps (.one h0 stepR_scope) harr⟩
  | outgrown => exact ⟨_, a₁, w₁, hq, .of_steps (.one h0 stepR_scope) harr⟩

/-! ### a call -/
theorem initT_get : ∀ (l : List AV) (T : Tr AV) (k t : Nat), (initT l T k).get t = if k ≤ t ∧ t < k + l.length then l[t - k]? else T.get t
  | [], T, k, t => by
    have e : initT [] T k = T := rfl
    rw [e, if_neg (by simp only [List.length_nil]; omega)]
  | v :: l, T, k, t => by
    have e : initT (v :: l) T k = initT l (T.set k (some v)) (Nat.succ k) := rfl
    rw [e, initT_get l _ (Nat.succ k) t, Tr.get_set]
    by_cases h1 : t = k
    · subst h1
      rw [if_neg (by omega), if_pos rfl, if_pos (by simp)]
      simp
    · by_cases h2 : Nat.succ k ≤ t ∧ t < Nat.succ k + l.length
      · rw [if_pos h2, if_pos (by simp; omega)]
        have : t - k = (t - Nat.succ k) + 1 := by omega
        rw [this]; simp
      · rw [if_neg h2, if_neg (fun e => h1 e.symm), if_neg (by simp; omega)]
theorem initT_ok {args : List AV} {xs : List Value} (hd : Dens ρ args xs) {n : Nat} (hn : args.length ≤ n) : TDen ρ (initT args .nil 0) n (xs.toArray ++ Array.replicate (n - xs.toArray.size) undef) := by
  have hl := hd.length
  refine ⟨by simp; omega, fun t => ?_⟩
  rw [initT_get, Tr.get_nil, Array.getD_eq_getD_getElem?, Array.getElem?_append]
  by_cases h : t < xs.length
  · rw [if_pos ⟨Nat.zero_le _, by omega⟩, if_pos (by simpa using h)]
    have hv : args[t]? = some (args[t]'(by omega)) := List.getElem?_eq_getElem (by omega)
    obtain ⟨x, h1, h2⟩ := hd.get hv
    simp only [Nat.sub_zero, hv, Option.getD_some, List.getElem?_toArray, h1]
    exact h2
  · rw [if_neg (by omega), if_neg (by simpa using h)]
    simp only [Option.getD_none, Array.getElem?_replicate]
    split <;> exact .raw _

def resOne (tmps : Array Value) : ResultVar → Sem Value
  | .tmp t => pure (tmps.getD t undef)
  | .cell ad t => do loadVar t (← asAddr (tmps.getD ad undef))
theorem aresult_ok (hAR : AR P B ρ n T H a w) {r : ResultVar} {v : AV} (h : aresult P T H r = some v) : ∃ y, (resOne a.tmps r).run P w = .ok y w ∧ Den ρ v y := by
  cases r with
  | tmp t => cases h; exact ⟨_, rfl, hAR.T.get t⟩
  | cell ad t =>
    simp only [aresult] at h
    split at h
    · rename_i i off ht
      have hp := hAR.T.get ad
      rw [ht] at hp
      obtain ⟨b, c, h1, h2⟩ := hp.ptr_inv
      split at h
      · rename_i el cs ex frz ro hg
        obtain ⟨xs, fz, g1, _, g3, _⟩ := cells_at hAR.H hg h1
        obtain ⟨y, k1, k2⟩ := aload_ok g1 g3 h
        exact ⟨y, by simp [resOne, h2, asAddr, k1], k2⟩
      · cases h
    · cases h
theorem aresultL_ok (hAR : AR P B ρ n T H a w) : ∀ {rs : List ResultVar} {vs : List AV}, aresultL P T H rs = some vs → ∃ ys, (rs.mapM (resOne a.tmps)).run P w = .ok ys w ∧ Dens ρ vs ys
  | [], vs, h => by cases h; exact ⟨[], by simp, .nil⟩
  | r :: rs, vs, h => by
    simp only [aresultL, Option.bind_eq_some_iff, Option.map_eq_some_iff] at h
    obtain ⟨v, hv, vs', hvs, rfl⟩ := h
    obtain ⟨y, h1, h2⟩ := aresult_ok hAR hv
    obtain ⟨ys, h3, h4⟩ := aresultL_ok hAR hvs
    refine ⟨y :: ys, ?_, .cons h2 h4⟩
    rw [List.mapM_cons]
    simp only [Sem.run_bind, h1, Result.andThen_ok, h3, Sem.run_pure]
theorem results_run (fn : Func) (tmps : Array Value) (w : World) : (results fn tmps).run P w = (((fn.results.toList.mapM (resOne tmps)).run P w).andThen fun (a : List Value) w' => .ok a.toArray w').andThen fun (a : Array Value) w' => .ok (if h : a.size = 1 then a[0] else .tuple a) w' := by
  unfold results
  rw [Array.mapM_eq_mapM_toList]
  simp only [Sem.run_bind, Sem.run_map, Sem.run_pure]
  rfl
theorem aresults_ok (hAR : AR P B ρ n T H a w) {fn : Func} {v : AV} {H' : AHeap} (h : aresults P fn T H = .ok v H') : H' = H ∧ ∃ y, (results fn a.tmps).run P w = .ok y w ∧ Den ρ v y := by
  have key : ∀ vs, aresultL P T H fn.results.toList = some vs → ∃ ys : List Value, (results fn a.tmps).run P w = .ok (if h : ys.toArray.size = 1 then ys.toArray[0] else .tuple ys.toArray) w ∧ Dens ρ vs ys := by
    intro vs hvs
    obtain ⟨ys, h1, h2⟩ := aresultL_ok hAR hvs
    refine ⟨ys, ?_, h2⟩
    rw [results_run, h1]
    rfl
  unfold aresults at h
  split at h
  · rename_i v' hvs
    cases h
    obtain ⟨ys, h1, h2⟩ := key _ hvs
    cases h2 with
    | cons h3 h4 => cases h4 with
      | nil => exact ⟨rfl, _, h1, h3⟩
  · rename_i vs hno hvs
    cases h
    obtain ⟨ys, h1, h2⟩ := key _ hvs
    have hl := h2.length
    have hne : ¬ ys.toArray.size = 1 := fun hh => by
      have : vs.length = 1 := by rw [← hl]; simpa using hh
      match vs, this with
      | [v], _ => exact hno v rfl
    rw [dif_neg hne] at h1
    exact ⟨rfl, _, h1, .tuple h2⟩
  · cases h

/-- a block of the runner's own, given up, turned to whatever -/
theorem sim_kill (hH : HDen P B ρ H w) {i b c : Nat} {k0 : ABlk} (hi : H.get i = some k0) (hr : ρ i = some (b, c)) (hro : k0.isRo = false) (w' : World) (hos : w'.os = w.os) (ht : w'.tape = w.tape) (hout : w'.output = w.output) (hs : w'.heap.size = w.heap.size)
    (hother : ∀ j, j ≠ b → w'.heap[j]? = w.heap[j]?) : HDen P B ρ (H.drop i) w' ∧ Stp ρ H w ρ (H.drop i) w' := by
  have g : ∀ j k, (H.drop i).get j = some k → j ≠ i ∧ H.get j = some k := fun j k hj => by
    rw [AHeap.get_drop] at hj
    split at hj
    · cases hj
    · rename_i e; exact ⟨fun x => e x.symm, hj⟩
  refine ⟨⟨fun j k hj => ?_, fun x y kx ky bb cx cy hx hy => hH.inj x y kx ky bb cx cy (g x kx hx).2 (g y ky hy).2, fun j k hj => hH.lt j k (g j k hj).2, by rw [hs]; exact hH.base⟩,
    ⟨Le.refl _, fun _ _ => rfl, Nat.le_refl _, Nat.le_of_eq hs.symm, hos, ht, hout, fun b' _ ho => hother b' (fun e => ho (e ▸ ⟨i, k0, c, hi, hro, hr⟩)), fun b' _ ⟨j, k, cc, h1, h2⟩ => ⟨j, k, cc, (g j k h1).2, h2⟩, fun b' _ ⟨j, k, cc, h1, h2⟩ => ⟨j, k, cc, (g j k h1).2, h2⟩⟩⟩
  obtain ⟨h1, h2⟩ := g j k hj
  obtain ⟨b', c', o, e1, e2, e3, e4⟩ := hH.blk j k h2
  exact ⟨b', c', o, e1, by rw [hother b' (fun e => h1 (hH.inj j i k k0 b' c' c h2 hi e1 (e ▸ hr)))]; exact e2, e3, e4⟩

theorem aleave_ok {fn : Func} {v : AV} {H' : AHeap} {R : Ending → World → Prop} {k : Nat} : ∀ (m : List Nat) {ρ : Env} {H : AHeap} {w : World} {ds : List Deferred}, AR P B ρ n T H a w → DM ρ m ds → aleave P fn T H m = .ok v H' →
    (∀ y w', Den ρ v y → HDen P B ρ H' w' → Stp ρ H w ρ H' w' → R (.returned y) w') → LeavesInM (FF none) k P fn a.tmps R ds .returning w
  | [], ρ, H, w, ds, hAR, hm, h, hR => by
    have hm : ds = [] := hm
    subst hm
    obtain ⟨rfl, y, h1, h2⟩ := aresults_ok hAR h
    exact ⟨y, h1, hR y w h2 hAR.H (Stp.refl _ _ _)⟩
  | i :: m, ρ, H, w, ds, hAR, hm, h, hR => by
    obtain ⟨b, c, ds', h1, rfl, h3⟩ := hm
    have e : aleave P fn T H (i :: m) = @Option.rec AHeap (fun _ => VR) .no (fun H => aresults P fn T H) (closeM (i :: m) H) := rfl
    rw [e] at h
    unfold closeM at h
    split at h
    · rename_i hg
      obtain ⟨o, g1, g2, _⟩ := hAR.H.at hg h1
      have g2 : o = .deferred (some []) := g2
      subst g2
      have ht := run_takeDeferred (P := P) g1
      obtain ⟨q1, q2⟩ := sim_kill hAR.H hg h1 rfl (w.putObj b (.deferred none)) rfl rfl rfl (by simp) (fun j hj => World.putObj_heap_other hj)
      refine ⟨(fun hh => by cases hh), .inl ⟨b, _, rfl, ht, ?_⟩⟩
      refine aleave_ok m (hAR.next hAR.T q1 q2) h3 h fun y w' r1 r2 r3 => hR y w' r1 r2 (q2.trans r3)
    · cases h
theorem closeM_mono : ∀ (m : List Nat) {H H' : AHeap}, closeM m H = some H' → H.next = H'.next
  | [], H, H', h => by cases h; rfl
  | i :: m, H, H', h => by
    unfold closeM at h
    split at h
    · exact closeM_mono m (H := H.drop i) h
    · cases h
theorem aleave_mono {fn : Func} {v : AV} {H' : AHeap} {m : List Nat} (h : aleave P fn T H m = .ok v H') : H.next = H'.next := by
  unfold aleave at h
  cases hc : closeM m H with
  | none => rw [hc] at h; cases h
  | some H1 =>
    rw [hc] at h
    have h : aresults P fn T H1 = .ok v H' := h
    unfold aresults at h
    rw [closeM_mono m hc]
    split at h <;> cases h <;> rfl

theorem acall_some {ih : Runner} {f : FuncId} {args : List AV} {v : AV} {H' : AHeap} (h : acall P ih f args H = .ok v H') : ∃ fn c, P.funcs[f]? = some fn ∧ fn.body = some c ∧ args.length ≤ fn.ntmps ∧
    ∃ e T1 H1 m1, (ih c fn.ntmps false (initT args .nil 0) H []).out = some (e, T1, H1, m1) ∧ (e = .normal ∨ e = .ret) ∧ aleave P fn T1 H1 m1 = .ok v H' := by
  unfold acall at h
  cases hf : P.funcs[f]? with
  | none => rw [hf] at h; cases h
  | some fn =>
    rw [hf] at h
    simp only at h
    cases hb : fn.body with
    | none => rw [hb] at h; cases h
    | some c =>
      rw [hb] at h
      simp only at h
      unfold acallB at h
      cases hn : Nat.ble args.length fn.ntmps with
      | false => rw [hn] at h; cases h
      | true =>
        rw [hn] at h
        simp only at h
        refine ⟨fn, c, rfl, hb, Nat.le_of_ble_eq_true hn, ?_⟩
        cases hr : ih c fn.ntmps false (initT args .nil 0) H [] with
        | no => rw [hr] at h; cases h
        | normal T1 H1 m1 => rw [hr] at h; exact ⟨_, _, _, _, rfl, .inl rfl, h⟩
        | exit _ _ _ _ => rw [hr] at h; cases h
        | goto _ _ _ _ => rw [hr] at h; cases h
        | ret T1 H1 m1 => rw [hr] at h; exact ⟨_, _, _, _, rfl, .inr rfl, h⟩
theorem acall_ok {ih : Runner} (hI : RunOk P ih) : CallOk P (acall P ih) where
  mono f args H v H' h := by
    obtain ⟨fn, c, _, _, _, e, T1, H1, m1, ho, _, hl⟩ := acall_some h
    exact Nat.le_trans (hI.mono _ _ _ _ _ _ _ _ _ _ ho) (Nat.le_of_eq (aleave_mono hl))
  sim f args H v H' h B ρ xs w m hH hG hd hf := by
    obtain ⟨fn, c, hfn, hb, hn, e, T1, H1, m1, ho, he, hl⟩ := acall_some h
    have hnx := aleave_mono hl
    refine callsIn_of_wp_marks hfn hb trivial ?_
    refine hI.sim _ _ _ _ _ _ _ _ _ _ ho B ρ _ w none m _ rfl ⟨initT_ok hd hn, hH, hG⟩ rfl (by rw [hnx]; exact hf) fun ρ' a' w' h1 h2 h3 => ?_
    have : LeavesInM (FF none) m P fn a'.tmps (CallPost P B ρ H w v H') a'.defers .returning w' := aleave_ok m1 h1 h3 hl fun y w2 r1 r2 r3 => ⟨y, ρ', rfl, r1, r2, h2.trans r3⟩
    rcases he with rfl | rfl <;> exact this
end
end Go.Proofs.YtcdknjkkaonbiaaGreatDoor.Sx
