/- The runner over an abstract memory: loops over functions; any code. -/
import Derived.Test.YtcdknjkkaonbiaaGreatDoorSxCode2
namespace Go.Proofs.YtcdknjkkaonbiaaGreatDoor.Sx
open Go.RowKit
section
variable {P : Program} {B : Nat} {ρ : Env} {n : Nat} {T : Tr AV} {H : AHeap} {a : Act} {w : World}

theorem HDen.lt_size (hH : HDen P B ρ H w) {i b c : Nat} {k : ABlk} (hi : H.get i = some k) (hr : ρ i = some (b, c)) : b < w.heap.size := by
  obtain ⟨o, h1, _⟩ := hH.at hi hr
  exact (Array.getElem?_eq_some_iff.1 h1).1
/-- a loop's record turned -/
theorem sim_loop (hH : HDen P B ρ H w) {i b c : Nat} {k0 : ABlk} (hi : H.get i = some k0) (hr : ρ i = some (b, c)) (hro : k0.isRo = false) {r : ALoop} {R : Loop} (hd : LoopDen ρ r R) : HDen P B ρ (H.set i (.loop r)) (w.putObj b (.loop R)) ∧ Stp ρ H w ρ (H.set i (.loop r)) (w.putObj b (.loop R)) :=
  sim_set hH hi hr hro _ _ rfl rfl rfl (by simp) (World.putObj_heap_same (hH.lt_size hi hr)) (fun j hj => World.putObj_heap_other hj) ⟨R, rfl, hd⟩
theorem loop_at (hH : HDen P B ρ H w) {i b c : Nat} {r : ALoop} (hi : H.get i = some (.loop r)) (hr : ρ i = some (b, c)) : ∃ R, w.heap[b]? = some (.loop R) ∧ LoopDen ρ r R := by
  obtain ⟨o, h1, h2, _⟩ := hH.at hi hr
  obtain ⟨R, rfl, h3⟩ := h2
  exact ⟨R, h1, h3⟩

theorem setPairs_ok : ∀ (l : List (Tmp × AV)) (l' : List (Tmp × Value)) {T : Tr AV} {xs : Array Value}, l.map Prod.fst = l'.map Prod.fst → Dens ρ (l.map Prod.snd) (l'.map Prod.snd) → (∀ p ∈ l, p.1 < n) → TDen ρ T n xs →
    TDen ρ (setPairs T l) n (l'.foldl (fun tmps p => tmps.setIfInBounds p.1 p.2) xs)
  | [], [], T, xs, _, _, _, h => h
  | [], _ :: _, _, _, h, _, _, _ => by simp at h
  | _ :: _, [], _, _, h, _, _, _ => by simp at h
  | (t, v) :: l, (t', x) :: l', T, xs, h, hd, hb, hT => by
    simp only [List.map_cons, List.cons.injEq] at h
    obtain ⟨rfl, h⟩ := h
    cases hd with
    | cons h1 h2 =>
      refine setPairs_ok l l' h h2 (fun p hp => hb p (List.mem_cons_of_mem _ hp)) ?_
      have hlt : t < xs.size := by rw [hT.size]; exact hb (t, v) List.mem_cons_self
      refine ⟨by simp [hT.size], fun u => ?_⟩
      rw [Tr.get_set]
      show Den ρ _ ((xs.setIfInBounds t x).getD u undef)
      rw [getD_set _ _ _ _ _ hlt]
      by_cases he : t = u
      · subst he; simpa using h1
      · rw [if_neg he, if_neg (fun e => he e.symm)]; exact hT.get u

/-- the end of a round -/
theorem aroundEnd_some {i : Nat} {r : R} {v : AV} {H' : AHeap} (h : aroundEnd i r = .ok v H') : ∃ (e : Exit) (T1 : Tr AV) (H1 : AHeap) (m1 : List Nat) (r1 : ALoop) (j : Option Code), r.out = some (e, T1, H1, m1) ∧ H1.get i = some (.loop r1) ∧ v = .raw (.bool j.isNone) ∧
    H' = H1.set i (.loop { r1 with state := if j.isNone then .ready else .done, pending := j }) ∧ (e = .normal ∧ j = none ∨ e = .ret ∧ j = some .ret ∨ (∃ id, e = .exit id ∧ j = some (.exit id)) ∨ (∃ l, e = .goto l ∧ j = some (.goto l))) := by
  cases r with
  | no => cases h
  | normal T1 H1 m1 =>
    simp only [aroundEnd] at h
    split at h
    · rename_i r1 hg; cases h; exact ⟨_, T1, H1, m1, r1, none, rfl, hg, rfl, rfl, .inl ⟨rfl, rfl⟩⟩
    · cases h
  | ret T1 H1 m1 =>
    simp only [aroundEnd] at h
    split at h
    · rename_i r1 hg; cases h; exact ⟨_, T1, H1, m1, r1, some .ret, rfl, hg, rfl, rfl, .inr (.inl ⟨rfl, rfl⟩)⟩
    · cases h
  | exit id T1 H1 m1 =>
    simp only [aroundEnd] at h
    split at h
    · rename_i r1 hg; cases h; exact ⟨_, T1, H1, m1, r1, some (.exit id), rfl, hg, rfl, rfl, .inr (.inr (.inl ⟨id, rfl, rfl⟩))⟩
    · cases h
  | goto l T1 H1 m1 =>
    simp only [aroundEnd] at h
    split at h
    · rename_i r1 hg; cases h; exact ⟨_, T1, H1, m1, r1, some (.goto l), rfl, hg, rfl, rfl, .inr (.inr (.inr ⟨l, rfl, rfl⟩))⟩
    · cases h

theorem around_some {ih : Runner} {i : Nat} {args : List AV} {v : AV} {H' : AHeap} (h : around ih i args H = .ok v H') : ∃ r, H.get i = some (.loop r) ∧ args.length = r.params.size ∧ (∀ t ∈ r.params.toList, t < r.size) ∧
    ∃ T1 H1 r', (ih r.assign r.size true (setPairs r.tmps (r.params.toList.zip args)) H []).out = some (.normal, T1, H1, []) ∧ H1.get i = some (.loop r') ∧ r'.state = .ready ∧
      aroundEnd i (ih r.body r.size true T1 (H1.set i (.loop { r' with state := .busy })) []) = .ok v H' := by
  unfold around at h
  split at h
  · rename_i r hg
    split at h
    · cases hb : (Nat.beq args.length r.params.size && r.params.toList.all fun t => Nat.ble (t + 1) r.size) with
      | false => rw [hb] at h; cases h
      | true =>
        rw [hb] at h
        rw [Bool.and_eq_true] at hb
        simp only [cond_true] at h
        refine ⟨r, hg, Nat.eq_of_beq_eq_true hb.1, fun t ht => Nat.le_of_ble_eq_true (List.all_eq_true.1 hb.2 t ht), ?_⟩
        split at h
        · rename_i T1 H1 hr
          split at h
          · rename_i r' hg'
            split at h
            · rename_i hs
              exact ⟨T1, H1, r', by rw [hr]; rfl, hg', hs, h⟩
            · cases h
          · cases h
        · cases h
    · cases h
  · cases h

theorem around_ok {ih : Runner} (hI : RunOk P ih) : RoundOk P (around ih) where
  mono i args H v H' h := by
    obtain ⟨r, _, _, _, T1, H1, r', h1, _, _, h2⟩ := around_some h
    obtain ⟨e, T2, H2, m2, r1, j, k1, _, _, rfl, _⟩ := aroundEnd_some h2
    have a1 := hI.mono _ _ _ _ _ _ _ _ _ _ h1
    have a2 := hI.mono _ _ _ _ _ _ _ _ _ _ k1
    exact Nat.le_trans a1 a2
  sim i args H v H' h B ρ xs w b c m hH hG hr hd hf := by
    obtain ⟨r, hg, hlen, hpar, T1, H1, r', h1, hg1, hst, h2⟩ := around_some h
    obtain ⟨e, T2, H2, m2, r1, j, k1, hg2, rfl, rfl, hj⟩ := aroundEnd_some h2
    have a1 := hI.mono _ _ _ _ _ _ _ _ _ _ h1
    have a2 := hI.mono _ _ _ _ _ _ _ _ _ _ k1
    have a2' : H1.next ≤ H2.next := a2
    obtain ⟨R, hb, hR⟩ := loop_at hH hg hr
    have hl := hd.length
    have hy := run_yield (P := P) (args := xs.toArray) hb (by rw [hR.params]; simp; omega)
    refine ⟨_, _, _, _, hy, roundIn_of_wpIn trivial ?_⟩
    -- the slots of the round
    have hT0 : TDen ρ (setPairs r.tmps (r.params.toList.zip args)) r.size ((R.params.zip xs.toArray).foldl (fun tmps (t, a) => tmps.setIfInBounds t a) R.tmps) := by
      have e1 : (R.params.zip xs.toArray).foldl (fun tmps (t, a) => tmps.setIfInBounds t a) R.tmps = (r.params.toList.zip xs).foldl (fun tmps p => tmps.setIfInBounds p.1 p.2) R.tmps := by
        rw [← Array.foldl_toList, hR.params]
        congr 1
        simp
      rw [e1]
      have hz : ∀ {α : Type} (l : List Nat) (ys : List α), ys.length = l.length → (l.zip ys).map Prod.fst = l ∧ (l.zip ys).map Prod.snd = ys := fun l ys hh => ⟨by rw [List.map_fst_zip]; omega, by rw [List.map_snd_zip]; omega⟩
      have z1 := hz r.params.toList args (by simpa using hlen)
      have z2 := hz r.params.toList xs (by rw [hl]; simpa using hlen)
      exact setPairs_ok _ _ (by rw [z1.1, z2.1]) (by rw [z1.2, z2.2]; exact hd) (fun p hp => hpar p.1 (List.of_mem_zip hp).1) hR.tmps
    rw [hR.assign, hR.body]
    refine hI.sim _ _ _ _ _ _ _ _ _ _ h1 B ρ _ w (some b) m _ rfl ⟨hT0, hH, hG⟩ rfl (fun x y z => hf x y (Nat.lt_of_lt_of_le z a2')) fun ρ1 a1_ w1 hA hS hD => ?_
    have hD : a1_.defers = [] := hD
    have hr1 : ρ1 i = some (b, c) := hS.le _ _ hr
    obtain ⟨R1, hb1, hR1⟩ := loop_at hA.H hg1 hr1
    have hbr := run_beginRound (P := P) hb1 (by rw [hR1.state, hst])
    refine ⟨_, hbr, ?_⟩
    obtain ⟨q1, q2⟩ := sim_loop hA.H hg1 hr1 rfl (r := { r' with state := .busy }) (R := { R1 with state := .busy }) ⟨rfl, hR1.pending, hR1.params, hR1.assign, hR1.body, hR1.tmps⟩
    refine hI.sim _ _ _ _ _ _ _ _ _ _ k1 B ρ1 a1_ _ (some b) m _ rfl (hA.next hA.T q1 q2) hD ((hS.trans q2).fr hf) fun ρ2 a2_ w2 hA2 hS2 _ => ?_
    have hr2 : ρ2 i = some (b, c) := hS2.le _ _ hr1
    obtain ⟨R2, hb2, hR2⟩ := loop_at hA2.H hg2 hr2
    have her := run_endRound (P := P) j hb2
    obtain ⟨q3, q4⟩ := sim_loop hA2.H hg2 hr2 rfl (r := { r1 with state := if j.isNone then .ready else .done, pending := j }) (R := { R2 with state := if j.isNone then .ready else .done, pending := j }) ⟨rfl, rfl, hR2.params, hR2.assign, hR2.body, hR2.tmps⟩
    have fin : ∃ v' w', (Instr.endRound b j).run P w2 = .ok v' w' ∧ CallPost P B ρ H w (.raw (.bool j.isNone)) (H2.set i (.loop { r1 with state := if j.isNone then .ready else .done, pending := j })) (.returned v') w' :=
      ⟨_, _, her, _, ρ2, rfl, .raw _, q3, ((hS.trans q2).trans hS2).trans q4⟩
    rcases hj with ⟨rfl, rfl⟩ | ⟨rfl, rfl⟩ | ⟨id, rfl, rfl⟩ | ⟨l, rfl, rfl⟩ <;> exact fin
end
end Go.Proofs.YtcdknjkkaonbiaaGreatDoor.Sx
