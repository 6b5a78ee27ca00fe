/- The runner over an abstract memory: any code. -/
import Derived.Test.YtcdknjkkaonbiaaGreatDoorSxCode3
namespace Go.Proofs.YtcdknjkkaonbiaaGreatDoor.Sx
open Go.RowKit
section
variable {P : Program} {B : Nat} {ρ : Env} {n : Nat} {T : Tr AV} {H : AHeap} {a : Act} {w : World}

theorem acallee_func {fv : AV} {v : Value} (hv : Den ρ fv v) {args : List AV} {g : FuncId} {as : List AV} {H2 : AHeap} (h : acallee P fv args H = .enter g as H2) : ∃ fn first captured, v = .func fn first captured := by
  unfold acallee at h
  split at h
  · rename_i x
    have := hv.raw_eq; subst this
    cases hg : rawG v with
    | fn f =>
      unfold rawG at hg
      split at hg
      · exact ⟨_, _, _, rfl⟩
      · cases hg
    | no =>
      rw [hg] at h
      simp only at h
      split at h
      · exact ⟨_, _, _, rfl⟩
      · cases h
  · obtain ⟨fs, cs, _, _, rfl⟩ := hv.func_inv
    exact ⟨_, _, _, rfl⟩
  · cases h
  · cases h

theorem arangeEnd_some {ih : Runner} {D : Nat} {m : List Nat} {vr : VR} {e : Exit} {T' : Tr AV} {H' : AHeap} {m' : List Nat} (h : (arangeEnd ih n T D m vr).out = some (e, T', H', m')) : ∃ v H3 r, vr = .ok v H3 ∧ H3.get (D + 1) = some (.loop r) ∧ r.state ≠ .busy ∧
    (r.pending = none ∧ e = .normal ∧ T' = T ∧ H' = H3.set (D + 1) (.loop { r with state := .exhausted }) ∧ m' = D :: m ∨
      ∃ c, r.pending = some c ∧ (ih c n false T (H3.set (D + 1) (.loop { r with state := .exhausted })) (D :: m)).out = some (e, T', H', m')) := by
  unfold arangeEnd at h
  split at h
  · rename_i v H3
    split at h
    · rename_i r hg
      split at h
      · cases h
      · rename_i hs
        refine ⟨v, H3, r, rfl, hg, fun hh => hs hh, ?_⟩
        split at h
        · rename_i hp; cases h; exact .inl ⟨hp, rfl, rfl, rfl, rfl⟩
        · rename_i c hp; exact .inr ⟨c, hp, h⟩
    · cases h
  · cases h

theorem arange_some {ih : Runner} {f : Operand} {params : Array Tmp} {assign body : Code} {m : List Nat} {e : Exit} {T' : Tr AV} {H' : AHeap} {m' : List Nat} (h : (arange P ih f params assign body n T H m).out = some (e, T', H', m')) :
    ∃ g args H2, acallee P (evT T f) [.yield (H.next + 1)] ((H.new .deferred).new (.loop { tmps := T, size := n, params, assign, body, state := .ready, pending := none })) = .enter g args H2 ∧
      (arangeEnd ih n T H.next m (acall P ih g args H2)).out = some (e, T', H', m') := by
  unfold arange at h
  split at h
  · rename_i g args H2 hc; exact ⟨g, args, H2, hc, h⟩
  · cases h

theorem enter_same {fv : AV} {args : List AV} {g : FuncId} {as : List AV} {H2 : AHeap} (h : acallee P fv args H = .enter g as H2) : H2 = H := by
  have go : ∀ {f : FuncId} {l : List AV}, aenter P f l H = .enter g as H2 → H2 = H := fun {f l} h => by
    unfold aenter at h
    cases hf : P.funcs[f]? with
    | none => rw [hf] at h; cases h
    | some fn =>
      rw [hf] at h
      simp only at h
      cases hb : fn.body with
      | none =>
        rw [hb] at h
        simp only at h
        cases hx : aextern P f fn l H with
        | none => rw [hx] at h; cases h
        | some q => rw [hx] at h; cases h
      | some c => rw [hb] at h; cases h; rfl
  unfold acallee at h
  split at h
  · rename_i x
    cases hg : rawG x with
    | fn f => rw [hg] at h; exact go h
    | no =>
      rw [hg] at h
      simp only at h
      split at h
      · exact go h
      · cases h
  · exact go h
  · cases h
  · cases h

theorem arange_mono {ih : Runner} (hI : RunOk P ih) {f : Operand} {params : Array Tmp} {assign body : Code} {m : List Nat} {e : Exit} {T' : Tr AV} {H' : AHeap} {m' : List Nat} (h : (arange P ih f params assign body n T H m).out = some (e, T', H', m')) : H.next + 2 ≤ H'.next := by
  obtain ⟨g, args, H2, h1, h2⟩ := arange_some h
  have hH2 := enter_same h1
  obtain ⟨v, H3, r, h3, h4, h5, h6⟩ := arangeEnd_some h2
  have hc := (acall_ok hI).mono _ _ _ _ _ h3
  have e2 : H2.next = H.next + 2 := by rw [hH2]; rfl
  rcases h6 with ⟨_, _, _, rfl, _⟩ | ⟨c, _, h7⟩
  · show H.next + 2 ≤ H3.next
    omega
  · have := hI.mono _ _ _ _ _ _ _ _ _ _ h7
    have e3 : (H3.set (H.next + 1) (ABlk.loop { r with state := .exhausted })).next = H3.next := rfl
    omega

theorem arange_ok (hK : Known P) {ih : Runner} (hI : RunOk P ih) {f : Operand} {params : Array Tmp} {assign body : Code} {m : List Nat} {e : Exit} {T' : Tr AV} {H' : AHeap} {m' : List Nat} (h : (arange P ih f params assign body n T H m).out = some (e, T', H', m'))
    (k : Nat) {Q : Exit → Act → World → Prop} (hAR : AR P B ρ n T H a w) (hD : DM ρ m a.defers) (hf : Fr ρ H.next H'.next)
    (hQ : ∀ ρ' a' w', AR P B ρ' n T' H' a' w' → Stp ρ H w ρ' H' w' → DM ρ' m' a'.defers → Q e a' w') : (Code.rangeFunc f params assign body).wpIn (FF none) k P Q a w := by
  have hmono := arange_mono hI h
  obtain ⟨g, args, H2, h1, h2⟩ := arange_some h
  have hH2 := enter_same h1
  obtain ⟨v, H3, r, h3, h4, h5, h6⟩ := arangeEnd_some h2
  have hcm := (acall_ok hI).mono _ _ _ _ _ h3
  have e2 : H2.next = H.next + 2 := by rw [hH2]; rfl
  have hlast : H3.next ≤ H'.next := by
    rcases h6 with ⟨_, _, _, rfl, _⟩ | ⟨c, _, h7⟩
    · exact Nat.le_refl _
    · have := hI.mono _ _ _ _ _ _ _ _ _ _ h7
      exact this
  refine wpIn_rangeFunc fun fn _ => ?_
  -- the two blocks
  have hn0 : ρ H.next = none := hf _ (Nat.le_refl _) (by omega)
  obtain ⟨p1, p2⟩ := sim_new hAR.H (fun i x y => hf i x (by omega)) 0 .deferred (.deferred (some [])) rfl
  have hf1 := p2.fr hf
  have hn1 : (H.new .deferred).next = H.next + 1 := rfl
  have hT1 := hAR.T.mono p2.le
  obtain ⟨rec, hrec⟩ : ∃ rec : Loop, rec = { state := .ready, pending := none, fn, tmps := a.tmps, params, assign, body, defers := w.heap.size } := ⟨_, rfl⟩
  obtain ⟨p3, p4⟩ := sim_new p1 (fun i x y => hf1 i x (by rw [hn1] at y; omega)) 0 (.loop { tmps := T, size := n, params, assign, body, state := .ready, pending := none }) (.loop rec) ⟨rec, rfl, by rw [hrec], by rw [hrec], by rw [hrec], by rw [hrec], by rw [hrec], by
    rw [hrec]
    exact hT1.mono (Env.put_le (hf1 _ (Nat.le_refl _) (by rw [hn1]; omega)))⟩
  have hle := p2.trans p4
  rw [← hH2] at p3 p4 hle h1
  obtain ⟨ρ2, hρ2⟩ : ∃ ρ2, ρ2 = (ρ.put H.next w.heap.size 0).put (H.new .deferred).next (w.alloc (.deferred (some []))).heap.size 0 := ⟨_, rfl⟩
  rw [← hρ2] at p3 p4 hle
  have hL : ρ2 (H.next + 1) = some (w.heap.size + 1, 0) := by rw [hρ2, ← hn1, Env.put_same]; simp
  have hDd : ρ2 H.next = some (w.heap.size, 0) := by
    refine p4.le _ _ ?_
    rw [Env.put_same]
  -- the function
  have hfv := (evT_ok hAR.T hAR.G f).mono hle.le
  obtain ⟨ffn, first, captured, hfe⟩ := acallee_func hfv h1
  have hyd : Dens ρ2 [AV.yield (H.next + 1)] [.func (.yield (w.heap.size + 1)) #[] #[]] := .cons (.yield hL) .nil
  have hca := acallee_ok (P := P) (B := B) (w := (w.alloc (.deferred (some []))).alloc (.loop rec)) (fv := evT T f) hK p3 hfv hyd (r := (invoke (.fn ffn captured) (first ++ #[.func (.yield (w.heap.size + 1)) #[] #[]])).run P ((w.alloc (.deferred (some []))).alloc (.loop rec)))
    (fun fn' first' captured' hh => by rw [hfe] at hh; cases hh; rfl)
  rw [h1] at hca
  obtain ⟨_, xs, hinv, hxs⟩ := hca
  refine ⟨w.heap.size + 1, [{ target := .collected w.heap.size, args := #[] }], (w.alloc (.deferred (some []))).alloc (.loop rec), { target := .fn ffn captured, args := first ++ #[.func (.yield (w.heap.size + 1)) #[] #[]] }, (w.alloc (.deferred (some []))).alloc (.loop rec), g, xs.toArray,
    (w.alloc (.deferred (some []))).alloc (.loop rec), ?_, ?_, fun _ _ => trivial, hinv, (fun hh => by cases hh), ?_⟩
  · rw [hrec]; exact run_enterLoop_outer fn a.tmps params assign body
  · have hcv : ∀ v, a.eval (.const v) = v := fun _ => rfl
    simp [resolve, hfe, Deferred.ofValue, hcv]
  · refine ((acall_ok hI).sim g args H2 v H3 h3 B ρ2 xs _ (k - 1) p3 (hAR.G.mono hle.le) hxs ((hle.fr hf).mono' hlast)).mono ?_
    rintro e0 w3 ⟨x, ρ3, rfl, _, q1, q2⟩
    have hL3 := q2.le _ _ hL
    obtain ⟨R, hb, hR⟩ := loop_at q1 h4 hL3
    have hel := run_endLoop (P := P) hb (by rw [hR.state]; exact h5)
    obtain ⟨q3, q4⟩ := sim_loop q1 h4 hL3 rfl (r := { r with state := .exhausted }) (R := { R with state := .exhausted }) ⟨rfl, hR.pending, hR.params, hR.assign, hR.body, hR.tmps⟩
    have hstp := (hle.trans q2).trans q4
    have hDM : DM ρ3 (H.next :: m) ([{ target := .collected w.heap.size, args := #[] }] ++ a.defers) := ⟨w.heap.size, 0, a.defers, q2.le _ _ hDd, rfl, (hD.mono (hle.trans q2).le)⟩
    have key : ∀ jump, jump = r.pending → (match jump with
        | none => Q .normal { a with defers := [{ target := .collected w.heap.size, args := #[] }] ++ a.defers } (w3.putObj (w.heap.size + 1) (.loop { R with state := .exhausted }))
        | some c => c.wpIn (FF none) k P Q { a with defers := [{ target := .collected w.heap.size, args := #[] }] ++ a.defers } (w3.putObj (w.heap.size + 1) (.loop { R with state := .exhausted }))) := by
      rintro jump rfl
      rcases h6 with ⟨k1, rfl, rfl, rfl, rfl⟩ | ⟨c, k1, h7⟩
      · rw [k1]
        exact hQ ρ3 { a with defers := [{ target := .collected w.heap.size, args := #[] }] ++ a.defers } _ ⟨hAR.T.mono hstp.le, q3, hAR.G.mono hstp.le⟩ hstp hDM
      · rw [k1]
        refine hI.sim _ _ _ _ _ _ _ _ _ _ h7 B ρ3 { a with defers := [{ target := .collected w.heap.size, args := #[] }] ++ a.defers } _ none k Q rfl ⟨hAR.T.mono hstp.le, q3, hAR.G.mono hstp.le⟩ hDM (hstp.fr hf) fun ρ' a' w' r1 r2 r3 => hQ ρ' a' w' r1 (hstp.trans r2) r3
    exact ⟨R.pending, _, hel, key _ hR.pending⟩

/-! ### any code -/
theorem iter_some {body : Tr AV → AHeap → List Nat → R} : ∀ (j : Nat) {T : Tr AV} {H : AHeap} {m : List Nat} {e : Exit} {T' : Tr AV} {H' : AHeap} {m' : List Nat}, (iter body j T H m).out = some (e, T', H', m') →
    ∃ j', j = j' + 1 ∧ ∃ e1 T1 H1 m1, (body T H m).out = some (e1, T1, H1, m1) ∧ ((e1 = .normal ∧ (iter body j' T1 H1 m1).out = some (e, T', H', m')) ∨ (e1 ≠ .normal ∧ e = e1 ∧ T' = T1 ∧ H' = H1 ∧ m' = m1))
  | 0, _, _, _, _, _, _, _, h => by cases h
  | j + 1, T, H, m, e, T', H', m', h => by
    have e0 : iter body (j + 1) T H m = @R.rec (fun _ => R) .no (iter body j) .exit .goto .ret (body T H m) := rfl
    rw [e0] at h
    refine ⟨j, rfl, ?_⟩
    cases hb : body T H m with
    | no => rw [hb] at h; cases h
    | normal T1 H1 m1 => rw [hb] at h; exact ⟨_, _, _, _, rfl, .inl ⟨rfl, h⟩⟩
    | exit id T1 H1 m1 => rw [hb] at h; cases h; exact ⟨_, _, _, _, rfl, .inr ⟨(fun hh => by cases hh), rfl, rfl, rfl, rfl⟩⟩
    | goto l T1 H1 m1 => rw [hb] at h; cases h; exact ⟨_, _, _, _, rfl, .inr ⟨(fun hh => by cases hh), rfl, rfl, rfl, rfl⟩⟩
    | ret T1 H1 m1 => rw [hb] at h; cases h; exact ⟨_, _, _, _, rfl, .inr ⟨(fun hh => by cases hh), rfl, rfl, rfl, rfl⟩⟩
theorem iter_mono {ih : Runner} (hI : RunOk P ih) {c : Code} {rnd : Bool} : ∀ (j : Nat) {T : Tr AV} {H : AHeap} {m : List Nat} {e : Exit} {T' : Tr AV} {H' : AHeap} {m' : List Nat}, (iter (ih c n rnd) j T H m).out = some (e, T', H', m') → H.next ≤ H'.next
  | 0, _, _, _, _, _, _, _, h => by cases h
  | j + 1, T, H, m, e, T', H', m', h => by
    obtain ⟨j', hj, e1, T1, H1, m1, h1, h2⟩ := iter_some (j + 1) h
    cases hj
    have a1 := hI.mono _ _ _ _ _ _ _ _ _ _ h1
    rcases h2 with ⟨_, h2⟩ | ⟨_, _, _, rfl, _⟩
    · exact Nat.le_trans a1 (iter_mono hI j h2)
    · exact a1
theorem exit_then {Q : Exit → Act → World → Prop} {e : Exit} {a : Act} {w : World} {N : Act → World → Prop} (hn : e ≠ .normal) (h : Q e a w) : Exit.then N Q e a w := by
  cases e <;> first | exact absurd rfl hn | exact h
theorem iter_ok {ih : Runner} (hI : RunOk P ih) {c : Code} {rnd : Bool} {rd : Option Nat} (hrd : rd.isSome = rnd) {k : Nat} {Q : Exit → Act → World → Prop} : ∀ (j : Nat) {ρ : Env} {T : Tr AV} {H : AHeap} {m : List Nat} {a : Act} {w : World} {e : Exit} {T' : Tr AV} {H' : AHeap} {m' : List Nat},
    (iter (ih c n rnd) j T H m).out = some (e, T', H', m') → AR P B ρ n T H a w → DM ρ m a.defers → Fr ρ H.next H'.next →
    (∀ ρ' a' w', AR P B ρ' n T' H' a' w' → Stp ρ H w ρ' H' w' → DM ρ' m' a'.defers → Q e a' w') → Code.roundsIn (FF rd) k P c Q j a w
  | 0, _, _, _, _, _, _, _, _, _, _, h, _, _, _, _ => by cases h
  | j + 1, ρ, T, H, m, a, w, e, T', H', m', h, hAR, hD, hf, hQ => by
    obtain ⟨j', hj, e1, T1, H1, m1, h1, h2⟩ := iter_some (j + 1) h
    cases hj
    have hle : H1.next ≤ H'.next := by
      rcases h2 with ⟨_, h2⟩ | ⟨_, _, _, rfl, _⟩
      · exact iter_mono hI j h2
      · exact Nat.le_refl _
    refine hI.sim _ _ _ _ _ _ _ _ _ _ h1 B ρ a w rd k _ hrd hAR hD (hf.mono' hle) fun ρ1 a1 w1 r1 r2 r3 => ?_
    rcases h2 with ⟨rfl, h2⟩ | ⟨hn, rfl, rfl, rfl, rfl⟩
    · exact iter_ok hI hrd j h2 r1 r3 (r2.fr hf) fun ρ' a' w' q1 q2 q3 => hQ ρ' a' w' q1 (r2.trans q2) q3
    · exact exit_then hn (hQ ρ1 a1 w1 r1 r2 r3)

theorem th_out {m : List Nat} {r : TH} {e : Exit} {T' : Tr AV} {H' : AHeap} {m' : List Nat} (h : (thR m r).out = some (e, T', H', m')) : r = .mk T' H' ∧ e = .normal ∧ m' = m := by
  cases r with
  | no => cases h
  | mk T1 H1 => cases h; exact ⟨rfl, rfl, rfl⟩

theorem chandle_loop {draw : Drawer} {ih : Runner} {x : Code} {rnd : Bool} {m : List Nat} : chandle (.loop x) P draw ih n rnd T H m = iter (ih x n rnd) rounds T H m := by
  unfold chandle
  simp only [cLoop]
theorem chandle_ok (hK : Known P) {draw : Drawer} (hdr : DrawOk P draw) {ih : Runner} (hI : RunOk P ih) : RunOk P (fun c => chandle c P draw ih) where
  mono c n rnd T H m e T' H' m' h := by
    have hC := acall_ok hI
    have hR := around_ok hI
    cases c with
    | skip => cases h; exact Nat.le_refl _
    | label l => cases h; exact Nat.le_refl _
    | exit id => cases h; exact Nat.le_refl _
    | goto l => cases h; exact Nat.le_refl _
    | ret => cases h; exact Nat.le_refl _
    | refuse why => cases h
    | region id ops d =>
      obtain ⟨h1, _, _⟩ := th_out h
      cases d with
      | false => exact aseq_mono hC hR _ h1
      | true => exact hdr.mono _ _ hC hR _ _ _ _ _ _ h1
    | seq x y =>
      have h : (@R.rec (fun _ => R) .no (fun T H m => ih y n rnd T H m) .exit .goto .ret (ih x n rnd T H m)).out = some (e, T', H', m') := h
      cases hx : ih x n rnd T H m with
      | no => rw [hx] at h; cases h
      | normal T1 H1 m1 => rw [hx] at h; exact Nat.le_trans (hI.mono x n rnd T H m _ _ _ _ (by rw [hx]; rfl)) (hI.mono _ _ _ _ _ _ _ _ _ _ h)
      | exit id T1 H1 m1 => rw [hx] at h; cases h; exact hI.mono x n rnd T H m _ _ _ _ (by rw [hx]; rfl)
      | goto l T1 H1 m1 => rw [hx] at h; cases h; exact hI.mono x n rnd T H m _ _ _ _ (by rw [hx]; rfl)
      | ret T1 H1 m1 => rw [hx] at h; cases h; exact hI.mono x n rnd T H m _ _ _ _ (by rw [hx]; rfl)
    | cond c x y =>
      have h : (@BV.rec (fun _ => R) .no (fun b => @Bool.rec (fun _ => R) (ih y n rnd T H m) (ih x n rnd T H m) b) (boolV (evT T c))).out = some (e, T', H', m') := h
      cases hb : boolV (evT T c) with
      | no => rw [hb] at h; cases h
      | mk b => rw [hb] at h; cases b <;> exact hI.mono _ _ _ _ _ _ _ _ _ _ h
    | block id x =>
      have h : (@R.rec (fun _ => R) .no .normal (fun i T H m => @Bool.rec (fun _ => R) (.exit i T H m) (.normal T H m) (Nat.beq i id)) .goto .ret (ih x n rnd T H m)).out = some (e, T', H', m') := h
      cases hx : ih x n rnd T H m with
      | no => rw [hx] at h; cases h
      | normal T1 H1 m1 => rw [hx] at h; cases h; exact hI.mono x n rnd T H m _ _ _ _ (by rw [hx]; rfl)
      | exit i T1 H1 m1 =>
        rw [hx] at h
        simp only at h
        cases hb : Nat.beq i id with
        | true => rw [hb] at h; cases h; exact hI.mono x n rnd T H m _ _ _ _ (by rw [hx]; rfl)
        | false => rw [hb] at h; cases h; exact hI.mono x n rnd T H m _ _ _ _ (by rw [hx]; rfl)
      | goto l T1 H1 m1 => rw [hx] at h; cases h; exact hI.mono x n rnd T H m _ _ _ _ (by rw [hx]; rfl)
      | ret T1 H1 m1 => rw [hx] at h; cases h; exact hI.mono x n rnd T H m _ _ _ _ (by rw [hx]; rfl)
    | loop x => rw [chandle_loop] at h; exact iter_mono hI rounds h
    | rangeFunc f ps x y =>
      cases rnd with
      | true => cases h
      | false => have := arange_mono hI (P := P) h; omega
    | scope x =>
      have h : (@R.rec (fun _ => R) .no .normal .exit (fun _ _ _ _ => .no) .ret (ih x n rnd T H m)).out = some (e, T', H', m') := h
      cases hx : ih x n rnd T H m with
      | no => rw [hx] at h; cases h
      | normal T1 H1 m1 => rw [hx] at h; cases h; exact hI.mono x n rnd T H m _ _ _ _ (by rw [hx]; rfl)
      | exit id T1 H1 m1 => rw [hx] at h; cases h; exact hI.mono x n rnd T H m _ _ _ _ (by rw [hx]; rfl)
      | goto l T1 H1 m1 => rw [hx] at h; cases h
      | ret T1 H1 m1 => rw [hx] at h; cases h; exact hI.mono x n rnd T H m _ _ _ _ (by rw [hx]; rfl)
  sim c n rnd T H m e T' H' m' h B ρ a w rd k Q hrd hAR hD hf hQ := by
    have hC := acall_ok hI
    have hR := around_ok hI
    have here : ∀ {x : Code} {e1 T1 H1 m1}, (ih x n rnd T H m).out = some (e1, T1, H1, m1) → H1 = H' → ∀ Q' : Exit → Act → World → Prop, (∀ ρ' a' w', AR P B ρ' n T1 H1 a' w' → Stp ρ H w ρ' H1 w' → DM ρ' m1 a'.defers → Q' e1 a' w') → x.wpIn (FF rd) k P Q' a w :=
      fun h1 hh Q' hq => hI.sim _ _ _ _ _ _ _ _ _ _ h1 B ρ a w rd k Q' hrd hAR hD (by rw [hh]; exact hf) hq
    cases c with
    | skip => cases h; exact wpIn_skip (hQ ρ a w hAR (Stp.refl _ _ _) hD)
    | label l => cases h; exact wpIn_label (hQ ρ a w hAR (Stp.refl _ _ _) hD)
    | exit id => cases h; exact wpIn_exit (hQ ρ a w hAR (Stp.refl _ _ _) hD)
    | goto l => cases h; exact wpIn_goto (hQ ρ a w hAR (Stp.refl _ _ _) hD)
    | ret => cases h; exact wpIn_ret (hQ ρ a w hAR (Stp.refl _ _ _) hD)
    | refuse why => cases h
    | region id ops d =>
      obtain ⟨h1, rfl, rfl⟩ := th_out h
      have hQ' : ∀ ρ' a' w', AR P B ρ' n T' H' a' w' → Stp ρ H w ρ' H' w' → a'.defers = a.defers → Q .normal a' w' := fun ρ' a' w' r1 r2 r3 => hQ ρ' a' w' r1 r2 (by rw [r3]; exact hD.mono r2.le)
      cases d with
      | false => exact wpIn_region (aseq_ok hK hC hR rd k _ _ (range_map ops) hAR h1 hf hQ')
      | true => exact hdr.sim _ _ hC hR id _ _ _ _ _ _ h1 B ρ a w rd k Q hAR hf hQ'
    | seq x y =>
      have h : (@R.rec (fun _ => R) .no (fun T H m => ih y n rnd T H m) .exit .goto .ret (ih x n rnd T H m)).out = some (e, T', H', m') := h
      refine wpIn_seq ?_
      cases hx : ih x n rnd T H m with
      | no => rw [hx] at h; cases h
      | normal T1 H1 m1 =>
        rw [hx] at h
        have hle := hI.mono _ _ _ _ _ _ _ _ _ _ h
        refine hI.sim x n rnd T H m _ _ _ _ (by rw [hx]; rfl) B ρ a w rd k _ hrd hAR hD (hf.mono' hle) fun ρ1 a1 w1 r1 r2 r3 => ?_
        exact hI.sim _ _ _ _ _ _ _ _ _ _ h B ρ1 a1 w1 rd k Q hrd r1 r3 (r2.fr hf) fun ρ' a' w' q1 q2 q3 => hQ ρ' a' w' q1 (r2.trans q2) q3
      | exit id T1 H1 m1 => rw [hx] at h; cases h; exact here (x := x) (by rw [hx]; rfl) rfl _ hQ
      | goto l T1 H1 m1 => rw [hx] at h; cases h; exact here (x := x) (by rw [hx]; rfl) rfl _ hQ
      | ret T1 H1 m1 => rw [hx] at h; cases h; exact here (x := x) (by rw [hx]; rfl) rfl _ hQ
    | cond c x y =>
      have h : (@BV.rec (fun _ => R) .no (fun b => @Bool.rec (fun _ => R) (ih y n rnd T H m) (ih x n rnd T H m) b) (boolV (evT T c))).out = some (e, T', H', m') := h
      cases hb : boolV (evT T c) with
      | no => rw [hb] at h; cases h
      | mk b =>
        rw [hb] at h
        have hc := evT_ok hAR.T hAR.G c
        rw [boolV_mk hb] at hc
        refine wpIn_cond hc.raw_eq ?_
        cases b
        · exact hI.sim _ _ _ _ _ _ _ _ _ _ h B ρ a w rd k Q hrd hAR hD hf hQ
        · exact hI.sim _ _ _ _ _ _ _ _ _ _ h B ρ a w rd k Q hrd hAR hD hf hQ
    | block id x =>
      have h : (@R.rec (fun _ => R) .no .normal (fun i T H m => @Bool.rec (fun _ => R) (.exit i T H m) (.normal T H m) (Nat.beq i id)) .goto .ret (ih x n rnd T H m)).out = some (e, T', H', m') := h
      refine wpIn_block ?_
      cases hx : ih x n rnd T H m with
      | no => rw [hx] at h; cases h
      | normal T1 H1 m1 => rw [hx] at h; cases h; exact here (x := x) (by rw [hx]; rfl) rfl _ hQ
      | exit i T1 H1 m1 =>
        rw [hx] at h
        simp only at h
        cases hb : Nat.beq i id with
        | true =>
          rw [hb] at h; cases h
          have := Nat.eq_of_beq_eq_true hb
          subst this
          exact here (x := x) (by rw [hx]; rfl) rfl _ fun ρ' a' w' r1 r2 r3 => by simp only [Exit.inBlock, if_true]; exact hQ ρ' a' w' r1 r2 r3
        | false =>
          rw [hb] at h; cases h
          have hne : i ≠ id := fun hh => by subst hh; rw [Nat.beq_refl] at hb; cases hb
          exact here (x := x) (by rw [hx]; rfl) rfl _ fun ρ' a' w' r1 r2 r3 => by simp only [Exit.inBlock, if_neg hne]; exact hQ ρ' a' w' r1 r2 r3
      | goto l T1 H1 m1 => rw [hx] at h; cases h; exact here (x := x) (by rw [hx]; rfl) rfl _ hQ
      | ret T1 H1 m1 => rw [hx] at h; cases h; exact here (x := x) (by rw [hx]; rfl) rfl _ hQ
    | loop x => rw [chandle_loop] at h; exact wpIn_loop_rounds rounds (iter_ok hI hrd rounds h hAR hD hf hQ)
    | rangeFunc f ps x y =>
      cases rnd with
      | true => cases h
      | false =>
        cases rd with
        | some l => cases hrd
        | none => exact arange_ok hK hI h k hAR hD hf hQ
    | scope x =>
      have h : (@R.rec (fun _ => R) .no .normal .exit (fun _ _ _ _ => .no) .ret (ih x n rnd T H m)).out = some (e, T', H', m') := h
      refine wpIn_scope_straight ?_
      cases hx : ih x n rnd T H m with
      | no => rw [hx] at h; cases h
      | normal T1 H1 m1 => rw [hx] at h; cases h; exact here (x := x) (by rw [hx]; rfl) rfl _ hQ
      | exit id T1 H1 m1 => rw [hx] at h; cases h; exact here (x := x) (by rw [hx]; rfl) rfl _ hQ
      | goto l T1 H1 m1 => rw [hx] at h; cases h
      | ret T1 H1 m1 => rw [hx] at h; cases h; exact here (x := x) (by rw [hx]; rfl) rfl _ hQ

theorem acode_ok (hK : Known P) {draw : Drawer} (hdr : DrawOk P draw) : ∀ fuel, RunOk P (acode P draw fuel)
  | 0 => ⟨(fun _ _ _ _ _ _ _ _ _ _ h => by cases h), (fun _ _ _ _ _ _ _ _ _ _ h => by cases h)⟩
  | f + 1 => chandle_ok hK hdr (acode_ok hK hdr f)
end
end Go.Proofs.YtcdknjkkaonbiaaGreatDoor.Sx
