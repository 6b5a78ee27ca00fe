/- The runner over an abstract memory: a step of a region; a region in order. -/
import Derived.Test.YtcdknjkkaonbiaaGreatDoorSxOp7
namespace Go.Proofs.YtcdknjkkaonbiaaGreatDoor.Sx
open Go.RowKit

/-- no fence, but for the number of a round -/
abbrev FF (r : Option Nat) : Fence := { Fence.wide with round := r }
def Glob (ρ : Env) : Prop := ∀ g, g < 64 → ∃ c, ρ g = some (g, c)
theorem Glob.mono {ρ ρ' : Env} (h : Glob ρ) (hl : Le ρ ρ') : Glob ρ' := fun g hg => let ⟨c, hc⟩ := h g hg; ⟨c, hl _ _ hc⟩

/-- an activation's state -/
structure AR (P : Program) (B : Nat) (ρ : Env) (n : Nat) (T : Tr AV) (H : AHeap) (a : Act) (w : World) : Prop where
  T : TDen ρ T n a.tmps
  H : HDen P B ρ H w
  G : Glob ρ

section
variable {P : Program} {B : Nat} {ρ : Env} {n : Nat} {T : Tr AV} {H : AHeap} {a : Act} {w : World}

theorem evT_ok (hT : TDen ρ T n a.tmps) (hG : Glob ρ) (x : Operand) : Den ρ (evT T x) (a.eval x) := by
  cases x with
  | tmp t =>
    have h := hT.get t
    show Den ρ (@Option.rec AV (fun _ => AV) (.raw undef) (fun v => v) (T.get t)) (a.tmps.getD t undef)
    cases hg : T.get t with
    | none => rw [hg] at h; exact h
    | some v => rw [hg] at h; exact h
  | const v => exact .raw v
  | global g =>
    show Den ρ (@Bool.rec (fun _ => AV) (.raw (.pointer (some ⟨g, 0, none⟩))) (.ptr g 0) (Nat.ble (Nat.succ g) 64)) (.pointer (some ⟨g, 0, none⟩))
    cases hb : Nat.ble (Nat.succ g) 64 with
    | false => exact .raw _
    | true => obtain ⟨c, hc⟩ := hG g (Nat.le_of_ble_eq_true hb); exact .ptr hc
  | func f => exact .raw _

theorem getD_set (xs : Array Value) (d t : Nat) (x u : Value) (hd : d < xs.size) : (xs.setIfInBounds d x).getD t u = if t = d then x else xs.getD t u := by
  simp only [Array.getD_eq_getD_getElem?, Array.getElem?_setIfInBounds]
  by_cases h : d = t
  · subst h; simp [hd]
  · rw [if_neg h, if_neg (fun e => h e.symm)]

theorem put_ok {dst : Option Tmp} {v : AV} {x : Value} {T1 : Tr AV} (hT : TDen ρ T n a.tmps) (hp : putT T n dst v = some T1) (hd : Den ρ v x) : TDen ρ T1 n (a.put dst x).tmps := by
  cases dst with
  | none => cases hp; exact hT
  | some d =>
    have e : putT T n (some d) v = @Bool.rec (fun _ => Option (Tr AV)) none (some (T.set d (some v))) (Nat.ble (Nat.succ d) n) := rfl
    rw [e] at hp
    cases hb : Nat.ble (Nat.succ d) n with
    | false => rw [hb] at hp; cases hp
    | true =>
      rw [hb] at hp
      cases hp
      have hlt : d < a.tmps.size := by rw [hT.size]; exact Nat.le_of_ble_eq_true hb
      refine ⟨by simp [Act.put, hT.size], fun t => ?_⟩
      rw [Tr.get_set]
      show Den ρ _ ((a.tmps.setIfInBounds d x).getD t undef)
      rw [getD_set _ _ _ _ _ hlt]
      by_cases h : d = t
      · subst h; simpa using hd
      · rw [if_neg h, if_neg (fun e => h e.symm)]; exact hT.get t
theorem put_defers (dst : Option Tmp) (x : Value) : (a.put dst x).defers = a.defers := by cases dst <;> rfl

theorem den_bool {v : AV} {b : Bool} (h : Den ρ v (.bool b)) : v = .raw (.bool b) := by cases h; rfl
theorem awanted_ok {ops : Array Oper} {o : Oper} {b : Bool} (hT : TDen ρ T n a.tmps) (h : awanted T ops o = some b) : Region.wanted o (yielded ops a.tmps) = b := by
  unfold Region.wanted
  cases hg : o.guard with
  | none =>
    have : awanted T ops o = some true := by unfold awanted; rw [hg]
    rw [this] at h; cases h; rfl
  | some g =>
    obtain ⟨j, want⟩ := g
    have e : awanted T ops o = awantedG T ops (j, want) := by unfold awanted; rw [hg]
    rw [e] at h
    unfold awantedG at h
    simp only at h ⊢
    cases hd : (ops[j]?).bind (·.dst) with
    | none => rw [hd] at h; cases h
    | some d =>
      rw [hd] at h
      simp only at h
      have ht := hT.get d
      -- what the slot yields
      have key : ∀ b', (yielded ops a.tmps j = some b') → T.get d = some (.raw (.bool b')) := by
        intro b' hy
        unfold yielded at hy
        rw [hd] at hy
        simp only [Option.bind_some] at hy
        split at hy
        · rename_i b'' hb
          cases hy
          have : a.tmps.getD d undef = .bool b' := by rw [Array.getD_eq_getD_getElem?, hb]; rfl
          rw [this] at ht
          have hq := den_bool ht
          cases hg2 : T.get d with
          | none => rw [hg2] at hq; cases hq
          | some v => rw [hg2] at hq; simp only [Option.getD_some] at hq; rw [hq]
        · cases hy
      split at h
      · rename_i b' hb
        cases h
        have : a.tmps.getD d undef = .bool b' := by rw [hb] at ht; exact ht.raw_eq
        have hy : yielded ops a.tmps j = some b' := by
          unfold yielded
          rw [hd]
          simp only [Option.bind_some]
          rw [Array.getD_eq_getD_getElem?] at this
          cases hx : a.tmps[d]? with
          | none => rw [hx] at this; cases this
          | some x => rw [hx] at this; simp only [Option.getD_some] at this; rw [this]
        rw [hy]
        cases b' <;> cases want <;> rfl
      · rename_i hno
        cases h
        cases hy : yielded ops a.tmps j with
        | none => rfl
        | some b' => exact absurd (key b' hy) (hno b')

/-- what a call of the runner's says of a call of the model's -/
def CallPost (P : Program) (B : Nat) (ρ : Env) (H : AHeap) (w : World) (v : AV) (H' : AHeap) : Ending → World → Prop := fun e w' => ∃ x ρ', e = .returned x ∧ Den ρ' v x ∧ HDen P B ρ' H' w' ∧ Stp ρ H w ρ' H' w'
structure CallOk (P : Program) (call : Caller) : Prop where
  mono : ∀ f args H v H', call f args H = .ok v H' → H.next ≤ H'.next
  sim : ∀ f args H v H', call f args H = .ok v H' → ∀ B ρ (xs : List Value) w m, HDen P B ρ H w → Glob ρ → Dens ρ args xs → Fr ρ H.next H'.next → CallsIn (FF none) m P f xs.toArray w (CallPost P B ρ H w v H')
structure RoundOk (P : Program) (round : Rounder) : Prop where
  mono : ∀ i args H v H', round i args H = .ok v H' → H.next ≤ H'.next
  sim : ∀ i args H v H', round i args H = .ok v H' → ∀ B ρ (xs : List Value) w b c m, HDen P B ρ H w → Glob ρ → ρ i = some (b, c) → Dens ρ args xs → Fr ρ H.next H'.next →
    ∃ fn tmps assign body, (Instr.yield b xs.toArray).run P w = .ok (.round b fn tmps assign body) w ∧ RoundIn (FF none) m P b fn tmps assign body w (CallPost P B ρ H w v H')

theorem defer_no {o : Oper} {ev : Ev} {c : Call} (h : o.op = .defer c) : aop o.op P o ev H = .no := by rw [h]; rfl

variable {call : Caller} {round : Rounder}
theorem aoper_mono (hC : CallOk P call) (hR : RoundOk P round) {o : Oper} {ev : Ev} {v : AV} {H' : AHeap} (h : aoper P call round o ev H = .ok v H') : H.next ≤ H'.next := by
  have hm := aop_mono (P := P) (H := H) (o := o) (ev := ev)
  unfold aoper at h
  cases ha : aop o.op P o ev H with
  | no => rw [ha] at h; cases h
  | ok v1 H1 => rw [ha] at h hm; cases h; exact hm
  | enter f args H1 => rw [ha] at h hm; exact Nat.le_trans hm (hC.mono _ _ _ _ _ h)
  | round i args H1 => rw [ha] at h hm; exact Nat.le_trans hm (hR.mono _ _ _ _ _ h)

/-- an operation, with its call -/
theorem aoper_ok (hK : Known P) (hC : CallOk P call) (hR : RoundOk P round) {o : Oper} {v : AV} {H' : AHeap} (hAR : AR P B ρ n T H a w) (h : aoper P call round o (evT T) H = .ok v H') (hf : Fr ρ H.next H'.next) (rd : Option Nat) (m : Nat)
    {next : Act → World → Prop} {Q : Exit → Act → World → Prop} (hnext : ∀ x ρ' w', Den ρ' v x → HDen P B ρ' H' w' → Stp ρ H w ρ' H' w' → next (a.put o.dst x) w') : o.wpIn (FF rd) m P a w next Q := by
  have ho := aop_ok (P := P) (B := B) (ρ := ρ) (H := H) (w := w) (o := o) (ev := evT T) (e := a.eval) hK hAR.H (evT_ok hAR.T hAR.G)
  have hsem : o.semAt (FF rd).round a.eval = execOp a.eval o := Oper.semAt_eq _ _ _ fun c hc => by
    unfold aoper at h
    rw [defer_no hc] at h
    cases h
  refine ⟨fun _ _ => trivial, ?_⟩
  rw [hsem]
  have hdep : (FF rd).depth.isSome = true → 1 ≤ m := fun hh => by cases hh
  have post : ∀ {e w''}, CallPost P B ρ H w v H' e w'' → (match e, w'' with
      | .returned v, w'' => next (a.put o.dst v) w''
      | .panicked chain, w'' => Q (.panic chain) a w''
      | .outgrown, _ => LetsOut Q : Prop) := by
    rintro e w'' ⟨x, ρ', rfl, h1, h2, h3⟩
    exact hnext x ρ' w'' h1 h2 h3
  unfold aoper at h
  cases ha : aop o.op P o (evT T) H with
  | no => rw [ha] at h; cases h
  | ok v1 H1 =>
    rw [ha] at h ho
    cases h
    obtain ⟨ρ', x, w', nx, h1, h2, h3, h4, h5⟩ := ho hf
    rw [h1]
    cases nx <;> first | exact h2.elim | skip
    · cases h2; exact hnext _ ρ' w' h3 h4 h5
    · cases h2; exact hnext _ ρ' w' h3 h4 h5
  | enter f args H1 =>
    rw [ha] at h ho
    obtain ⟨rfl, xs, h1, h2⟩ := ho
    rw [h1]
    refine ⟨hdep, ?_⟩
    have hc := (hC.sim f args H1 v H' h B ρ xs w (m - 1) hAR.H hAR.G h2 hf).mono (fun e w'' hp => post hp)
    cases rd with
    | none => exact hc
    | some l => exact hc
  | round i args H1 =>
    rw [ha] at h ho
    obtain ⟨rfl, b, c, xs, h0, h1, h2⟩ := ho
    rw [h1]
    obtain ⟨fn, tmps, assign, body, g1, g2⟩ := hR.sim i args H1 v H' h B ρ xs w b c (m - 1) hAR.H hAR.G h0 h2 hf
    rw [g1]
    refine ⟨hdep, ?_⟩
    have hc := g2.mono (fun e w'' hp => post hp)
    cases rd with
    | none => exact hc
    | some l => exact hc

theorem AR.next {ρ' : Env} {T1 : Tr AV} {H' : AHeap} {a' : Act} {w' : World} (h : AR P B ρ n T H a w) (hT : TDen ρ' T1 n a'.tmps) (hH : HDen P B ρ' H' w') (hs : Stp ρ H w ρ' H' w') : AR P B ρ' n T1 H' a' w' := ⟨hT, hH, h.G.mono hs.le⟩

/-- a step of a region in order -/
theorem astep_ok (hK : Known P) (hC : CallOk P call) (hR : RoundOk P round) {ops : Array Oper} {o : Oper} {i : Nat} (hi : ops[i]? = some o) {k : Tr AV → AHeap → TH} {T' : Tr AV} {H' : AHeap} (hAR : AR P B ρ n T H a w) (h : astep P call round ops n o T H k = .mk T' H')
    (hkm : ∀ T1 H1, k T1 H1 = .mk T' H' → H1.next ≤ H'.next) (hf : Fr ρ H.next H'.next) (rd : Option Nat) (m : Nat) {K : Act → World → Prop} {Q : Exit → Act → World → Prop}
    (hK' : ∀ ρ1 T1 H1 a1 w1, k T1 H1 = .mk T' H' → AR P B ρ1 n T1 H1 a1 w1 → Stp ρ H w ρ1 H1 w1 → a1.defers = a.defers → K a1 w1) : wpOpIn (FF rd) m P ops Q i K a w := by
  unfold wpOpIn
  rw [hi]
  simp only
  unfold astep at h
  cases hw : awanted T ops o with
  | none => rw [hw] at h; cases h
  | some b =>
    rw [hw] at h
    rw [awanted_ok hAR.T hw]
    cases b with
    | false =>
      simp only [Bool.false_eq_true, if_false]
      refine ⟨fun _ _ => trivial, ?_⟩
      cases hp : putT T n o.dst (.raw undef) with
      | none => simp only [hp, th] at h; cases h
      | some T1 =>
        simp only [hp, th] at h
        exact hK' ρ T1 H _ w h (hAR.next (put_ok hAR.T hp (.raw undef)) hAR.H (Stp.refl _ _ _)) (Stp.refl _ _ _) (put_defers _ _)
    | true =>
      simp only [if_true]
      cases ha : aoper P call round o (evT T) H with
      | no => simp only [ha, thV] at h; cases h
      | enter _ _ _ => simp only [ha, thV] at h; cases h
      | round _ _ _ => simp only [ha, thV] at h; cases h
      | ok v H1 =>
        simp only [ha, thV] at h
        cases hp : putT T n o.dst v with
        | none => simp only [hp, th] at h; cases h
        | some T1 =>
          simp only [hp, th] at h
          have hm := hkm T1 H1 h
          refine aoper_ok hK hC hR hAR ha (fun j h1 h2 => hf j h1 (Nat.lt_of_lt_of_le h2 hm)) rd m fun x ρ1 w1 h1 h2 h3 => ?_
          exact hK' ρ1 T1 H1 _ w1 h (hAR.next (put_ok (hAR.T.mono h3.le) hp h1) h2 h3) h3 (put_defers _ _)
theorem Fr.mono' {ρ : Env} {a b c : Nat} (h : Fr ρ a c) (hb : b ≤ c) : Fr ρ a b := fun i h1 h2 => h i h1 (Nat.lt_of_lt_of_le h2 hb)
theorem Stp.fr {ρ1 : Env} {H1 H' : AHeap} {w1 : World} (h : Stp ρ H w ρ1 H1 w1) (hf : Fr ρ H.next H'.next) : Fr ρ1 H1.next H'.next := fun i h1 h2 => by
  rw [h.ext i (.inr h1)]
  exact hf i (Nat.le_trans h.next h1) h2

theorem astep_mono (hC : CallOk P call) (hR : RoundOk P round) {ops : Array Oper} {o : Oper} {k : Tr AV → AHeap → TH} {T' : Tr AV} {H' : AHeap} (h : astep P call round ops n o T H k = .mk T' H') (hkm : ∀ T1 H1, k T1 H1 = .mk T' H' → H1.next ≤ H'.next) : H.next ≤ H'.next := by
  unfold astep at h
  cases hw : awanted T ops o with
  | none => rw [hw] at h; cases h
  | some b =>
    rw [hw] at h
    cases b with
    | false =>
      cases hp : putT T n o.dst (.raw undef) with
      | none => simp only [hp, th] at h; cases h
      | some T1 => simp only [hp, th] at h; exact hkm _ _ h
    | true =>
      cases ha : aoper P call round o (evT T) H with
      | no => simp only [ha, thV] at h; cases h
      | enter _ _ _ => simp only [ha, thV] at h; cases h
      | round _ _ _ => simp only [ha, thV] at h; cases h
      | ok v H1 =>
        simp only [ha, thV] at h
        cases hp : putT T n o.dst v with
        | none => simp only [hp, th] at h; cases h
        | some T1 => simp only [hp, th] at h; exact Nat.le_trans (aoper_mono hC hR ha) (hkm _ _ h)
theorem aseq_mono (hC : CallOk P call) (hR : RoundOk P round) {ops : Array Oper} : ∀ (l : List Oper) {T : Tr AV} {H : AHeap} {T' : Tr AV} {H' : AHeap}, aseq P call round ops n l T H = .mk T' H' → H.next ≤ H'.next
  | [], T, H, T', H', h => by cases h; exact Nat.le_refl _
  | o :: l, T, H, T', H', h => astep_mono hC hR (k := aseq P call round ops n l) h fun T1 H1 h1 => aseq_mono hC hR l h1

/-- a region in order -/
theorem aseq_ok (hK : Known P) (hC : CallOk P call) (hR : RoundOk P round) {ops : Array Oper} (rd : Option Nat) (m : Nat) {Q : Exit → Act → World → Prop} : ∀ (l : List Oper) (is : List Nat) {ρ : Env} {T : Tr AV} {H : AHeap} {a : Act} {w : World} {T' : Tr AV} {H' : AHeap},
    is.map (ops[·]?) = l.map some → AR P B ρ n T H a w → aseq P call round ops n l T H = .mk T' H' → Fr ρ H.next H'.next →
    (∀ ρ' a' w', AR P B ρ' n T' H' a' w' → Stp ρ H w ρ' H' w' → a'.defers = a.defers → Q .normal a' w') → wpOpsIn (FF rd) m P ops Q is a w
  | [], [], ρ, T, H, a, w, T', H', _, hAR, h, _, hQ => by cases h; exact hQ ρ a w hAR (Stp.refl _ _ _) rfl
  | [], _ :: _, _, _, _, _, _, _, _, hi, _, _, _, _ => by simp at hi
  | _ :: _, [], _, _, _, _, _, _, _, hi, _, _, _, _ => by simp at hi
  | o :: l, i :: is, ρ, T, H, a, w, T', H', hi, hAR, h, hf, hQ => by
    simp only [List.map_cons, List.cons.injEq] at hi
    rw [wpOpsIn_cons]
    refine astep_ok hK hC hR hi.1 (k := aseq P call round ops n l) hAR h (fun T1 H1 h1 => aseq_mono hC hR l h1) hf rd m fun ρ1 T1 H1 a1 w1 h1 hAR1 hst hd => ?_
    exact aseq_ok hK hC hR rd m l is hi.2 hAR1 h1 (hst.fr hf) fun ρ' a' w' h2 h3 h4 => hQ ρ' a' w' h2 (hst.trans h3) (h4.trans hd)
end
end Go.Proofs.YtcdknjkkaonbiaaGreatDoor.Sx
