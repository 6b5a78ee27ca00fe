/- The runner over an abstract memory: regions that draw their order: the real run. -/
import Derived.Test.YtcdknjkkaonbiaaGreatDoorSxDraw4
namespace Go.Proofs.YtcdknjkkaonbiaaGreatDoor.Sx
open Go.RowKit

/-- the memory in any order, against the start -/
structure GI (P : Program) (B : Nat) (ρ0 : Env) (H0 : AHeap) (w0 : World) (top : Nat) (ρ : Env) (g : Nat → Option ABlk) (w : World) : Prop where
  blk : ∀ i k, g i = some k → ∃ b c o, ρ i = some (b, c) ∧ w.heap[b]? = some o ∧ BDen P ρ i k o ∧ (k.isRo = false → B ≤ b)
  inj : ∀ i j ki kj b ci cj, g i = some ki → g j = some kj → ρ i = some (b, ci) → ρ j = some (b, cj) → i = j
  base : B ≤ w.heap.size
  le : Le ρ0 ρ
  ext : ∀ i, i < H0.next ∨ top ≤ i → ρ i = ρ0 i
  size : w0.heap.size ≤ w.heap.size
  os : w.os = w0.os
  tape : w.tape = w0.tape
  output : w.output = w0.output
  frame : ∀ b, b < w0.heap.size → ¬ Own ρ0 H0 b → w.heap[b]? = w0.heap[b]?
  own : ∀ b, b < w0.heap.size → ∀ i k c, g i = some k → k.isRo = false → ρ i = some (b, c) → Own ρ0 H0 b
  img : ∀ b, b < w0.heap.size → ∀ i k c, g i = some k → ρ i = some (b, c) → Img ρ0 H0 b

noncomputable def upd (g : Nat → Option ABlk) (X X' : AHeap) : Nat → Option ABlk := fun x => match X'.get x with
  | some k => some k
  | none => match X.get x with
    | some _ => none
    | none => g x
theorem upd_in {g : Nat → Option ABlk} {X X' : AHeap} {x : Nat} {k : ABlk} (h : X'.get x = some k) : upd g X X' x = some k := by unfold upd; rw [h]
theorem upd_out {g : Nat → Option ABlk} {X X' : AHeap} {x : Nat} (h : X'.get x = none) (h2 : X.get x = none) : upd g X X' x = g x := by unfold upd; rw [h, h2]
theorem upd_inv {g : Nat → Option ABlk} {X X' : AHeap} {x : Nat} {k : ABlk} (h : upd g X X' x = some k) : X'.get x = some k ∨ (X'.get x = none ∧ X.get x = none ∧ g x = some k) := by
  unfold upd at h
  split at h
  · rename_i h1; cases h; exact .inl h1
  · rename_i h1
    split at h
    · cases h
    · rename_i h2; exact .inr ⟨h1, h2, h⟩
theorem upd_same {g : Nat → Option ABlk} {X : AHeap} (h : ∀ x k, X.get x = some k → g x = some k) : upd g X X = g := by
  funext x
  cases hx : X.get x with
  | none => exact upd_out hx hx
  | some k => rw [upd_in hx, h x k hx]

section
variable {P : Program} {B : Nat} {ρ0 : Env} {H0 : AHeap} {w0 : World} {top : Nat} {ρ : Env} {g : Nat → Option ABlk} {w : World}
theorem GI.at (h : GI P B ρ0 H0 w0 top ρ g w) {i b c : Nat} {k : ABlk} (hi : g i = some k) (hr : ρ i = some (b, c)) : ∃ o, w.heap[b]? = some o ∧ BDen P ρ i k o ∧ (k.isRo = false → B ≤ b) := by
  obtain ⟨b', c', o, e1, e2, e3, e4⟩ := h.blk i k hi
  rw [hr] at e1
  cases e1
  exact ⟨o, e2, e3, e4⟩
theorem GI.hden (h : GI P B ρ0 H0 w0 top ρ g w) {X : AHeap} (hX : ∀ x k, X.get x = some k → g x = some k) (hl : ∀ x k, X.get x = some k → x < X.next) : HDen P B ρ X w :=
  ⟨fun i k hi => h.blk i k (hX i k hi), fun i j ki kj b ci cj hi hj => h.inj i j ki kj b ci cj (hX i ki hi) (hX j kj hj), hl, h.base⟩
theorem GI.step (h : GI P B ρ0 H0 w0 top ρ g w) {X X' : AHeap} {ρ' : Env} {w' : World} (hX : ∀ x k, X.get x = some k → g x = some k) (hH : HDen P B ρ' X' w') (hs : Stp ρ X w ρ' X' w')
    (hx : ∀ x, x < H0.next ∨ top ≤ x → ρ' x = ρ x) : GI P B ρ0 H0 w0 top ρ' (upd g X X') w' := by
  have keep : ∀ x k, g x = some k → X.get x = none → ∃ b c o, ρ x = some (b, c) ∧ ρ' x = some (b, c) ∧ w.heap[b]? = some o ∧ w'.heap[b]? = some o ∧ BDen P ρ x k o ∧ (k.isRo = false → B ≤ b) ∧ b < w.heap.size := fun x k hgx hxx => by
    obtain ⟨b, c, o, e1, e2, e3, e4⟩ := h.blk x k hgx
    have hb : b < w.heap.size := (Array.getElem?_eq_some_iff.1 e2).1
    refine ⟨b, c, o, e1, hs.le _ _ e1, e2, ?_, e3, e4, hb⟩
    rw [hs.frame b hb fun ⟨i, k', c', h1, _, h3⟩ => ?_, e2]
    have := h.inj i x k' k b c' c (hX i k' h1) hgx h3 e1
    subst this
    rw [hxx] at h1; cases h1
  have ρsame : ∀ x k b c, g x = some k → ρ' x = some (b, c) → ρ x = some (b, c) := fun x k b c hgx hr => by
    obtain ⟨b', c', o, e1, _⟩ := h.blk x k hgx
    rw [hs.le _ _ e1] at hr
    cases hr; exact e1
  refine ⟨fun i k hi => ?_, fun i j ki kj b ci cj hi hj ri rj => ?_, hH.base, h.le.trans hs.le, fun i hi => by rw [hx i hi, h.ext i hi], Nat.le_trans h.size hs.size, hs.os.trans h.os, hs.tape.trans h.tape, hs.output.trans h.output, fun b hb ho => ?_, fun b hb i k c hi hk hr => ?_, fun b hb i k c hi hr => ?_⟩
  · rcases upd_inv hi with hi | ⟨_, h2, h3⟩
    · exact hH.blk i k hi
    · obtain ⟨b, c, o, _, e1, _, e2, e3, e4, _⟩ := keep i k h3 h2
      exact ⟨b, c, o, e1, e2, e3.mono hs.le, e4⟩
  · have mixed : ∀ i j ki kj ci cj, X'.get i = some ki → X.get j = none → g j = some kj → ρ' i = some (b, ci) → ρ' j = some (b, cj) → False := fun i j ki kj ci cj h1 h2 h3 r1 r2 => by
      obtain ⟨b', c', o, e0, e1, e2, _, _, _, hb⟩ := keep j kj h3 h2
      rw [e1] at r2
      cases r2
      obtain ⟨x, kx, cx, q1, q2⟩ := hs.img b hb ⟨i, ki, ci, h1, r1⟩
      have := h.inj x j kx kj b cx cj (hX x kx q1) h3 q2 e0
      subst this
      rw [h2] at q1; cases q1
    rcases upd_inv hi with hi | ⟨_, h2, h3⟩ <;> rcases upd_inv hj with hj | ⟨_, k2, k3⟩
    · exact hH.inj i j ki kj b ci cj hi hj ri rj
    · exact (mixed i j ki kj ci cj hi k2 k3 ri rj).elim
    · exact (mixed j i kj ki cj ci hj h2 h3 rj ri).elim
    · exact h.inj i j ki kj b ci cj h3 k3 (ρsame _ _ _ _ h3 ri) (ρsame _ _ _ _ k3 rj)
  · rw [hs.frame b (Nat.lt_of_lt_of_le hb h.size) fun ⟨i, k', c', h1, h2, h3⟩ => ho (h.own b hb i k' c' (hX i k' h1) h2 h3), h.frame b hb ho]
  · rcases upd_inv hi with hi | ⟨_, h2, h3⟩
    · obtain ⟨x, kx, cx, q1, q2, q3⟩ := hs.own b (Nat.lt_of_lt_of_le hb h.size) ⟨i, k, c, hi, hk, hr⟩
      exact h.own b hb x kx cx (hX x kx q1) q2 q3
    · exact h.own b hb i k c h3 hk (ρsame _ _ _ _ h3 hr)
  · rcases upd_inv hi with hi | ⟨_, h2, h3⟩
    · obtain ⟨x, kx, cx, q1, q2⟩ := hs.img b (Nat.lt_of_lt_of_le hb h.size) ⟨i, k, c, hi, hr⟩
      exact h.img b hb x kx cx (hX x kx q1) q2
    · exact h.img b hb i k c h3 (ρsame _ _ _ _ h3 hr)
theorem GI.final (h : GI P B ρ0 H0 w0 top ρ g w) {X : AHeap} (hX : ∀ x k, X.get x = some k → g x = some k) (ht : X.next = top) (hn : H0.next ≤ top) : Stp ρ0 H0 w0 ρ X w :=
  ⟨h.le, fun i hi => h.ext i (by rw [ht] at hi; exact hi), by rw [ht]; exact hn, h.size, h.os, h.tape, h.output, h.frame, fun b hb ⟨i, k, c, h1, h2, h3⟩ => h.own b hb i k c (hX i k h1) h2 h3, fun b hb ⟨i, k, c, h1, h3⟩ => h.img b hb i k c (hX i k h1) h3⟩
end

section
variable {P : Program} {call : Caller} {round : Rounder} {ops : Array Oper} {n : Nat} {S : Nat → DS} {V : Nat → AV}
theorem Run.hpf_next (R : Run P call round ops n S V) {i : Nat} (hi : i ≤ ops.size) : (hpf S ops.size (S i).k).next ≤ (S i).cur.next := by
  induction i with
  | zero => rw [R.k0, R.hpf_zero]; exact Nat.le_refl _
  | succ i ih =>
    have ih := ih (Nat.le_of_succ_le hi)
    obtain ⟨o, ho⟩ := op_at (ops := ops) (i := i) hi
    cases R.kind i o ho with
    | skip _ _ hk hc => rw [hk, hc]; exact ih
    | p _ _ _ hk hc => rw [hk, hc]; exact ih
    | r _ _ _ hk hc => rw [hk, hc]; exact ih
    | a _ hkd hop hk =>
      obtain ⟨_, blk, hcur, _⟩ := kd_a hkd hop
      rw [hk, hcur]; exact Nat.le_succ_of_le ih
    | e _ _ _ _ _ hk => rw [hk, R.hpf_eff hi hk]; exact Nat.le_refl _
theorem Run.al_next (R : Run P call round ops n S V) {i : Nat} (hi : i < ops.size) (ha : Al S i) : (S (i + 1)).cur.next = (S i).cur.next + 1 ∧ ∃ b, blkOf S i = some b := by
  obtain ⟨o, ho⟩ := op_at hi
  obtain ⟨_, hkd, hop, _⟩ := R.al_inv ho ha
  obtain ⟨_, blk, hcur, _⟩ := kd_a hkd hop
  refine ⟨by rw [hcur]; rfl, blk, ?_⟩
  unfold blkOf
  rw [hcur, AHeap.get_new, if_pos rfl]

/-- the real run, the operations of L behind it, e effects -/
structure RI (P : Program) (B : Nat) (ρ0 : Env) (w0 : World) (a0 : Act) (ops : Array Oper) (n : Nat) (S : Nat → DS) (V : Nat → AV) (L : Nat → Prop) (e : Nat) (ρ : Env) (g : Nat → Option ABlk) (T : Tr AV) (a : Act) (w : World) : Prop where
  closed : ∀ (j : Nat) (o : Oper), L j → ops[j]? = some o → ∀ d ∈ depsOf o, L d
  eff : ∀ m, m < ops.size → Eff S m → (L m ↔ (S m).k < e)
  lev : ∀ j, j < ops.size → L j → lvl S ops.size j ≤ e
  le : e ≤ (S ops.size).k
  td : TDen ρ T n a.tmps
  slotw : ∀ (j : Nat) (p : Oper) (t : Tmp), ops[j]? = some p → p.dst = some t → (L j → T.get t = some (V j)) ∧ (¬ L j → T.get t = (S 0).T.get t)
  slotf : ∀ t : Tmp, (∀ (j : Nat) (p : Oper), ops[j]? = some p → p.dst ≠ some t) → T.get t = (S 0).T.get t
  G : Glob ρ
  gi : GI P B ρ0 (S 0).cur w0 (S ops.size).cur.next ρ g w
  hp : ∀ x k, (hpf S ops.size e).get x = some k → g x = some k
  lt : ∀ x k, (hpf S ops.size e).get x = some k → x < (hpf S ops.size e).next
  pend : ∀ j, j < ops.size → L j → Al S j → e ≤ (S j).k → g (S j).cur.next = blkOf S j
  conv : ∀ x k, g x = some k → (hpf S ops.size e).get x = some k ∨ ∃ j, j < ops.size ∧ L j ∧ Al S j ∧ e ≤ (S j).k ∧ x = (S j).cur.next
  fresh : ∀ j, j < ops.size → ¬ L j → Fr ρ (S j).cur.next (S (j + 1)).cur.next
  dfr : a.defers = a0.defers

variable {B : Nat} {ρ0 : Env} {w0 : World} {a0 : Act} {L : Nat → Prop} {e : Nat} {ρ : Env} {g : Nat → Option ABlk} {T : Tr AV} {a : Act} {w : World} {i : Nat} {o : Oper}

/-- what an operation reads of the slots: as in order -/
theorem RI.slots (R : Run P call round ops n S V) (I : RI P B ρ0 w0 a0 ops n S V L e ρ g T a w) (ho : ops[i]? = some o) (hL : ¬ L i) (hd : ∀ d ∈ depsOf o, L d) {t : Tmp} (ht : Operand.tmp t ∈ o.op.operands.toList) : T.get t = (S i).T.get t := by
  have hi : i < ops.size := (Array.getElem?_eq_some_iff.1 ho).1
  have F := opFacts R.ok ho
  rcases F.slot t ht with h | ⟨k, p, h1, h2, h3 | h3⟩
  · rw [I.slotf t h, R.slot_free h (Nat.le_of_lt hi)]
  · rw [(I.slotw k p t h1 h2).1 (hd k h3), R.slot_hi h1 h2 (F.lt k h3) (Nat.le_of_lt hi)]
  · have hk : ¬ L k := fun hk => hL (I.closed k p hk h1 i h3)
    rw [(I.slotw k p t h1 h2).2 hk, R.slot_lo h1 h2 (Nat.le_of_lt ((opFacts R.ok h1).lt i h3))]
theorem RI.ev (R : Run P call round ops n S V) (I : RI P B ρ0 w0 a0 ops n S V L e ρ g T a w) (ho : ops[i]? = some o) (hL : ¬ L i) (hd : ∀ d ∈ depsOf o, L d) : ∀ x ∈ o.op.operands.toList, evT T x = evT (S i).T x := fun x hx => by
  cases x with
  | tmp t =>
    show @Option.rec AV (fun _ => AV) (.raw undef) (fun v => v) (T.get t) = @Option.rec AV (fun _ => AV) (.raw undef) (fun v => v) ((S i).T.get t)
    rw [I.slots R ho hL hd hx]
  | _ => rfl
theorem RI.wants (R : Run P call round ops n S V) (I : RI P B ρ0 w0 a0 ops n S V L e ρ g T a w) (ho : ops[i]? = some o) (hd : ∀ d ∈ depsOf o, L d) : awanted T ops o = awanted (S i).T ops o := by
  have hi : i < ops.size := (Array.getElem?_eq_some_iff.1 ho).1
  have F := opFacts R.ok ho
  cases hg : o.guard with
  | none => unfold awanted; rw [hg]
  | some q =>
    have e : ∀ T, awanted T ops o = awantedG T ops q := fun T => by unfold awanted; rw [hg]
    rw [e, e]
    unfold awantedG
    cases hp : ops[q.1]? with
    | none => rfl
    | some p =>
      cases hpd : p.dst with
      | none => simp [hpd]
      | some d =>
        simp only [Option.bind_some, hpd]
        have hq := F.guard q hg
        rw [(I.slotw q.1 p d hp hpd).1 (hd _ hq), R.slot_hi hp hpd (F.lt _ hq) (Nat.le_of_lt hi)]
theorem RI.level (R : Run P call round ops n S V) (I : RI P B ρ0 w0 a0 ops n S V L e ρ g T a w) (ho : ops[i]? = some o) (hd : ∀ d ∈ depsOf o, L d) : Sx.level (S ops.size).lev (depsOf o) ≤ e :=
  level_of fun d hdd => I.lev d (Nat.lt_trans ((opFacts R.ok ho).lt d hdd) (Array.getElem?_eq_some_iff.1 ho).1) (hd d hdd)

/-- one operation more -/
theorem RI.after (R : Run P call round ops n S V) (hC : CallOk P call) (hR : RoundOk P round) (I : RI P B ρ0 w0 a0 ops n S V L e ρ g T a w) (ho : ops[i]? = some o) (hL : ¬ L i) (hd : ∀ d ∈ depsOf o, L d)
    {X X' : AHeap} {ρ' : Env} {w' : World} {x : Value} {T1 : Tr AV} {e' : Nat} (hT : putT T n o.dst (V i) = some T1) (hx : Den ρ' (V i) x) (hX : ∀ x k, X.get x = some k → g x = some k) (hH : HDen P B ρ' X' w') (hs : Stp ρ X w ρ' X' w')
    (hρ : ∀ x, x < (S i).cur.next ∨ (S (i + 1)).cur.next ≤ x → ρ' x = ρ x)
    (he : e ≤ e') (heff : ∀ m, m < ops.size → Eff S m → ((m = i ∨ L m) ↔ (S m).k < e')) (hlev : lvl S ops.size i ≤ e') (hle : e' ≤ (S ops.size).k)
    (hhp : ∀ x k, (hpf S ops.size e').get x = some k → upd g X X' x = some k) (hlt : ∀ x k, (hpf S ops.size e').get x = some k → x < (hpf S ops.size e').next)
    (hpend : ∀ j, j < ops.size → (j = i ∨ L j) → Al S j → e' ≤ (S j).k → upd g X X' (S j).cur.next = blkOf S j)
    (hconv : ∀ x k, upd g X X' x = some k → (hpf S ops.size e').get x = some k ∨ ∃ j, j < ops.size ∧ (j = i ∨ L j) ∧ Al S j ∧ e' ≤ (S j).k ∧ x = (S j).cur.next) :
    RI P B ρ0 w0 a0 ops n S V (fun j => j = i ∨ L j) e' ρ' (upd g X X') T1 (a.put o.dst x) w' := by
  have hi : i < ops.size := (Array.getElem?_eq_some_iff.1 ho).1
  refine ⟨fun j p hj hp d hdd => ?_, heff, fun j hj h => ?_, hle, put_ok (I.td.mono hs.le) hT hx, fun j p t hj hp => ?_, fun t ht => ?_, I.G.mono hs.le, I.gi.step hX hH hs fun x hx => hρ x ?_, hhp, hlt, hpend, hconv, fun j hj hn x h1 h2 => ?_, by rw [put_defers, I.dfr]⟩
  · rcases hj with rfl | hj
    · rw [ho] at hp; cases hp; exact .inr (hd d hdd)
    · exact .inr (I.closed j p hj hp d hdd)
  · rcases h with rfl | h
    · exact hlev
    · exact Nat.le_trans (I.lev j hj h) he
  · rw [putT_get hT]
    by_cases hji : j = i
    · subst hji
      rw [ho] at hj; cases hj
      rw [if_pos hp]
      exact ⟨fun _ => rfl, fun h => (h (.inl rfl)).elim⟩
    · rw [if_neg fun hh => hji ((opFacts R.ok ho).dst t hh j p hj hp)]
      exact ⟨fun h => (I.slotw j p t hj hp).1 (h.resolve_left hji), fun h => (I.slotw j p t hj hp).2 fun hh => h (.inr hh)⟩
  · rw [putT_get hT, if_neg (ht i o ho), I.slotf t ht]
  · rcases hx with hx | hx
    · exact .inl (Nat.lt_of_lt_of_le hx (R.next_mono hC hR (Nat.zero_le _) (Nat.le_of_lt hi)))
    · exact .inr (Nat.le_trans (R.next_mono hC hR hi (Nat.le_refl _)) hx)
  · have hj2 : ¬ j = i ∧ ¬ L j := ⟨fun h => hn (.inl h), fun h => hn (.inr h)⟩
    rw [hρ x ?_]
    · exact I.fresh j hj hj2.2 x h1 h2
    · rcases Nat.lt_or_gt_of_ne hj2.1 with hl | hl
      · exact .inl (Nat.lt_of_lt_of_le h2 (R.next_mono hC hR hl (Nat.le_of_lt hi)))
      · exact .inr (Nat.le_trans (R.next_mono hC hR hl (Nat.le_of_lt hj)) h1)
end
end Go.Proofs.YtcdknjkkaonbiaaGreatDoor.Sx
