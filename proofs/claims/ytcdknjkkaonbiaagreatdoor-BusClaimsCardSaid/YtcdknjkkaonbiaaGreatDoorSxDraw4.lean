/- The runner over an abstract memory: regions that draw their order: facts of the run's record. -/
import Derived.Test.YtcdknjkkaonbiaaGreatDoorSxDraw3
namespace Go.Proofs.YtcdknjkkaonbiaaGreatDoor.Sx
open Go.RowKit

theorem level_congr {lev lev' : Tr Nat} : ∀ {ds : List Nat}, (∀ d ∈ ds, lev.get d = lev'.get d) → level lev ds = level lev' ds
  | [], _ => rfl
  | a :: l, h => by
    show Nat.max ((lev.get a).getD 0) (level lev l) = Nat.max ((lev'.get a).getD 0) (level lev' l)
    rw [h a List.mem_cons_self, level_congr fun d hd => h d (List.mem_cons_of_mem _ hd)]
theorem still_mem {ds : List Nat} {q : Pend} (hq : ¬ q.i ∈ ds) : ∀ {l : List Pend}, q ∈ l → q ∈ stillPend ds l
  | [], h => by cases h
  | a :: l, h => by
    show q ∈ cond (memN a.i ds) (stillPend ds l) (a :: stillPend ds l)
    cases hm : memN a.i ds with
    | true =>
      rcases List.mem_cons.1 h with rfl | h
      · exact absurd (memN_iff.1 hm) hq
      · exact still_mem hq h
    | false =>
      rcases List.mem_cons.1 h with rfl | h
      · exact List.mem_cons_self
      · exact List.mem_cons_of_mem _ (still_mem hq h)
theorem pendOk_mem {P : Program} {H : AHeap} {q : Pend} : ∀ {l : List Pend}, pendOk P H l = true → q ∈ l → rsame P q.o (evT q.T) q.v H = true
  | [], _, h => by cases h
  | a :: l, hp, h => by
    have e : pendOk P H (a :: l) = cond (rsame P a.o (evT a.T) a.v H) (pendOk P H l) false := rfl
    rw [e] at hp
    cases hr : rsame P a.o (evT a.T) a.v H with
    | false => rw [hr] at hp; cases hp
    | true =>
      rw [hr] at hp
      rcases List.mem_cons.1 h with rfl | h
      · exact hr
      · exact pendOk_mem hp h
theorem rall_mem {P : Program} {o : Oper} {ev : Ev} {v : AV} {H : AHeap} : ∀ {l : List AHeap}, rall P o ev v l = true → H ∈ l → rsame P o ev v H = true
  | [], _, h => by cases h
  | a :: l, hp, h => by
    have e : rall P o ev v (a :: l) = cond (rsame P o ev v a) (rall P o ev v l) false := rfl
    rw [e] at hp
    cases hr : rsame P o ev v a with
    | false => rw [hr] at hp; cases hp
    | true =>
      rw [hr] at hp
      rcases List.mem_cons.1 h with rfl | h
      · exact hr
      · exact rall_mem hp h
theorem rsame_ok {P : Program} {o : Oper} {ev : Ev} {v : AV} {H : AHeap} (hk : kdOf o.op = .r) (h : rsame P o ev v H = true) : aop o.op P o ev H = .ok v H := by
  unfold rsame at h
  split at h
  · rename_i v' H' hop
    rw [hop, same_ok h, kd_r hk hop]
  · cases h

section
variable {P : Program} {call : Caller} {round : Rounder} {ops : Array Oper} {n : Nat} {S : Nat → DS} {V : Nat → AV}

theorem op_at {i : Nat} (h : i < ops.size) : ∃ o, ops[i]? = some o := ⟨ops[i], by simp⟩

abbrev Eff (S : Nat → DS) (m : Nat) : Prop := (S (m + 1)).k = (S m).k + 1
abbrev Al (S : Nat → DS) (j : Nat) : Prop := (S (j + 1)).als = j :: (S j).als
noncomputable abbrev lvl (S : Nat → DS) (N j : Nat) : Nat := ((S N).lev.get j).getD 0
noncomputable abbrev hpf (S : Nat → DS) (N e : Nat) : AHeap := ((S N).hs.reverse[e]?).getD { m := .nil, next := 0 }

variable (R : Run P call round ops n S V)
include R

theorem Run.k_step {i : Nat} (hi : i < ops.size) : (S (i + 1)).k = (S i).k ∨ (S (i + 1)).k = (S i).k + 1 := by
  obtain ⟨o, ho⟩ := op_at hi
  cases R.kind i o ho with
  | skip _ _ hk => exact .inl hk
  | p _ _ _ hk => exact .inl hk
  | r _ _ _ hk => exact .inl hk
  | a _ _ _ hk => exact .inl hk
  | e _ _ _ _ _ hk => exact .inr hk
theorem Run.k_mono {i : Nat} : ∀ {j : Nat}, i ≤ j → j ≤ ops.size → (S i).k ≤ (S j).k
  | 0, h, _ => by have : i = 0 := by omega
                  subst this; exact Nat.le_refl _
  | j + 1, h, hj => by
    by_cases hi : i = j + 1
    · subst hi; exact Nat.le_refl _
    · have h1 := Run.k_mono (i := i) (j := j) (by omega) (by omega)
      have h2 := R.k_step (i := j) (by omega)
      omega
theorem Run.k_between {i e : Nat} : ∀ {j : Nat}, i ≤ j → j ≤ ops.size → (S i).k < e → e ≤ (S j).k → ∃ m, i ≤ m ∧ m < j ∧ (S m).k + 1 = e ∧ Eff S m
  | 0, h, _, h1, h2 => by have : i = 0 := by omega
                          subst this; omega
  | j + 1, h, hj, h1, h2 => by
    by_cases hi : i = j + 1
    · subst hi; omega
    · by_cases he : e ≤ (S j).k
      · obtain ⟨m, a, b, c, d⟩ := Run.k_between (j := j) (by omega) (by omega) h1 he
        exact ⟨m, a, by omega, c, d⟩
      · have h3 := R.k_step (i := j) (by omega)
        exact ⟨j, by omega, by omega, by omega, by unfold Eff; omega⟩
theorem Run.k0 : (S 0).k = 0 := by obtain ⟨T, H, h⟩ := R.at0; rw [h]

theorem Run.next_step (hC : CallOk P call) (hR : RoundOk P round) {i : Nat} (hi : i < ops.size) : (S i).cur.next ≤ (S (i + 1)).cur.next := by
  obtain ⟨o, ho⟩ := op_at hi
  cases R.kind i o ho with
  | skip _ _ _ hc => exact Nat.le_of_eq (by rw [hc])
  | p _ _ _ _ hc => exact Nat.le_of_eq (by rw [hc])
  | r _ _ _ _ hc => exact Nat.le_of_eq (by rw [hc])
  | a _ hkd hop =>
    obtain ⟨_, blk, e, _⟩ := kd_a hkd hop
    rw [e]; exact Nat.le_succ _
  | e _ _ _ hop => exact aoper_mono hC hR hop
theorem Run.next_mono (hC : CallOk P call) (hR : RoundOk P round) {i : Nat} : ∀ {j : Nat}, i ≤ j → j ≤ ops.size → (S i).cur.next ≤ (S j).cur.next
  | 0, h, _ => by have : i = 0 := by omega
                  subst this; exact Nat.le_refl _
  | j + 1, h, hj => by
    by_cases hi : i = j + 1
    · subst hi; exact Nat.le_refl _
    · exact Nat.le_trans (Run.next_mono hC hR (i := i) (j := j) (by omega) (by omega)) (R.next_step hC hR (by omega))

theorem Run.lev_step {i x : Nat} (hi : i < ops.size) (hx : x ≠ i) : (S (i + 1)).lev.get x = (S i).lev.get x := by
  obtain ⟨o, ho⟩ := op_at hi
  have e := R.i i (Nat.le_of_lt hi)
  have key : ∀ y, ((S i).lev.set (S i).i (some y)).get x = (S i).lev.get x := fun y => by rw [Tr.get_set, e, if_neg fun h => hx h.symm]
  cases R.kind i o ho with
  | skip _ _ _ _ _ hl => rw [hl, key]
  | p _ _ _ _ _ _ hl => rw [hl, key]
  | r _ _ _ _ _ _ hl => rw [hl, key]
  | a _ _ _ _ _ hl => rw [hl, key]
  | e _ _ _ _ _ _ _ hl => rw [hl, key]
theorem Run.lev_get {i x : Nat} (hx : x < i) : ∀ {j : Nat}, i ≤ j → j ≤ ops.size → (S j).lev.get x = (S i).lev.get x
  | 0, h, _ => by omega
  | j + 1, h, hj => by
    by_cases hi : i = j + 1
    · subst hi; rfl
    · rw [R.lev_step (by omega) (by omega), Run.lev_get hx (j := j) (by omega) (by omega)]
/-- the level an operation starts at -/
theorem Run.level {i : Nat} {o : Oper} (ho : ops[i]? = some o) : level (S i).lev (depsOf o) = level (S ops.size).lev (depsOf o) := by
  have hi : i < ops.size := (Array.getElem?_eq_some_iff.1 ho).1
  exact level_congr fun d hd => (R.lev_get ((opFacts R.ok ho).lt d hd) (Nat.le_of_lt hi) (Nat.le_refl _)).symm
/-- the level it ends at -/
theorem Run.lvl_of {i : Nat} {o : Oper} (ho : ops[i]? = some o) : (Eff S i ∧ lvl S ops.size i = (S i).k + 1) ∨ (¬ Eff S i ∧ lvl S ops.size i = Sx.level (S ops.size).lev (depsOf o)) := by
  have hi : i < ops.size := (Array.getElem?_eq_some_iff.1 ho).1
  have e := R.i i (Nat.le_of_lt hi)
  have h1 : lvl S ops.size i = ((S (i + 1)).lev.get i).getD 0 := by unfold lvl; rw [R.lev_get (Nat.lt_succ_self i) hi (Nat.le_refl _)]
  have key : ∀ y, (S (i + 1)).lev = (S i).lev.set (S i).i (some y) → lvl S ops.size i = y := fun y h => by rw [h1, h, Tr.get_set, e, if_pos rfl]; rfl
  have hl := R.level ho
  cases R.kind i o ho with
  | skip _ _ hk _ _ hh => exact .inr ⟨by unfold Eff; omega, by rw [key _ hh, hl]⟩
  | p _ _ _ hk _ _ hh => exact .inr ⟨by unfold Eff; omega, by rw [key _ hh, hl]⟩
  | r _ _ _ hk _ _ hh => exact .inr ⟨by unfold Eff; omega, by rw [key _ hh, hl]⟩
  | a _ _ _ hk _ hh => exact .inr ⟨by unfold Eff; omega, by rw [key _ hh, hl]⟩
  | e _ _ _ _ _ hk _ hh => exact .inl ⟨hk, by rw [key _ hh]⟩

theorem Run.hs_step {i : Nat} (hi : i < ops.size) : ((S (i + 1)).hs = (S i).hs ∧ (S (i + 1)).k = (S i).k) ∨ ((S (i + 1)).hs = (S (i + 1)).cur :: (S i).hs ∧ (S (i + 1)).k = (S i).k + 1) := by
  obtain ⟨o, ho⟩ := op_at hi
  cases R.kind i o ho with
  | skip _ _ hk _ hh => exact .inl ⟨hh, hk⟩
  | p _ _ _ hk _ hh => exact .inl ⟨hh, hk⟩
  | r _ _ _ hk _ hh => exact .inl ⟨hh, hk⟩
  | a _ _ _ hk hh => exact .inl ⟨hh, hk⟩
  | e _ _ _ _ _ hk hh => exact .inr ⟨hh, hk⟩
theorem Run.hs_len {i : Nat} (hi : i ≤ ops.size) : (S i).hs.length = (S i).k + 1 := by
  induction i with
  | zero => obtain ⟨T, H, h⟩ := R.at0; rw [h]; rfl
  | succ i ih =>
    have ih := ih (Nat.le_of_succ_le hi)
    rcases R.hs_step (i := i) hi with ⟨a, b⟩ | ⟨a, b⟩
    · rw [a, b, ih]
    · rw [a, b, List.length_cons, ih]
theorem Run.hs_get {i e : Nat} (he : e ≤ (S i).k) : ∀ {j : Nat}, i ≤ j → j ≤ ops.size → (S j).hs.reverse[e]? = (S i).hs.reverse[e]?
  | 0, h, _ => by have : i = 0 := by omega
                  subst this; rfl
  | j + 1, h, hj => by
    by_cases hi : i = j + 1
    · subst hi; rfl
    · have ih := Run.hs_get he (j := j) (by omega) (by omega)
      rcases R.hs_step (i := j) hj with ⟨a, b⟩ | ⟨a, b⟩
      · rw [a, ih]
      · have hl := R.hs_len (i := j) (by omega)
        have hm := R.k_mono (i := i) (j := j) (by omega) (by omega)
        rw [a, List.reverse_cons, List.getElem?_append_left (by simp; omega), ih]
theorem Run.hpf_at {i e : Nat} (hi : i ≤ ops.size) (he : e ≤ (S i).k) : (S i).hs.reverse[e]? = some (hpf S ops.size e) := by
  have h1 := R.hs_get he hi (Nat.le_refl _)
  have hl := R.hs_len hi
  have h2 : ∃ x, (S i).hs.reverse[e]? = some x := ⟨_, List.getElem?_eq_getElem (by simp; omega)⟩
  obtain ⟨x, hx⟩ := h2
  unfold hpf
  rw [h1, hx]; rfl
theorem Run.hpf_eff {i : Nat} (hi : i < ops.size) (he : Eff S i) : hpf S ops.size ((S i).k + 1) = (S (i + 1)).cur := by
  have h1 := R.hpf_at (i := i + 1) (e := (S i).k + 1) hi (by unfold Eff at he; omega)
  have hl := R.hs_len (i := i) (by omega)
  unfold Eff at he
  rcases R.hs_step (i := i) hi with ⟨a, b⟩ | ⟨a, b⟩
  · omega
  · rw [a, List.reverse_cons, List.getElem?_append_right (by simp; omega)] at h1
    simp [hl] at h1
    exact h1.symm
theorem Run.hpf_zero : hpf S ops.size 0 = (S 0).cur := by
  have h1 := R.hpf_at (i := 0) (e := 0) (Nat.zero_le _) (Nat.zero_le _)
  obtain ⟨T, H, h⟩ := R.at0
  rw [h] at h1 ⊢
  simp at h1
  exact h1.symm
theorem Run.hs_mem {i e l : Nat} (hi : i ≤ ops.size) (he : e ≤ (S i).k) (hl : l ≤ e) : hpf S ops.size e ∈ (S i).hs.take ((S i).k + 1 - l) := by
  have h1 := R.hpf_at hi he
  have hn := R.hs_len hi
  rw [List.getElem?_reverse (by omega)] at h1
  refine List.mem_of_getElem? (i := (S i).hs.length - 1 - e) ?_
  rw [List.getElem?_take_of_lt (by omega)]
  exact h1

/-- the zero variables laid since the last effect -/
theorem Run.als_mem {i : Nat} (hi : i ≤ ops.size) : ∀ j, j ∈ (S i).als ↔ (j < i ∧ Al S j ∧ (S j).k = (S i).k) := by
  induction i with
  | zero => intro j; obtain ⟨T, H, h⟩ := R.at0; rw [h]; simp
  | succ i ih =>
    have ih := ih (Nat.le_of_succ_le hi)
    obtain ⟨o, ho⟩ := op_at (ops := ops) (i := i) hi
    have e := R.i i (Nat.le_of_lt hi)
    have same : (S (i + 1)).als = (S i).als → (S (i + 1)).k = (S i).k → ∀ j, j ∈ (S (i + 1)).als ↔ (j < i + 1 ∧ Al S j ∧ (S j).k = (S (i + 1)).k) := fun ha hk j => by
      rw [ha, hk, ih]
      constructor
      · rintro ⟨a, b, c⟩; exact ⟨by omega, b, c⟩
      · rintro ⟨a, b, c⟩
        refine ⟨?_, b, c⟩
        by_cases hj : j = i
        · subst hj
          unfold Al at b
          rw [ha] at b
          have := congrArg List.length b
          simp at this
        · omega
    cases R.kind i o ho with
    | skip _ _ hk _ _ _ _ ha => exact same ha hk
    | p _ _ _ hk _ _ _ _ ha => exact same ha hk
    | r _ _ _ hk _ _ _ _ ha => exact same ha hk
    | a _ _ _ hk _ _ _ ha =>
      intro j
      rw [ha, hk, e, List.mem_cons, ih]
      constructor
      · rintro (rfl | ⟨a, b, c⟩)
        · exact ⟨Nat.lt_succ_self _, by unfold Al; rw [ha, e], rfl⟩
        · exact ⟨by omega, b, c⟩
      · rintro ⟨a, b, c⟩
        by_cases hj : j = i
        · exact .inl hj
        · exact .inr ⟨by omega, b, c⟩
    | e _ _ _ _ _ hk _ _ _ ha =>
      intro j
      rw [ha, hk]
      constructor
      · intro h; cases h
      · rintro ⟨a, b, c⟩
        have := R.k_mono (i := j) (j := i) (by omega) (by omega)
        omega

/-- what an allocation lays -/
noncomputable abbrev blkOf (S : Nat → DS) (j : Nat) : Option ABlk := (S (j + 1)).cur.get (S j).cur.next
theorem Run.al_inv {i : Nat} {o : Oper} (ho : ops[i]? = some o) (ha : Al S i) : awanted (S i).T ops o = some true ∧ kdOf o.op = .a ∧ aop o.op P o (evT (S i).T) (S i).cur = .ok (V i) (S (i + 1)).cur ∧ (S (i + 1)).k = (S i).k := by
  have hi : i < ops.size := (Array.getElem?_eq_some_iff.1 ho).1
  have no : (S (i + 1)).als = (S i).als → False := fun h => by
    unfold Al at ha
    rw [h] at ha
    have := congrArg List.length ha
    simp at this
  cases R.kind i o ho with
  | skip _ _ _ _ _ _ _ h => exact (no h).elim
  | p _ _ _ _ _ _ _ _ h => exact (no h).elim
  | r _ _ _ _ _ _ _ _ h => exact (no h).elim
  | a h1 h2 h3 h4 => exact ⟨h1, h2, h3, h4⟩
  | e _ _ _ _ _ _ _ _ _ h => unfold Al at ha; rw [h] at ha; cases ha

/-- the memory in order -/
theorem Run.cur_sub {i : Nat} (hi : i ≤ ops.size) : (∀ x b, (S i).cur.get x = some b → (hpf S ops.size (S i).k).get x = some b ∨ ∃ j ∈ (S i).als, x = (S j).cur.next ∧ blkOf S j = some b) ∧
    (∀ x, (hpf S ops.size (S i).k).get x ≠ none → (S i).cur.get x ≠ none) ∧ (∀ j ∈ (S i).als, (S i).cur.get (S j).cur.next ≠ none) := by
  induction i with
  | zero =>
    rw [R.k0, R.hpf_zero]
    refine ⟨fun x b h => .inl h, fun x h => h, fun j hj => ?_⟩
    obtain ⟨T, H, h⟩ := R.at0
    rw [h] at hj
    cases hj
  | succ i ih =>
    have ih := ih (Nat.le_of_succ_le hi)
    obtain ⟨o, ho⟩ := op_at (ops := ops) (i := i) hi
    have e := R.i i (Nat.le_of_lt hi)
    cases R.kind i o ho with
    | skip _ _ hk hc _ _ _ ha => rw [hk, hc, ha]; exact ih
    | p _ _ _ hk hc _ _ _ ha => rw [hk, hc, ha]; exact ih
    | r _ _ _ hk hc _ _ _ ha => rw [hk, hc, ha]; exact ih
    | a _ hkd hop hk _ _ _ ha =>
      obtain ⟨_, blk, hcur, _⟩ := kd_a hkd hop
      rw [hk, ha, e]
      refine ⟨fun x b h => ?_, fun x h => ?_, fun j hj => ?_⟩
      · rw [hcur, AHeap.get_new] at h
        split at h
        · rename_i hx
          refine .inr ⟨i, List.mem_cons_self, hx.symm, ?_⟩
          unfold blkOf
          rw [hcur, AHeap.get_new, if_pos rfl, h]
        · rcases ih.1 x b h with h | ⟨j, h1, h2⟩
          · exact .inl h
          · exact .inr ⟨j, List.mem_cons_of_mem _ h1, h2⟩
      · rw [hcur, AHeap.get_new]
        split
        · simp
        · exact ih.2.1 x h
      · rw [hcur, AHeap.get_new]
        split
        · simp
        · rename_i hne
          rcases List.mem_cons.1 hj with rfl | hj
          · exact absurd rfl hne
          · exact ih.2.2 j hj
    | e _ _ _ _ _ hk _ _ _ ha =>
      rw [hk, R.hpf_eff hi hk, ha]
      exact ⟨fun x b h => .inl h, fun x h => h, fun j hj => by cases hj⟩

/-- the reads that may still come -/
theorem Run.pend_mem {i : Nat} {o : Oper} (ho : ops[i]? = some o) (hp : (S (i + 1)).pend = ⟨(S i).i, o, (S i).T, V i⟩ :: (S i).pend) : ∀ {j : Nat}, i < j → j ≤ ops.size →
    (∀ m om, i < m → m < j → Eff S m → ops[m]? = some om → ¬ i ∈ depsOf om) → (⟨(S i).i, o, (S i).T, V i⟩ : Pend) ∈ (S j).pend
  | 0, h, _, _ => by omega
  | j + 1, h, hj, hm => by
    by_cases hi : i = j
    · subst hi; rw [hp]; exact List.mem_cons_self
    · have ih := Run.pend_mem ho hp (j := j) (by omega) (by omega) fun m om h1 h2 => hm m om h1 (by omega)
      obtain ⟨oj, hoj⟩ := op_at (ops := ops) (i := j) hj
      have ei := R.i i (by omega)
      cases R.kind j oj hoj with
      | skip _ _ _ _ _ _ hq => rw [hq]; exact ih
      | p _ _ _ _ _ _ _ hq => rw [hq]; exact ih
      | r _ _ _ _ _ _ _ hq => rw [hq]; exact List.mem_cons_of_mem _ ih
      | a _ _ _ _ _ _ hq => rw [hq]; exact ih
      | e _ _ _ _ _ hk _ _ hq => rw [hq]; exact still_mem (by rw [ei]; exact hm j oj (by omega) (Nat.lt_succ_self _) hk hoj) ih
/-- a read may come at each of these times -/
theorem Run.read {i e : Nat} {o : Oper} (ho : ops[i]? = some o) (hkd : kdOf o.op = .r) (hr : rall P o (evT (S i).T) (V i) ((S i).hs.take ((S i).k + 1 - Sx.level (S i).lev (depsOf o))) = true)
    (hp : (S (i + 1)).pend = ⟨(S i).i, o, (S i).T, V i⟩ :: (S i).pend) (hl : Sx.level (S ops.size).lev (depsOf o) ≤ e) (he : e ≤ (S ops.size).k) (hm : ∀ m om, m < ops.size → Eff S m → (S m).k < e → ops[m]? = some om → ¬ i ∈ depsOf om) :
    aop o.op P o (evT (S i).T) (hpf S ops.size e) = .ok (V i) (hpf S ops.size e) := by
  have hi : i < ops.size := (Array.getElem?_eq_some_iff.1 ho).1
  refine rsame_ok hkd ?_
  by_cases hk : e ≤ (S i).k
  · exact rall_mem hr (R.hs_mem (Nat.le_of_lt hi) hk (by rw [R.level ho]; exact hl))
  · obtain ⟨m, h1, h2, h3, h4⟩ := R.k_between (i := i) (j := ops.size) (Nat.le_of_lt hi) (Nat.le_refl _) (by omega) he
    obtain ⟨om, hom⟩ := op_at h2
    have him : i ≠ m := fun hh => by
      subst hh
      rw [ho] at hom
      cases hom
      have hc := R.kind i o ho
      have := R.hs_step h2
      cases hc with
      | skip _ _ hk => unfold Eff at h4; omega
      | p _ _ _ hk => unfold Eff at h4; omega
      | r _ _ _ hk => unfold Eff at h4; omega
      | a _ _ _ hk => unfold Eff at h4; omega
      | e _ _ _ _ _ _ _ _ hq =>
        have h1 := congrArg List.length (hp.symm.trans hq)
        have h2 : ∀ (ds : List Nat) (l : List Pend), (stillPend ds l).length ≤ l.length := fun ds l => by
          induction l with
          | nil => exact Nat.le_refl _
          | cons a l ih =>
            show (cond (memN a.i ds) (stillPend ds l) (a :: stillPend ds l)).length ≤ _
            cases memN a.i ds <;> simp <;> omega
        have := h2 (depsOf o) (S i).pend
        simp at h1
        omega
    have hq := R.pend_mem ho hp (j := m) (by omega) (Nat.le_of_lt h2) fun m' om' a b c d => hm m' om' (by omega) c (by
      have := R.k_mono (i := m') (j := m) (by omega) (by omega)
      omega) d
    have ei := R.i i (Nat.le_of_lt hi)
    cases R.kind m om hom with
    | skip _ _ hk => unfold Eff at h4; omega
    | p _ _ _ hk => unfold Eff at h4; omega
    | r _ _ _ hk => unfold Eff at h4; omega
    | a _ _ _ hk => unfold Eff at h4; omega
    | e _ _ _ _ hpd =>
      have := pendOk_mem hpd (still_mem (by rw [ei]; exact hm m om h2 h4 (by omega) hom) hq)
      rw [← R.hpf_eff h2 h4, h3] at this
      exact this

/-- the slots in order -/
theorem Run.slot_free {t : Nat} (h : ∀ (j : Nat) (p : Oper), ops[j]? = some p → p.dst ≠ some t) {i : Nat} (hi : i ≤ ops.size) : (S i).T.get t = (S 0).T.get t := by
  induction i with
  | zero => rfl
  | succ i ih =>
    obtain ⟨o, ho⟩ := op_at (ops := ops) (i := i) hi
    rw [putT_get (R.put i o ho), if_neg (h i o ho), ih (Nat.le_of_succ_le hi)]
theorem Run.slot_lo {t k : Nat} {p : Oper} (hk : ops[k]? = some p) (hp : p.dst = some t) {i : Nat} (hi : i ≤ k) : (S i).T.get t = (S 0).T.get t := by
  have hkl : k < ops.size := (Array.getElem?_eq_some_iff.1 hk).1
  induction i with
  | zero => rfl
  | succ i ih =>
    obtain ⟨o, ho⟩ := op_at (ops := ops) (i := i) (by omega)
    rw [putT_get (R.put i o ho), if_neg (fun hh => by
      have := (opFacts R.ok hk).dst t hp i o ho hh
      omega), ih (Nat.le_of_succ_le hi)]
theorem Run.slot_hi {t k : Nat} {p : Oper} (hk : ops[k]? = some p) (hp : p.dst = some t) : ∀ {i : Nat}, k < i → i ≤ ops.size → (S i).T.get t = some (V k)
  | 0, h, _ => by omega
  | i + 1, h, hi => by
    obtain ⟨o, ho⟩ := op_at (ops := ops) (i := i) (by omega)
    rw [putT_get (R.put i o ho)]
    by_cases hik : i = k
    · subst hik; rw [hk] at ho; cases ho; rw [if_pos hp]
    · rw [if_neg (fun hh => hik ((opFacts R.ok hk).dst t hp i o ho hh)), Run.slot_hi hk hp (i := i) (by omega) (by omega)]
end
end Go.Proofs.YtcdknjkkaonbiaaGreatDoor.Sx
