/- The runner over an abstract memory: regions that draw their order. -/
import Derived.Test.YtcdknjkkaonbiaaGreatDoorSxDraw5
namespace Go.Proofs.YtcdknjkkaonbiaaGreatDoor.Sx
open Go.RowKit

section
variable {P : Program} {call : Caller} {round : Rounder} {ops : Array Oper} {n : Nat} {S : Nat → DS} {V : Nat → AV}
variable {B : Nat} {ρ0 : Env} {w0 : World} {a0 : Act} {L : Nat → Prop} {e : Nat} {ρ : Env} {g : Nat → Option ABlk} {T : Tr AV} {a : Act} {w : World} {i : Nat} {o : Oper}

theorem eff_al (h : Eff S i) (R : Run P call round ops n S V) (hi : i < ops.size) : ¬ Al S i := fun ha => by
  obtain ⟨o, ho⟩ := op_at hi
  obtain ⟨_, _, _, hk⟩ := R.al_inv ho ha
  unfold Eff at h
  omega

/-- an operation that leaves the memory's numbers -/
theorem RI.quiet (R : Run P call round ops n S V) (hC : CallOk P call) (hR : RoundOk P round) (I : RI P B ρ0 w0 a0 ops n S V L e ρ g T a w) (ho : ops[i]? = some o) (hL : ¬ L i) (hd : ∀ d ∈ depsOf o, L d)
    (hE : ¬ Eff S i) (hA : ¬ Al S i) {X : AHeap} {ρ' : Env} {w' : World} {x : Value} {T1 : Tr AV} (hT : putT T n o.dst (V i) = some T1) (hx : Den ρ' (V i) x) (hX : ∀ x k, X.get x = some k → g x = some k) (hH : HDen P B ρ' X w') (hs : Stp ρ X w ρ' X w') :
    RI P B ρ0 w0 a0 ops n S V (fun j => j = i ∨ L j) e ρ' g T1 (a.put o.dst x) w' := by
  have hlv : lvl S ops.size i ≤ e := by
    rcases R.lvl_of ho with ⟨h, _⟩ | ⟨_, h⟩
    · exact absurd h hE
    · rw [h]; exact I.level R ho hd
  have hu := upd_same hX
  have := I.after R hC hR ho hL hd (X := X) (X' := X) (e' := e) hT hx hX hH hs (fun x _ => hs.ext x (by omega)) (Nat.le_refl _)
    (fun m hm hem => ⟨fun h => (I.eff m hm hem).1 (h.resolve_left fun hh => hE (hh ▸ hem)), fun h => .inr ((I.eff m hm hem).2 h)⟩) hlv I.le (by rw [hu]; exact I.hp) I.lt
    (by rw [hu]; exact fun j hj hjl ha => I.pend j hj (hjl.resolve_left fun hh => hA (hh ▸ ha)) ha)
    (by rw [hu]; exact fun x k hk => (I.conv x k hk).imp id fun ⟨j, h1, h2, h3⟩ => ⟨j, h1, .inr h2, h3⟩)
  rwa [hu] at this

theorem RI.step (hK : Known P) (R : Run P call round ops n S V) (hC : CallOk P call) (hR : RoundOk P round) (I : RI P B ρ0 w0 a0 ops n S V L e ρ g T a w) (ho : ops[i]? = some o) (hL : ¬ L i) (hd : ∀ d ∈ depsOf o, L d) (rd : Option Nat) (m : Nat) {K : Act → World → Prop} {Q : Exit → Act → World → Prop}
    (hK' : ∀ e' ρ' g' T' a' w', RI P B ρ0 w0 a0 ops n S V (fun j => j = i ∨ L j) e' ρ' g' T' a' w' → K a' w') : wpOpIn (FF rd) m P ops Q i K a w := by
  have hi : i < ops.size := (Array.getElem?_eq_some_iff.1 ho).1
  have ei := R.i i (Nat.le_of_lt hi)
  have hev := I.ev R ho hL hd
  have hwt := I.wants R ho hd
  obtain ⟨T1, hT⟩ := putT_any (R.put i o ho) T
  have nA : (S (i + 1)).als = (S i).als → ¬ Al S i := fun h ha => by
    unfold Al at ha
    rw [h] at ha
    have := congrArg List.length ha
    simp at this
  have nE : (S (i + 1)).k = (S i).k → ¬ Eff S i := fun h he => by unfold Eff at he; omega
  let Z : AHeap := { m := .nil, next := (S i).cur.next }
  have hZ : ∀ x, Z.get x = none := fun x => Tr.get_nil x
  have hZX : ∀ x k, Z.get x = some k → g x = some k := fun x k h => by rw [hZ] at h; cases h
  have hZH : HDen P B ρ Z w := I.gi.hden hZX fun x k h => by rw [hZ] at h; cases h
  have run : ∀ (X X' : AHeap), awanted (S i).T ops o = some true → HDen P B ρ X w → aoper P call round o (evT T) X = .ok (V i) X' → Fr ρ X.next X'.next →
      (∀ x ρ' w', Den ρ' (V i) x → HDen P B ρ' X' w' → Stp ρ X w ρ' X' w' → K (a.put o.dst x) w') → wpOpIn (FF rd) m P ops Q i K a w := fun X X' hw hX hop hf hn => by
    unfold wpOpIn
    rw [ho]
    simp only
    rw [awanted_ok I.td (hwt.trans hw), if_pos rfl]
    exact aoper_ok hK hC hR ⟨I.td, hX, I.G⟩ hop hf rd m hn
  have aop_of : ∀ {X : AHeap} {v : AV} {X' : AHeap}, aop o.op P o (evT (S i).T) X = .ok v X' → aoper P call round o (evT T) X = .ok v X' := fun {X v X'} h => by
    unfold aoper
    rw [aop_congr hev, h]
  cases R.kind i o ho with
  | skip hw hv hk hc hh hl hp ha =>
    unfold wpOpIn
    rw [ho]
    simp only
    rw [awanted_ok I.td (hwt.trans hw)]
    simp only [Bool.false_eq_true, if_false]
    refine ⟨fun _ _ => trivial, hK' e ρ g T1 _ w ?_⟩
    exact I.quiet R hC hR ho hL hd (nE hk) (nA ha) hT (by rw [hv]; exact .raw _) hZX hZH (Stp.refl _ _ _)
  | p hw hkd hop hk hc hh hl hp ha =>
    obtain ⟨H1, hop⟩ := hop
    refine run Z Z hw hZH (aop_of (kd_p hkd hop Z)) (fun x h1 h2 => absurd h2 (by omega)) fun x ρ' w' h1 h2 h3 => hK' e ρ' g T1 _ w' ?_
    exact I.quiet R hC hR ho hL hd (nE hk) (nA ha) hT h1 hZX h2 h3
  | r hw hkd hr hk hc hh hl hp ha =>
    have hop := R.read ho hkd hr hp (I.level R ho hd) I.le fun m om hm hem hkm hom hmem => hL (I.closed m om ((I.eff m hm hem).2 hkm) hom i hmem)
    refine run _ _ hw (I.gi.hden I.hp I.lt) (aop_of hop) (fun x h1 h2 => absurd h2 (by omega)) fun x ρ' w' h1 h2 h3 => hK' e ρ' g T1 _ w' ?_
    exact I.quiet R hC hR ho hL hd (nE hk) (nA ha) hT h1 I.hp h2 h3
  | a hw hkd hop hk hh hl hp ha =>
    have hA : Al S i := by unfold Al; rw [ha, ei]
    obtain ⟨hv, blk, hcur, hany⟩ := kd_a hkd hop
    obtain ⟨hnx, b0, hb0⟩ := R.al_next hi hA
    have hblk : blkOf S i = some blk := by unfold blkOf; rw [hcur, AHeap.get_new, if_pos rfl]
    have hfr := I.fresh i hi hL
    have hnone : ρ (S i).cur.next = none := hfr _ (Nat.le_refl _) (by omega)
    have hgn : g (S i).cur.next = none := by
      cases hg : g (S i).cur.next with
      | none => rfl
      | some k =>
        obtain ⟨b, c, o', e1, _⟩ := I.gi.blk _ _ hg
        rw [hnone] at e1; cases e1
    have hop' : aop o.op P o (evT (S i).T) Z = .ok (V i) (Z.new blk) := by rw [hany (evT (S i).T) Z, hv]
    have hZn : ∀ x, (Z.new blk).get x = if (S i).cur.next = x then some blk else none := fun x => by rw [AHeap.get_new, hZ]
    have hek : e ≤ (S i).k := by
      refine Nat.le_of_not_lt fun hlt => ?_
      obtain ⟨m, h1, h2, h3, h4⟩ := R.k_between (i := i) (j := ops.size) (e := (S i).k + 1) (Nat.le_of_lt hi) (Nat.le_refl _) (Nat.lt_succ_self _) (Nat.le_trans hlt I.le)
      obtain ⟨om, hom⟩ := op_at h2
      have hne : i ≠ m := fun hh => eff_al h4 R h2 (hh ▸ hA)
      have hmem : i ∈ (S m).als := (R.als_mem (Nat.le_of_lt h2) i).2 ⟨by omega, hA, by omega⟩
      have hmL : L m := (I.eff m h2 h4).2 (by omega)
      cases R.kind m om hom with
      | skip _ _ hk => unfold Eff at h4; omega
      | p _ _ _ hk => unfold Eff at h4; omega
      | r _ _ _ hk => unfold Eff at h4; omega
      | a _ _ _ hk => unfold Eff at h4; omega
      | e _ _ hsub => exact hL (I.closed m om hmL hom i (hsub i hmem))
    have hlv : lvl S ops.size i ≤ e := by
      rcases R.lvl_of ho with ⟨h, _⟩ | ⟨_, h⟩
      · exact absurd h (nE hk)
      · rw [h]; exact I.level R ho hd
    have old : ∀ x k, g x = some k → upd g Z (Z.new blk) x = some k := fun x k hg => by
      have hne : ¬ (S i).cur.next = x := fun hh => by rw [← hh, hgn] at hg; cases hg
      rw [upd_out (by rw [hZn, if_neg hne]) (hZ x), hg]
    refine run Z (Z.new blk) hw hZH (aop_of hop') (fun x h1 h2 => hfr x h1 (by rw [hnx]; exact h2)) fun x ρ' w' h1 h2 h3 => hK' e ρ' (upd g Z (Z.new blk)) T1 _ w' ?_
    refine I.after R hC hR ho hL hd hT h1 hZX h2 h3 (fun x hx => h3.ext x (by rw [hnx] at hx; exact hx)) (Nat.le_refl _)
      (fun m hm hem => ⟨fun h => (I.eff m hm hem).1 (h.resolve_left fun hh => nE hk (hh ▸ hem)), fun h => .inr ((I.eff m hm hem).2 h)⟩) hlv I.le (fun x k h => old x k (I.hp x k h)) I.lt (fun j hj hjl haj hej => ?_) (fun x k h => ?_)
    · by_cases hji : j = i
      · subst hji
        rw [hblk]
        exact upd_in (by rw [hZn, if_pos rfl])
      · have h4 := I.pend j hj (hjl.resolve_left hji) haj hej
        obtain ⟨_, b, hb⟩ := R.al_next hj haj
        rw [hb] at h4 ⊢
        exact old _ _ h4
    · rcases upd_inv h with h | ⟨_, _, h⟩
      · rw [hZn] at h
        split at h
        · rename_i hx; exact .inr ⟨i, hi, .inl rfl, hA, hek, hx.symm⟩
        · cases h
      · exact (I.conv x k h).imp id fun ⟨j, h1, h2, h3⟩ => ⟨j, h1, .inr h2, h3⟩
  | e hw hlv hsub hop hpd hk hh hl hp ha =>
    have hE : Eff S i := hk
    have hek : e = (S i).k := by
      have h1 := I.level R ho hd
      rw [← R.level ho, hlv] at h1
      have h2 : ¬ (S i).k < e := fun h => hL ((I.eff i hi hE).2 h)
      omega
    obtain ⟨c1, c2, c3⟩ := R.cur_sub (Nat.le_of_lt hi)
    have hals := R.als_mem (Nat.le_of_lt hi)
    have hX : ∀ x k, (S i).cur.get x = some k → g x = some k := fun x k h => by
      rcases c1 x k h with h | ⟨j, hj, rfl, hb⟩
      · rw [← hek] at h; exact I.hp x k h
      · obtain ⟨q1, q2, q3⟩ := (hals j).1 hj
        rw [I.pend j (by omega) (hd j (hsub j hj)) q2 (by omega), hb]
    have hlt : ∀ x k, (S i).cur.get x = some k → x < (S i).cur.next := fun x k h => by
      rcases c1 x k h with h | ⟨j, hj, rfl, hb⟩
      · have := R.hpf_next (Nat.le_of_lt hi)
        rw [← hek] at h this
        exact Nat.lt_of_lt_of_le (I.lt x k h) this
      · obtain ⟨q1, q2, q3⟩ := (hals j).1 hj
        have h5 := (R.al_next (i := j) (by omega) q2).1
        have h6 := R.next_mono hC hR (i := j + 1) (j := i) q1 (Nat.le_of_lt hi)
        omega
    have hop' : aoper P call round o (evT T) (S i).cur = .ok (V i) (S (i + 1)).cur := by
      unfold aoper at hop ⊢
      rw [aop_congr hev]
      exact hop
    have hlvi : lvl S ops.size i = e + 1 := by
      rcases R.lvl_of ho with ⟨_, h⟩ | ⟨h, _⟩
      · rw [h, hek]
      · exact absurd hE h
    have hle : e + 1 ≤ (S ops.size).k := by
      have := R.k_mono (i := i + 1) (j := ops.size) hi (Nat.le_refl _)
      omega
    have hhpf : hpf S ops.size (e + 1) = (S (i + 1)).cur := by rw [hek]; exact R.hpf_eff hi hE
    -- what is laid behind this effect lies beyond
    have later : ∀ j, j < ops.size → L j → Al S j → e ≤ (S j).k → (S i).cur.get (S j).cur.next = none → i < j := fun j hj hjl haj hej hnone => by
      refine Nat.lt_of_not_le fun hji => ?_
      have hne : j ≠ i := fun hh => hL (hh ▸ hjl)
      have hm := R.k_mono (i := j) (j := i) hji (Nat.le_of_lt hi)
      exact c3 j ((hals j).2 ⟨by omega, haj, by omega⟩) hnone
    refine run _ _ hw (I.gi.hden hX hlt) hop' (I.fresh i hi hL) fun x ρ' w' h1 h2 h3 => hK' (e + 1) ρ' (upd g (S i).cur (S (i + 1)).cur) T1 _ w' ?_
    have beyond : ∀ j, j < ops.size → i < j → (S i).cur.get (S j).cur.next = none ∧ (S (i + 1)).cur.get (S j).cur.next = none := fun j hj hij => by
      have h6 := R.next_mono hC hR (i := i + 1) (j := j) hij (Nat.le_of_lt hj)
      have h7 := R.next_step hC hR hi
      constructor
      · cases hg : (S i).cur.get (S j).cur.next with
        | none => rfl
        | some k => have := hlt _ _ hg; omega
      · cases hg : (S (i + 1)).cur.get (S j).cur.next with
        | none => rfl
        | some k => have := h2.lt _ _ hg; omega
    refine I.after R hC hR ho hL hd hT h1 hX h2 h3 (fun x hx => h3.ext x hx) (Nat.le_succ _) (fun m hm hem => ?_) (Nat.le_of_eq hlvi) hle (fun x k h => by rw [hhpf] at h; exact upd_in h) (fun x k h => by rw [hhpf] at h ⊢; exact h2.lt x k h) (fun j hj hjl haj hej => ?_) (fun x k h => ?_)
    · constructor
      · rintro (rfl | h)
        · omega
        · have := (I.eff m hm hem).1 h; omega
      · intro h
        by_cases hlt2 : (S m).k < e
        · exact .inr ((I.eff m hm hem).2 hlt2)
        · left
          have hme : (S m).k = (S i).k := by omega
          rcases Nat.lt_trichotomy m i with hl | hl | hl
          · have := R.k_mono (i := m + 1) (j := i) hl (Nat.le_of_lt hi)
            unfold Eff at hem; omega
          · exact hl
          · have := R.k_mono (i := i + 1) (j := m) hl (Nat.le_of_lt hm)
            omega
    · have hne : j ≠ i := fun hh => eff_al hE R hi (hh ▸ haj)
      have hij : i < j := by
        refine Nat.lt_of_not_le fun hji => ?_
        have := R.k_mono (i := j) (j := i) hji (Nat.le_of_lt hi)
        omega
      obtain ⟨q1, q2⟩ := beyond j hj hij
      rw [upd_out q2 q1]
      exact I.pend j hj (hjl.resolve_left hne) haj (by omega)
    · rcases upd_inv h with h | ⟨_, hn, h⟩
      · left; rw [hhpf]; exact h
      · rcases I.conv x k h with h | ⟨j, q1, q2, q3, q4, rfl⟩
        · rw [hek] at h
          exact absurd hn (c2 x (by rw [h]; simp))
        · have hij := later j q1 q2 q3 q4 hn
          have := R.k_mono (i := i + 1) (j := j) hij (Nat.le_of_lt q1)
          exact .inr ⟨j, q1, .inr q2, q3, by omega, rfl⟩

theorem listed_set {l : Array Bool} {i j : Nat} (hi : i < l.size) : (l.setIfInBounds i true).getD j false = true ↔ (j = i ∨ l.getD j false = true) := by
  simp only [Array.getD_eq_getD_getElem?, Array.getElem?_setIfInBounds]
  by_cases h : i = j
  · subst h; simp [hi]
  · rw [if_neg h]
    exact ⟨.inr, fun h2 => h2.resolve_left fun h3 => h h3.symm⟩
theorem count_set : ∀ {l : List Bool} {i : Nat}, l[i]? = some false → (l.set i true).countP (! ·) + 1 = l.countP (! ·)
  | [], i, h => by simp at h
  | a :: l, 0, h => by
    simp at h
    subst h
    simp
  | a :: l, i + 1, h => by
    have := count_set (l := l) (i := i) (by simpa using h)
    simp only [List.set_cons_succ, List.countP_cons]
    omega

theorem draw_any (hK : Known P) (R : Run P call round ops n S V) (hC : CallOk P call) (hR : RoundOk P round) (rd : Option Nat) (m : Nat) {Q : Exit → Act → World → Prop}
    (hQ : ∀ L e ρ g T a w, (∀ j, j < ops.size → L j) → RI P B ρ0 w0 a0 ops n S V L e ρ g T a w → Q .normal a w) : ∀ (fuel : Nat) (listed : Array Bool) {e : Nat} {ρ : Env} {g : Nat → Option ABlk} {T : Tr AV} {a : Act} {w : World},
    listed.size = ops.size → listed.toList.countP (! ·) ≤ fuel → RI P B ρ0 w0 a0 ops n S V (fun j => listed.getD j false = true) e ρ g T a w → wpAnyIn (FF rd) m P .any ops Q fuel listed a w := by
  have last : ∀ (listed : Array Bool) {e : Nat} {ρ : Env} {g : Nat → Option ABlk} {T : Tr AV} {a : Act} {w : World}, listed.size = ops.size → RI P B ρ0 w0 a0 ops n S V (fun j => listed.getD j false = true) e ρ g T a w → Region.ready .any ops listed = [] → Q .normal a w := fun listed e ρ g T a w hs I hr => by
    refine hQ _ e ρ g T a w (fun j => ?_) I
    induction j using Nat.strongRecOn with
    | ind j ih =>
      intro hj
      refine Classical.byContradiction fun hn => ?_
      obtain ⟨o, ho⟩ := op_at hj
      have hmem : j ∈ Region.ready .any ops listed := by
        refine mem_ready.2 ⟨?_, o, ho, fun e' he hb => ?_⟩
        · have hlt : j < listed.size := by omega
          simp only [Array.getD_eq_getD_getElem?, Array.getElem?_eq_getElem hlt, Option.getD_some] at hn ⊢
          simpa using hn
        · have hdm : e'.on ∈ depsOf o := List.mem_map.2 ⟨e', List.mem_filter.2 ⟨by simpa using he, hb⟩, rfl⟩
          have := (opFacts R.ok ho).lt _ hdm
          exact ih _ this (by omega)
      rw [hr] at hmem
      cases hmem
  intro fuel
  induction fuel with
  | zero =>
    intro listed e ρ g T a w hs hc I
    have hr : Region.ready .any ops listed = [] := by
      refine List.eq_nil_iff_forall_not_mem.2 fun j hj => ?_
      obtain ⟨h1, o, ho, _⟩ := mem_ready.1 hj
      have hlt : j < listed.size := by rw [hs]; exact (Array.getElem?_eq_some_iff.1 ho).1
      have h0 := List.countP_eq_zero.1 (Nat.le_zero.1 hc) listed[j] (by simp)
      simp only [Array.getD_eq_getD_getElem?, Array.getElem?_eq_getElem hlt, Option.getD_some] at h1
      rw [h1] at h0
      simp at h0
    exact ⟨hr, last listed hs I hr⟩
  | succ fuel ih =>
    intro listed e ρ g T a w hs hc I
    refine ⟨last listed hs I, fun i hi => ?_⟩
    obtain ⟨h1, o, ho, h2⟩ := mem_ready.1 hi
    have hlt : i < listed.size := by rw [hs]; exact (Array.getElem?_eq_some_iff.1 ho).1
    have hf : listed[i] = false := by simpa [Array.getD_eq_getD_getElem?, hlt] using h1
    refine I.step hK R hC hR ho (by simp [Array.getD_eq_getD_getElem?, hlt, hf]) (fun d hd => ?_) rd m fun e' ρ' g' T' a' w' I' => ?_
    · obtain ⟨x, hx, rfl⟩ := List.mem_map.1 hd
      obtain ⟨hx1, hx2⟩ := List.mem_filter.1 hx
      exact h2 x (by simpa using hx1) hx2
    · refine ih _ (e := e') (ρ := ρ') (g := g') (T := T') (by simpa using hs) ?_ ?_
      · have := count_set (l := listed.toList) (i := i) (by simp [hlt, hf])
        simp only [Array.toList_setIfInBounds]
        omega
      · have he : (fun j => (listed.setIfInBounds i true).getD j false = true) = fun j => j = i ∨ listed.getD j false = true := by
          funext j
          exact propext (listed_set hlt)
        rw [he]
        exact I'

/-- a region that draws its order -/
theorem adraw_ok (hK : Known P) (hm : P.follows .mixedOrders = true) : DrawOk P (adraw P) where
  mono call round hC hR ops n T H T' H' h := by
    obtain ⟨S, V, R, e1, e2, e3, e4⟩ := run_of h
    rw [← e2, ← e4]
    exact R.next_mono hC hR (Nat.zero_le _) (Nat.le_refl _)
  sim call round hC hR id ops n T H T' H' h B ρ a w rd k Q hAR hf hQ := by
    obtain ⟨S, V, R, e1, e2, e3, e4⟩ := run_of h
    have hle := R.next_mono hC hR (Nat.zero_le _) (Nat.le_refl _)
    refine wpIn_region_any hm ?_
    refine draw_any (B := B) (ρ0 := ρ) (w0 := w) (a0 := a) (e := 0) (ρ := ρ) (g := H.get) (T := T) hK R hC hR rd k (fun L e ρ' g T2 a' w' hL I => ?_) ops.size _ (by simp) ?_ ?_
    · have hcur := R.cur_sub (Nat.le_refl _)
      have hals := R.als_mem (Nat.le_refl _)
      have he : e = (S ops.size).k := by
        refine Nat.le_antisymm I.le (Nat.le_of_not_lt fun hlt => ?_)
        by_cases h0 : (S ops.size).k = 0
        · omega
        · obtain ⟨m, h1, h2, h3, h4⟩ := R.k_between (i := 0) (j := ops.size) (e := (S ops.size).k) (Nat.zero_le _) (Nat.le_refl _) (by rw [R.k0]; omega) (Nat.le_refl _)
          have := (I.eff m h2 h4).1 (hL m h2)
          omega
      have hX : ∀ x b, (S ops.size).cur.get x = some b → g x = some b := fun x b hx => by
        rcases hcur.1 x b hx with hx | ⟨j, hj, rfl, hb⟩
        · rw [← he] at hx; exact I.hp x b hx
        · obtain ⟨q1, q2, q3⟩ := (hals j).1 hj
          rw [I.pend j q1 (hL j q1) q2 (by omega), hb]
      have hlt : ∀ x b, (S ops.size).cur.get x = some b → x < (S ops.size).cur.next := fun x b hx => by
        rcases hcur.1 x b hx with hx | ⟨j, hj, rfl, hb⟩
        · have := R.hpf_next (Nat.le_refl _)
          rw [← he] at hx this
          exact Nat.lt_of_lt_of_le (I.lt x b hx) this
        · obtain ⟨q1, q2, q3⟩ := (hals j).1 hj
          have h5 := (R.al_next (i := j) q1 q2).1
          have h6 := R.next_mono hC hR (i := j + 1) (j := ops.size) q1 (Nat.le_refl _)
          omega
      refine hQ ρ' a' w' ⟨⟨I.td.size, fun t => ?_⟩, ?_, I.G⟩ ?_ I.dfr
      · have ht : T'.get t = T2.get t := by
          rw [← e3]
          by_cases hw : ∃ (j : Nat) (p : Oper), ops[j]? = some p ∧ p.dst = some t
          · obtain ⟨j, p, hj, hp⟩ := hw
            have hjl : j < ops.size := (Array.getElem?_eq_some_iff.1 hj).1
            rw [R.slot_hi hj hp hjl (Nat.le_refl _), (I.slotw j p t hj hp).1 (hL j hjl)]
          · have hw' : ∀ (j : Nat) (p : Oper), ops[j]? = some p → p.dst ≠ some t := fun j p hj hp => hw ⟨j, p, hj, hp⟩
            rw [R.slot_free hw' (Nat.le_refl _), I.slotf t hw']
        rw [ht]
        exact I.td.get t
      · rw [← e4]; exact I.gi.hden hX hlt
      · rw [← e2, ← e4]
        exact I.gi.final hX rfl hle
    · have : ∀ n : Nat, (List.replicate n false).countP (! ·) ≤ n := fun n => by
        have := List.countP_le_length (p := (! ·)) (l := List.replicate n false)
        simpa using this
      simpa using this ops.size
    · have hno : ∀ j, ¬ (Array.replicate ops.size false).getD j false = true := fun j => by
        simp [Array.getD_eq_getD_getElem?, Array.getElem?_replicate]
        split <;> simp
      have hH := hAR.H.drew
      have h0 : hpf S ops.size 0 = H := by rw [R.hpf_zero, e2]
      refine ⟨fun j o hj => (hno j hj).elim, fun m hm hem => ⟨fun h => (hno m h).elim, fun h => absurd h (Nat.not_lt_zero _)⟩, fun j _ h => (hno j h).elim, Nat.zero_le _, hAR.T, fun j p t _ _ => ⟨fun h => (hno j h).elim, fun _ => by rw [e1]⟩, fun t _ => by rw [e1], hAR.G, ?_, by rw [h0]; exact fun x k h => h, by rw [h0]; exact hH.lt, fun j _ h => (hno j h).elim, by rw [h0]; exact fun x k h => .inl h, fun j hj _ x h1 h2 => hf x ?_ ?_, rfl⟩
      · rw [e2]
        exact ⟨hH.blk, hH.inj, hH.base, Le.refl _, fun _ _ => rfl, Nat.le_refl _, rfl, rfl, rfl, fun _ _ _ => rfl, fun b _ i k c h1 h2 h3 => ⟨i, k, c, h1, h2, h3⟩, fun b _ i k c h1 h3 => ⟨i, k, c, h1, h3⟩⟩
      · have := R.next_mono hC hR (Nat.zero_le j) (Nat.le_of_lt hj)
        rw [e2] at this
        exact Nat.le_trans this h1
      · have := R.next_mono hC hR hj (Nat.le_refl _)
        rw [e4] at this
        exact Nat.lt_of_lt_of_le h2 this
end
end Go.Proofs.YtcdknjkkaonbiaaGreatDoor.Sx
