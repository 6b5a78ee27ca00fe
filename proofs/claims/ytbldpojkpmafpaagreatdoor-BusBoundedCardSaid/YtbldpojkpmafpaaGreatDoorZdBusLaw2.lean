/- The runner: a row of the run's own that is never written again is taken as plain data. -/
import Derived.Test.YtbldpojkpmafpaaGreatDoorZdSvUse
import Derived.Test.YtbldpojkpmafpaaGreatDoorZdLayKit
namespace Go.Proofs.YtbldpojkpmafpaaGreatDoor
open Go.RowKit Sv
section
variable {X : Ext} {P : Program} {w0 : World} {F : Env} {n : Nat} {T : Tr AV} {H : AHeap} {a : Act} {w : World} {B : Nat} {ρ ρ' : Env}
theorem own_drop {i : Nat} {ρ' : Env} (ha : ∀ i, ρ' i = ρ i) {b : Nat} (h : Sv.Own ρ' (H.drop i) b) : Sv.Own ρ H b := by
  obtain ⟨k, kk, c, h1, h2, h3⟩ := h
  rw [ha] at h3
  rw [AHeap.get_drop] at h1
  split at h1
  · cases h1
  · exact ⟨k, kk, c, h1, h2, h3⟩
theorem Sat.freeze {i j m : Nat} {e e2 : TypeId} {cs : List AV} {x f r : Bool} {t : Ty} {xs : List t.den} {cap : Cap} (hj : H.get j = some (.cells e cs x f r)) (hm : cs[m]? = some (.osl e2 t i 0 xs.length cap)) (hi : H.get i = optOwn e2 t xs) (hij : i ≠ j)
    (hs : SatX X P w0 F n T H a w) : SatX X P w0 F n T ((H.drop i).set j (.cells e (cs.set m (.lst false t xs)) x f r)) a w := by
  obtain ⟨⟨ρ, hAR, hnone, hfz, hkp⟩, hb, hd⟩ := hs
  by_cases hx : xs = []
  · subst hx
    have hi : H.get i = none := hi
    refine ⟨⟨ρ, ⟨hAR.T, hden_swap hAR.H (Le.refl _) (fun _ => rfl) hj hij hm (fun y hy => ?_) (fun b A h => ⟨(hAR.H.fz b A h).1, fun k kk c _ g1 g2 => (hAR.H.fz b A h).2 k kk c g1 g2⟩), hAR.G⟩, hnone, hfz, hkp.re (Le.refl _) (Nat.le_refl _) (fun _ hh => own_swap (fun _ => rfl) hj hh) fun _ _ h => .inl h⟩, hb, hd⟩
    rcases hy.osl_inv with ⟨_, a, rfl⟩ | ⟨b, c, kc, _, _, _, rfl⟩
    · exact .lstNil fun e => by cases e
    · exact .lstNil fun e => by cases e
  · obtain ⟨x0, l0, rfl⟩ := List.exists_cons_of_ne_nil hx
    have hi : H.get i = some (.own e2 t (x0 :: l0)) := hi
    generalize hxs : x0 :: l0 = xs at *
    obtain ⟨b, c, o, hib, _, _, hB⟩ := hAR.H.blk i _ hi
    obtain ⟨zs, z1, z2, z3, z4, z5, z6⟩ := own_at hAR.H hi hib
    have hnf : ρ.fz b = none := by
      cases hz : ρ.fz b with
      | none => rfl
      | some A =>
        have := (hAR.H.fz b A hz).2 i _ c hi hib
        cases this
    have hle : Le ρ ⟨ρ.at', fun q => if q = b then some zs else ρ.fz q⟩ := ⟨fun _ _ h => h, fun q A h => by
      show (if q = b then some zs else ρ.fz q) = some A
      by_cases hq : q = b
      · subst hq; rw [hnf] at h; cases h
      · rw [if_neg hq]; exact h⟩
    refine ⟨⟨⟨ρ.at', fun q => if q = b then some zs else ρ.fz q⟩, ⟨hAR.T.mono hle, hden_swap hAR.H hle (fun _ => rfl) hj hij hm (fun y hy => ?_) (fun q A h => ?_), hAR.G.mono hle⟩, hnone, fun q A h => ?_, hkp.re hle (Nat.le_refl _) (fun _ hh => own_swap (fun _ => rfl) hj hh) fun q A h => by
      have h : (if q = b then some zs else ρ.fz q) = some A := h
      by_cases hq : q = b
      · exact .inr ⟨i, _, c, hi, rfl, hq ▸ hib⟩
      · rw [if_neg hq] at h; exact .inl h⟩, hb, hd⟩
    · rcases hy.osl_inv with ⟨h0, _⟩ | ⟨b', c', kc, g1, _, g3, rfl⟩
      · exact absurd (List.length_eq_zero_iff.1 h0) hx
      · rw [hib] at g1
        cases g1
        refine .lst (A := zs) (b := b) (off := 0 * t.size) (by show (if b = b then some zs else _) = _; rw [if_pos rfl]) (by rw [Nat.zero_mul, Nat.zero_add]; exact z4) rfl ?_ g3 (fun e => by cases e)
        rw [Nat.zero_mul, List.drop_zero]
        exact z2.mono hle
    · have h : (if q = b then some zs else ρ.fz q) = some A := h
      by_cases hq : q = b
      · subst hq
        rw [if_pos rfl] at h
        cases h
        exact ⟨⟨_, _, z1⟩, fun k kk c' hne g1 g2 => absurd (hAR.H.inj k i kk _ q c' c g1 hi g2 hib) hne⟩
      · rw [if_neg hq] at h
        exact ⟨(hAR.H.fz q A h).1, fun k kk c _ g1 g2 => (hAR.H.fz q A h).2 k kk c g1 g2⟩
    · have h : (if q = b then some zs else ρ.fz q) = some A := h
      by_cases hq : q = b
      · subst hq; exact .inr (hB rfl)
      · rw [if_neg hq] at h; exact hfz q A h
theorem Sat.freezeSlot {i s : Nat} {e2 : TypeId} {t : Ty} {xs : List t.den} {cap : Cap} (hs' : T.get s = some (.osl e2 t i 0 xs.length cap)) (hi : H.get i = optOwn e2 t xs) (hs : SatX X P w0 F n T H a w) : SatX X P w0 F n (T.set s (some (.lst false t xs))) (H.drop i) a w := by
  obtain ⟨⟨ρ, hAR, hnone, hfz, hkp⟩, hb, hd⟩ := hs
  have hdrop : ∀ {ρ' : Env}, Le ρ ρ' → (∀ i, ρ' i = ρ i) → (∀ b A, ρ'.fz b = some A → (∃ e fr, w.heap[b]? = some (.cells A e fr)) ∧ ∀ k kk c, k ≠ i → H.get k = some kk → ρ k = some (b, c) → kk.isRo = true) → HDen P w0.heap.size ρ' (H.drop i) w := fun {ρ'} hl ha hf => by
    have key : ∀ k kk, (H.drop i).get k = some kk → k ≠ i ∧ H.get k = some kk := fun k kk h => by
      rw [AHeap.get_drop] at h
      split at h
      · cases h
      · rename_i h2; exact ⟨fun h => h2 h.symm, h⟩
    refine ⟨fun k kk h => ?_, fun i1 i2 k1 k2 b c1 c2 g1 g2 g3 g4 => ?_, fun k kk h => hAR.H.lt k kk (key k kk h).2, hAR.H.base, fun b A h => ⟨(hf b A h).1, fun k kk c g1 g2 => ?_⟩⟩
    · obtain ⟨b, c, o, e1, e2, e3, e4⟩ := hAR.H.blk k kk (key k kk h).2
      exact ⟨b, c, o, by rw [ha]; exact e1, e2, e3.mono hl, e4⟩
    · rw [ha] at g3 g4
      exact hAR.H.inj _ _ _ _ _ _ _ (key _ _ g1).2 (key _ _ g2).2 g3 g4
    · rw [ha] at g2
      exact (hf b A h).2 k kk c (key k kk g1).1 (key k kk g1).2 g2
  have hset : ∀ {ρ' : Env}, Le ρ ρ' → (∀ y, Den ρ (.osl e2 t i 0 xs.length cap) y → Den ρ' (.lst false t xs) y) → TDen ρ' (T.set s (some (.lst false t xs))) n a.tmps := fun {ρ'} hl hv => ⟨hAR.T.size, fun k => by
    rw [Tr.get_set]
    have hk := hAR.T.get k
    by_cases hks : s = k
    · subst hks
      rw [if_pos rfl]
      rw [hs'] at hk
      exact hv _ hk
    · rw [if_neg hks]; exact hk.mono hl⟩
  by_cases hx : xs = []
  · subst hx
    refine ⟨⟨ρ, ⟨hset (Le.refl _) fun y hy => ?_, hdrop (Le.refl _) (fun _ => rfl) (fun b A h => ⟨(hAR.H.fz b A h).1, fun k kk c _ g1 g2 => (hAR.H.fz b A h).2 k kk c g1 g2⟩), hAR.G⟩, hnone, hfz, hkp.re (Le.refl _) (Nat.le_refl _) (fun _ hh => own_drop (fun _ => rfl) hh) fun _ _ h => .inl h⟩, hb, hd⟩
    rcases hy.osl_inv with ⟨_, a, rfl⟩ | ⟨b, c, kc, _, _, _, rfl⟩
    · exact .lstNil fun e => by cases e
    · exact .lstNil fun e => by cases e
  · obtain ⟨x0, l0, rfl⟩ := List.exists_cons_of_ne_nil hx
    have hi : H.get i = some (.own e2 t (x0 :: l0)) := hi
    generalize hxs : x0 :: l0 = xs at *
    obtain ⟨b, c, o, hib, _, _, hB⟩ := hAR.H.blk i _ hi
    obtain ⟨zs, z1, z2, z3, z4, z5, z6⟩ := own_at hAR.H hi hib
    have hnf : ρ.fz b = none := by
      cases hz : ρ.fz b with
      | none => rfl
      | some A =>
        have := (hAR.H.fz b A hz).2 i _ c hi hib
        cases this
    have hle : Le ρ ⟨ρ.at', fun q => if q = b then some zs else ρ.fz q⟩ := ⟨fun _ _ h => h, fun q A h => by
      show (if q = b then some zs else ρ.fz q) = some A
      by_cases hq : q = b
      · subst hq; rw [hnf] at h; cases h
      · rw [if_neg hq]; exact h⟩
    refine ⟨⟨⟨ρ.at', fun q => if q = b then some zs else ρ.fz q⟩, ⟨hset hle fun y hy => ?_, hdrop hle (fun _ => rfl) (fun q A h => ?_), hAR.G.mono hle⟩, hnone, fun q A h => ?_, hkp.re hle (Nat.le_refl _) (fun _ hh => own_drop (fun _ => rfl) hh) fun q A h => by
      have h : (if q = b then some zs else ρ.fz q) = some A := h
      by_cases hq : q = b
      · exact .inr ⟨i, _, c, hi, rfl, hq ▸ hib⟩
      · rw [if_neg hq] at h; exact .inl h⟩, hb, hd⟩
    · rcases hy.osl_inv with ⟨h0, _⟩ | ⟨b', c', kc, g1, _, g3, rfl⟩
      · exact absurd (List.length_eq_zero_iff.1 h0) hx
      · rw [hib] at g1
        cases g1
        refine .lst (A := zs) (b := b) (off := 0 * t.size) (by show (if b = b then some zs else _) = _; rw [if_pos rfl]) (by rw [Nat.zero_mul, Nat.zero_add]; exact z4) rfl ?_ g3 (fun e => by cases e)
        rw [Nat.zero_mul, List.drop_zero]
        exact z2.mono hle
    · have h : (if q = b then some zs else ρ.fz q) = some A := h
      by_cases hq : q = b
      · subst hq
        rw [if_pos rfl] at h
        cases h
        exact ⟨⟨_, _, z1⟩, fun k kk c' hne g1 g2 => absurd (hAR.H.inj k i kk _ q c' c g1 hi g2 hib) hne⟩
      · rw [if_neg hq] at h
        exact ⟨(hAR.H.fz q A h).1, fun k kk c _ g1 g2 => (hAR.H.fz q A h).2 k kk c g1 g2⟩
    · have h : (if q = b then some zs else ρ.fz q) = some A := h
      by_cases hq : q = b
      · subst hq; exact .inr (hB rfl)
      · rw [if_neg hq] at h; exact hfz q A h
theorem GoalL.freezeSlot {Q : Exit → Tr AV → AHeap → Prop} {l : List Code} (hl : l ≠ []) {i s : Nat} {e2 : TypeId} {t : Ty} {xs : List t.den} {cap : Cap} (hs' : T.get s = some (.osl e2 t i 0 xs.length cap)) (hi : H.get i = optOwn e2 t xs)
    (hg : GoalLX X P w0 F n l (T.set s (some (.lst false t xs))) (H.drop i) Q) : GoalLX X P w0 F n l T H Q := by
  cases l with
  | nil => exact absurd rfl hl
  | cons c l => exact fun a w hs k => hg a w (Sat.freezeSlot hs' hi hs) k
theorem Goal.freeze {Q : Exit → Tr AV → AHeap → Prop} {c : Code} {i j m : Nat} {e e2 : TypeId} {cs : List AV} {x f r : Bool} {t : Ty} {xs : List t.den} {cap : Cap} (hj : H.get j = some (.cells e cs x f r)) (hm : cs[m]? = some (.osl e2 t i 0 xs.length cap)) (hi : H.get i = optOwn e2 t xs) (hij : i ≠ j)
    (hg : GoalX X P w0 F n c T ((H.drop i).set j (.cells e (cs.set m (.lst false t xs)) x f r)) Q) : GoalX X P w0 F n c T H Q := fun a w hs k => hg a w (Sat.freeze hj hm hi hij hs) k
theorem GoalL.freeze {Q : Exit → Tr AV → AHeap → Prop} {l : List Code} (hl : l ≠ []) {i j m : Nat} {e e2 : TypeId} {cs : List AV} {x f r : Bool} {t : Ty} {xs : List t.den} {cap : Cap} (hj : H.get j = some (.cells e cs x f r)) (hm : cs[m]? = some (.osl e2 t i 0 xs.length cap)) (hi : H.get i = optOwn e2 t xs) (hij : i ≠ j)
    (hg : GoalLX X P w0 F n l T ((H.drop i).set j (.cells e (cs.set m (.lst false t xs)) x f r)) Q) : GoalLX X P w0 F n l T H Q := by
  cases l with
  | nil => exact absurd rfl hl
  | cons c l => exact Goal.freeze hj hm hi hij hg
theorem GoalL.refit {Q : Exit → Tr AV → AHeap → Prop} {l : List Code} (hl : l ≠ []) {σ : Ren} {s : St} (h : fit P σ n T H s) (hg : GoalLX X P w0 F n l s.T s.H Q) (hp : pinned σ s.H.next X.pins = true := by rfl) : GoalLX X P w0 F n l T H Q := by
  cases l with
  | nil => exact absurd rfl hl
  | cons c l => exact Goal.refit h hg hp
end
end Go.Proofs.YtbldpojkpmafpaaGreatDoor

/- Package bus: the checks of nets and of an order. -/
namespace Go.Proofs.YtbldpojkpmafpaaGreatDoor
open Go.RowKit

theorem IntSet.look {w : World} {b : Nat} {l : List Int} (h : IntSet w b l) (k : Int) (hk : I64 k) :
    (Instr.lookup 133 (.map (some b)) (.int .i64 k) false).run Tryz.prog w = .ok (.bool (decide (k ∈ l))) w := by
  obtain ⟨D, h1, _, h3⟩ := h
  obtain ⟨v, ps, hrun, hv⟩ := h1.lookup (Maps.int_keyed Tryz.underlying3) Tryz.underlying133 (zero_bool w) (plainElem_bool Tryz.underlying4 false) (Maps.keyOf_int_mk Tryz.underlying3 hk.wf)
  obtain ⟨x, rfl, hx⟩ := plainElem_bool_inv Tryz.underlying4 hv
  rw [h3 k] at hx
  simp only [Prod.mk.injEq, DataW.lit.injEq, Lit.bool.injEq] at hx
  rw [hrun, hx.1]
theorem IntSet.drew {w : World} {b : Nat} {l : List Int} (h : IntSet w b l) : IntSet w.drew b l := h
theorem wpList_put_set {w : World} {ops : Array Oper} {rest : List Oper} {o : Oper} {a : Act} {Q : Exit → Act → World → Prop}
    (hg : o.guard = none) (m x v : Operand) (hop : o.op = Op.mapUpdate 133 m x v) (b : Nat) (l : List Int)
    (hm : a.eval m = .map (some b)) (hs : IntSet w b l) (k : Int) (hx : a.eval x = .int .i64 k) (hk : I64 k) (hv : a.eval v = .bool true) (hl : l.length ≤ 1000000) (hnew : k ∉ l)
    (hK : ∀ w', IntSet w' b (l ++ [k]) → w.grownBy w' (some b) → wpList Tryz.prog ops Q rest (a.put o.dst undef) w') :
    wpList Tryz.prog ops Q (o :: rest) a w := by
  obtain ⟨D, h1, h2, h3⟩ := hs
  refine wpList_mapUpdate_own w hg m x v 133 hop 3 4 (Maps.int_keyed Tryz.underlying3) Tryz.underlying133 _ b l.length D hm h1 (by unfold maxLen; omega) _ _ (.int .i64 k) hx hv (Maps.keyOf_int_mk Tryz.underlying3 hk.wf) _ [] (plainElem_bool Tryz.underlying4 true) ?_
  intro w' h4 h5
  refine hK w' ⟨_, by rw [List.length_append]; exact h4, h2.put _ _, fun y => ?_⟩ h5
  by_cases hy : y = k
  · subst hy
    rw [Maps.atKey_put_same h2 (by trivial)]
    simp
  · rw [Maps.atKey_put_other (fun e => hy (by injection e)), h3 y]
    simp [hy]

set_option maxHeartbeats 4000000 in
set_option maxRecDepth 100000 in
theorem checkOrder_any (A : Option Addr) (c B : Nat) (order : List Int) (n : Int) (w : World) (hl : order.length ≤ 1000000) (h : Row w B A (order.map (Value.int .i64))) (hi : ∀ c ∈ order, I64 c) (hB : B ≤ w.heap.size) :
    Calls Tryz.prog 101 #[.slice A order.length c, .int .i64 n] w fun e w' => e = .returned (.int .i64 (Bus.orderErr order n)) ∧ Below w.heap.size w w' := by
  have H := Lib.hid h
  have HI := Lib.hid hi
  clear h hi
  by_cases hn : (order.length : Int) = n
  · have hne : ((order.length : Int) != n) = false := by simp [hn]
    obtain ⟨r, hr⟩ : ∃ r, Bus.orderFrom n [] order = r := ⟨_, rfl⟩
    have e : Bus.orderErr order n = r := by unfold Bus.orderErr; rw [if_neg (by omega), hr]
    rw [e]
    have HR := Lib.hid hr
    clear e hr
    have hmm := @run_makeMap Tryz.prog
    go_enter Tryz.func101, Tryz.ntmps101
    go_wp2_with fail
    go_loopw [16] (fun i wr => ∃ k : Nat, k ≤ order.length ∧ i = .int .i64 k ∧ IntSet wr w.heap.size (order.take k) ∧ Bus.orderFrom n (order.take k) (order.drop k) = r ∧ Below w.heap.size w wr) (fun i _ => order.length - (intOf i).toNat)
    case atStart => exact ⟨0, Nat.zero_le _, rfl, IntSet.made w, HR.out, (Below.refl _ w).alloc (Nat.le_refl _) _⟩
    case round =>
      obtain ⟨k, hk, rfl, hset, hpre, eb⟩ := hrel
      have hsz := eb.size
      have HP := Lib.hid hpre
      clear hpre
      by_cases hlt : k < order.length
      · obtain ⟨b, off, x, rfl, hbB, hx, hc⟩ := H.out.int k hlt
        have hck := (eb.cell (p := ⟨b, off + k, none⟩) (by show b < _; omega)).trans hc
        have hix := HI.out x (List.mem_of_getElem? hx)
        have hd : order.drop k = x :: order.drop (k + 1) := by
          rw [List.drop_eq_getElem_cons hlt]
          rw [List.getElem?_eq_getElem hlt] at hx
          rw [Option.some.inj hx]
        have ht : order.take (k + 1) = order.take k ++ [x] := by rw [List.take_add_one, hx]; rfl
        have hp := HP.out
        rw [hd] at hp
        unfold Bus.orderFrom at hp
        have hlook := hset.drew.look x hix
        have hlen : (order.take k).length ≤ 1000000 := by rw [List.length_take]; omega
        clear hx hd hc
        by_cases hx0 : x < 0
        · have hb1 : (decide (x < 0) || decide (n ≤ x)) = true := by simp [hx0]
          obtain ⟨v2, hv2⟩ : ∃ v2, decide (x ∈ order.take k) = v2 := ⟨_, rfl⟩
          rw [hv2] at hlook
          rw [if_pos (.inl hx0)] at hp
          have HN := Lib.hid hp
          clear hp HP hv2
          go_wp2_with fail
          go_still_tail 12, (by kernel_rfl)
          still_call (when_on _ _ _ (by first | rfl | assumption | simp))
          repeat still_step
          still_call (when_st v2 _ _)
          repeat still_step
          refine wpStill_nil ?_
          change wpList _ _ _ _ _ wr.drew
          generalize hW2 : wr.drew = W2
          have hset2 : IntSet W2 w.heap.size (order.take k) := by rw [← hW2]; exact hset
          have eb2 : Below w.heap.size w W2 := by rw [← hW2]; exact eb.drew
          have hsz2 := eb2.size
          clear hW2 hset eb hlook hck
          obtain ⟨E, hE⟩ : ∃ E : Int, (if v2 = true then 9 else 0) = E := ⟨_, rfl⟩
          rw [hE]
          have HF := Lib.hid (first_two 10 E W2 30)
          rw [firstOf_hit 10 _ (by decide)] at HF
          go_wp2_with (go_at_call 38; refine HF.out.mono ?_; rintro e w1 ⟨rfl, rfl⟩)
          go_ret
          exact ⟨ret_i64 HN.out, eb2.alloc hsz2 _⟩
        · by_cases hxn : n ≤ x
          · have hb1 : (decide (x < 0) || decide (n ≤ x)) = true := by simp [hxn]
            obtain ⟨v2, hv2⟩ : ∃ v2, decide (x ∈ order.take k) = v2 := ⟨_, rfl⟩
            rw [hv2] at hlook
            rw [if_pos (.inr hxn)] at hp
            have HN := Lib.hid hp
            clear hp HP hv2
            go_wp2_with fail
            go_still_tail 12, (by kernel_rfl)
            still_call (when_on _ _ _ (by first | rfl | assumption | simp))
            repeat still_step
            still_call (when_st v2 _ _)
            repeat still_step
            refine wpStill_nil ?_
            change wpList _ _ _ _ _ wr.drew
            generalize hW2 : wr.drew = W2
            have hset2 : IntSet W2 w.heap.size (order.take k) := by rw [← hW2]; exact hset
            have eb2 : Below w.heap.size w W2 := by rw [← hW2]; exact eb.drew
            have hsz2 := eb2.size
            clear hW2 hset eb hlook hck
            obtain ⟨E, hE⟩ : ∃ E : Int, (if v2 = true then 9 else 0) = E := ⟨_, rfl⟩
            rw [hE]
            have HF := Lib.hid (first_two 10 E W2 30)
            rw [firstOf_hit 10 _ (by decide)] at HF
            go_wp2_with (go_at_call 38; refine HF.out.mono ?_; rintro e w1 ⟨rfl, rfl⟩)
            go_ret
            exact ⟨ret_i64 HN.out, eb2.alloc hsz2 _⟩
          · have hb1 : (decide (x < 0) || decide (n ≤ x)) = false := by simp; omega
            rw [if_neg (by omega)] at hp
            by_cases h2 : x ∈ order.take k
            · have hd2 : decide (x ∈ order.take k) = true := decide_eq_true h2
              rw [hd2] at hlook
              rw [if_pos h2] at hp
              have HN := Lib.hid hp
              clear hp HP hd2
              go_wp2_with fail
              go_still_tail 12, (by kernel_rfl)
              still_call (when_off _ _ _ (by first | rfl | assumption | simp))
              repeat still_step
              still_call (when_on _ _ _ rfl)
              repeat still_step
              refine wpStill_nil ?_
              change wpList _ _ _ _ _ wr.drew
              generalize hW2 : wr.drew = W2
              have hset2 : IntSet W2 w.heap.size (order.take k) := by rw [← hW2]; exact hset
              have eb2 : Below w.heap.size w W2 := by rw [← hW2]; exact eb.drew
              have hsz2 := eb2.size
              clear hW2 hset eb hlook hck
              have HF := Lib.hid (first_two 0 9 W2 30)
              rw [firstOf_miss, firstOf_hit 9 _ (by decide)] at HF
              go_wp2_with (go_at_call 38; refine HF.out.mono ?_; rintro e w1 ⟨rfl, rfl⟩)
              go_ret
              exact ⟨ret_i64 HN.out, eb2.alloc hsz2 _⟩
            · rw [if_neg h2, ← ht] at hp
              have HN := Lib.hid hp
              have hd2 : decide (x ∈ order.take k) = false := decide_eq_false h2
              rw [hd2] at hlook
              have H2 := Lib.hid h2
              have HT := Lib.hid ht
              clear hp HP h2 hd2 ht
              go_wp2_with fail
              go_still_tail 12, (by kernel_rfl)
              still_call (when_off _ _ _ (by first | rfl | assumption | simp))
              repeat still_step
              still_call (when_off _ _ _ rfl)
              repeat still_step
              refine wpStill_nil ?_
              change wpList _ _ _ _ _ wr.drew
              generalize hW2 : wr.drew = W2
              have hset2 : IntSet W2 w.heap.size (order.take k) := by rw [← hW2]; exact hset
              have eb2 : Below w.heap.size w W2 := by rw [← hW2]; exact eb.drew
              have hsz2 := eb2.size
              clear hW2 hset eb hlook hck
              have HF := Lib.hid (first_two 0 0 W2 30)
              rw [show firstOf [0, 0] = 0 from rfl] at HF
              go_wp2_with (first
                | (go_at_call 38; refine HF.out.mono ?_; rintro e w1 ⟨rfl, rfl⟩)
                | (at_mapUpdate; refine wpList_put_set rfl _ _ _ rfl w.heap.size (order.take k) rfl (hset2.kept (World.grownBy_alloc _ _ none) (by simp)) x rfl hix rfl hlen H2.out ?_; intro w3 hset3 hgrow3))
              have eb3 : Below w.heap.size w w3 := (eb2.alloc hsz2 _).grown hgrow3 (by simp; omega) (fun j hj => by cases hj; exact Nat.le_refl _)
              go_roundw
              case rel => exact ⟨k + 1, by omega, by go_num, by rw [HT.out]; exact hset3, HN.out, eb3⟩
              case measure => simp [intOf]; omega
      · obtain rfl : k = order.length := by omega
        have HN := Lib.hid (show (0 : Int) = r by rw [← HP.out, List.drop_length]; rfl)
        clear HP
        go_wp2_with fail
        go_ret
        exact ⟨ret_i64 HN.out, eb⟩
  · have hne : ((order.length : Int) != n) = true := by simp [hn]
    have e : Bus.orderErr order n = 2 := by unfold Bus.orderErr; rw [if_pos hn]
    rw [e]
    go_enter Tryz.func101, Tryz.ntmps101
    go_wp2_with fail
    go_ret
    exact ⟨rfl, Below.refl _ _⟩
end Go.Proofs.YtbldpojkpmafpaaGreatDoor

/- Package bus: the check of nets. -/
namespace Go.Proofs.YtbldpojkpmafpaaGreatDoor
open Go.RowKit

set_option maxHeartbeats 8000000 in
set_option maxRecDepth 100000 in
theorem CheckNets_any (A : Option Addr) (c B : Nat) (l : List NetAt) (n : Int) (w : World) (h : NetsIn w B A l) (hB : B ≤ w.heap.size) (hl : l.length ≤ 140737488355328) :
    Calls Tryz.prog 39 #[.slice A l.length c, .int .i64 n] w fun e w' => e = .returned (.int .i64 (Bus.netsErr (l.map NetAt.net) n)) ∧ Below w.heap.size w w' := by
  have H := Lib.hid h
  clear h
  by_cases hn : n < 1 ∨ 97 < n
  · have e : Bus.netsErr (l.map NetAt.net) n = 3 := by unfold Bus.netsErr; rw [if_pos hn]
    rw [e]
    by_cases hn0 : n < 1
    · have hb : (decide (n < 1) || decide (97 < n)) = true := by simp [hn0]
      go_enter Tryz.func39, Tryz.ntmps39
      go_wp2_with (first
        | (go_at_call 40; refine (when_any _ _ _).mono ?_; rintro e w1 ⟨rfl, rfl⟩)
        | (go_at_call 38; refine (first_hit21 3 _ w _ (by decide)).mono ?_; rintro e w1 ⟨rfl, rfl⟩))
      all_goals (go_ret; exact ⟨rfl, (Below.refl _ w).alloc (Nat.le_refl _) _⟩)
    · have hn1 : 97 < n := by omega
      have hb : (decide (n < 1) || decide (97 < n)) = true := by simp [hn1]
      go_enter Tryz.func39, Tryz.ntmps39
      go_wp2_with (first
        | (go_at_call 40; refine (when_any _ _ _).mono ?_; rintro e w1 ⟨rfl, rfl⟩)
        | (go_at_call 38; refine (first_hit21 3 _ w _ (by decide)).mono ?_; rintro e w1 ⟨rfl, rfl⟩))
      all_goals (go_ret; exact ⟨rfl, (Below.refl _ w).alloc (Nat.le_refl _) _⟩)
  · by_cases h64 : 64 < l.length
    · have e : Bus.netsErr (l.map NetAt.net) n = 5 := by unfold Bus.netsErr; rw [if_neg hn, if_pos (by rw [List.length_map]; exact h64)]
      rw [e]
      have hn1 : ¬ n < 1 := fun h => hn (.inl h)
      have hn2 : ¬ 97 < n := fun h => hn (.inr h)
      have hb : (decide (n < 1) || decide (97 < n)) = false := by simp; omega
      have hd : decide ((64 : Int) < (l.length : Int)) = true := by simp; omega
      have hd2 : (64 : Int) < (l.length : Int) := by omega
      clear hn
      go_enter Tryz.func39, Tryz.ntmps39
      go_wp2_with (first
        | (go_at_call 40; refine (when_any _ _ _).mono ?_; rintro e w1 ⟨rfl, rfl⟩)
        | (go_at_call 38; refine (first_hit22 5 w _).mono ?_; rintro e w1 ⟨rfl, rfl⟩))
      all_goals (go_ret; exact ⟨rfl, (Below.refl _ w).alloc (Nat.le_refl _) _⟩)
    · obtain ⟨r, hr⟩ : ∃ r, Bus.netsFrom n [] (l.map NetAt.net) = r := ⟨_, rfl⟩
      have e : Bus.netsErr (l.map NetAt.net) n = r := by unfold Bus.netsErr; rw [if_neg hn, if_neg (by rw [List.length_map]; exact h64), hr]
      rw [e]
      have HR := Lib.hid hr
      have hn1 : ¬ n < 1 := fun h => hn (.inl h)
      have hn2 : ¬ 97 < n := fun h => hn (.inr h)
      clear e hr hn
      have hmm := @run_makeMap Tryz.prog
      have HF0 := Lib.hid (first_two 0 0 w 30)
      rw [show firstOf [0, 0] = 0 from rfl] at HF0
      go_enter Tryz.func39, Tryz.ntmps39
      go_wp2_with (first
        | (go_at_call 40; refine (when_no_of _ _ _ (by first | rfl | assumption | (simp; omega))).mono ?_; rintro e w1 ⟨rfl, rfl⟩)
        | (go_at_call 38; refine HF0.out.mono ?_; rintro e w1 ⟨rfl, rfl⟩))
      clear hmm HF0
      generalize hW0 : World.alloc (World.alloc w _) _ = W0
      obtain ⟨M, hM⟩ : ∃ M, w.heap.size + 1 = M := ⟨_, rfl⟩
      have hset0 : IntSet W0 M [] := by
        rw [← hW0, ← hM]
        have := IntSet.made (w.alloc (.cells #[.int .i64 0, .int .i64 0] 30))
        simpa using this
      have e0 : Below w.heap.size w W0 := by rw [← hW0]; exact ((Below.refl _ w).alloc (Nat.le_refl _) _).alloc (by simp) _
      have hMw : w.heap.size < M := by omega
      try rw [hM]
      clear hW0 hM
      go_loopw [33] (fun i wr => ∃ k : Nat, k ≤ l.length ∧ i = .int .i64 k ∧ IntSet wr M ((l.take k).map NetAt.sh) ∧ Bus.netsFrom n ((l.take k).map NetAt.sh) ((l.drop k).map NetAt.net) = r ∧ Below w.heap.size w wr) (fun i _ => l.length - (intOf i).toNat)
      case atStart => exact ⟨0, Nat.zero_le _, rfl, hset0, HR.out, e0⟩
      case round =>
        obtain ⟨k, hk, rfl, hset, hpre, eb⟩ := hrel
        have hsz := eb.size
        have HP := Lib.hid hpre
        clear hpre hset0 e0
        by_cases hlt : k < l.length
        · obtain ⟨b, off, x, rfl, hbB, hx, hc1, hc2, hrow, hfew, hix, hics⟩ := H.out.net k hlt
          have hk1 := (eb.cell (p := ⟨b, off + k * 2, none⟩) (by show b < _; omega)).trans hc1
          have hk2 := (eb.cell (p := ⟨b, off + k * 2 + 1, none⟩) (by show b < _; omega)).trans hc2
          have HROW := Lib.hid hrow
          have hd : l.drop k = x :: l.drop (k + 1) := by
            rw [List.drop_eq_getElem_cons hlt]
            rw [List.getElem?_eq_getElem hlt] at hx
            rw [Option.some.inj hx]
          have HT := Lib.hid (show (l.take (k + 1)).map NetAt.sh = (l.take k).map NetAt.sh ++ [x.sh] by rw [List.take_add_one, hx]; simp)
          have hp := HP.out
          rw [hd, List.map_cons] at hp
          have hlen : ((l.take k).map NetAt.sh).length ≤ 1000000 := by rw [List.length_map, List.length_take]; omega
          clear hx hd hc1 hc2 hrow
          go_wp2_with fail
          generalize hW1 : World.alloc wr _ = W1
          obtain ⟨G, hG⟩ : ∃ G, wr.heap.size = G := ⟨_, rfl⟩
          have d1 : Blk W1 G 26 #[.int .i64 x.sh, .slice x.loc x.cols.length x.cap] := by rw [← hW1, ← hG]; exact Blk.new _ _ _
          have eb1 : Below w.heap.size w W1 := by rw [← hW1]; exact eb.alloc hsz _
          have hset1 : IntSet W1 M ((l.take k).map NetAt.sh) := by rw [← hW1]; exact hset.kept (World.grownBy_alloc _ _ none) (by simp)
          have hGw : w.heap.size ≤ G := by omega
          have hMG : M < G := by rw [← hG]; exact hset.lt
          have hlook := hset1.drew.look x.sh hix
          have m1 := d1.drew.cell 0
          have m2 := d1.drew.cell 1
          try rw [hG]
          clear hW1 hG eb hset hk1 hk2
          by_cases hx0 : x.sh < 0
          · have hb1 : (decide (x.sh < 0) || decide (100 ≤ x.sh)) = true := by simp [hx0]
            rw [Bus.nets_bad (x := x.net) (Or.inl hx0)] at hp
            have HN := Lib.hid hp
            obtain ⟨v2, hv2⟩ : ∃ v2, decide (x.sh ∈ (l.take k).map NetAt.sh) = v2 := ⟨_, rfl⟩
            rw [hv2] at hlook
            clear hp HP hv2
            go_wp2_with fail
            go_still_tail 19, (by kernel_rfl)
            still_call (when_on _ _ _ (by first | rfl | assumption | simp))
            repeat still_step
            still_call (when_st v2 _ _)
            repeat still_step
            still_call (when_st _ _ _)
            repeat still_step
            refine wpStill_nil ?_
            change wpList _ _ _ _ _ W1.drew
            generalize hW2 : W1.drew = W2
            have hset2 : IntSet W2 M ((l.take k).map NetAt.sh) := by rw [← hW2]; exact hset1
            have eb2 : Below w.heap.size w W2 := by rw [← hW2]; exact eb1.drew
            have c2 : Blk W2 G 26 #[.int .i64 x.sh, .slice x.loc x.cols.length x.cap] := by rw [← hW2]; exact d1.drew
            have hsz2 := eb2.size
            clear hW2 hset1 eb1 hlook d1 m1 m2
            go_wp2_with (go_at_call 38; refine (first_hit1 3 _ _ W2 _ (by decide)).mono ?_; rintro e w1 ⟨rfl, rfl⟩)
            all_goals (go_ret; exact ⟨ret_i64 HN.out, eb2.alloc hsz2 _⟩)
          · by_cases hxn : 100 ≤ x.sh
            · have hb1 : (decide (x.sh < 0) || decide (100 ≤ x.sh)) = true := by simp [hxn]
              rw [Bus.nets_bad (x := x.net) (Or.inr hxn)] at hp
              have HN := Lib.hid hp
              obtain ⟨v2, hv2⟩ : ∃ v2, decide (x.sh ∈ (l.take k).map NetAt.sh) = v2 := ⟨_, rfl⟩
              rw [hv2] at hlook
              clear hp HP hv2
              go_wp2_with fail
              go_still_tail 19, (by kernel_rfl)
              still_call (when_on _ _ _ (by first | rfl | assumption | simp))
              repeat still_step
              still_call (when_st v2 _ _)
              repeat still_step
              still_call (when_st _ _ _)
              repeat still_step
              refine wpStill_nil ?_
              change wpList _ _ _ _ _ W1.drew
              generalize hW2 : W1.drew = W2
              have hset2 : IntSet W2 M ((l.take k).map NetAt.sh) := by rw [← hW2]; exact hset1
              have eb2 : Below w.heap.size w W2 := by rw [← hW2]; exact eb1.drew
              have c2 : Blk W2 G 26 #[.int .i64 x.sh, .slice x.loc x.cols.length x.cap] := by rw [← hW2]; exact d1.drew
              have hsz2 := eb2.size
              clear hW2 hset1 eb1 hlook d1 m1 m2
              go_wp2_with (go_at_call 38; refine (first_hit1 3 _ _ W2 _ (by decide)).mono ?_; rintro e w1 ⟨rfl, rfl⟩)
              all_goals (go_ret; exact ⟨ret_i64 HN.out, eb2.alloc hsz2 _⟩)
            · have hb1 : (decide (x.sh < 0) || decide (100 ≤ x.sh)) = false := by simp; omega
              have hno : ¬ (x.net.1 < 0 ∨ 100 ≤ x.net.1) := by show ¬ (x.sh < 0 ∨ 100 ≤ x.sh); omega
              by_cases h2 : x.sh ∈ (l.take k).map NetAt.sh
              · have hd2 : decide (x.sh ∈ (l.take k).map NetAt.sh) = true := decide_eq_true h2
                rw [hd2] at hlook
                rw [Bus.nets_twice hno h2] at hp
                have HN := Lib.hid hp
                clear hp HP hd2
                go_wp2_with fail
                go_still_tail 19, (by kernel_rfl)
                still_call (when_off _ _ _ (by first | rfl | assumption | simp))
                repeat still_step
                still_call (when_on _ _ _ rfl)
                repeat still_step
                still_call (when_st _ _ _)
                repeat still_step
                refine wpStill_nil ?_
                change wpList _ _ _ _ _ W1.drew
                generalize hW2 : W1.drew = W2
                have hset2 : IntSet W2 M ((l.take k).map NetAt.sh) := by rw [← hW2]; exact hset1
                have eb2 : Below w.heap.size w W2 := by rw [← hW2]; exact eb1.drew
                have c2 : Blk W2 G 26 #[.int .i64 x.sh, .slice x.loc x.cols.length x.cap] := by rw [← hW2]; exact d1.drew
                have hsz2 := eb2.size
                clear hW2 hset1 eb1 hlook d1 m1 m2
                go_wp2_with (go_at_call 38; refine (first_hit2 9 _ W2 _ (by decide)).mono ?_; rintro e w1 ⟨rfl, rfl⟩)
                all_goals (go_ret; exact ⟨ret_i64 HN.out, eb2.alloc hsz2 _⟩)
              · have hd2 : decide (x.sh ∈ (l.take k).map NetAt.sh) = false := decide_eq_false h2
                rw [hd2] at hlook
                clear hd2
                by_cases h4 : x.cols = []
                · have hcl : x.cols.length = 0 := by rw [h4]; rfl
                  have hcb : decide ((x.cols.length : Int) = 0) = true := by simp [h4]
                  rw [Bus.nets_empty hno h2 h4] at hp
                  have HN := Lib.hid hp
                  clear hp HP h4
                  go_wp2_with fail
                  go_still_tail 19, (by kernel_rfl)
                  still_call (when_off _ _ _ (by first | rfl | assumption | simp))
                  repeat still_step
                  still_call (when_off _ _ _ rfl)
                  repeat still_step
                  still_call (when_on _ _ _ (by first | rfl | assumption | (simp; omega) | (simp [hcl]; done)))
                  repeat still_step
                  refine wpStill_nil ?_
                  change wpList _ _ _ _ _ W1.drew
                  generalize hW2 : W1.drew = W2
                  have hset2 : IntSet W2 M ((l.take k).map NetAt.sh) := by rw [← hW2]; exact hset1
                  have eb2 : Below w.heap.size w W2 := by rw [← hW2]; exact eb1.drew
                  have c2 : Blk W2 G 26 #[.int .i64 x.sh, .slice x.loc x.cols.length x.cap] := by rw [← hW2]; exact d1.drew
                  have hsz2 := eb2.size
                  clear hW2 hset1 eb1 hlook d1 m1 m2
                  go_wp2_with (go_at_call 38; refine (first_hit3 12 W2 _ (by decide)).mono ?_; rintro e w1 ⟨rfl, rfl⟩)
                  all_goals (go_ret; exact ⟨ret_i64 HN.out, eb2.alloc hsz2 _⟩)
                · have hcl : x.cols.length ≠ 0 := fun h => h4 (List.eq_nil_of_length_eq_zero h)
                  rw [Bus.nets_cols hno h2 h4] at hp
                  have HN := Lib.hid hp
                  have H2 := Lib.hid h2
                  clear hp HP h2 h4
                  go_wp2_with fail
                  go_still_tail 19, (by kernel_rfl)
                  still_call (when_off _ _ _ (by first | rfl | assumption | simp))
                  repeat still_step
                  still_call (when_off _ _ _ rfl)
                  repeat still_step
                  still_call (when_off _ _ _ (by first | rfl | assumption | (simp; omega) | (simp [hcl]; done)))
                  repeat still_step
                  refine wpStill_nil ?_
                  change wpList _ _ _ _ _ W1.drew
                  generalize hW2 : W1.drew = W2
                  have hset2 : IntSet W2 M ((l.take k).map NetAt.sh) := by rw [← hW2]; exact hset1
                  have eb2 : Below w.heap.size w W2 := by rw [← hW2]; exact eb1.drew
                  have c2 : Blk W2 G 26 #[.int .i64 x.sh, .slice x.loc x.cols.length x.cap] := by rw [← hW2]; exact d1.drew
                  have hsz2 := eb2.size
                  clear hW2 hset1 eb1 hlook d1 m1 m2
                  have q1 : W2.cell? ⟨G, 0, none⟩ = some (.int .i64 x.sh) := c2.cell 0
                  have q2 : W2.cell? ⟨G, 1, none⟩ = some (.slice x.loc x.cols.length x.cap) := c2.cell 1
                  have hGs := c2.lt
                  have HF := Lib.hid (first_three 0 0 0 W2 30)
                  rw [show firstOf [0, 0, 0] = 0 from rfl] at HF
                  go_wp2_with (first
                    | (go_at_call 38; refine HF.out.mono ?_; rintro e w1 ⟨rfl, rfl⟩)
                    | (at_mapUpdate; refine wpList_put_set rfl _ _ _ rfl M ((l.take k).map NetAt.sh) rfl (hset2.kept (World.grownBy_alloc _ _ none) (by simp)) x.sh rfl hix rfl hlen H2.out ?_; intro w3 hset3 hgrow3; have c3 : Blk w3 G 26 #[.int .i64 x.sh, .slice x.loc x.cols.length x.cap] := (hgrow3.block G (by have := c2.lt; simp; omega) (fun e => by injection e; omega)).trans (c2.alloc _); have p1 : w3.cell? ⟨G, 0, none⟩ = some (.int .i64 x.sh) := c3.cell 0; have p2 : w3.cell? ⟨G, 1, none⟩ = some (.slice x.loc x.cols.length x.cap) := c3.cell 1))
                  have eb3 : Below w.heap.size w w3 := (eb2.alloc hsz2 _).grown hgrow3 (by simp; omega) (fun j hj => by cases hj; omega)
                  have hsz3 := eb3.size
                  have hrow3 := Lib.hid (HROW.out.below eb3 hB)
                  obtain ⟨E, hE⟩ : ∃ E, Bus.colErr n (-1) x.cols = E := ⟨_, rfl⟩
                  have HE := Lib.hid hE
                  have hn3 := HN.out
                  rw [show x.net.2 = x.cols from rfl, hE] at hn3
                  have HN3 := Lib.hid hn3
                  clear hE hn3 HN H2 hgrow3 eb2 c2 c3 hset2 q1 q2
                  generalize x.cols = cs at *
                  generalize x.loc = loc at *
                  generalize x.cap = cap at *
                  go_wp2_with fail
                  go_loopw [10, 67] (fun la i wz => ∃ j : Nat, j ≤ cs.length ∧ i = .int .i64 j ∧ la = .int .i64 (Bus.lastOf (cs.take j)) ∧ Bus.colErr n (Bus.lastOf (cs.take j)) (cs.drop j) = E ∧ Below w3.heap.size w3 wz) (fun _ i _ => cs.length - (intOf i).toNat)
                  case atStart => exact ⟨0, Nat.zero_le _, rfl, rfl, HE.out, Below.refl _ _⟩
                  case round =>
                    obtain ⟨j, hj, rfl, rfl, hcol, ez⟩ := hrel
                    have hszz := ez.size
                    by_cases hlj : j < cs.length
                    · obtain ⟨b2, off2, y, rfl, hbB2, hy, hcy⟩ := hrow3.out.int j hlj
                      have hcy2 := (ez.cell (p := ⟨b2, off2 + j, none⟩) (by show b2 < _; omega)).trans hcy
                      have hdj : cs.drop j = y :: cs.drop (j + 1) := by
                        rw [List.drop_eq_getElem_cons hlj]
                        rw [List.getElem?_eq_getElem hlj] at hy
                        rw [Option.some.inj hy]
                      have HTJ := Lib.hid (show Bus.lastOf (cs.take (j + 1)) = y by rw [List.take_add_one, hy]; exact Bus.lastOf_snoc _ _)
                      rw [hdj] at hcol
                      generalize Bus.lastOf (cs.take j) = la at *
                      have ebz : Below w.heap.size w wr := below_after eb3 ez (Nat.le_refl _)
                      have hszw := ebz.size
                      clear hy hcy hdj
                      by_cases hyb : y < 0 ∨ n ≤ y
                      · rw [Bus.col_bad hyb] at hcol
                        subst hcol
                        have hr := HN3.out
                        rw [if_pos (by decide)] at hr
                        have HR2 := Lib.hid hr
                        clear hr
                        by_cases hy0 : y < 0
                        · have hyc : (decide (y < 0) || decide (n ≤ y)) = true := by simp [hy0]
                          go_wp2_with (first
                            | (go_at_call 40; refine (when_any _ _ _).mono ?_; rintro e w1 ⟨rfl, rfl⟩)
                            | (go_at_call 38; refine (first_hit21 10 _ wr _ (by decide)).mono ?_; rintro e w1 ⟨rfl, rfl⟩))
                          all_goals (go_ret; exact ⟨ret_i64 HR2.out, ebz.alloc hszw _⟩)
                        · have hyn : n ≤ y := by omega
                          have hyc : (decide (y < 0) || decide (n ≤ y)) = true := by simp [hyn]
                          go_wp2_with (first
                            | (go_at_call 40; refine (when_any _ _ _).mono ?_; rintro e w1 ⟨rfl, rfl⟩)
                            | (go_at_call 38; refine (first_hit21 10 _ wr _ (by decide)).mono ?_; rintro e w1 ⟨rfl, rfl⟩))
                          all_goals (go_ret; exact ⟨ret_i64 HR2.out, ebz.alloc hszw _⟩)
                      · have hy0 : ¬ y < 0 := fun h => hyb (.inl h)
                        have hyn : ¬ n ≤ y := fun h => hyb (.inr h)
                        have hyc : (decide (y < 0) || decide (n ≤ y)) = false := by simp; omega
                        by_cases hyl : y ≤ la
                        · rw [Bus.col_order hyb hyl] at hcol
                          subst hcol
                          have hr := HN3.out
                          rw [if_pos (by decide)] at hr
                          have HR2 := Lib.hid hr
                          have hyd : decide (y ≤ la) = true := decide_eq_true hyl
                          clear hr
                          go_wp2_with (first
                            | (go_at_call 40; refine (when_any _ _ _).mono ?_; rintro e w1 ⟨rfl, rfl⟩)
                            | (go_at_call 38; refine (first_hit22 11 wr _).mono ?_; rintro e w1 ⟨rfl, rfl⟩))
                          all_goals (go_ret; exact ⟨ret_i64 HR2.out, ebz.alloc hszw _⟩)
                        · rw [Bus.col_ok hyb hyl] at hcol
                          have HC := Lib.hid hcol
                          have hyd : decide (y ≤ la) = false := decide_eq_false hyl
                          clear hcol
                          go_wp2_with (first
                            | (go_at_call 40; refine (when_no_of _ _ _ (by first | rfl | assumption)).mono ?_; rintro e w1 ⟨rfl, rfl⟩)
                            | (go_at_call 38; refine (first_hit22 0 wr _).mono ?_; rintro e w1 ⟨rfl, rfl⟩))
                          go_roundw
                          case rel => exact ⟨j + 1, by omega, by go_num, by rw [HTJ.out], by rw [HTJ.out]; exact HC.out, ez.alloc hszz _⟩
                          case measure => simp [intOf]; omega
                    · obtain rfl : j = cs.length := by omega
                      rw [List.drop_length] at hcol
                      have hE0 : E = 0 := hcol.symm
                      subst hE0
                      have hr := HN3.out
                      rw [if_neg (by decide)] at hr
                      have HR2 := Lib.hid hr
                      clear hr hcol
                      go_wp2_with fail
                      go_roundw
                      case rel => exact ⟨k + 1, by omega, by go_num, by rw [HT.out]; exact hset3.below ez, by rw [HT.out]; exact HR2.out, below_after eb3 ez (Nat.le_refl _)⟩
                      case measure => simp [intOf]; omega
        · obtain rfl : k = l.length := by omega
          have HN := Lib.hid (show (0 : Int) = r by rw [← HP.out, List.drop_length]; rfl)
          clear HP
          go_wp2_with fail
          go_ret
          exact ⟨ret_i64 HN.out, eb⟩
end Go.Proofs.YtbldpojkpmafpaaGreatDoor

/- More plain facts on extents. -/
namespace Go.Proofs.YtbldpojkpmafpaaGreatDoor
open Go.RowKit

def xcells (l : List (Int × Int)) : List Value := l.flatMap fun p => [.int .i64 p.1, .int .i64 p.2]
theorem xcells_len (l : List (Int × Int)) : (xcells l).length = l.length * 2 := by
  induction l with
  | nil => rfl
  | cons p r ih => simp [xcells] at ih ⊢; omega
def lowOf (F : Nat → Int) (cols : List Int) : Int := cols.foldl (fun l c => min l (F c.toNat)) 97
def highOf (F : Nat → Int) (cols : List Int) : Int := cols.foldl (fun h c => max h (F c.toNat)) (-1)
theorem lowOf_snoc (F : Nat → Int) (cols : List Int) (c : Int) : lowOf F (cols ++ [c]) = min (lowOf F cols) (F c.toNat) := by simp [lowOf]
theorem highOf_snoc (F : Nat → Int) (cols : List Int) (c : Int) : highOf F (cols ++ [c]) = max (highOf F cols) (F c.toNat) := by simp [highOf]
theorem exts_snoc (F : Nat → Int) (l : List NetAt) (k : Nat) (x : NetAt) (h : l[k]? = some x) :
    xcells (Bus.exts F ((l.take (k + 1)).map NetAt.net)) = xcells (Bus.exts F ((l.take k).map NetAt.net)) ++ [.int .i64 (lowOf F x.cols), .int .i64 (highOf F x.cols)] := by
  rw [List.take_add_one, h]
  simp [Bus.exts, xcells, Bus.ext, NetAt.net, lowOf, highOf]
theorem own_below {w w' : World} {base size n : Nat} {e : TypeId} {v : Value} {vs : List Value} (h : w.ownsRow base e size v n vs) (hb : Below w.heap.size w w') : w'.ownsRow base e size v n vs := by
  refine ⟨h.1, ?_⟩
  rcases h.2 with h2 | ⟨g, cap, cur, h1, h2, h3, h4⟩
  · exact .inl h2
  · exact .inr ⟨g, cap, cur, h1, h2, (hb.block g (Array.getElem?_eq_some_iff.1 h3).1).trans h3, h4⟩
theorem own_cap {w : World} {base size n : Nat} {e : TypeId} {v : Value} {vs : List Value} (h : w.ownsRow base e size v n vs) : ∃ A c, v = .slice A n c ∧ n ≤ c ∧ Row w w.heap.size A vs := by
  obtain ⟨A, c, rfl, _, hr⟩ := Row.of_own h
  refine ⟨A, c, rfl, ?_, hr⟩
  rcases h.2 with ⟨h1, h2⟩ | ⟨g, cap, cur, h1, _, _, h4, _⟩
  · omega
  · injection h1 with _ _ h1; omega
theorem own_set {w : World} {base size n g i : Nat} {e : TypeId} {v u : Value} {vs : List Value} (h : w.ownsRow base e size v n vs) (hg : g < base) : (w.setCell ⟨g, i, none⟩ u).ownsRow base e size v n vs := by
  refine ⟨h.1, ?_⟩
  rcases h.2 with h2 | ⟨b, cap, cur, h1, h2, h3, h4⟩
  · exact .inl h2
  · exact .inr ⟨b, cap, cur, h1, h2, (Below.heap_setCell w ⟨g, i, none⟩ u b (by show b ≠ g; omega)).trans h3, h4⟩
end Go.Proofs.YtbldpojkpmafpaaGreatDoor
