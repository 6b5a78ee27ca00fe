/- The runner: a row of the run's own that is never written again is taken as plain data. -/
import Derived.Test.YtbldpojkpmafpaaGreatDoorZtSvUse
import Derived.Test.YtbldpojkpmafpaaGreatDoorZtNetKit
import Derived.Maps.AppendAt
namespace Go.Proofs.YtbldpojkpmafpaaGreatDoor
open Go.RowKit Sv
section
variable {X : Ext} {P : Program} {w0 : World} {F : Env} {n : Nat} {T : Tr AV} {H : AHeap} {a : Act} {w : World} {B : Nat} {ρ ρ' : Env}
theorem Sat.freeze {i j m : Nat} {e e2 : TypeId} {cs : List AV} {x f r : Bool} {t : Ty} {xs : List t.den} {cap : Cap} (hj : H.get j = some (.cells e cs x f r)) (hm : cs[m]? = some (.osl e2 t i 0 xs.length cap)) (hi : H.get i = optOwn e2 t xs) (hij : i ≠ j)
    (hs : SatX X P w0 F n T H a w) : SatX X P w0 F n T ((H.drop i).set j (.cells e (cs.set m (.lst false t xs)) x f r)) a w := by
  obtain ⟨⟨ρ, hAR, hnone, hfz, hkp⟩, hb, hd⟩ := hs
  by_cases hx : xs = []
  · subst hx
    have hi : H.get i = none := hi
    refine ⟨⟨ρ, ⟨hAR.T, hden_swap hAR.H (Le.refl _) (fun _ => rfl) hj hij hm (fun y hy => ?_) (fun b A h => ⟨(hAR.H.fz b A h).1, fun k kk c _ g1 g2 => (hAR.H.fz b A h).2 k kk c g1 g2⟩), hAR.G⟩, hnone, hfz, hkp.re (Le.refl _) (Nat.le_refl _) (fun _ hh => own_swap (fun _ => rfl) hj hh) fun _ _ h => .inl h⟩, hb, hd⟩
    rcases hy.osl_inv with ⟨_, a, rfl⟩ | ⟨b, c, kc, _, _, _, rfl⟩
    · exact .lstNil fun e => by cases e
    · exact .lstNil fun e => by cases e
  · obtain ⟨x0, l0, rfl⟩ := List.exists_cons_of_ne_nil hx
    have hi : H.get i = some (.own e2 t (x0 :: l0)) := hi
    generalize hxs : x0 :: l0 = xs at *
    obtain ⟨b, c, o, hib, _, _, hB⟩ := hAR.H.blk i _ hi
    obtain ⟨zs, z1, z2, z3, z4, z5, z6⟩ := own_at hAR.H hi hib
    have hnf : ρ.fz b = none := by
      cases hz : ρ.fz b with
      | none => rfl
      | some A =>
        have := (hAR.H.fz b A hz).2 i _ c hi hib
        cases this
    have hle : Le ρ ⟨ρ.at', fun q => if q = b then some zs else ρ.fz q⟩ := ⟨fun _ _ h => h, fun q A h => by
      show (if q = b then some zs else ρ.fz q) = some A
      by_cases hq : q = b
      · subst hq; rw [hnf] at h; cases h
      · rw [if_neg hq]; exact h⟩
    refine ⟨⟨⟨ρ.at', fun q => if q = b then some zs else ρ.fz q⟩, ⟨hAR.T.mono hle, hden_swap hAR.H hle (fun _ => rfl) hj hij hm (fun y hy => ?_) (fun q A h => ?_), hAR.G.mono hle⟩, hnone, fun q A h => ?_, hkp.re hle (Nat.le_refl _) (fun _ hh => own_swap (fun _ => rfl) hj hh) fun q A h => by
      have h : (if q = b then some zs else ρ.fz q) = some A := h
      by_cases hq : q = b
      · exact .inr ⟨i, _, c, hi, rfl, hq ▸ hib⟩
      · rw [if_neg hq] at h; exact .inl h⟩, hb, hd⟩
    · rcases hy.osl_inv with ⟨h0, _⟩ | ⟨b', c', kc, g1, _, g3, rfl⟩
      · exact absurd (List.length_eq_zero_iff.1 h0) hx
      · rw [hib] at g1
        cases g1
        refine .lst (A := zs) (b := b) (off := 0 * t.size) (by show (if b = b then some zs else _) = _; rw [if_pos rfl]) (by rw [Nat.zero_mul, Nat.zero_add]; exact z4) rfl ?_ g3 (fun e => by cases e)
        rw [Nat.zero_mul, List.drop_zero]
        exact z2.mono hle
    · have h : (if q = b then some zs else ρ.fz q) = some A := h
      by_cases hq : q = b
      · subst hq
        rw [if_pos rfl] at h
        cases h
        exact ⟨⟨_, _, z1⟩, fun k kk c' hne g1 g2 => absurd (hAR.H.inj k i kk _ q c' c g1 hi g2 hib) hne⟩
      · rw [if_neg hq] at h
        exact ⟨(hAR.H.fz q A h).1, fun k kk c _ g1 g2 => (hAR.H.fz q A h).2 k kk c g1 g2⟩
    · have h : (if q = b then some zs else ρ.fz q) = some A := h
      by_cases hq : q = b
      · subst hq; exact .inr (hB rfl)
      · rw [if_neg hq] at h; exact hfz q A h
theorem Goal.freeze {Q : Exit → Tr AV → AHeap → Prop} {c : Code} {i j m : Nat} {e e2 : TypeId} {cs : List AV} {x f r : Bool} {t : Ty} {xs : List t.den} {cap : Cap} (hj : H.get j = some (.cells e cs x f r)) (hm : cs[m]? = some (.osl e2 t i 0 xs.length cap)) (hi : H.get i = optOwn e2 t xs) (hij : i ≠ j)
    (hg : GoalX X P w0 F n c T ((H.drop i).set j (.cells e (cs.set m (.lst false t xs)) x f r)) Q) : GoalX X P w0 F n c T H Q := fun a w hs k => hg a w (Sat.freeze hj hm hi hij hs) k
theorem GoalL.freeze {Q : Exit → Tr AV → AHeap → Prop} {l : List Code} (hl : l ≠ []) {i j m : Nat} {e e2 : TypeId} {cs : List AV} {x f r : Bool} {t : Ty} {xs : List t.den} {cap : Cap} (hj : H.get j = some (.cells e cs x f r)) (hm : cs[m]? = some (.osl e2 t i 0 xs.length cap)) (hi : H.get i = optOwn e2 t xs) (hij : i ≠ j)
    (hg : GoalLX X P w0 F n l T ((H.drop i).set j (.cells e (cs.set m (.lst false t xs)) x f r)) Q) : GoalLX X P w0 F n l T H Q := by
  cases l with
  | nil => exact absurd rfl hl
  | cons c l => exact Goal.freeze hj hm hi hij hg
theorem GoalL.refit {Q : Exit → Tr AV → AHeap → Prop} {l : List Code} (hl : l ≠ []) {σ : Ren} {s : St} (h : fit P σ n T H s) (hg : GoalLX X P w0 F n l s.T s.H Q) (hp : pinned σ s.H.next X.pins = true := by rfl) : GoalLX X P w0 F n l T H Q := by
  cases l with
  | nil => exact absurd rfl hl
  | cons c l => exact Goal.refit h hg hp
end
end Go.Proofs.YtbldpojkpmafpaaGreatDoor

/- Package bus: the checks of nets and of an order. -/
namespace Go.Proofs.YtbldpojkpmafpaaGreatDoor
open Go.RowKit

theorem IntSet.look {w : World} {b : Nat} {l : List Int} (h : IntSet w b l) (k : Int) (hk : I64 k) :
    (Instr.lookup 133 (.map (some b)) (.int .i64 k) false).run Tryz.prog w = .ok (.bool (decide (k ∈ l))) w := by
  obtain ⟨D, h1, _, h3⟩ := h
  obtain ⟨v, ps, hrun, hv⟩ := h1.lookup (Maps.int_keyed Tryz.underlying3) Tryz.underlying133 (zero_bool w) (plainElem_bool Tryz.underlying4 false) (Maps.keyOf_int_mk Tryz.underlying3 hk.wf)
  obtain ⟨x, rfl, hx⟩ := plainElem_bool_inv Tryz.underlying4 hv
  rw [h3 k] at hx
  simp only [Prod.mk.injEq, DataW.lit.injEq, Lit.bool.injEq] at hx
  rw [hrun, hx.1]
theorem IntSet.drew {w : World} {b : Nat} {l : List Int} (h : IntSet w b l) : IntSet w.drew b l := h
theorem wpList_put_set {w : World} {ops : Array Oper} {rest : List Oper} {o : Oper} {a : Act} {Q : Exit → Act → World → Prop}
    (hg : o.guard = none) (m x v : Operand) (hop : o.op = Op.mapUpdate 133 m x v) (b : Nat) (l : List Int)
    (hm : a.eval m = .map (some b)) (hs : IntSet w b l) (k : Int) (hx : a.eval x = .int .i64 k) (hk : I64 k) (hv : a.eval v = .bool true) (hl : l.length ≤ 1000000) (hnew : k ∉ l)
    (hK : ∀ w', IntSet w' b (l ++ [k]) → w.grownBy w' (some b) → wpList Tryz.prog ops Q rest (a.put o.dst undef) w') :
    wpList Tryz.prog ops Q (o :: rest) a w := by
  obtain ⟨D, h1, h2, h3⟩ := hs
  refine wpList_mapUpdate_own w hg m x v 133 hop 3 4 (Maps.int_keyed Tryz.underlying3) Tryz.underlying133 _ b l.length D hm h1 (by unfold maxLen; omega) _ _ (.int .i64 k) hx hv (Maps.keyOf_int_mk Tryz.underlying3 hk.wf) _ [] (plainElem_bool Tryz.underlying4 true) ?_
  intro w' h4 h5
  refine hK w' ⟨_, by rw [List.length_append]; exact h4, h2.put _ _, fun y => ?_⟩ h5
  by_cases hy : y = k
  · subst hy
    rw [Maps.atKey_put_same h2 (by trivial)]
    simp
  · rw [Maps.atKey_put_other (fun e => hy (by injection e)), h3 y]
    simp [hy]

set_option maxHeartbeats 4000000 in
set_option maxRecDepth 100000 in
theorem checkOrder_any (A : Option Addr) (c B : Nat) (order : List Int) (n : Int) (w : World) (hl : order.length ≤ 1000000) (h : Row w B A (order.map (Value.int .i64))) (hi : ∀ c ∈ order, I64 c) (hB : B ≤ w.heap.size) :
    Calls Tryz.prog 101 #[.slice A order.length c, .int .i64 n] w fun e w' => e = .returned (.int .i64 (Bus.orderErr order n)) ∧ Below w.heap.size w w' := by
  have H := Lib.hid h
  have HI := Lib.hid hi
  clear h hi
  by_cases hn : (order.length : Int) = n
  · have hne : ((order.length : Int) != n) = false := by simp [hn]
    obtain ⟨r, hr⟩ : ∃ r, Bus.orderFrom n [] order = r := ⟨_, rfl⟩
    have e : Bus.orderErr order n = r := by unfold Bus.orderErr; rw [if_neg (by omega), hr]
    rw [e]
    have HR := Lib.hid hr
    clear e hr
    have hmm := @run_makeMap Tryz.prog
    go_enter Tryz.func101, Tryz.ntmps101
    go_wp2_with fail
    go_loopw [16] (fun i wr => ∃ k : Nat, k ≤ order.length ∧ i = .int .i64 k ∧ IntSet wr w.heap.size (order.take k) ∧ Bus.orderFrom n (order.take k) (order.drop k) = r ∧ Below w.heap.size w wr) (fun i _ => order.length - (intOf i).toNat)
    case atStart => exact ⟨0, Nat.zero_le _, rfl, IntSet.made w, HR.out, (Below.refl _ w).alloc (Nat.le_refl _) _⟩
    case round =>
      obtain ⟨k, hk, rfl, hset, hpre, eb⟩ := hrel
      have hsz := eb.size
      have HP := Lib.hid hpre
      clear hpre
      by_cases hlt : k < order.length
      · obtain ⟨b, off, x, rfl, hbB, hx, hc⟩ := H.out.int k hlt
        have hck := (eb.cell (p := ⟨b, off + k, none⟩) (by show b < _; omega)).trans hc
        have hix := HI.out x (List.mem_of_getElem? hx)
        have hd : order.drop k = x :: order.drop (k + 1) := by
          rw [List.drop_eq_getElem_cons hlt]
          rw [List.getElem?_eq_getElem hlt] at hx
          rw [Option.some.inj hx]
        have ht : order.take (k + 1) = order.take k ++ [x] := by rw [List.take_add_one, hx]; rfl
        have hp := HP.out
        rw [hd] at hp
        unfold Bus.orderFrom at hp
        have hlook := hset.drew.look x hix
        have hlen : (order.take k).length ≤ 1000000 := by rw [List.length_take]; omega
        clear hx hd hc
        by_cases hx0 : x < 0
        · have hb1 : (decide (x < 0) || decide (n ≤ x)) = true := by simp [hx0]
          obtain ⟨v2, hv2⟩ : ∃ v2, decide (x ∈ order.take k) = v2 := ⟨_, rfl⟩
          rw [hv2] at hlook
          rw [if_pos (.inl hx0)] at hp
          have HN := Lib.hid hp
          clear hp HP hv2
          go_wp2_with fail
          go_still_tail 12, (by kernel_rfl)
          still_call (when_on _ _ _ (by first | rfl | assumption | simp))
          repeat still_step
          still_call (when_st v2 _ _)
          repeat still_step
          refine wpStill_nil ?_
          change wpList _ _ _ _ _ wr.drew
          generalize hW2 : wr.drew = W2
          have hset2 : IntSet W2 w.heap.size (order.take k) := by rw [← hW2]; exact hset
          have eb2 : Below w.heap.size w W2 := by rw [← hW2]; exact eb.drew
          have hsz2 := eb2.size
          clear hW2 hset eb hlook hck
          obtain ⟨E, hE⟩ : ∃ E : Int, (if v2 = true then 9 else 0) = E := ⟨_, rfl⟩
          rw [hE]
          have HF := Lib.hid (first_two 10 E W2 30)
          rw [firstOf_hit 10 _ (by decide)] at HF
          go_wp2_with (go_at_call 38; refine HF.out.mono ?_; rintro e w1 ⟨rfl, rfl⟩)
          go_ret
          exact ⟨ret_i64 HN.out, eb2.alloc hsz2 _⟩
        · by_cases hxn : n ≤ x
          · have hb1 : (decide (x < 0) || decide (n ≤ x)) = true := by simp [hxn]
            obtain ⟨v2, hv2⟩ : ∃ v2, decide (x ∈ order.take k) = v2 := ⟨_, rfl⟩
            rw [hv2] at hlook
            rw [if_pos (.inr hxn)] at hp
            have HN := Lib.hid hp
            clear hp HP hv2
            go_wp2_with fail
            go_still_tail 12, (by kernel_rfl)
            still_call (when_on _ _ _ (by first | rfl | assumption | simp))
            repeat still_step
            still_call (when_st v2 _ _)
            repeat still_step
            refine wpStill_nil ?_
            change wpList _ _ _ _ _ wr.drew
            generalize hW2 : wr.drew = W2
            have hset2 : IntSet W2 w.heap.size (order.take k) := by rw [← hW2]; exact hset
            have eb2 : Below w.heap.size w W2 := by rw [← hW2]; exact eb.drew
            have hsz2 := eb2.size
            clear hW2 hset eb hlook hck
            obtain ⟨E, hE⟩ : ∃ E : Int, (if v2 = true then 9 else 0) = E := ⟨_, rfl⟩
            rw [hE]
            have HF := Lib.hid (first_two 10 E W2 30)
            rw [firstOf_hit 10 _ (by decide)] at HF
            go_wp2_with (go_at_call 38; refine HF.out.mono ?_; rintro e w1 ⟨rfl, rfl⟩)
            go_ret
            exact ⟨ret_i64 HN.out, eb2.alloc hsz2 _⟩
          · have hb1 : (decide (x < 0) || decide (n ≤ x)) = false := by simp; omega
            rw [if_neg (by omega)] at hp
            by_cases h2 : x ∈ order.take k
            · have hd2 : decide (x ∈ order.take k) = true := decide_eq_true h2
              rw [hd2] at hlook
              rw [if_pos h2] at hp
              have HN := Lib.hid hp
              clear hp HP hd2
              go_wp2_with fail
              go_still_tail 12, (by kernel_rfl)
              still_call (when_off _ _ _ (by first | rfl | assumption | simp))
              repeat still_step
              still_call (when_on _ _ _ rfl)
              repeat still_step
              refine wpStill_nil ?_
              change wpList _ _ _ _ _ wr.drew
              generalize hW2 : wr.drew = W2
              have hset2 : IntSet W2 w.heap.size (order.take k) := by rw [← hW2]; exact hset
              have eb2 : Below w.heap.size w W2 := by rw [← hW2]; exact eb.drew
              have hsz2 := eb2.size
              clear hW2 hset eb hlook hck
              have HF := Lib.hid (first_two 0 9 W2 30)
              rw [firstOf_miss, firstOf_hit 9 _ (by decide)] at HF
              go_wp2_with (go_at_call 38; refine HF.out.mono ?_; rintro e w1 ⟨rfl, rfl⟩)
              go_ret
              exact ⟨ret_i64 HN.out, eb2.alloc hsz2 _⟩
            · rw [if_neg h2, ← ht] at hp
              have HN := Lib.hid hp
              have hd2 : decide (x ∈ order.take k) = false := decide_eq_false h2
              rw [hd2] at hlook
              have H2 := Lib.hid h2
              have HT := Lib.hid ht
              clear hp HP h2 hd2 ht
              go_wp2_with fail
              go_still_tail 12, (by kernel_rfl)
              still_call (when_off _ _ _ (by first | rfl | assumption | simp))
              repeat still_step
              still_call (when_off _ _ _ rfl)
              repeat still_step
              refine wpStill_nil ?_
              change wpList _ _ _ _ _ wr.drew
              generalize hW2 : wr.drew = W2
              have hset2 : IntSet W2 w.heap.size (order.take k) := by rw [← hW2]; exact hset
              have eb2 : Below w.heap.size w W2 := by rw [← hW2]; exact eb.drew
              have hsz2 := eb2.size
              clear hW2 hset eb hlook hck
              have HF := Lib.hid (first_two 0 0 W2 30)
              rw [show firstOf [0, 0] = 0 from rfl] at HF
              go_wp2_with (first
                | (go_at_call 38; refine HF.out.mono ?_; rintro e w1 ⟨rfl, rfl⟩)
                | (at_mapUpdate; refine wpList_put_set rfl _ _ _ rfl w.heap.size (order.take k) rfl (hset2.kept (World.grownBy_alloc _ _ none) (by simp)) x rfl hix rfl hlen H2.out ?_; intro w3 hset3 hgrow3))
              have eb3 : Below w.heap.size w w3 := (eb2.alloc hsz2 _).grown hgrow3 (by simp; omega) (fun j hj => by cases hj; exact Nat.le_refl _)
              go_roundw
              case rel => exact ⟨k + 1, by omega, by go_num, by rw [HT.out]; exact hset3, HN.out, eb3⟩
              case measure => simp [intOf]; omega
      · obtain rfl : k = order.length := by omega
        have HN := Lib.hid (show (0 : Int) = r by rw [← HP.out, List.drop_length]; rfl)
        clear HP
        go_wp2_with fail
        go_ret
        exact ⟨ret_i64 HN.out, eb⟩
  · have hne : ((order.length : Int) != n) = true := by simp [hn]
    have e : Bus.orderErr order n = 2 := by unfold Bus.orderErr; rw [if_pos hn]
    rw [e]
    go_enter Tryz.func101, Tryz.ntmps101
    go_wp2_with fail
    go_ret
    exact ⟨rfl, Below.refl _ _⟩
end Go.Proofs.YtbldpojkpmafpaaGreatDoor

/- Package bus: the check of nets. -/
namespace Go.Proofs.YtbldpojkpmafpaaGreatDoor
open Go.RowKit

set_option maxHeartbeats 8000000 in
set_option maxRecDepth 100000 in
theorem CheckNets_any (A : Option Addr) (c B : Nat) (l : List NetAt) (n : Int) (w : World) (h : NetsIn w B A l) (hB : B ≤ w.heap.size) (hl : l.length ≤ 140737488355328) :
    Calls Tryz.prog 39 #[.slice A l.length c, .int .i64 n] w fun e w' => e = .returned (.int .i64 (Bus.netsErr (l.map NetAt.net) n)) ∧ Below w.heap.size w w' := by
  have H := Lib.hid h
  clear h
  by_cases hn : n < 1 ∨ 97 < n
  · have e : Bus.netsErr (l.map NetAt.net) n = 3 := by unfold Bus.netsErr; rw [if_pos hn]
    rw [e]
    by_cases hn0 : n < 1
    · have hb : (decide (n < 1) || decide (97 < n)) = true := by simp [hn0]
      go_enter Tryz.func39, Tryz.ntmps39
      go_wp2_with (first
        | (go_at_call 40; refine (when_any _ _ _).mono ?_; rintro e w1 ⟨rfl, rfl⟩)
        | (go_at_call 38; refine (first_hit21 3 _ w _ (by decide)).mono ?_; rintro e w1 ⟨rfl, rfl⟩))
      all_goals (go_ret; exact ⟨rfl, (Below.refl _ w).alloc (Nat.le_refl _) _⟩)
    · have hn1 : 97 < n := by omega
      have hb : (decide (n < 1) || decide (97 < n)) = true := by simp [hn1]
      go_enter Tryz.func39, Tryz.ntmps39
      go_wp2_with (first
        | (go_at_call 40; refine (when_any _ _ _).mono ?_; rintro e w1 ⟨rfl, rfl⟩)
        | (go_at_call 38; refine (first_hit21 3 _ w _ (by decide)).mono ?_; rintro e w1 ⟨rfl, rfl⟩))
      all_goals (go_ret; exact ⟨rfl, (Below.refl _ w).alloc (Nat.le_refl _) _⟩)
  · by_cases h64 : 64 < l.length
    · have e : Bus.netsErr (l.map NetAt.net) n = 5 := by unfold Bus.netsErr; rw [if_neg hn, if_pos (by rw [List.length_map]; exact h64)]
      rw [e]
      have hn1 : ¬ n < 1 := fun h => hn (.inl h)
      have hn2 : ¬ 97 < n := fun h => hn (.inr h)
      have hb : (decide (n < 1) || decide (97 < n)) = false := by simp; omega
      have hd : decide ((64 : Int) < (l.length : Int)) = true := by simp; omega
      have hd2 : (64 : Int) < (l.length : Int) := by omega
      clear hn
      go_enter Tryz.func39, Tryz.ntmps39
      go_wp2_with (first
        | (go_at_call 40; refine (when_any _ _ _).mono ?_; rintro e w1 ⟨rfl, rfl⟩)
        | (go_at_call 38; refine (first_hit22 5 w _).mono ?_; rintro e w1 ⟨rfl, rfl⟩))
      all_goals (go_ret; exact ⟨rfl, (Below.refl _ w).alloc (Nat.le_refl _) _⟩)
    · obtain ⟨r, hr⟩ : ∃ r, Bus.netsFrom n [] (l.map NetAt.net) = r := ⟨_, rfl⟩
      have e : Bus.netsErr (l.map NetAt.net) n = r := by unfold Bus.netsErr; rw [if_neg hn, if_neg (by rw [List.length_map]; exact h64), hr]
      rw [e]
      have HR := Lib.hid hr
      have hn1 : ¬ n < 1 := fun h => hn (.inl h)
      have hn2 : ¬ 97 < n := fun h => hn (.inr h)
      clear e hr hn
      have hmm := @run_makeMap Tryz.prog
      have HF0 := Lib.hid (first_two 0 0 w 30)
      rw [show firstOf [0, 0] = 0 from rfl] at HF0
      go_enter Tryz.func39, Tryz.ntmps39
      go_wp2_with (first
        | (go_at_call 40; refine (when_no_of _ _ _ (by first | rfl | assumption | (simp; omega))).mono ?_; rintro e w1 ⟨rfl, rfl⟩)
        | (go_at_call 38; refine HF0.out.mono ?_; rintro e w1 ⟨rfl, rfl⟩))
      clear hmm HF0
      generalize hW0 : World.alloc (World.alloc w _) _ = W0
      obtain ⟨M, hM⟩ : ∃ M, w.heap.size + 1 = M := ⟨_, rfl⟩
      have hset0 : IntSet W0 M [] := by
        rw [← hW0, ← hM]
        have := IntSet.made (w.alloc (.cells #[.int .i64 0, .int .i64 0] 30))
        simpa using this
      have e0 : Below w.heap.size w W0 := by rw [← hW0]; exact ((Below.refl _ w).alloc (Nat.le_refl _) _).alloc (by simp) _
      have hMw : w.heap.size < M := by omega
      try rw [hM]
      clear hW0 hM
      go_loopw [33] (fun i wr => ∃ k : Nat, k ≤ l.length ∧ i = .int .i64 k ∧ IntSet wr M ((l.take k).map NetAt.sh) ∧ Bus.netsFrom n ((l.take k).map NetAt.sh) ((l.drop k).map NetAt.net) = r ∧ Below w.heap.size w wr) (fun i _ => l.length - (intOf i).toNat)
      case atStart => exact ⟨0, Nat.zero_le _, rfl, hset0, HR.out, e0⟩
      case round =>
        obtain ⟨k, hk, rfl, hset, hpre, eb⟩ := hrel
        have hsz := eb.size
        have HP := Lib.hid hpre
        clear hpre hset0 e0
        by_cases hlt : k < l.length
        · obtain ⟨b, off, x, rfl, hbB, hx, hc1, hc2, hrow, hfew, hix, hics⟩ := H.out.net k hlt
          have hk1 := (eb.cell (p := ⟨b, off + k * 2, none⟩) (by show b < _; omega)).trans hc1
          have hk2 := (eb.cell (p := ⟨b, off + k * 2 + 1, none⟩) (by show b < _; omega)).trans hc2
          have HROW := Lib.hid hrow
          have hd : l.drop k = x :: l.drop (k + 1) := by
            rw [List.drop_eq_getElem_cons hlt]
            rw [List.getElem?_eq_getElem hlt] at hx
            rw [Option.some.inj hx]
          have HT := Lib.hid (show (l.take (k + 1)).map NetAt.sh = (l.take k).map NetAt.sh ++ [x.sh] by rw [List.take_add_one, hx]; simp)
          have hp := HP.out
          rw [hd, List.map_cons] at hp
          have hlen : ((l.take k).map NetAt.sh).length ≤ 1000000 := by rw [List.length_map, List.length_take]; omega
          clear hx hd hc1 hc2 hrow
          go_wp2_with fail
          generalize hW1 : World.alloc wr _ = W1
          obtain ⟨G, hG⟩ : ∃ G, wr.heap.size = G := ⟨_, rfl⟩
          have d1 : Blk W1 G 26 #[.int .i64 x.sh, .slice x.loc x.cols.length x.cap] := by rw [← hW1, ← hG]; exact Blk.new _ _ _
          have eb1 : Below w.heap.size w W1 := by rw [← hW1]; exact eb.alloc hsz _
          have hset1 : IntSet W1 M ((l.take k).map NetAt.sh) := by rw [← hW1]; exact hset.kept (World.grownBy_alloc _ _ none) (by simp)
          have hGw : w.heap.size ≤ G := by omega
          have hMG : M < G := by rw [← hG]; exact hset.lt
          have hlook := hset1.drew.look x.sh hix
          have m1 := d1.drew.cell 0
          have m2 := d1.drew.cell 1
          try rw [hG]
          clear hW1 hG eb hset hk1 hk2
          by_cases hx0 : x.sh < 0
          · have hb1 : (decide (x.sh < 0) || decide (100 ≤ x.sh)) = true := by simp [hx0]
            rw [Bus.nets_bad (x := x.net) (Or.inl hx0)] at hp
            have HN := Lib.hid hp
            obtain ⟨v2, hv2⟩ : ∃ v2, decide (x.sh ∈ (l.take k).map NetAt.sh) = v2 := ⟨_, rfl⟩
            rw [hv2] at hlook
            clear hp HP hv2
            go_wp2_with fail
            go_still_tail 19, (by kernel_rfl)
            still_call (when_on _ _ _ (by first | rfl | assumption | simp))
            repeat still_step
            still_call (when_st v2 _ _)
            repeat still_step
            still_call (when_st _ _ _)
            repeat still_step
            refine wpStill_nil ?_
            change wpList _ _ _ _ _ W1.drew
            generalize hW2 : W1.drew = W2
            have hset2 : IntSet W2 M ((l.take k).map NetAt.sh) := by rw [← hW2]; exact hset1
            have eb2 : Below w.heap.size w W2 := by rw [← hW2]; exact eb1.drew
            have c2 : Blk W2 G 26 #[.int .i64 x.sh, .slice x.loc x.cols.length x.cap] := by rw [← hW2]; exact d1.drew
            have hsz2 := eb2.size
            clear hW2 hset1 eb1 hlook d1 m1 m2
            go_wp2_with (go_at_call 38; refine (first_hit1 3 _ _ W2 _ (by decide)).mono ?_; rintro e w1 ⟨rfl, rfl⟩)
            all_goals (go_ret; exact ⟨ret_i64 HN.out, eb2.alloc hsz2 _⟩)
          · by_cases hxn : 100 ≤ x.sh
            · have hb1 : (decide (x.sh < 0) || decide (100 ≤ x.sh)) = true := by simp [hxn]
              rw [Bus.nets_bad (x := x.net) (Or.inr hxn)] at hp
              have HN := Lib.hid hp
              obtain ⟨v2, hv2⟩ : ∃ v2, decide (x.sh ∈ (l.take k).map NetAt.sh) = v2 := ⟨_, rfl⟩
              rw [hv2] at hlook
              clear hp HP hv2
              go_wp2_with fail
              go_still_tail 19, (by kernel_rfl)
              still_call (when_on _ _ _ (by first | rfl | assumption | simp))
              repeat still_step
              still_call (when_st v2 _ _)
              repeat still_step
              still_call (when_st _ _ _)
              repeat still_step
              refine wpStill_nil ?_
              change wpList _ _ _ _ _ W1.drew
              generalize hW2 : W1.drew = W2
              have hset2 : IntSet W2 M ((l.take k).map NetAt.sh) := by rw [← hW2]; exact hset1
              have eb2 : Below w.heap.size w W2 := by rw [← hW2]; exact eb1.drew
              have c2 : Blk W2 G 26 #[.int .i64 x.sh, .slice x.loc x.cols.length x.cap] := by rw [← hW2]; exact d1.drew
              have hsz2 := eb2.size
              clear hW2 hset1 eb1 hlook d1 m1 m2
              go_wp2_with (go_at_call 38; refine (first_hit1 3 _ _ W2 _ (by decide)).mono ?_; rintro e w1 ⟨rfl, rfl⟩)
              all_goals (go_ret; exact ⟨ret_i64 HN.out, eb2.alloc hsz2 _⟩)
            · have hb1 : (decide (x.sh < 0) || decide (100 ≤ x.sh)) = false := by simp; omega
              have hno : ¬ (x.net.1 < 0 ∨ 100 ≤ x.net.1) := by show ¬ (x.sh < 0 ∨ 100 ≤ x.sh); omega
              by_cases h2 : x.sh ∈ (l.take k).map NetAt.sh
              · have hd2 : decide (x.sh ∈ (l.take k).map NetAt.sh) = true := decide_eq_true h2
                rw [hd2] at hlook
                rw [Bus.nets_twice hno h2] at hp
                have HN := Lib.hid hp
                clear hp HP hd2
                go_wp2_with fail
                go_still_tail 19, (by kernel_rfl)
                still_call (when_off _ _ _ (by first | rfl | assumption | simp))
                repeat still_step
                still_call (when_on _ _ _ rfl)
                repeat still_step
                still_call (when_st _ _ _)
                repeat still_step
                refine wpStill_nil ?_
                change wpList _ _ _ _ _ W1.drew
                generalize hW2 : W1.drew = W2
                have hset2 : IntSet W2 M ((l.take k).map NetAt.sh) := by rw [← hW2]; exact hset1
                have eb2 : Below w.heap.size w W2 := by rw [← hW2]; exact eb1.drew
                have c2 : Blk W2 G 26 #[.int .i64 x.sh, .slice x.loc x.cols.length x.cap] := by rw [← hW2]; exact d1.drew
                have hsz2 := eb2.size
                clear hW2 hset1 eb1 hlook d1 m1 m2
                go_wp2_with (go_at_call 38; refine (first_hit2 9 _ W2 _ (by decide)).mono ?_; rintro e w1 ⟨rfl, rfl⟩)
                all_goals (go_ret; exact ⟨ret_i64 HN.out, eb2.alloc hsz2 _⟩)
              · have hd2 : decide (x.sh ∈ (l.take k).map NetAt.sh) = false := decide_eq_false h2
                rw [hd2] at hlook
                clear hd2
                by_cases h4 : x.cols = []
                · have hcl : x.cols.length = 0 := by rw [h4]; rfl
                  have hcb : decide ((x.cols.length : Int) = 0) = true := by simp [h4]
                  rw [Bus.nets_empty hno h2 h4] at hp
                  have HN := Lib.hid hp
                  clear hp HP h4
                  go_wp2_with fail
                  go_still_tail 19, (by kernel_rfl)
                  still_call (when_off _ _ _ (by first | rfl | assumption | simp))
                  repeat still_step
                  still_call (when_off _ _ _ rfl)
                  repeat still_step
                  still_call (when_on _ _ _ (by first | rfl | assumption | (simp; omega) | (simp [hcl]; done)))
                  repeat still_step
                  refine wpStill_nil ?_
                  change wpList _ _ _ _ _ W1.drew
                  generalize hW2 : W1.drew = W2
                  have hset2 : IntSet W2 M ((l.take k).map NetAt.sh) := by rw [← hW2]; exact hset1
                  have eb2 : Below w.heap.size w W2 := by rw [← hW2]; exact eb1.drew
                  have c2 : Blk W2 G 26 #[.int .i64 x.sh, .slice x.loc x.cols.length x.cap] := by rw [← hW2]; exact d1.drew
                  have hsz2 := eb2.size
                  clear hW2 hset1 eb1 hlook d1 m1 m2
                  go_wp2_with (go_at_call 38; refine (first_hit3 12 W2 _ (by decide)).mono ?_; rintro e w1 ⟨rfl, rfl⟩)
                  all_goals (go_ret; exact ⟨ret_i64 HN.out, eb2.alloc hsz2 _⟩)
                · have hcl : x.cols.length ≠ 0 := fun h => h4 (List.eq_nil_of_length_eq_zero h)
                  rw [Bus.nets_cols hno h2 h4] at hp
                  have HN := Lib.hid hp
                  have H2 := Lib.hid h2
                  clear hp HP h2 h4
                  go_wp2_with fail
                  go_still_tail 19, (by kernel_rfl)
                  still_call (when_off _ _ _ (by first | rfl | assumption | simp))
                  repeat still_step
                  still_call (when_off _ _ _ rfl)
                  repeat still_step
                  still_call (when_off _ _ _ (by first | rfl | assumption | (simp; omega) | (simp [hcl]; done)))
                  repeat still_step
                  refine wpStill_nil ?_
                  change wpList _ _ _ _ _ W1.drew
                  generalize hW2 : W1.drew = W2
                  have hset2 : IntSet W2 M ((l.take k).map NetAt.sh) := by rw [← hW2]; exact hset1
                  have eb2 : Below w.heap.size w W2 := by rw [← hW2]; exact eb1.drew
                  have c2 : Blk W2 G 26 #[.int .i64 x.sh, .slice x.loc x.cols.length x.cap] := by rw [← hW2]; exact d1.drew
                  have hsz2 := eb2.size
                  clear hW2 hset1 eb1 hlook d1 m1 m2
                  have q1 : W2.cell? ⟨G, 0, none⟩ = some (.int .i64 x.sh) := c2.cell 0
                  have q2 : W2.cell? ⟨G, 1, none⟩ = some (.slice x.loc x.cols.length x.cap) := c2.cell 1
                  have hGs := c2.lt
                  have HF := Lib.hid (first_three 0 0 0 W2 30)
                  rw [show firstOf [0, 0, 0] = 0 from rfl] at HF
                  go_wp2_with (first
                    | (go_at_call 38; refine HF.out.mono ?_; rintro e w1 ⟨rfl, rfl⟩)
                    | (at_mapUpdate; refine wpList_put_set rfl _ _ _ rfl M ((l.take k).map NetAt.sh) rfl (hset2.kept (World.grownBy_alloc _ _ none) (by simp)) x.sh rfl hix rfl hlen H2.out ?_; intro w3 hset3 hgrow3; have c3 : Blk w3 G 26 #[.int .i64 x.sh, .slice x.loc x.cols.length x.cap] := (hgrow3.block G (by have := c2.lt; simp; omega) (fun e => by injection e; omega)).trans (c2.alloc _); have p1 : w3.cell? ⟨G, 0, none⟩ = some (.int .i64 x.sh) := c3.cell 0; have p2 : w3.cell? ⟨G, 1, none⟩ = some (.slice x.loc x.cols.length x.cap) := c3.cell 1))
                  have eb3 : Below w.heap.size w w3 := (eb2.alloc hsz2 _).grown hgrow3 (by simp; omega) (fun j hj => by cases hj; omega)
                  have hsz3 := eb3.size
                  have hrow3 := Lib.hid (HROW.out.below eb3 hB)
                  obtain ⟨E, hE⟩ : ∃ E, Bus.colErr n (-1) x.cols = E := ⟨_, rfl⟩
                  have HE := Lib.hid hE
                  have hn3 := HN.out
                  rw [show x.net.2 = x.cols from rfl, hE] at hn3
                  have HN3 := Lib.hid hn3
                  clear hE hn3 HN H2 hgrow3 eb2 c2 c3 hset2 q1 q2
                  generalize x.cols = cs at *
                  generalize x.loc = loc at *
                  generalize x.cap = cap at *
                  go_wp2_with fail
                  go_loopw [10, 67] (fun la i wz => ∃ j : Nat, j ≤ cs.length ∧ i = .int .i64 j ∧ la = .int .i64 (Bus.lastOf (cs.take j)) ∧ Bus.colErr n (Bus.lastOf (cs.take j)) (cs.drop j) = E ∧ Below w3.heap.size w3 wz) (fun _ i _ => cs.length - (intOf i).toNat)
                  case atStart => exact ⟨0, Nat.zero_le _, rfl, rfl, HE.out, Below.refl _ _⟩
                  case round =>
                    obtain ⟨j, hj, rfl, rfl, hcol, ez⟩ := hrel
                    have hszz := ez.size
                    by_cases hlj : j < cs.length
                    · obtain ⟨b2, off2, y, rfl, hbB2, hy, hcy⟩ := hrow3.out.int j hlj
                      have hcy2 := (ez.cell (p := ⟨b2, off2 + j, none⟩) (by show b2 < _; omega)).trans hcy
                      have hdj : cs.drop j = y :: cs.drop (j + 1) := by
                        rw [List.drop_eq_getElem_cons hlj]
                        rw [List.getElem?_eq_getElem hlj] at hy
                        rw [Option.some.inj hy]
                      have HTJ := Lib.hid (show Bus.lastOf (cs.take (j + 1)) = y by rw [List.take_add_one, hy]; exact Bus.lastOf_snoc _ _)
                      rw [hdj] at hcol
                      generalize Bus.lastOf (cs.take j) = la at *
                      have ebz : Below w.heap.size w wr := below_after eb3 ez (Nat.le_refl _)
                      have hszw := ebz.size
                      clear hy hcy hdj
                      by_cases hyb : y < 0 ∨ n ≤ y
                      · rw [Bus.col_bad hyb] at hcol
                        subst hcol
                        have hr := HN3.out
                        rw [if_pos (by decide)] at hr
                        have HR2 := Lib.hid hr
                        clear hr
                        by_cases hy0 : y < 0
                        · have hyc : (decide (y < 0) || decide (n ≤ y)) = true := by simp [hy0]
                          go_wp2_with (first
                            | (go_at_call 40; refine (when_any _ _ _).mono ?_; rintro e w1 ⟨rfl, rfl⟩)
                            | (go_at_call 38; refine (first_hit21 10 _ wr _ (by decide)).mono ?_; rintro e w1 ⟨rfl, rfl⟩))
                          all_goals (go_ret; exact ⟨ret_i64 HR2.out, ebz.alloc hszw _⟩)
                        · have hyn : n ≤ y := by omega
                          have hyc : (decide (y < 0) || decide (n ≤ y)) = true := by simp [hyn]
                          go_wp2_with (first
                            | (go_at_call 40; refine (when_any _ _ _).mono ?_; rintro e w1 ⟨rfl, rfl⟩)
                            | (go_at_call 38; refine (first_hit21 10 _ wr _ (by decide)).mono ?_; rintro e w1 ⟨rfl, rfl⟩))
                          all_goals (go_ret; exact ⟨ret_i64 HR2.out, ebz.alloc hszw _⟩)
                      · have hy0 : ¬ y < 0 := fun h => hyb (.inl h)
                        have hyn : ¬ n ≤ y := fun h => hyb (.inr h)
                        have hyc : (decide (y < 0) || decide (n ≤ y)) = false := by simp; omega
                        by_cases hyl : y ≤ la
                        · rw [Bus.col_order hyb hyl] at hcol
                          subst hcol
                          have hr := HN3.out
                          rw [if_pos (by decide)] at hr
                          have HR2 := Lib.hid hr
                          have hyd : decide (y ≤ la) = true := decide_eq_true hyl
                          clear hr
                          go_wp2_with (first
                            | (go_at_call 40; refine (when_any _ _ _).mono ?_; rintro e w1 ⟨rfl, rfl⟩)
                            | (go_at_call 38; refine (first_hit22 11 wr _).mono ?_; rintro e w1 ⟨rfl, rfl⟩))
                          all_goals (go_ret; exact ⟨ret_i64 HR2.out, ebz.alloc hszw _⟩)
                        · rw [Bus.col_ok hyb hyl] at hcol
                          have HC := Lib.hid hcol
                          have hyd : decide (y ≤ la) = false := decide_eq_false hyl
                          clear hcol
                          go_wp2_with (first
                            | (go_at_call 40; refine (when_no_of _ _ _ (by first | rfl | assumption)).mono ?_; rintro e w1 ⟨rfl, rfl⟩)
                            | (go_at_call 38; refine (first_hit22 0 wr _).mono ?_; rintro e w1 ⟨rfl, rfl⟩))
                          go_roundw
                          case rel => exact ⟨j + 1, by omega, by go_num, by rw [HTJ.out], by rw [HTJ.out]; exact HC.out, ez.alloc hszz _⟩
                          case measure => simp [intOf]; omega
                    · obtain rfl : j = cs.length := by omega
                      rw [List.drop_length] at hcol
                      have hE0 : E = 0 := hcol.symm
                      subst hE0
                      have hr := HN3.out
                      rw [if_neg (by decide)] at hr
                      have HR2 := Lib.hid hr
                      clear hr hcol
                      go_wp2_with fail
                      go_roundw
                      case rel => exact ⟨k + 1, by omega, by go_num, by rw [HT.out]; exact hset3.below ez, by rw [HT.out]; exact HR2.out, below_after eb3 ez (Nat.le_refl _)⟩
                      case measure => simp [intOf]; omega
        · obtain rfl : k = l.length := by omega
          have HN := Lib.hid (show (0 : Int) = r by rw [← HP.out, List.drop_length]; rfl)
          clear HP
          go_wp2_with fail
          go_ret
          exact ⟨ret_i64 HN.out, eb⟩
end Go.Proofs.YtbldpojkpmafpaaGreatDoor

/- More plain facts on extents. -/
namespace Go.Proofs.YtbldpojkpmafpaaGreatDoor
open Go.RowKit

def xcells (l : List (Int × Int)) : List Value := l.flatMap fun p => [.int .i64 p.1, .int .i64 p.2]
theorem xcells_len (l : List (Int × Int)) : (xcells l).length = l.length * 2 := by
  induction l with
  | nil => rfl
  | cons p r ih => simp [xcells] at ih ⊢; omega
def lowOf (F : Nat → Int) (cols : List Int) : Int := cols.foldl (fun l c => min l (F c.toNat)) 97
def highOf (F : Nat → Int) (cols : List Int) : Int := cols.foldl (fun h c => max h (F c.toNat)) (-1)
theorem lowOf_snoc (F : Nat → Int) (cols : List Int) (c : Int) : lowOf F (cols ++ [c]) = min (lowOf F cols) (F c.toNat) := by simp [lowOf]
theorem highOf_snoc (F : Nat → Int) (cols : List Int) (c : Int) : highOf F (cols ++ [c]) = max (highOf F cols) (F c.toNat) := by simp [highOf]
theorem exts_snoc (F : Nat → Int) (l : List NetAt) (k : Nat) (x : NetAt) (h : l[k]? = some x) :
    xcells (Bus.exts F ((l.take (k + 1)).map NetAt.net)) = xcells (Bus.exts F ((l.take k).map NetAt.net)) ++ [.int .i64 (lowOf F x.cols), .int .i64 (highOf F x.cols)] := by
  rw [List.take_add_one, h]
  simp [Bus.exts, xcells, Bus.ext, NetAt.net, lowOf, highOf]
theorem own_below {w w' : World} {base size n : Nat} {e : TypeId} {v : Value} {vs : List Value} (h : w.ownsRow base e size v n vs) (hb : Below w.heap.size w w') : w'.ownsRow base e size v n vs := by
  refine ⟨h.1, ?_⟩
  rcases h.2 with h2 | ⟨g, cap, cur, h1, h2, h3, h4⟩
  · exact .inl h2
  · exact .inr ⟨g, cap, cur, h1, h2, (hb.block g (Array.getElem?_eq_some_iff.1 h3).1).trans h3, h4⟩
theorem own_cap {w : World} {base size n : Nat} {e : TypeId} {v : Value} {vs : List Value} (h : w.ownsRow base e size v n vs) : ∃ A c, v = .slice A n c ∧ n ≤ c ∧ Row w w.heap.size A vs := by
  obtain ⟨A, c, rfl, _, hr⟩ := Row.of_own h
  refine ⟨A, c, rfl, ?_, hr⟩
  rcases h.2 with ⟨h1, h2⟩ | ⟨g, cap, cur, h1, _, _, h4, _⟩
  · omega
  · injection h1 with _ _ h1; omega
theorem own_set {w : World} {base size n g i : Nat} {e : TypeId} {v u : Value} {vs : List Value} (h : w.ownsRow base e size v n vs) (hg : g < base) : (w.setCell ⟨g, i, none⟩ u).ownsRow base e size v n vs := by
  refine ⟨h.1, ?_⟩
  rcases h.2 with h2 | ⟨b, cap, cur, h1, h2, h3, h4⟩
  · exact .inl h2
  · exact .inr ⟨b, cap, cur, h1, h2, (Below.heap_setCell w ⟨g, i, none⟩ u b (by show b ≠ g; omega)).trans h3, h4⟩
end Go.Proofs.YtbldpojkpmafpaaGreatDoor

/- Package bus: nets that stand in an order of columns: where each column stands, and the extents of the nets. -/
namespace Go.Proofs.YtbldpojkpmafpaaGreatDoor
open Go.RowKit

theorem checked_any (A A2 : Option Addr) (c c2 B : Nat) (l : List NetAt) (order : List Int) (n : Int) (w : World) (h : NetsIn w B A l) (h2 : Row w B A2 (order.map (Value.int .i64))) (hi : ∀ c ∈ order, I64 c) (hB : B ≤ w.heap.size) (hl : l.length ≤ 140737488355328) (hl2 : order.length ≤ 1000000) :
    Calls Tryz.prog 59 #[.slice A l.length c, .int .i64 n, .slice A2 order.length c2] w fun e w' => e = .returned (.int .i64 (Bus.bothErr (l.map NetAt.net) n order)) ∧ Below w.heap.size w w' := by
  have HN := Lib.hid (CheckNets_any A c B l n w h hB hl)
  have HO := Lib.hid (fun w' (hb : Below w.heap.size w w') => checkOrder_any A2 c2 B order n w' hl2 (h2.below hb hB) hi (by have := hb.size; omega))
  obtain ⟨e1, he1⟩ : ∃ e, Bus.netsErr (l.map NetAt.net) n = e := ⟨_, rfl⟩
  obtain ⟨e2, he2⟩ : ∃ e, Bus.orderErr order n = e := ⟨_, rfl⟩
  have e : Bus.bothErr (l.map NetAt.net) n order = if e1 ≠ 0 then e1 else e2 := by unfold Bus.bothErr; rw [he1, he2]
  rw [he1] at HN
  rw [he2] at HO
  rw [e]
  clear e he1 he2 h h2 hi
  by_cases h0 : e1 = 0
  · subst h0
    rw [if_neg (by decide)]
    go_enter Tryz.func59, Tryz.ntmps59
    go_wp2_with fail
    refine HN.out.mono ?_
    rintro e w1 ⟨rfl, hb1⟩
    go_wp2_with fail
    refine (HO.out _ hb1).mono ?_
    rintro e w2 ⟨rfl, hb2⟩
    go_wp2_with fail
    go_ret
    exact ⟨rfl, below_after hb1 hb2 (Nat.le_refl _)⟩
  · rw [if_pos h0]
    have hne : (e1 != 0) = true := by rw [bne_iff_ne]; exact h0
    go_enter Tryz.func59, Tryz.ntmps59
    go_wp2_with fail
    refine HN.out.mono ?_
    rintro e w1 ⟨rfl, hb1⟩
    go_wp2_with fail
    go_ret
    exact ⟨rfl, hb1⟩

structure RowAt (w : World) (g : Nat) (v : Value) (f : Nat → Int) (e : Value) : Prop where
  nets : w.cell? ⟨g, 0, none⟩ = some v
  pos : ∀ i, i < 97 → w.cell? ⟨g, 1 + i, none⟩ = some (.int .i64 (f i))
  ext : w.cell? ⟨g, 98, none⟩ = some e
  free : ∀ i, w.frozen? ⟨g, i, none⟩ = false
  blk : ∃ cs k, Blk w g 138 cs ∧ cs.size = k * 99
theorem RowAt.lt {w : World} {g : Nat} {v e : Value} {f : Nat → Int} (h : RowAt w g v f e) : g < w.heap.size := World.block_lt_of_cell? w _ h.nets
theorem RowAt.block {w w' : World} {g : Nat} {v e : Value} {f : Nat → Int} (h : RowAt w g v f e) (hb : w'.heap[g]? = w.heap[g]?) : RowAt w' g v f e :=
  ⟨(World.cell?_of_block hb).trans h.nets, fun i hi => (World.cell?_of_block (a := ⟨g, 1 + i, none⟩) hb).trans (h.pos i hi), (World.cell?_of_block hb).trans h.ext, fun i => (World.frozen?_of_block (a := ⟨g, i, none⟩) hb).trans (h.free i), let ⟨cs, k, h1, h2⟩ := h.blk; ⟨cs, k, hb.trans h1, h2⟩⟩
theorem RowAt.drew {w : World} {g : Nat} {v e : Value} {f : Nat → Int} (h : RowAt w g v f e) : RowAt w.drew g v f e := h.block rfl
theorem RowAt.below {w w' : World} {g : Nat} {v e : Value} {f : Nat → Int} (h : RowAt w g v f e) (hb : Below w.heap.size w w') : RowAt w' g v f e := h.block (hb.block g h.lt)
theorem RowAt.alloc {w : World} {g : Nat} {v e : Value} {f : Nat → Int} (h : RowAt w g v f e) (o : Obj) : RowAt (w.alloc o) g v f e := h.block (Below.heap_alloc w o g h.lt)
theorem RowAt.put {w : World} {g X : Nat} {v e : Value} {f : Nat → Int} {k : Int} (h : RowAt w g v f e) (hX : X < 97) : RowAt (w.setCell ⟨g, 1 + X, none⟩ (.int .i64 k)) g v (fun i => if i = X then k else f i) e := by
  refine ⟨?_, fun i hi => ?_, ?_, fun i => by rw [World.frozen?_setCell]; exact h.free i, let ⟨cs, q, h1, h2⟩ := h.blk; ⟨_, q, h1.set (1 + X) _, by rw [Array.size_setIfInBounds]; exact h2⟩⟩
  · rw [World.cell?_setCell_other _ _ _ _ (fun e => by injection e; omega)]; exact h.nets
  · by_cases hiX : i = X
    · subst hiX
      rw [if_pos rfl]
      exact World.cell?_setCell_same' _ _ _ (by rw [h.pos i hi]; rfl)
    · rw [if_neg hiX, World.cell?_setCell_other _ _ _ _ (fun e => by injection e; omega)]; exact h.pos i hi
  · rw [World.cell?_setCell_other _ _ _ _ (fun e => by injection e; omega)]; exact h.ext
theorem RowAt.setExt {w : World} {g : Nat} {v e e' : Value} {f : Nat → Int} (h : RowAt w g v f e) : RowAt (w.setCell ⟨g, 98, none⟩ e') g v f e' := by
  refine ⟨?_, fun i hi => ?_, ?_, fun i => by rw [World.frozen?_setCell]; exact h.free i, let ⟨cs, q, h1, h2⟩ := h.blk; ⟨_, q, h1.set 98 _, by rw [Array.size_setIfInBounds]; exact h2⟩⟩
  · rw [World.cell?_setCell_other _ _ _ _ (fun e => by injection e; omega)]; exact h.nets
  · rw [World.cell?_setCell_other _ _ _ _ (fun e => by injection e; omega)]; exact h.pos i hi
  · exact World.cell?_setCell_same' _ _ _ (by rw [h.ext]; rfl)

theorem zero_row : Tryz.zeroCells138.toList = Value.slice none 0 0 :: (List.replicate 97 (.int .i64 0) ++ [.slice none 0 0]) := by kernel_rfl
theorem RowAt.new (w : World) (v : Value) : RowAt (w.alloc (.cells (Tryz.zeroCells138.setIfInBounds 0 v) 138)) w.heap.size v (fun _ => 0) (.slice none 0 0) := by
  have hb := Blk.new w 138 (Tryz.zeroCells138.setIfInBounds 0 v)
  have hz : (Tryz.zeroCells138.setIfInBounds 0 v).toList = v :: (List.replicate 97 (.int .i64 0) ++ [.slice none 0 0]) := by
    rw [Array.toList_setIfInBounds, zero_row]; rfl
  have hc : ∀ i, (Tryz.zeroCells138.setIfInBounds 0 v)[i]? = (v :: (List.replicate 97 (.int .i64 0) ++ [.slice none 0 0]))[i]? := fun i => by rw [← hz, Array.getElem?_toList]
  have hsz : (Tryz.zeroCells138.setIfInBounds 0 v).size = 99 := by
    have := congrArg List.length hz
    rw [Array.length_toList] at this
    rw [this]; simp
  refine ⟨?_, fun i hi => ?_, ?_, fun i => hb.frozen i, _, 1, hb, hsz⟩
  · rw [hb.cell 0, hc]; rfl
  · rw [hb.cell (1 + i), hc, Nat.add_comm, List.getElem?_cons_succ, List.getElem?_append_left (by simp; omega), List.getElem?_replicate, if_pos hi]
  · rw [hb.cell 98, hc]; rfl

theorem Tryz.info139 : (Tryz.prog.info? 139).map (fun i => (i.zero, i.size, i.bytes)) = some (some (.agg #[.int .i64 0, .int .i64 0]), 2, 16) := by kernel_rfl

def Stood (w0 : World) (A : Option Addr) (c : Nat) (l : List NetAt) (F : Nat → Int) (e : Ending) (w' : World) : Prop :=
  ∃ (g : Nat) (v : Value), e = .returned (.pointer (some ⟨g, 0, none⟩)) ∧ w0.heap.size ≤ g ∧ RowAt w' g (.slice A l.length c) F v ∧
    w'.ownsRow (g + 1) 139 2 v l.length (xcells (Bus.exts F (l.map NetAt.net))) ∧ Below w0.heap.size w0 w'

set_option maxHeartbeats 4000000 in
set_option maxRecDepth 100000 in
theorem stand_any (A A2 : Option Addr) (c c2 B : Nat) (l : List NetAt) (order : List Int) (n : Int) (w : World) (h : NetsIn w B A l) (h2 : Row w B A2 (order.map (Value.int .i64))) (hB : B ≤ w.heap.size)
    (ho : Bus.orderErr order n = 0) (hnets : Bus.netsErr (l.map NetAt.net) n = 0) :
    Calls Tryz.prog 42 #[.slice A l.length c, .slice A2 order.length c2] w (Stood w A c l (Bus.atUp order order.length)) := by
  obtain ⟨F, hF⟩ : ∃ F, Bus.atUp order order.length = F := ⟨_, rfl⟩
  rw [hF]
  have HF := Lib.hid hF
  clear hF
  obtain ⟨V, hV⟩ : ∃ V, Value.slice A l.length c = V := ⟨_, rfl⟩
  have HV := Lib.hid hV
  have hst : Stood w A c l F = fun e w' => ∃ (g : Nat) (v : Value), e = .returned (.pointer (some ⟨g, 0, none⟩)) ∧ w.heap.size ≤ g ∧ RowAt w' g V F v ∧
    w'.ownsRow (g + 1) 139 2 v l.length (xcells (Bus.exts F (l.map NetAt.net))) ∧ Below w.heap.size w w' := by rw [← hV]; rfl
  rw [hst]
  clear hst hV
  obtain ⟨n1, n97, l64, hcols⟩ := Bus.netsErr_zero hnets
  obtain ⟨on, _, oin⟩ := Bus.orderErr_zero ho
  rw [List.length_map] at l64
  have H := Lib.hid h
  have H2 := Lib.hid h2
  have HO := Lib.hid oin
  have HC := Lib.hid hcols
  clear h h2 oin hcols ho hnets
  have ho97 : order.length ≤ 97 := by omega
  clear on
  go_enter Tryz.func42, Tryz.ntmps42
  go_wp2_with fail
  generalize hZ : Value.agg (Array.setIfInBounds Tryz.zeroCells138 0 _) = Z
  generalize hW0 : World.alloc w _ = W0
  obtain ⟨G, hG⟩ : ∃ G, w.heap.size = G := ⟨_, rfl⟩
  have hr0 : RowAt W0 G V (Bus.atUp order 0) (.slice none 0 0) := by rw [← hW0, ← hG, ← HV.out]; exact RowAt.new w _
  have e0 : Below w.heap.size w W0 := by rw [← hW0]; exact (Below.refl _ w).alloc (Nat.le_refl _) _
  try rw [hG]
  clear hW0 hZ
  go_loopw [19] (fun i wr => ∃ k : Nat, k ≤ order.length ∧ i = .int .i64 k ∧ RowAt wr G V (Bus.atUp order k) (.slice none 0 0) ∧ Below w.heap.size w wr) (fun i _ => order.length - (intOf i).toNat)
  case atStart => exact ⟨0, Nat.zero_le _, rfl, hr0, e0⟩
  case round =>
    obtain ⟨k, hk, rfl, hrow, eb⟩ := hrel
    have hsz := eb.size
    by_cases hlt : k < order.length
    · obtain ⟨b, off, x, rfl, hbB, hx, hc⟩ := H2.out.int k hlt
      have hck := (eb.cell (p := ⟨b, off + k, none⟩) (by show b < _; omega)).trans hc
      obtain ⟨hx0, hx1⟩ := HO.out x (List.mem_of_getElem? hx)
      obtain ⟨X, rfl⟩ : ∃ X : Nat, x = (X : Int) := ⟨x.toNat, by omega⟩
      have hX : X < 97 := by omega
      have hX2 : (X : Int) < 97 := by omega
      have HS := Lib.hid (Bus.atUp_step order k X hx)
      have m0 := hrow.free (1 + X)
      have m1 := hrow.pos X hX
      clear hx hc
      go_wp2_with fail
      go_roundw
      case rel => exact ⟨k + 1, by omega, by go_num, by rw [HS.out]; exact hrow.put hX, eb.setCell (by show w.heap.size ≤ G; omega) _⟩
      case measure => simp [intOf]; omega
    · obtain rfl : k = order.length := by omega
      rw [HF.out] at hrow
      clear hlt hk hr0 e0 HO H2
      go_wp2_with fail
      go_loopw [33] (fun i wr => ∃ (k : Nat) (ev : Value), k ≤ l.length ∧ i = .int .i64 k ∧ RowAt wr G V F ev ∧ wr.ownsRow (G + 1) 139 2 ev k (xcells (Bus.exts F ((l.take k).map NetAt.net))) ∧ Below w.heap.size w wr) (fun i _ => l.length - (intOf i).toNat)
      case atStart => exact ⟨0, .slice none 0 0, Nat.zero_le _, rfl, hrow, World.ownsRow_nil _ _ _ _, eb⟩
      case round =>
        obtain ⟨k, ev, hk, rfl, hrow, hown, eb⟩ := hrel
        have hsz := eb.size
        by_cases hlt : k < l.length
        · obtain ⟨b, off, x, rfl, hbB, hx, hc1, hc2, hrw, hfew, hix, hics⟩ := H.out.net k hlt
          have hk1 := (eb.cell (p := ⟨b, off + k * 2, none⟩) (by show b < _; omega)).trans hc1
          have hk2 := (eb.cell (p := ⟨b, off + k * 2 + 1, none⟩) (by show b < _; omega)).trans hc2
          have HX := Lib.hid (exts_snoc F l k x hx)
          have hin := HC.out x.net (List.mem_map_of_mem (List.mem_of_getElem? hx))
          have HIN := Lib.hid (show ∀ c ∈ x.cols, 0 ≤ c ∧ c < n from hin.2)
          have HRW := Lib.hid hrw
          clear hin hx hc1 hc2 hrw
          go_wp2_with fail
          generalize hW1 : World.alloc wr _ = W1
          have hrow1 : RowAt W1 G V F ev := by rw [← hW1]; exact hrow.alloc _
          have hown1 : W1.ownsRow (G + 1) 139 2 ev k (xcells (Bus.exts F ((l.take k).map NetAt.net))) := by rw [← hW1]; exact hown.alloc _
          have eb1 : Below w.heap.size w W1 := by rw [← hW1]; exact eb.alloc hsz _
          have hsz1 := eb1.size
          have hrw1 := Lib.hid (HRW.out.below eb1 hB)
          clear hW1 hrow hown eb hk1 hk2
          generalize x.cols = cs at *
          generalize x.loc = loc at *
          generalize x.cap = cap at *
          go_loopw [10, 11, 40] (fun lo hi i wz => ∃ j : Nat, j ≤ cs.length ∧ i = .int .i64 j ∧ lo = .int .i64 (lowOf F (cs.take j)) ∧ hi = .int .i64 (highOf F (cs.take j)) ∧ Below W1.heap.size W1 wz) (fun _ _ i _ => cs.length - (intOf i).toNat)
          case atStart => exact ⟨0, Nat.zero_le _, rfl, rfl, rfl, Below.refl _ _⟩
          case round =>
            obtain ⟨j, hj, rfl, rfl, rfl, ez⟩ := hrel
            have hszz := ez.size
            have hrowz := hrow1.below ez
            by_cases hlj : j < cs.length
            · obtain ⟨b2, off2, y, rfl, hbB2, hy, hcy⟩ := hrw1.out.int j hlj
              have hcy2 := (ez.cell (p := ⟨b2, off2 + j, none⟩) (by show b2 < _; omega)).trans hcy
              obtain ⟨hy0, hy1⟩ := HIN.out y (List.mem_of_getElem? hy)
              obtain ⟨Y, rfl⟩ : ∃ Y : Nat, y = (Y : Int) := ⟨y.toNat, by omega⟩
              have hY : Y < 97 := by omega
              have hY2 : (Y : Int) < 97 := by omega
              have m1 := hrowz.pos Y hY
              have HTJ := Lib.hid (show lowOf F (cs.take (j + 1)) = min (lowOf F (cs.take j)) (F Y) ∧ highOf F (cs.take (j + 1)) = max (highOf F (cs.take j)) (F Y) by
                rw [List.take_add_one, hy]; exact ⟨lowOf_snoc _ _ _, highOf_snoc _ _ _⟩)
              generalize lowOf F (cs.take j) = lo at *
              generalize highOf F (cs.take j) = hi at *
              generalize F Y = fy at *
              clear hy hcy
              go_wp2_with fail
              go_quiet (fail)
              go_wp2_with fail
              go_roundw
              case rel => exact ⟨j + 1, by omega, by go_num, by rw [HTJ.out.1]; congr 1; split <;> omega, by rw [HTJ.out.2]; congr 1; split <;> omega, (by repeat (first | with_reducible exact Below.refl _ _ | with_reducible assumption | with_reducible refine Below.setCell ?_ (by first | omega | (simp; done) | (simp; omega)) _ | with_reducible refine below_drewN ?_ _ | with_reducible refine Below.drew ?_ | with_reducible refine Below.alloc ?_ (by first | omega | (simp; done) | (simp; omega)) _ | with_reducible refine below_after ?_ (by assumption) (by first | omega | (simp; done) | (simp; omega))))⟩
              case measure => simp [intOf]; omega
            · obtain rfl : j = cs.length := by omega
              rw [List.take_length]
              have hownz := own_below hown1 ez
              have ebz := below_after eb1 ez (Nat.le_refl _)
              have hszw := ebz.size
              have x98 := hrowz.ext
              generalize lowOf F cs = lo at *
              generalize highOf F cs = hi at *
              obtain ⟨iA, hiA, az0, az1, az2⟩ := info_parts Tryz.info139
              clear hown1 eb1 hrow1 hrw1
              go_wp2_with (at_builtin; refine wpList_append_own_at _ rfl (.tmp 65) (.tmp 69) 136 rfl (G + 1) 139 iA (.agg #[.int .i64 0, .int .i64 0]) 2 16 Tryz.underlying136 hiA az0 az1 az2 rfl (by decide) _ _ _ rfl (hownz.alloc _) ⟨_, 0, none⟩ 1 1 [.int .i64 lo, .int .i64 hi] rfl rfl (cell_two_new _ _ _ _) ?hone ?c3 ?c4 ?c5 ?_)
              case hone => intro u hu; simp at hu; rcases hu with rfl | rfl <;> rfl
              case c3 => unfold maxLen; omega
              case c4 => omega
              case c5 => simp; have := hrowz.lt; omega
              intro v' w3 hown3 hgrow3 _ hat
              have hrow3 : RowAt w3 G V F ev := (hrowz.alloc _).block (hgrow3.block G (by have := hrowz.lt; simp; omega) (fun e => by have := (hownz.lt G e.symm).1; omega))
              have hGw : w.heap.size ≤ G := by omega
              have eb3 : Below w.heap.size w w3 := (ebz.alloc hszw _).grown hgrow3 (by simp; omega) (fun j hj => by have := (hownz.lt j hj).1; omega)
              have f98 := hrow3.free 98
              have y98 := hrow3.ext
              clear hgrow3 hownz hrowz ebz ez hat
              obtain ⟨Av, cv, rfl, _, _⟩ := own_cap hown3
              go_wp2_with fail
              go_roundw
              case rel => exact ⟨k + 1, _, by omega, by go_num, hrow3.setExt, by rw [HX.out, List.map_take]; exact own_set hown3 (by omega), eb3.setCell (by show w.heap.size ≤ G; omega) _⟩
              case measure => simp [intOf]; omega
        · obtain rfl : k = l.length := by omega
          rw [List.take_length] at hown
          have hGw : w.heap.size ≤ G := by omega
          go_wp2_with fail
          go_ret
          exact ⟨G, ev, rfl, hGw, hrow, hown, eb⟩
end Go.Proofs.YtbldpojkpmafpaaGreatDoor
