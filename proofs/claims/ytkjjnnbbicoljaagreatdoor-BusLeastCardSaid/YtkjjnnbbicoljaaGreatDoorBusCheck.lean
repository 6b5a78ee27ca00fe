/- Package bus: the checks of nets and of an order. -/
import Derived.Test.YtkjjnnbbicoljaaGreatDoorBusMem
namespace Go.Proofs.YtkjjnnbbicoljaaGreatDoor
open Go.RowKit

theorem IntSet.look {w : World} {b : Nat} {l : List Int} (h : IntSet w b l) (k : Int) (hk : I64 k) :
    (Instr.lookup 159 (.map (some b)) (.int .i64 k) false).run Tryz.prog w = .ok (.bool (decide (k ∈ l))) w := by
  obtain ⟨D, h1, _, h3⟩ := h
  obtain ⟨v, ps, hrun, hv⟩ := h1.lookup (Maps.int_keyed Tryz.underlying3) Tryz.underlying159 (zero_bool w) (plainElem_bool Tryz.underlying4 false) (Maps.keyOf_int_mk Tryz.underlying3 hk.wf)
  obtain ⟨x, rfl, hx⟩ := plainElem_bool_inv Tryz.underlying4 hv
  rw [h3 k] at hx
  simp only [Prod.mk.injEq, DataW.lit.injEq, Lit.bool.injEq] at hx
  rw [hrun, hx.1]
theorem IntSet.drew {w : World} {b : Nat} {l : List Int} (h : IntSet w b l) : IntSet w.drew b l := h
theorem wpList_put_set {w : World} {ops : Array Oper} {rest : List Oper} {o : Oper} {a : Act} {Q : Exit → Act → World → Prop}
    (hg : o.guard = none) (m x v : Operand) (hop : o.op = Op.mapUpdate 159 m x v) (b : Nat) (l : List Int)
    (hm : a.eval m = .map (some b)) (hs : IntSet w b l) (k : Int) (hx : a.eval x = .int .i64 k) (hk : I64 k) (hv : a.eval v = .bool true) (hl : l.length ≤ 1000000) (hnew : k ∉ l)
    (hK : ∀ w', IntSet w' b (l ++ [k]) → w.grownBy w' (some b) → wpList Tryz.prog ops Q rest (a.put o.dst undef) w') :
    wpList Tryz.prog ops Q (o :: rest) a w := by
  obtain ⟨D, h1, h2, h3⟩ := hs
  refine wpList_mapUpdate_own w hg m x v 159 hop 3 4 (Maps.int_keyed Tryz.underlying3) Tryz.underlying159 _ b l.length D hm h1 (by unfold maxLen; omega) _ _ (.int .i64 k) hx hv (Maps.keyOf_int_mk Tryz.underlying3 hk.wf) _ [] (plainElem_bool Tryz.underlying4 true) ?_
  intro w' h4 h5
  refine hK w' ⟨_, by rw [List.length_append]; exact h4, h2.put _ _, fun y => ?_⟩ h5
  by_cases hy : y = k
  · subst hy
    rw [Maps.atKey_put_same h2 (by trivial)]
    simp
  · rw [Maps.atKey_put_other (fun e => hy (by injection e)), h3 y]
    simp [hy]

set_option maxHeartbeats 4000000 in
set_option maxRecDepth 100000 in
theorem checkOrder_any (A : Option Addr) (c B : Nat) (order : List Int) (n : Int) (w : World) (hl : order.length ≤ 1000000) (h : Row w B A (order.map (Value.int .i64))) (hi : ∀ c ∈ order, I64 c) (hB : B ≤ w.heap.size) :
    Calls Tryz.prog 100 #[.slice A order.length c, .int .i64 n] w fun e w' => e = .returned (.int .i64 (Bus.orderErr order n)) ∧ Below w.heap.size w w' := by
  have H := Lib.hid h
  have HI := Lib.hid hi
  clear h hi
  by_cases hn : (order.length : Int) = n
  · have hne : ((order.length : Int) != n) = false := by simp [hn]
    obtain ⟨r, hr⟩ : ∃ r, Bus.orderFrom n [] order = r := ⟨_, rfl⟩
    have e : Bus.orderErr order n = r := by unfold Bus.orderErr; rw [if_neg (by omega), hr]
    rw [e]
    have HR := Lib.hid hr
    clear e hr
    have hmm := @run_makeMap Tryz.prog
    go_enter Tryz.func100, Tryz.ntmps100
    go_wp2_with fail
    go_loopw [16] (fun i wr => ∃ k : Nat, k ≤ order.length ∧ i = .int .i64 k ∧ IntSet wr w.heap.size (order.take k) ∧ Bus.orderFrom n (order.take k) (order.drop k) = r ∧ Below w.heap.size w wr) (fun i _ => order.length - (intOf i).toNat)
    case atStart => exact ⟨0, Nat.zero_le _, rfl, IntSet.made w, HR.out, (Below.refl _ w).alloc (Nat.le_refl _) _⟩
    case round =>
      obtain ⟨k, hk, rfl, hset, hpre, eb⟩ := hrel
      have hsz := eb.size
      have HP := Lib.hid hpre
      clear hpre
      by_cases hlt : k < order.length
      · obtain ⟨b, off, x, rfl, hbB, hx, hc⟩ := H.out.int k hlt
        have hck := (eb.cell (p := ⟨b, off + k, none⟩) (by show b < _; omega)).trans hc
        have hix := HI.out x (List.mem_of_getElem? hx)
        have hd : order.drop k = x :: order.drop (k + 1) := by
          rw [List.drop_eq_getElem_cons hlt]
          rw [List.getElem?_eq_getElem hlt] at hx
          rw [Option.some.inj hx]
        have ht : order.take (k + 1) = order.take k ++ [x] := by rw [List.take_add_one, hx]; rfl
        have hp := HP.out
        rw [hd] at hp
        unfold Bus.orderFrom at hp
        have hlook := hset.drew.look x hix
        have hlen : (order.take k).length ≤ 1000000 := by rw [List.length_take]; omega
        clear hx hd hc
        by_cases hx0 : x < 0
        · have hb1 : (decide (x < 0) || decide (n ≤ x)) = true := by simp [hx0]
          obtain ⟨v2, hv2⟩ : ∃ v2, decide (x ∈ order.take k) = v2 := ⟨_, rfl⟩
          rw [hv2] at hlook
          rw [if_pos (.inl hx0)] at hp
          have HN := Lib.hid hp
          clear hp HP hv2
          go_wp2_with fail
          go_still_tail 12, (by kernel_rfl)
          still_call (when_on _ _ _ (by first | rfl | assumption | simp))
          repeat still_step
          still_call (when_st v2 _ _)
          repeat still_step
          refine wpStill_nil ?_
          change wpList _ _ _ _ _ wr.drew
          generalize hW2 : wr.drew = W2
          have hset2 : IntSet W2 w.heap.size (order.take k) := by rw [← hW2]; exact hset
          have eb2 : Below w.heap.size w W2 := by rw [← hW2]; exact eb.drew
          have hsz2 := eb2.size
          clear hW2 hset eb hlook hck
          obtain ⟨E, hE⟩ : ∃ E : Int, (if v2 = true then 9 else 0) = E := ⟨_, rfl⟩
          rw [hE]
          have HF := Lib.hid (first_two 10 E W2 26)
          rw [firstOf_hit 10 _ (by decide)] at HF
          go_wp2_with (go_at_call 60; refine HF.out.mono ?_; rintro e w1 ⟨rfl, rfl⟩)
          go_ret
          exact ⟨ret_i64 HN.out, eb2.alloc hsz2 _⟩
        · by_cases hxn : n ≤ x
          · have hb1 : (decide (x < 0) || decide (n ≤ x)) = true := by simp [hxn]
            obtain ⟨v2, hv2⟩ : ∃ v2, decide (x ∈ order.take k) = v2 := ⟨_, rfl⟩
            rw [hv2] at hlook
            rw [if_pos (.inr hxn)] at hp
            have HN := Lib.hid hp
            clear hp HP hv2
            go_wp2_with fail
            go_still_tail 12, (by kernel_rfl)
            still_call (when_on _ _ _ (by first | rfl | assumption | simp))
            repeat still_step
            still_call (when_st v2 _ _)
            repeat still_step
            refine wpStill_nil ?_
            change wpList _ _ _ _ _ wr.drew
            generalize hW2 : wr.drew = W2
            have hset2 : IntSet W2 w.heap.size (order.take k) := by rw [← hW2]; exact hset
            have eb2 : Below w.heap.size w W2 := by rw [← hW2]; exact eb.drew
            have hsz2 := eb2.size
            clear hW2 hset eb hlook hck
            obtain ⟨E, hE⟩ : ∃ E : Int, (if v2 = true then 9 else 0) = E := ⟨_, rfl⟩
            rw [hE]
            have HF := Lib.hid (first_two 10 E W2 26)
            rw [firstOf_hit 10 _ (by decide)] at HF
            go_wp2_with (go_at_call 60; refine HF.out.mono ?_; rintro e w1 ⟨rfl, rfl⟩)
            go_ret
            exact ⟨ret_i64 HN.out, eb2.alloc hsz2 _⟩
          · have hb1 : (decide (x < 0) || decide (n ≤ x)) = false := by simp; omega
            rw [if_neg (by omega)] at hp
            by_cases h2 : x ∈ order.take k
            · have hd2 : decide (x ∈ order.take k) = true := decide_eq_true h2
              rw [hd2] at hlook
              rw [if_pos h2] at hp
              have HN := Lib.hid hp
              clear hp HP hd2
              go_wp2_with fail
              go_still_tail 12, (by kernel_rfl)
              still_call (when_off _ _ _ (by first | rfl | assumption | simp))
              repeat still_step
              still_call (when_on _ _ _ rfl)
              repeat still_step
              refine wpStill_nil ?_
              change wpList _ _ _ _ _ wr.drew
              generalize hW2 : wr.drew = W2
              have hset2 : IntSet W2 w.heap.size (order.take k) := by rw [← hW2]; exact hset
              have eb2 : Below w.heap.size w W2 := by rw [← hW2]; exact eb.drew
              have hsz2 := eb2.size
              clear hW2 hset eb hlook hck
              have HF := Lib.hid (first_two 0 9 W2 26)
              rw [firstOf_miss, firstOf_hit 9 _ (by decide)] at HF
              go_wp2_with (go_at_call 60; refine HF.out.mono ?_; rintro e w1 ⟨rfl, rfl⟩)
              go_ret
              exact ⟨ret_i64 HN.out, eb2.alloc hsz2 _⟩
            · rw [if_neg h2, ← ht] at hp
              have HN := Lib.hid hp
              have hd2 : decide (x ∈ order.take k) = false := decide_eq_false h2
              rw [hd2] at hlook
              have H2 := Lib.hid h2
              have HT := Lib.hid ht
              clear hp HP h2 hd2 ht
              go_wp2_with fail
              go_still_tail 12, (by kernel_rfl)
              still_call (when_off _ _ _ (by first | rfl | assumption | simp))
              repeat still_step
              still_call (when_off _ _ _ rfl)
              repeat still_step
              refine wpStill_nil ?_
              change wpList _ _ _ _ _ wr.drew
              generalize hW2 : wr.drew = W2
              have hset2 : IntSet W2 w.heap.size (order.take k) := by rw [← hW2]; exact hset
              have eb2 : Below w.heap.size w W2 := by rw [← hW2]; exact eb.drew
              have hsz2 := eb2.size
              clear hW2 hset eb hlook hck
              have HF := Lib.hid (first_two 0 0 W2 26)
              rw [show firstOf [0, 0] = 0 from rfl] at HF
              go_wp2_with (first
                | (go_at_call 60; refine HF.out.mono ?_; rintro e w1 ⟨rfl, rfl⟩)
                | (at_mapUpdate; refine wpList_put_set rfl _ _ _ rfl w.heap.size (order.take k) rfl (hset2.kept (World.grownBy_alloc _ _ none) (by simp)) x rfl hix rfl hlen H2.out ?_; intro w3 hset3 hgrow3))
              have eb3 : Below w.heap.size w w3 := (eb2.alloc hsz2 _).grown hgrow3 (by simp; omega) (fun j hj => by cases hj; exact Nat.le_refl _)
              go_roundw
              case rel => exact ⟨k + 1, by omega, by go_num, by rw [HT.out]; exact hset3, HN.out, eb3⟩
              case measure => simp [intOf]; omega
      · obtain rfl : k = order.length := by omega
        have HN := Lib.hid (show (0 : Int) = r by rw [← HP.out, List.drop_length]; rfl)
        clear HP
        go_wp2_with fail
        go_ret
        exact ⟨ret_i64 HN.out, eb⟩
  · have hne : ((order.length : Int) != n) = true := by simp [hn]
    have e : Bus.orderErr order n = 2 := by unfold Bus.orderErr; rw [if_pos hn]
    rw [e]
    go_enter Tryz.func100, Tryz.ntmps100
    go_wp2_with fail
    go_ret
    exact ⟨rfl, Below.refl _ _⟩
end Go.Proofs.YtkjjnnbbicoljaaGreatDoor
