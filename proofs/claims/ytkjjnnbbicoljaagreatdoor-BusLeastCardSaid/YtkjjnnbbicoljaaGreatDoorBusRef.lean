/- The reference of chapter 7: membership, positions, the checks of an order and of nets, extents, the length. -/
import Derived.Test.YtkjjnnbbicoljaaGreatDoorBusExt
namespace Go.Proofs.YtkjjnnbbicoljaaGreatDoor
open Go.RowKit

theorem Row.take {w : World} {B n : Nat} {A : Option Addr} {vs : List Value} (h : Row w B A vs) : Row w B A (vs.take n) := by
  rcases h with rfl | ⟨b, off, rfl, hb, hc⟩
  · exact .inl (by simp)
  · refine .inr ⟨b, off, rfl, hb, fun i hi => ?_⟩
    rw [List.length_take] at hi
    rw [hc i (by omega), List.getD_eq_getElem?_getD, List.getD_eq_getElem?_getD, List.getElem?_take_of_lt (by omega)]

set_option maxRecDepth 100000 in
theorem In_any (A : Option Addr) (c B : Nat) (xs : List Int) (x : Int) (w : World) (hl : xs.length ≤ 1000000) (h : Row w B A (xs.map (Value.int .i64))) :
    Calls Tryz.prog 52 #[.slice A xs.length c, .int .i64 x] w fun e w' => e = .returned (.bool (decide (x ∈ xs))) ∧ w = w' := by
  have H := Lib.hid h
  clear h
  obtain ⟨r, hr⟩ : ∃ r, decide (x ∈ xs) = r := ⟨_, rfl⟩
  rw [hr]
  have HR := Lib.hid hr
  clear hr
  go_enter Tryz.func52, Tryz.ntmps52
  go_wp2_with fail
  go_loop [5] (fun i => ∃ k : Nat, k ≤ xs.length ∧ i = .int .i64 k ∧ x ∉ xs.take k) (fun i => xs.length - (intOf i).toNat)
  case atStart => exact ⟨0, Nat.zero_le _, rfl, by simp⟩
  case round =>
    obtain ⟨k, hk, rfl, hpre⟩ := hrel
    have HP := Lib.hid hpre
    clear hpre
    by_cases hlt : k < xs.length
    · obtain ⟨b, off, y, rfl, hbB, hy, hc⟩ := H.out.int k hlt
      have HY := Lib.hid hy
      clear hy
      by_cases hxy : y = x
      · subst hxy
        have HF := Lib.hid (show true = r by rw [← HR.out]; symm; exact decide_eq_true (List.mem_of_getElem? HY.out))
        go_wp2_with fail
        go_ret
        exact ⟨by rw [← HF.out]; rfl, rfl⟩
      · have hne : (y == x) = false := by rw [beq_eq_false_iff_ne]; exact hxy
        go_wp2_with fail
        go_round
        case rel => exact ⟨k + 1, by omega, by go_num, by
          rw [List.take_add_one, HY.out]
          intro hm
          rcases List.mem_append.1 hm with h | h
          · exact HP.out h
          · simp at h; exact hxy h.symm⟩
        case measure => simp [intOf]; omega
    · obtain rfl : k = xs.length := by omega
      have HF := Lib.hid (show false = r by
        rw [← HR.out]; symm; apply decide_eq_false
        have := HP.out
        rwa [List.take_length] at this)
      go_wp2_with fail
      go_ret
      exact ⟨by rw [← HF.out]; rfl, rfl⟩

set_option maxRecDepth 100000 in
theorem position_any (A : Option Addr) (c B : Nat) (xs : List Int) (x : Int) (w : World) (hl : xs.length ≤ 1000000) (h : Row w B A (xs.map (Value.int .i64))) :
    Calls Tryz.prog 77 #[.slice A xs.length c, .int .i64 x] w fun e w' => e = .returned (.int .i64 (Bus.pos xs x)) ∧ w = w' := by
  have H := Lib.hid h
  clear h
  obtain ⟨r, hr⟩ : ∃ r, Bus.pos xs x = r := ⟨_, rfl⟩
  rw [hr]
  have HR := Lib.hid hr
  clear hr
  go_enter Tryz.func77, Tryz.ntmps77
  go_wp2_with fail
  go_loop [5] (fun i => ∃ k : Nat, k ≤ xs.length ∧ i = .int .i64 k ∧ Bus.posFrom k (xs.drop k) x = r) (fun i => xs.length - (intOf i).toNat)
  case atStart => exact ⟨0, Nat.zero_le _, rfl, HR.out⟩
  case round =>
    obtain ⟨k, hk, rfl, hpre⟩ := hrel
    have HP := Lib.hid hpre
    clear hpre
    by_cases hlt : k < xs.length
    · obtain ⟨b, off, y, rfl, hbB, hy, hc⟩ := H.out.int k hlt
      have hd : xs.drop k = y :: xs.drop (k + 1) := by
        rw [List.drop_eq_getElem_cons hlt]
        rw [List.getElem?_eq_getElem hlt] at hy
        rw [Option.some.inj hy]
      have hp := HP.out
      rw [hd] at hp
      unfold Bus.posFrom at hp
      clear hy hd
      by_cases hxy : y = x
      · rw [if_pos hxy] at hp
        have hne : (y == x) = true := by rw [beq_iff_eq]; exact hxy
        have HF := Lib.hid hp
        clear hp HP
        go_wp2_with fail
        go_ret
        exact ⟨ret_i64 HF.out, rfl⟩
      · rw [if_neg hxy] at hp
        have hne : (y == x) = false := by rw [beq_eq_false_iff_ne]; exact hxy
        have HF := Lib.hid (show Bus.posFrom ((k + 1 : Nat) : Int) (xs.drop (k + 1)) x = r from hp)
        clear hp HP
        go_wp2_with fail
        go_round
        case rel => exact ⟨k + 1, by omega, by go_num, HF.out⟩
        case measure => simp [intOf]; omega
    · obtain rfl : k = xs.length := by omega
      have HF := Lib.hid (show (-1 : Int) = r by rw [← HP.out, List.drop_length]; rfl)
      go_wp2_with fail
      go_ret
      exact ⟨ret_i64 HF.out, rfl⟩

set_option maxHeartbeats 2000000 in
set_option maxRecDepth 100000 in
theorem refOrder_any (A : Option Addr) (c B : Nat) (order : List Int) (n : Int) (w : World) (hl : order.length ≤ 1000000) (hc : order.length ≤ c) (h : Row w B A (order.map (Value.int .i64))) (hB : B ≤ w.heap.size) :
    Calls Tryz.prog 16 #[.int .i64 n, .slice A order.length c] w fun e w' => e = .returned (.int .i64 (Bus.orderErr order n)) ∧ Below w.heap.size w w' := by
  have H := Lib.hid h
  clear h
  by_cases hn : (order.length : Int) = n
  · have hne : ((order.length : Int) != n) = false := by simp [hn]
    obtain ⟨r, hr⟩ : ∃ r, Bus.orderFrom n [] order = r := ⟨_, rfl⟩
    have e : Bus.orderErr order n = r := by unfold Bus.orderErr; rw [if_neg (by omega), hr]
    rw [e]
    have HR := Lib.hid hr
    clear e hr hn
    go_enter Tryz.func16, Tryz.ntmps16
    go_wp2_with fail
    go_loopw [5] (fun i wr => ∃ k : Nat, k ≤ order.length ∧ i = .int .i64 k ∧ Bus.orderFrom n (order.take k) (order.drop k) = r ∧ Below w.heap.size w wr) (fun i _ => order.length - (intOf i).toNat)
    case atStart => exact ⟨0, Nat.zero_le _, rfl, HR.out, Below.refl _ _⟩
    case round =>
      obtain ⟨k, hk, rfl, hpre, eb⟩ := hrel
      have hsz := eb.size
      have HP := Lib.hid hpre
      clear hpre
      by_cases hlt : k < order.length
      · have hrowk := H.out.take (n := k)
        rw [← List.map_take] at hrowk
        obtain ⟨b, off, x, rfl, hbB, hx, hc1⟩ := H.out.int k hlt
        have hck := (eb.cell (p := ⟨b, off + k, none⟩) (by show b < _; omega)).trans hc1
        have hd : order.drop k = x :: order.drop (k + 1) := by
          rw [List.drop_eq_getElem_cons hlt]
          rw [List.getElem?_eq_getElem hlt] at hx
          rw [Option.some.inj hx]
        have HT := Lib.hid (show order.take (k + 1) = order.take k ++ [x] by rw [List.take_add_one, hx]; rfl)
        have hp := HP.out
        rw [hd] at hp
        unfold Bus.orderFrom at hp
        have hin : ∀ m, Calls Tryz.prog 52 #[.slice (some ⟨b, off, none⟩) k c, .int .i64 x] (wr.drewN m) fun e w' => e = .returned (.bool (decide (x ∈ order.take k))) ∧ w' = wr.drewN m := fun m => by
          have h := In_any (some ⟨b, off, none⟩) c B (order.take k) x (wr.drewN m) (by rw [List.length_take]; omega) ((hrowk.below eb hB).drewN m)
          rw [List.length_take, Nat.min_eq_left hk] at h
          exact h.mono fun _ _ h => ⟨h.1, h.2.symm⟩
        clear hx hd hc1 hrowk
        by_cases hx0 : x < 0
        · rw [if_pos (Or.inl hx0)] at hp
          have HN := Lib.hid hp
          clear hp HP hin
          go_wp2_with fail
          all_goals (go_ret; exact ⟨ret_i64 HN.out, (by repeat (first | with_reducible exact Below.refl _ _ | with_reducible assumption | with_reducible refine Below.setCell ?_ (by first | omega | (simp; done) | (simp; omega)) _ | with_reducible refine below_drewN ?_ _ | with_reducible refine Below.drew ?_ | with_reducible refine Below.alloc ?_ (by first | omega | (simp; done) | (simp; omega)) _ | with_reducible refine below_after ?_ (by assumption) (by first | omega | (simp; done) | (simp; omega))))⟩)
        · by_cases hxn : n ≤ x
          · rw [if_pos (Or.inr hxn)] at hp
            have HN := Lib.hid hp
            clear hp HP hin
            go_wp2_with fail
            all_goals (go_ret; exact ⟨ret_i64 HN.out, (by repeat (first | with_reducible exact Below.refl _ _ | with_reducible assumption | with_reducible refine Below.setCell ?_ (by first | omega | (simp; done) | (simp; omega)) _ | with_reducible refine below_drewN ?_ _ | with_reducible refine Below.drew ?_ | with_reducible refine Below.alloc ?_ (by first | omega | (simp; done) | (simp; omega)) _ | with_reducible refine below_after ?_ (by assumption) (by first | omega | (simp; done) | (simp; omega))))⟩)
          · rw [if_neg (by omega)] at hp
            by_cases h2 : x ∈ order.take k
            · have hd2 : decide (x ∈ order.take k) = true := decide_eq_true h2
              rw [if_pos h2] at hp
              rw [hd2] at hin
              have HN := Lib.hid hp
              have HI := Lib.hid hin
              clear hp HP hin hd2 h2
              go_wp2_with fail
              go_quiet (first | (go_at_call 52; refine Calls.quiet_of_same (HI.out _)))
              go_wp2_with fail
              go_ret
              exact ⟨ret_i64 HN.out, (by repeat (first | with_reducible exact Below.refl _ _ | with_reducible assumption | with_reducible refine Below.setCell ?_ (by first | omega | (simp; done) | (simp; omega)) _ | with_reducible refine below_drewN ?_ _ | with_reducible refine Below.drew ?_ | with_reducible refine Below.alloc ?_ (by first | omega | (simp; done) | (simp; omega)) _ | with_reducible refine below_after ?_ (by assumption) (by first | omega | (simp; done) | (simp; omega))))⟩
            · have hd2 : decide (x ∈ order.take k) = false := decide_eq_false h2
              rw [if_neg h2, ← HT.out] at hp
              rw [hd2] at hin
              have HN := Lib.hid hp
              have HI := Lib.hid hin
              clear hp HP hin hd2 h2
              go_wp2_with fail
              go_quiet (first | (go_at_call 52; refine Calls.quiet_of_same (HI.out _)))
              go_wp2_with fail
              go_roundw
              case rel => exact ⟨k + 1, by omega, by go_num, HN.out, (by repeat (first | with_reducible exact Below.refl _ _ | with_reducible assumption | with_reducible refine Below.setCell ?_ (by first | omega | (simp; done) | (simp; omega)) _ | with_reducible refine below_drewN ?_ _ | with_reducible refine Below.drew ?_ | with_reducible refine Below.alloc ?_ (by first | omega | (simp; done) | (simp; omega)) _ | with_reducible refine below_after ?_ (by assumption) (by first | omega | (simp; done) | (simp; omega))))⟩
              case measure => simp [intOf]; omega
      · obtain rfl : k = order.length := by omega
        have HN := Lib.hid (show (0 : Int) = r by rw [← HP.out, List.drop_length]; rfl)
        clear HP
        go_wp2_with fail
        go_ret
        exact ⟨ret_i64 HN.out, eb⟩
  · have hne : ((order.length : Int) != n) = true := by simp [hn]
    have e : Bus.orderErr order n = 2 := by unfold Bus.orderErr; rw [if_pos hn]
    rw [e]
    go_enter Tryz.func16, Tryz.ntmps16
    go_wp2_with fail
    go_ret
    exact ⟨rfl, Below.refl _ _⟩
end Go.Proofs.YtkjjnnbbicoljaaGreatDoor
