/- The reference of chapter 7: membership, positions, the checks of an order and of nets, extents, the length. -/
import Derived.Test.YtkjjnnbbicoljaaGreatDoorBusExt
namespace Go.Proofs.YtkjjnnbbicoljaaGreatDoor
open Go.RowKit

theorem Row.take {w : World} {B n : Nat} {A : Option Addr} {vs : List Value} (h : Row w B A vs) : Row w B A (vs.take n) := by
  rcases h with rfl | ⟨b, off, rfl, hb, hc⟩
  · exact .inl (by simp)
  · refine .inr ⟨b, off, rfl, hb, fun i hi => ?_⟩
    rw [List.length_take] at hi
    rw [hc i (by omega), List.getD_eq_getElem?_getD, List.getD_eq_getElem?_getD, List.getElem?_take_of_lt (by omega)]

set_option maxRecDepth 100000 in
theorem In_any (A : Option Addr) (c B : Nat) (xs : List Int) (x : Int) (w : World) (hl : xs.length ≤ 1000000) (h : Row w B A (xs.map (Value.int .i64))) :
    Calls Tryz.prog 52 #[.slice A xs.length c, .int .i64 x] w fun e w' => e = .returned (.bool (decide (x ∈ xs))) ∧ w = w' := by
  have H := Lib.hid h
  clear h
  obtain ⟨r, hr⟩ : ∃ r, decide (x ∈ xs) = r := ⟨_, rfl⟩
  rw [hr]
  have HR := Lib.hid hr
  clear hr
  go_enter Tryz.func52, Tryz.ntmps52
  go_wp2_with fail
  go_loop [5] (fun i => ∃ k : Nat, k ≤ xs.length ∧ i = .int .i64 k ∧ x ∉ xs.take k) (fun i => xs.length - (intOf i).toNat)
  case atStart => exact ⟨0, Nat.zero_le _, rfl, by simp⟩
  case round =>
    obtain ⟨k, hk, rfl, hpre⟩ := hrel
    have HP := Lib.hid hpre
    clear hpre
    by_cases hlt : k < xs.length
    · obtain ⟨b, off, y, rfl, hbB, hy, hc⟩ := H.out.int k hlt
      have HY := Lib.hid hy
      clear hy
      by_cases hxy : y = x
      · subst hxy
        have HF := Lib.hid (show true = r by rw [← HR.out]; symm; exact decide_eq_true (List.mem_of_getElem? HY.out))
        go_wp2_with fail
        go_ret
        exact ⟨by rw [← HF.out]; rfl, rfl⟩
      · have hne : (y == x) = false := by rw [beq_eq_false_iff_ne]; exact hxy
        go_wp2_with fail
        go_round
        case rel => exact ⟨k + 1, by omega, by go_num, by
          rw [List.take_add_one, HY.out]
          intro hm
          rcases List.mem_append.1 hm with h | h
          · exact HP.out h
          · simp at h; exact hxy h.symm⟩
        case measure => simp [intOf]; omega
    · obtain rfl : k = xs.length := by omega
      have HF := Lib.hid (show false = r by
        rw [← HR.out]; symm; apply decide_eq_false
        have := HP.out
        rwa [List.take_length] at this)
      go_wp2_with fail
      go_ret
      exact ⟨by rw [← HF.out]; rfl, rfl⟩

set_option maxRecDepth 100000 in
theorem position_any (A : Option Addr) (c B : Nat) (xs : List Int) (x : Int) (w : World) (hl : xs.length ≤ 1000000) (h : Row w B A (xs.map (Value.int .i64))) :
    Calls Tryz.prog 77 #[.slice A xs.length c, .int .i64 x] w fun e w' => e = .returned (.int .i64 (Bus.pos xs x)) ∧ w = w' := by
  have H := Lib.hid h
  clear h
  obtain ⟨r, hr⟩ : ∃ r, Bus.pos xs x = r := ⟨_, rfl⟩
  rw [hr]
  have HR := Lib.hid hr
  clear hr
  go_enter Tryz.func77, Tryz.ntmps77
  go_wp2_with fail
  go_loop [5] (fun i => ∃ k : Nat, k ≤ xs.length ∧ i = .int .i64 k ∧ Bus.posFrom k (xs.drop k) x = r) (fun i => xs.length - (intOf i).toNat)
  case atStart => exact ⟨0, Nat.zero_le _, rfl, HR.out⟩
  case round =>
    obtain ⟨k, hk, rfl, hpre⟩ := hrel
    have HP := Lib.hid hpre
    clear hpre
    by_cases hlt : k < xs.length
    · obtain ⟨b, off, y, rfl, hbB, hy, hc⟩ := H.out.int k hlt
      have hd : xs.drop k = y :: xs.drop (k + 1) := by
        rw [List.drop_eq_getElem_cons hlt]
        rw [List.getElem?_eq_getElem hlt] at hy
        rw [Option.some.inj hy]
      have hp := HP.out
      rw [hd] at hp
      unfold Bus.posFrom at hp
      clear hy hd
      by_cases hxy : y = x
      · rw [if_pos hxy] at hp
        have hne : (y == x) = true := by rw [beq_iff_eq]; exact hxy
        have HF := Lib.hid hp
        clear hp HP
        go_wp2_with fail
        go_ret
        exact ⟨ret_i64 HF.out, rfl⟩
      · rw [if_neg hxy] at hp
        have hne : (y == x) = false := by rw [beq_eq_false_iff_ne]; exact hxy
        have HF := Lib.hid (show Bus.posFrom ((k + 1 : Nat) : Int) (xs.drop (k + 1)) x = r from hp)
        clear hp HP
        go_wp2_with fail
        go_round
        case rel => exact ⟨k + 1, by omega, by go_num, HF.out⟩
        case measure => simp [intOf]; omega
    · obtain rfl : k = xs.length := by omega
      have HF := Lib.hid (show (-1 : Int) = r by rw [← HP.out, List.drop_length]; rfl)
      go_wp2_with fail
      go_ret
      exact ⟨ret_i64 HF.out, rfl⟩

set_option maxHeartbeats 2000000 in
set_option maxRecDepth 100000 in
theorem refOrder_any (A : Option Addr) (c B : Nat) (order : List Int) (n : Int) (w : World) (hl : order.length ≤ 1000000) (hc : order.length ≤ c) (h : Row w B A (order.map (Value.int .i64))) (hB : B ≤ w.heap.size) :
    Calls Tryz.prog 16 #[.int .i64 n, .slice A order.length c] w fun e w' => e = .returned (.int .i64 (Bus.orderErr order n)) ∧ Below w.heap.size w w' := by
  have H := Lib.hid h
  clear h
  by_cases hn : (order.length : Int) = n
  · have hne : ((order.length : Int) != n) = false := by simp [hn]
    obtain ⟨r, hr⟩ : ∃ r, Bus.orderFrom n [] order = r := ⟨_, rfl⟩
    have e : Bus.orderErr order n = r := by unfold Bus.orderErr; rw [if_neg (by omega), hr]
    rw [e]
    have HR := Lib.hid hr
    clear e hr hn
    go_enter Tryz.func16, Tryz.ntmps16
    go_wp2_with fail
    go_loopw [5] (fun i wr => ∃ k : Nat, k ≤ order.length ∧ i = .int .i64 k ∧ Bus.orderFrom n (order.take k) (order.drop k) = r ∧ Below w.heap.size w wr) (fun i _ => order.length - (intOf i).toNat)
    case atStart => exact ⟨0, Nat.zero_le _, rfl, HR.out, Below.refl _ _⟩
    case round =>
      obtain ⟨k, hk, rfl, hpre, eb⟩ := hrel
      have hsz := eb.size
      have HP := Lib.hid hpre
      clear hpre
      by_cases hlt : k < order.length
      · have hrowk := H.out.take (n := k)
        rw [← List.map_take] at hrowk
        obtain ⟨b, off, x, rfl, hbB, hx, hc1⟩ := H.out.int k hlt
        have hck := (eb.cell (p := ⟨b, off + k, none⟩) (by show b < _; omega)).trans hc1
        have hd : order.drop k = x :: order.drop (k + 1) := by
          rw [List.drop_eq_getElem_cons hlt]
          rw [List.getElem?_eq_getElem hlt] at hx
          rw [Option.some.inj hx]
        have HT := Lib.hid (show order.take (k + 1) = order.take k ++ [x] by rw [List.take_add_one, hx]; rfl)
        have hp := HP.out
        rw [hd] at hp
        unfold Bus.orderFrom at hp
        have hin : ∀ m, Calls Tryz.prog 52 #[.slice (some ⟨b, off, none⟩) k c, .int .i64 x] (wr.drewN m) fun e w' => e = .returned (.bool (decide (x ∈ order.take k))) ∧ w' = wr.drewN m := fun m => by
          have h := In_any (some ⟨b, off, none⟩) c B (order.take k) x (wr.drewN m) (by rw [List.length_take]; omega) ((hrowk.below eb hB).drewN m)
          rw [List.length_take, Nat.min_eq_left hk] at h
          exact h.mono fun _ _ h => ⟨h.1, h.2.symm⟩
        clear hx hd hc1 hrowk
        by_cases hx0 : x < 0
        · rw [if_pos (Or.inl hx0)] at hp
          have HN := Lib.hid hp
          clear hp HP hin
          go_wp2_with fail
          all_goals (go_ret; exact ⟨ret_i64 HN.out, (by repeat (first | with_reducible exact Below.refl _ _ | with_reducible assumption | with_reducible refine Below.setCell ?_ (by first | omega | (simp; done) | (simp; omega)) _ | with_reducible refine below_drewN ?_ _ | with_reducible refine Below.drew ?_ | with_reducible refine Below.alloc ?_ (by first | omega | (simp; done) | (simp; omega)) _ | with_reducible refine below_after ?_ (by assumption) (by first | omega | (simp; done) | (simp; omega))))⟩)
        · by_cases hxn : n ≤ x
          · rw [if_pos (Or.inr hxn)] at hp
            have HN := Lib.hid hp
            clear hp HP hin
            go_wp2_with fail
            all_goals (go_ret; exact ⟨ret_i64 HN.out, (by repeat (first | with_reducible exact Below.refl _ _ | with_reducible assumption | with_reducible refine Below.setCell ?_ (by first | omega | (simp; done) | (simp; omega)) _ | with_reducible refine below_drewN ?_ _ | with_reducible refine Below.drew ?_ | with_reducible refine Below.alloc ?_ (by first | omega | (simp; done) | (simp; omega)) _ | with_reducible refine below_after ?_ (by assumption) (by first | omega | (simp; done) | (simp; omega))))⟩)
          · rw [if_neg (by omega)] at hp
            by_cases h2 : x ∈ order.take k
            · have hd2 : decide (x ∈ order.take k) = true := decide_eq_true h2
              rw [if_pos h2] at hp
              rw [hd2] at hin
              have HN := Lib.hid hp
              have HI := Lib.hid hin
              clear hp HP hin hd2 h2
              go_wp2_with fail
              go_quiet (first | (go_at_call 52; refine Calls.quiet_of_same (HI.out _)))
              go_wp2_with fail
              go_ret
              exact ⟨ret_i64 HN.out, (by repeat (first | with_reducible exact Below.refl _ _ | with_reducible assumption | with_reducible refine Below.setCell ?_ (by first | omega | (simp; done) | (simp; omega)) _ | with_reducible refine below_drewN ?_ _ | with_reducible refine Below.drew ?_ | with_reducible refine Below.alloc ?_ (by first | omega | (simp; done) | (simp; omega)) _ | with_reducible refine below_after ?_ (by assumption) (by first | omega | (simp; done) | (simp; omega))))⟩
            · have hd2 : decide (x ∈ order.take k) = false := decide_eq_false h2
              rw [if_neg h2, ← HT.out] at hp
              rw [hd2] at hin
              have HN := Lib.hid hp
              have HI := Lib.hid hin
              clear hp HP hin hd2 h2
              go_wp2_with fail
              go_quiet (first | (go_at_call 52; refine Calls.quiet_of_same (HI.out _)))
              go_wp2_with fail
              go_roundw
              case rel => exact ⟨k + 1, by omega, by go_num, HN.out, (by repeat (first | with_reducible exact Below.refl _ _ | with_reducible assumption | with_reducible refine Below.setCell ?_ (by first | omega | (simp; done) | (simp; omega)) _ | with_reducible refine below_drewN ?_ _ | with_reducible refine Below.drew ?_ | with_reducible refine Below.alloc ?_ (by first | omega | (simp; done) | (simp; omega)) _ | with_reducible refine below_after ?_ (by assumption) (by first | omega | (simp; done) | (simp; omega))))⟩
              case measure => simp [intOf]; omega
      · obtain rfl : k = order.length := by omega
        have HN := Lib.hid (show (0 : Int) = r by rw [← HP.out, List.drop_length]; rfl)
        clear HP
        go_wp2_with fail
        go_ret
        exact ⟨ret_i64 HN.out, eb⟩
  · have hne : ((order.length : Int) != n) = true := by simp [hn]
    have e : Bus.orderErr order n = 2 := by unfold Bus.orderErr; rw [if_pos hn]
    rw [e]
    go_enter Tryz.func16, Tryz.ntmps16
    go_wp2_with fail
    go_ret
    exact ⟨rfl, Below.refl _ _⟩
end Go.Proofs.YtkjjnnbbicoljaaGreatDoor

/- The reference of chapter 7: the check of nets. -/
namespace Go.Proofs.YtkjjnnbbicoljaaGreatDoor
open Go.RowKit

theorem lastOf_take {cs : List Int} {j : Nat} {y : Int} (h : cs[j]? = some y) : Bus.lastOf (cs.take (j + 1)) = y := by
  rw [List.take_add_one, h]; exact Bus.lastOf_snoc _ _

set_option maxHeartbeats 8000000 in
set_option maxRecDepth 100000 in
theorem refNets_any (A : Option Addr) (c B : Nat) (l : List NetAt) (n : Int) (w : World) (h : NetsIn w B A l) (hB : B ≤ w.heap.size) (hl : l.length ≤ 140737488355328) :
    Calls Tryz.prog 15 #[.slice A l.length c, .int .i64 n] w fun e w' => e = .returned (.int .i64 (Bus.netsErr (l.map NetAt.net) n)) ∧ Below w.heap.size w w' := by
  have H := Lib.hid h
  clear h
  by_cases hn : n < 1 ∨ 97 < n
  · have e : Bus.netsErr (l.map NetAt.net) n = 3 := by unfold Bus.netsErr; rw [if_pos hn]
    rw [e]
    by_cases hn0 : n < 1
    · go_enter Tryz.func15, Tryz.ntmps15
      go_wp2_with fail
      all_goals (go_ret; exact ⟨rfl, Below.refl _ _⟩)
    · have hn1 : 97 < n := by omega
      go_enter Tryz.func15, Tryz.ntmps15
      go_wp2_with fail
      all_goals (go_ret; exact ⟨rfl, Below.refl _ _⟩)
  · have hn1 : ¬ n < 1 := fun h => hn (.inl h)
    have hn2 : ¬ 97 < n := fun h => hn (.inr h)
    by_cases h64 : 64 < l.length
    · have e : Bus.netsErr (l.map NetAt.net) n = 5 := by unfold Bus.netsErr; rw [if_neg hn, if_pos (by rw [List.length_map]; exact h64)]
      rw [e]
      have hd2 : (64 : Int) < (l.length : Int) := by omega
      clear hn
      go_enter Tryz.func15, Tryz.ntmps15
      go_wp2_with fail
      all_goals (go_ret; exact ⟨rfl, Below.refl _ _⟩)
    · obtain ⟨r, hr⟩ : ∃ r, Bus.netsFrom n [] (l.map NetAt.net) = r := ⟨_, rfl⟩
      have e : Bus.netsErr (l.map NetAt.net) n = r := by unfold Bus.netsErr; rw [if_neg hn, if_neg (by rw [List.length_map]; exact h64), hr]
      rw [e]
      have HR := Lib.hid hr
      clear e hr hn
      go_enter Tryz.func15, Tryz.ntmps15
      go_wp2_with fail
      go_loopw [5] (fun i wr => ∃ k : Nat, k ≤ l.length ∧ i = .int .i64 k ∧ Bus.netsFrom n ((l.take k).map NetAt.sh) ((l.drop k).map NetAt.net) = r ∧ Below w.heap.size w wr) (fun i _ => l.length - (intOf i).toNat)
      case atStart => exact ⟨0, Nat.zero_le _, rfl, HR.out, Below.refl _ _⟩
      case round =>
        obtain ⟨k, hk, rfl, hpre, eb⟩ := hrel
        have hsz := eb.size
        have HP := Lib.hid hpre
        clear hpre
        by_cases hlt : k < l.length
        · obtain ⟨b, off, x, hA, hbB, hx, hc1, hc2, hrow, hfew, hix, hics⟩ := H.out.net k hlt
          subst hA
          have hk1 := (eb.cell (p := ⟨b, off + k * 2, none⟩) (by show b < _; omega)).trans hc1
          have hk2 := (eb.cell (p := ⟨b, off + k * 2 + 1, none⟩) (by show b < _; omega)).trans hc2
          have HROW := Lib.hid hrow
          have hd : l.drop k = x :: l.drop (k + 1) := by
            rw [List.drop_eq_getElem_cons hlt]
            rw [List.getElem?_eq_getElem hlt] at hx
            rw [Option.some.inj hx]
          have HT := Lib.hid (show (l.take (k + 1)).map NetAt.sh = (l.take k).map NetAt.sh ++ [x.sh] by rw [List.take_add_one, hx]; simp)
          have hp := HP.out
          rw [hd, List.map_cons] at hp
          clear hx hd hc1 hc2 hrow HP
          by_cases hbad : x.sh < 0 ∨ 100 ≤ x.sh
          · rw [Bus.nets_bad (x := x.net) hbad] at hp
            have HN := Lib.hid hp
            clear hp
            by_cases hx0 : x.sh < 0
            · go_wp2_with fail
              all_goals (go_ret; exact ⟨ret_i64 HN.out, (by repeat (first | with_reducible exact Below.refl _ _ | with_reducible assumption | with_reducible refine Below.setCell ?_ (by first | omega | (simp; done) | (simp; omega)) _ | with_reducible refine below_drewN ?_ _ | with_reducible refine Below.drew ?_ | with_reducible refine Below.alloc ?_ (by first | omega | (simp; done) | (simp; omega)) _ | with_reducible refine below_after ?_ (by assumption) (by first | omega | (simp; done) | (simp; omega))))⟩)
            · have hxn : 100 ≤ x.sh := by omega
              go_wp2_with fail
              all_goals (go_ret; exact ⟨ret_i64 HN.out, (by repeat (first | with_reducible exact Below.refl _ _ | with_reducible assumption | with_reducible refine Below.setCell ?_ (by first | omega | (simp; done) | (simp; omega)) _ | with_reducible refine below_drewN ?_ _ | with_reducible refine Below.drew ?_ | with_reducible refine Below.alloc ?_ (by first | omega | (simp; done) | (simp; omega)) _ | with_reducible refine below_after ?_ (by assumption) (by first | omega | (simp; done) | (simp; omega))))⟩)
          · have hno : ¬ (x.net.1 < 0 ∨ 100 ≤ x.net.1) := hbad
            have hx0 : ¬ x.sh < 0 := fun h => hbad (.inl h)
            have hxn : ¬ 100 ≤ x.sh := fun h => hbad (.inr h)
            have HNO := Lib.hid hno
            have HPP := Lib.hid hp
            clear hno hp hbad
            go_wp2_with fail
            generalize hW1 : World.alloc wr _ = W1
            obtain ⟨G, hG⟩ : ∃ G, wr.heap.size = G := ⟨_, rfl⟩
            have d1 : Blk W1 G 37 #[.int .i64 x.sh, .slice x.loc x.cols.length x.cap] := by rw [← hW1, ← hG]; exact Blk.new _ _ _
            have eb1 : Below w.heap.size w W1 := by rw [← hW1]; exact eb.alloc hsz _
            have hs1 := eb1.size
            have hGl := d1.lt
            try rw [hG]
            clear hW1 hG eb hk1 hk2
            go_loopw [7] (fun i wz => ∃ j : Nat, j ≤ k ∧ i = .int .i64 j ∧ x.sh ∉ (l.take j).map NetAt.sh ∧ Below W1.heap.size W1 wz) (fun i _ => k - (intOf i).toNat)
            case atStart => exact ⟨0, Nat.zero_le _, rfl, by simp, Below.refl _ _⟩
            case round =>
              obtain ⟨j, hj, rfl, hnot, ez⟩ := hrel
              have hszz := ez.size
              have HNT := Lib.hid hnot
              have ebz := below_after eb1 ez (Nat.le_refl _)
              have hszw := ebz.size
              have p1 : wr.cell? ⟨G, 0, none⟩ = some (.int .i64 x.sh) := (ez.cell (p := ⟨G, 0, none⟩) hGl).trans (d1.cell 0)
              have p2 : wr.cell? ⟨G, 1, none⟩ = some (.slice x.loc x.cols.length x.cap) := (ez.cell (p := ⟨G, 1, none⟩) hGl).trans (d1.cell 1)
              clear hnot
              by_cases hjk : j < k
              · obtain ⟨b2, off2, y, hA2, _, hy, hcy1, _, _, _, _, _⟩ := H.out.net j (by omega)
                injection hA2 with hA2; injection hA2 with hA2 hA3; subst hA2; subst hA3
                have hcy := (ebz.cell (p := ⟨b, off + j * 2, none⟩) (by show b < _; omega)).trans hcy1
                have hjl : (j : Int) < (l.length : Int) := by omega
                have HY := Lib.hid (show (l.take (j + 1)).map NetAt.sh = (l.take j).map NetAt.sh ++ [y.sh] by rw [List.take_add_one, hy]; simp)
                have HYM := Lib.hid (show y.sh ∈ (l.take k).map NetAt.sh from List.mem_map_of_mem (List.mem_of_getElem? (by rw [List.getElem?_take_of_lt hjk]; exact hy)))
                clear hy hcy1
                generalize y.sh = ys at *
                by_cases hxy : ys = x.sh
                · subst hxy
                  have hp := HPP.out
                  rw [Bus.nets_twice HNO.out HYM.out] at hp
                  have HN := Lib.hid hp
                  clear hp
                  go_wp2_with fail
                  go_quiet (fail)
                  go_wp2_with fail
                  go_ret
                  exact ⟨ret_i64 HN.out, (by repeat (first | with_reducible exact Below.refl _ _ | with_reducible assumption | with_reducible refine Below.setCell ?_ (by first | omega | (simp; done) | (simp; omega)) _ | with_reducible refine below_drewN ?_ _ | with_reducible refine Below.drew ?_ | with_reducible refine Below.alloc ?_ (by first | omega | (simp; done) | (simp; omega)) _ | with_reducible refine below_after ?_ (by assumption) (by first | omega | (simp; done) | (simp; omega))))⟩
                · have hne : (ys == x.sh) = false := by rw [beq_eq_false_iff_ne]; exact hxy
                  go_wp2_with fail
                  go_quiet (fail)
                  go_wp2_with fail
                  go_roundw
                  case rel => exact ⟨j + 1, by omega, by go_num, by rw [HY.out]; intro hm; rcases List.mem_append.1 hm with h | h; exact HNT.out h; simp at h; exact hxy h.symm, (by repeat (first | with_reducible exact Below.refl _ _ | with_reducible assumption | with_reducible refine Below.setCell ?_ (by first | omega | (simp; done) | (simp; omega)) _ | with_reducible refine below_drewN ?_ _ | with_reducible refine Below.drew ?_ | with_reducible refine Below.alloc ?_ (by first | omega | (simp; done) | (simp; omega)) _ | with_reducible refine below_after ?_ (by assumption) (by first | omega | (simp; done) | (simp; omega))))⟩
                  case measure => simp [intOf]; omega
              · obtain rfl : k = j := by omega
                have h2 : x.net.1 ∉ (l.take k).map NetAt.sh := HNT.out
                by_cases h4 : x.cols = []
                · have hp := HPP.out
                  rw [Bus.nets_empty HNO.out h2 h4] at hp
                  have HN := Lib.hid hp
                  have hcl : (x.cols.length : Int) = 0 := by rw [h4]; rfl
                  clear hp h2 HNT
                  rw [h4] at p2
                  go_wp2_with fail
                  go_ret
                  exact ⟨ret_i64 HN.out, (by repeat (first | with_reducible exact Below.refl _ _ | with_reducible assumption | with_reducible refine Below.setCell ?_ (by first | omega | (simp; done) | (simp; omega)) _ | with_reducible refine below_drewN ?_ _ | with_reducible refine Below.drew ?_ | with_reducible refine Below.alloc ?_ (by first | omega | (simp; done) | (simp; omega)) _ | with_reducible refine below_after ?_ (by assumption) (by first | omega | (simp; done) | (simp; omega))))⟩
                · have hcl : ¬ x.cols.length = 0 := fun h => h4 (List.eq_nil_of_length_eq_zero h)
                  have hceq : ((x.cols.length : Int) == 0) = false := by rw [beq_eq_false_iff_ne]; omega
                  have hp := HPP.out
                  rw [Bus.nets_cols HNO.out h2 h4] at hp
                  obtain ⟨E, hE⟩ : ∃ E, Bus.colErr n (-1) x.cols = E := ⟨_, rfl⟩
                  have HE := Lib.hid hE
                  rw [show x.net.2 = x.cols from rfl, hE] at hp
                  have HN3 := Lib.hid hp
                  obtain ⟨W3, hW3⟩ : ∃ W3, wr = W3 := ⟨_, rfl⟩
                  have hrow3 := Lib.hid (HROW.out.below ebz hB)
                  rw [hW3] at hrow3 p1 p2 ebz hszw ⊢
                  have hG3 : G < W3.heap.size := World.block_lt_of_cell? W3 ⟨G, 0, none⟩ p1
                  clear hE hp h2 HNT h4 hW3 ez hszz HPP HNO
                  generalize x.cols = cs at *
                  generalize x.loc = loc at *
                  generalize x.cap = cap at *
                  go_wp2_with fail
                  go_loopw [8] (fun i wz => ∃ j : Nat, j ≤ cs.length ∧ i = .int .i64 j ∧ Bus.colErr n (Bus.lastOf (cs.take j)) (cs.drop j) = E ∧ Below W3.heap.size W3 wz) (fun i _ => cs.length - (intOf i).toNat)
                  case atStart => exact ⟨0, Nat.zero_le _, rfl, HE.out, Below.refl _ _⟩
                  case round =>
                    obtain ⟨j, hj, rfl, hcol, ez⟩ := hrel
                    have hszz := ez.size
                    have ebz3 := below_after ebz ez (Nat.le_refl _)
                    have hszw3 := ebz3.size
                    have m2 : wr.cell? ⟨G, 1, none⟩ = some (.slice loc cs.length cap) := (ez.cell (p := ⟨G, 1, none⟩) hG3).trans p2
                    by_cases hlj : j < cs.length
                    · obtain ⟨b2, off2, y, hA2, hbB2, hy, hcy⟩ := hrow3.out.int j hlj
                      subst hA2
                      have hcy2 := (ez.cell (p := ⟨b2, off2 + j, none⟩) (by show b2 < _; omega)).trans hcy
                      have hdj : cs.drop j = y :: cs.drop (j + 1) := by
                        rw [List.drop_eq_getElem_cons hlj]
                        rw [List.getElem?_eq_getElem hlj] at hy
                        rw [Option.some.inj hy]
                      have HTJ := Lib.hid (lastOf_take hy)
                      rw [hdj] at hcol
                      have hjc : (j : Int) < (cs.length : Int) := by omega
                      clear hdj
                      by_cases hyb : y < 0 ∨ n ≤ y
                      · rw [Bus.col_bad hyb] at hcol
                        subst hcol
                        have hr := HN3.out
                        rw [if_pos (by decide)] at hr
                        have HR2 := Lib.hid hr
                        clear hr hy
                        by_cases hy0 : y < 0
                        · go_wp2_with fail
                          all_goals (go_ret; exact ⟨ret_i64 HR2.out, (by repeat (first | with_reducible exact Below.refl _ _ | with_reducible assumption | with_reducible refine Below.setCell ?_ (by first | omega | (simp; done) | (simp; omega)) _ | with_reducible refine below_drewN ?_ _ | with_reducible refine Below.drew ?_ | with_reducible refine Below.alloc ?_ (by first | omega | (simp; done) | (simp; omega)) _ | with_reducible refine below_after ?_ (by assumption) (by first | omega | (simp; done) | (simp; omega))))⟩)
                        · have hyn : n ≤ y := by omega
                          go_wp2_with fail
                          all_goals (go_ret; exact ⟨ret_i64 HR2.out, (by repeat (first | with_reducible exact Below.refl _ _ | with_reducible assumption | with_reducible refine Below.setCell ?_ (by first | omega | (simp; done) | (simp; omega)) _ | with_reducible refine below_drewN ?_ _ | with_reducible refine Below.drew ?_ | with_reducible refine Below.alloc ?_ (by first | omega | (simp; done) | (simp; omega)) _ | with_reducible refine below_after ?_ (by assumption) (by first | omega | (simp; done) | (simp; omega))))⟩)
                      · have hy0 : ¬ y < 0 := fun h => hyb (.inl h)
                        have hyn : ¬ n ≤ y := fun h => hyb (.inr h)
                        by_cases hj0 : j = 0
                        · subst hj0
                          rw [Bus.col_ok hyb (by rw [List.take_zero, show Bus.lastOf [] = -1 from rfl]; omega)] at hcol
                          have HC := Lib.hid hcol
                          have hcy0 : wr.cell? ⟨b2, off2, none⟩ = some (.int .i64 y) := by simpa using hcy2
                          clear hcol hy hyb hcy2
                          go_wp2_with fail
                          go_quiet (fail)
                          go_wp2_with fail
                          go_roundw
                          case rel => exact ⟨1, by omega, rfl, by rw [HTJ.out]; exact HC.out, (by repeat (first | with_reducible exact Below.refl _ _ | with_reducible assumption | with_reducible refine Below.setCell ?_ (by first | omega | (simp; done) | (simp; omega)) _ | with_reducible refine below_drewN ?_ _ | with_reducible refine Below.drew ?_ | with_reducible refine Below.alloc ?_ (by first | omega | (simp; done) | (simp; omega)) _ | with_reducible refine below_after ?_ (by assumption) (by first | omega | (simp; done) | (simp; omega))))⟩
                          case measure => simp [intOf]; omega
                        · obtain ⟨i, rfl⟩ : ∃ i, j = i + 1 := ⟨j - 1, by omega⟩
                          obtain ⟨b4, off4, z, hA4, _, hz, hcz⟩ := hrow3.out.int i (by omega)
                          injection hA4 with hA4; injection hA4 with hA4 hA5; subst hA4; subst hA5
                          have hcz2 := (ez.cell (p := ⟨b2, off2 + i, none⟩) (by show b2 < _; omega)).trans hcz
                          rw [lastOf_take hz] at hcol
                          have q1 : IntKind.i64.wrap ((i : Int) + 1 - 1) = (i : Int) := by rw [IntWalk.i64_in _ (by omega)]; omega
                          have q3 : (0 : Int) < (i : Int) + 1 := by omega
                          have q4 : (i : Int) < (cs.length : Int) := by omega
                          clear hy hz hcz hcy
                          by_cases hyl : y ≤ z
                          · rw [Bus.col_order hyb hyl] at hcol
                            subst hcol
                            have hr := HN3.out
                            rw [if_pos (by decide)] at hr
                            have HR2 := Lib.hid hr
                            have hyd : decide (y ≤ z) = true := decide_eq_true hyl
                            clear hr hyb
                            go_wp2_with fail
                            go_quiet (fail)
                            go_wp2_with fail
                            go_ret
                            exact ⟨ret_i64 HR2.out, (by repeat (first | with_reducible exact Below.refl _ _ | with_reducible assumption | with_reducible refine Below.setCell ?_ (by first | omega | (simp; done) | (simp; omega)) _ | with_reducible refine below_drewN ?_ _ | with_reducible refine Below.drew ?_ | with_reducible refine Below.alloc ?_ (by first | omega | (simp; done) | (simp; omega)) _ | with_reducible refine below_after ?_ (by assumption) (by first | omega | (simp; done) | (simp; omega))))⟩
                          · rw [Bus.col_ok hyb hyl] at hcol
                            have HC := Lib.hid hcol
                            have hyd : decide (y ≤ z) = false := decide_eq_false hyl
                            clear hcol hyb
                            go_wp2_with fail
                            go_quiet (fail)
                            go_wp2_with fail
                            go_roundw
                            case rel => exact ⟨i + 1 + 1, by omega, by go_num, by rw [HTJ.out]; exact HC.out, (by repeat (first | with_reducible exact Below.refl _ _ | with_reducible assumption | with_reducible refine Below.setCell ?_ (by first | omega | (simp; done) | (simp; omega)) _ | with_reducible refine below_drewN ?_ _ | with_reducible refine Below.drew ?_ | with_reducible refine Below.alloc ?_ (by first | omega | (simp; done) | (simp; omega)) _ | with_reducible refine below_after ?_ (by assumption) (by first | omega | (simp; done) | (simp; omega))))⟩
                            case measure => simp [intOf]; omega
                    · obtain rfl : j = cs.length := by omega
                      rw [List.drop_length] at hcol
                      have hE0 : E = 0 := hcol.symm
                      subst hE0
                      have hr := HN3.out
                      rw [if_neg (by decide)] at hr
                      have HR2 := Lib.hid hr
                      clear hr hcol
                      go_wp2_with fail
                      go_roundw
                      case rel => exact ⟨k + 1, by omega, by go_num, by rw [HT.out]; exact HR2.out, (by repeat (first | with_reducible exact Below.refl _ _ | with_reducible assumption | with_reducible refine Below.setCell ?_ (by first | omega | (simp; done) | (simp; omega)) _ | with_reducible refine below_drewN ?_ _ | with_reducible refine Below.drew ?_ | with_reducible refine Below.alloc ?_ (by first | omega | (simp; done) | (simp; omega)) _ | with_reducible refine below_after ?_ (by assumption) (by first | omega | (simp; done) | (simp; omega))))⟩
                      case measure => simp [intOf]; omega
        · obtain rfl : k = l.length := by omega
          have HN := Lib.hid (show (0 : Int) = r by rw [← HP.out, List.drop_length]; rfl)
          clear HP
          go_wp2_with fail
          go_ret
          exact ⟨ret_i64 HN.out, eb⟩
end Go.Proofs.YtkjjnnbbicoljaaGreatDoor
