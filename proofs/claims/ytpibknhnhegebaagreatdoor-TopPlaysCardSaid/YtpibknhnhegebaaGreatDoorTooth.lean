/- The small functions of the statements about plays. -/
import Derived.Test.YtpibknhnhegebaaGreatDoorLost
import Derived.Test.YtpibknhnhegebaaGreatDoorRunPlay
namespace Go.Proofs.YtpibknhnhegebaaGreatDoor
open Go.RowKit
attribute [local go_sem] nil_eql nil_neq

set_option maxHeartbeats 2000000 in
set_option maxRecDepth 100000 in
theorem SameInts_any (A A2 : Option Addr) (c c2 B : Nat) (xs ys : List Int) (w : World) (hl : xs.length ≤ 1000000) (_ : ys.length ≤ 1000000) (h : Row w B A (xs.map (Value.int .i64))) (h2 : Row w B A2 (ys.map (Value.int .i64))) (hB : B ≤ w.heap.size) :
    Calls Tryz.prog 35 #[.slice A xs.length c, .slice A2 ys.length c2] w fun e w' => e = .returned (.bool (decide (xs = ys))) ∧ Below w.heap.size w w' := by
  have H := Lib.hid h
  have H2 := Lib.hid h2
  clear h h2
  obtain ⟨r, hr⟩ : ∃ r, decide (xs = ys) = r := ⟨_, rfl⟩
  rw [hr]
  have HR := Lib.hid hr
  clear hr
  by_cases hll : xs.length = ys.length
  · obtain ⟨n, hn⟩ : ∃ n, ys.length = n := ⟨_, rfl⟩
    have HN := Lib.hid hn
    rw [hn] at hll
    have HX := Lib.hid hll
    rw [hll, hn]
    rw [hll] at hl
    clear hll hn
    go_enter Tryz.func35, Tryz.ntmps35
    go_wp2_with fail
    go_loopw [5] (fun i wr => ∃ k : Nat, k ≤ n ∧ i = .int .i64 k ∧ xs.take k = ys.take k ∧ Below w.heap.size w wr) (fun i _ => n - (intOf i).toNat)
    case atStart => exact ⟨0, Nat.zero_le _, rfl, rfl, Below.refl _ _⟩
    case round =>
      obtain ⟨k, hk, rfl, hpre, e1⟩ := hrel
      have HP := Lib.hid hpre
      clear hpre
      by_cases hlt : k < n
      · obtain ⟨b, off, x, rfl, hbB, hx, hc⟩ := H.out.int k (by rw [HX.out]; exact hlt)
        obtain ⟨b2, off2, y, rfl, hbB2, hy, hc2⟩ := H2.out.int k (by rw [HN.out]; exact hlt)
        have hk1 := (e1.cell (p := ⟨b, off + k, none⟩) (by show b < _; omega)).trans hc
        have hk2 := (e1.cell (p := ⟨b2, off2 + k, none⟩) (by show b2 < _; omega)).trans hc2
        have HXX := Lib.hid hx
        have HYY := Lib.hid hy
        have hi1 : (k : Int) < (n : Int) := by omega
        clear hx hy hc hc2
        by_cases hxy : x = y
        · subst hxy
          have HS := Lib.hid (show xs.take (k + 1) = ys.take (k + 1) by rw [List.take_add_one, List.take_add_one, HP.out, HXX.out, HYY.out])
          go_wp2_with fail
          go_quiet (fail)
          go_wp2_with fail
          go_roundw
          case rel => exact ⟨k + 1, by omega, by go_num, HS.out, (by repeat (first | with_reducible exact Below.refl _ _ | with_reducible assumption | with_reducible refine Below.setCell ?_ (by first | omega | (simp; done) | (simp; omega)) _ | with_reducible refine below_drewN ?_ _ | with_reducible refine Below.drew ?_ | with_reducible refine Below.alloc ?_ (by first | omega | (simp; done) | (simp; omega)) _ | with_reducible refine below_after ?_ (by assumption) (by first | omega | (simp; done) | (simp; omega))))⟩
          case measure => simp [intOf]; omega
        · have hne : (x != y) = true := by rw [bne_iff_ne]; exact hxy
          have HF := Lib.hid (show false = r by rw [← HR.out]; symm; apply decide_eq_false; intro e; subst e; rw [HXX.out] at HYY; exact hxy (Option.some.inj HYY.out))
          clear hxy
          go_wp2_with fail
          go_quiet (fail)
          go_wp2_with fail
          go_ret
          exact ⟨by rw [← HF.out]; rfl, (by repeat (first | with_reducible exact Below.refl _ _ | with_reducible assumption | with_reducible refine Below.setCell ?_ (by first | omega | (simp; done) | (simp; omega)) _ | with_reducible refine below_drewN ?_ _ | with_reducible refine Below.drew ?_ | with_reducible refine Below.alloc ?_ (by first | omega | (simp; done) | (simp; omega)) _ | with_reducible refine below_after ?_ (by assumption) (by first | omega | (simp; done) | (simp; omega))))⟩
      · obtain rfl : k = n := by omega
        have HF := Lib.hid (show true = r by
          rw [← HR.out]; symm; apply decide_eq_true
          have := HP.out
          rwa [List.take_of_length_le (by rw [HX.out]; exact Nat.le_refl _), List.take_of_length_le (by rw [HN.out]; exact Nat.le_refl _)] at this)
        go_wp2_with fail
        go_ret
        exact ⟨by rw [← HF.out]; rfl, (by repeat (first | with_reducible exact Below.refl _ _ | with_reducible assumption | with_reducible refine Below.setCell ?_ (by first | omega | (simp; done) | (simp; omega)) _ | with_reducible refine below_drewN ?_ _ | with_reducible refine Below.drew ?_ | with_reducible refine Below.alloc ?_ (by first | omega | (simp; done) | (simp; omega)) _ | with_reducible refine below_after ?_ (by assumption) (by first | omega | (simp; done) | (simp; omega))))⟩
  · have hne : ((xs.length : Int) != (ys.length : Int)) = true := by rw [bne_iff_ne]; omega
    have HF := Lib.hid (show false = r by rw [← HR.out]; symm; apply decide_eq_false; intro e; exact hll (by rw [e]))
    clear hll
    go_enter Tryz.func35, Tryz.ntmps35
    go_wp2_with fail
    go_ret
    exact ⟨by rw [← HF.out]; rfl, (by repeat (first | with_reducible exact Below.refl _ _ | with_reducible assumption | with_reducible refine Below.setCell ?_ (by first | omega | (simp; done) | (simp; omega)) _ | with_reducible refine below_drewN ?_ _ | with_reducible refine Below.drew ?_ | with_reducible refine Below.alloc ?_ (by first | omega | (simp; done) | (simp; omega)) _ | with_reducible refine below_after ?_ (by assumption) (by first | omega | (simp; done) | (simp; omega))))⟩

/-- at most 40 positions, all of them small -/
def okPos (xs : List Int) : Bool := decide (xs.length ≤ 40 ∧ ∀ x ∈ xs, -100000 ≤ x ∧ x ≤ 100000)

set_option maxHeartbeats 2000000 in
set_option maxRecDepth 100000 in
theorem toothPositions_any (A : Option Addr) (c B : Nat) (xs : List Int) (w : World) (hl : xs.length ≤ 140737488355328) (h : Row w B A (xs.map (Value.int .i64))) :
    Calls Tryz.prog 32 #[.slice A xs.length c] w fun e w' => e = .returned (.bool (okPos xs)) ∧ w = w' := by
  have H := Lib.hid h
  clear h
  obtain ⟨r, hr⟩ : ∃ r, okPos xs = r := ⟨_, rfl⟩
  rw [hr]
  have HR := Lib.hid hr
  clear hr
  by_cases h40 : xs.length ≤ 40
  · have hd : decide ((40 : Int) < (xs.length : Int)) = false := by simp; omega
    have hd2 : decide (40 < xs.length) = false := by simp; omega
    go_enter Tryz.func32, Tryz.ntmps32
    go_wp2_with fail
    go_loop [10] (fun i => ∃ k : Nat, k ≤ xs.length ∧ i = .int .i64 k ∧ ∀ x ∈ xs.take k, -100000 ≤ x ∧ x ≤ 100000) (fun i => xs.length - (intOf i).toNat)
    case atStart => exact ⟨0, Nat.zero_le _, rfl, fun x hx => by simp at hx⟩
    case round =>
      obtain ⟨k, hk, rfl, hpre⟩ := hrel
      have HP := Lib.hid hpre
      clear hpre
      by_cases hlt : k < xs.length
      · obtain ⟨b, off, x, rfl, hbB, hx, hc⟩ := H.out.int k hlt
        have HX := Lib.hid hx
        clear hx
        by_cases hok : -100000 ≤ x ∧ x ≤ 100000
        · obtain ⟨o1, o2⟩ := hok
          go_wp2_with fail
          go_round
          case rel => exact ⟨k + 1, by omega, by go_num, fun z hz => by
            rw [List.take_add_one, HX.out] at hz
            rcases List.mem_append.1 hz with h | h
            · exact HP.out z h
            · simp at h; subst h; exact ⟨o1, o2⟩⟩
          case measure => simp [intOf]; omega
        · have HF := Lib.hid (show false = r by rw [← HR.out]; symm; apply decide_eq_false; intro e; exact hok (e.2 x (List.mem_of_getElem? HX.out)))
          go_wp2_with fail
          all_goals (go_ret; exact ⟨by rw [← HF.out]; rfl, rfl⟩)
      · obtain rfl : k = xs.length := by omega
        have HF := Lib.hid (show true = r by
          rw [← HR.out]; symm; apply decide_eq_true
          have := HP.out
          rw [List.take_length] at this
          exact ⟨h40, this⟩)
        go_wp2_with fail
        go_ret
        exact ⟨by rw [← HF.out]; rfl, rfl⟩
  · have HF := Lib.hid (show false = r by rw [← HR.out]; symm; apply decide_eq_false; intro e; exact h40 e.1)
    have hd : decide ((40 : Int) < (xs.length : Int)) = true := by simp; omega
    go_enter Tryz.func32, Tryz.ntmps32
    go_wp2_with fail
    go_ret
    exact ⟨by rw [← HF.out]; rfl, rfl⟩

set_option maxHeartbeats 4000000 in
set_option maxRecDepth 100000 in
theorem toothRun_true (w : World) (hE : Env w) :
    Calls Tryz.prog 33 #[] w fun e w' => e = .returned (.bool true) ∧ Below w.heap.size w w' := by
  have hp : Play.plays 3 0 [2, 5, 4, 1, 6] = [0, 2, 2, 1, 3] := by decide
  go_enter Tryz.func33, Tryz.ntmps33
  go_wp2_with fail
  have HR := Row.new w 3 [.int .i64 2, .int .i64 5, .int .i64 4, .int .i64 1, .int .i64 6]
  have HP := Lib.hid (play_any (some ⟨w.heap.size, 0, none⟩) 5 (w.heap.size + 1) 3 0 [2, 5, 4, 1, 6] (w.alloc (.cells #[.int .i64 2, .int .i64 5, .int .i64 4, .int .i64 1, .int .i64 6] 3)) (by decide) HR (by simp) (by omega) (by omega) (by omega) (by omega) (by decide))
  rw [hp] at HP
  clear hp HR
  refine HP.out.mono ?_
  rintro e w1 ⟨A, c, rfl, hrow, hb1⟩
  have e1 := below_after ((Below.refl w.heap.size w).alloc (Nat.le_refl _) _) hb1 (Nat.le_refl _)
  have hE1 := hE.below e1
  have HW := Lib.hid hrow
  clear hrow HP hb1
  go_wp2_with fail
  generalize hW2 : World.alloc (World.alloc w1 _) _ = W2
  have r1 : Row W2 (w1.heap.size + 2) (some ⟨w1.heap.size, 0, none⟩) (pcells [(30, 30), (20, 20)]) := by
    rw [← hW2]; exact ((Row.new w1 59 (pcells [(30, 30), (20, 20)])).alloc (by simp) _).more (by omega)
  have r2 : Row W2 (w1.heap.size + 2) (some ⟨w1.heap.size + 1, 0, none⟩) ([⟨#[50]⟩, ⟨#[49]⟩].map Value.string) := by
    rw [← hW2]
    have := (Row.new (w1.alloc (.cells #[.int .i64 30, .int .i64 30, .int .i64 20, .int .i64 20] 59)) 24 ([⟨#[50]⟩, ⟨#[49]⟩].map Value.string)).more (show _ ≤ w1.heap.size + 2 by simp)
    simpa using this
  have e2 : Below w.heap.size w W2 := by rw [← hW2]; exact (e1.alloc e1.size _).alloc (by have := e1.size; simp; omega) _
  have e3 : Below w1.heap.size w1 W2 := by rw [← hW2]; exact ((Below.refl _ _).alloc (Nat.le_refl _) _).alloc (by simp) _
  have hE2 : Env W2 := by rw [← hW2]; exact (hE1.alloc _).alloc _
  have hsz : w1.heap.size + 2 ≤ W2.heap.size := by rw [← hW2]; simp
  clear hW2 e1 hE1
  have hd : ∀ (i : Nat) (s : ByteArray) (n : Nat), ([⟨#[50]⟩, ⟨#[49]⟩] : List ByteArray)[i]? = some s → ([2, 1] : List Nat)[i]? = some n → IsDec s n := by
    intro i s n h1 h2
    match i, h1, h2 with
    | 0, h1, h2 => simp at h1 h2; subst h1; subst h2; unfold IsDec; rw [Lib.decDigits_one (by omega)]; rfl
    | 1, h1, h2 => simp at h1 h2; subst h1; subst h2; unfold IsDec; rw [Lib.decDigits_one (by omega)]; rfl
  have HL := Lib.hid (Lost_equal (some ⟨w1.heap.size, 0, none⟩) (some ⟨w1.heap.size + 1, 0, none⟩) 2 2 (w1.heap.size + 2) [(30, 30), (20, 20)] [⟨#[50]⟩, ⟨#[49]⟩] [2, 1] W2 hE2 (by decide) (by decide) (by decide) (by decide) rfl rfl hd (by decide) r1 r2 hsz)
  rw [show sumTo [2, 1] ([(30, 30), (20, 20)] : List (Int × Int)).length = 3 by decide, Lib.decDigits_one (by omega)] at HL
  clear hd r1 r2
  refine HL.out.mono ?_
  rintro e w3 ⟨rfl, hb1⟩
  have e4 := below_after e2 hb1 (Nat.le_refl _)
  have HW3 := Lib.hid ((HW.out.below e3 (Nat.le_refl _)).below hb1 (show w1.heap.size ≤ W2.heap.size by omega))
  have hs3 := hb1.size
  clear hb1 HL hE2 e2
  go_wp2_with fail
  have q1 : Row (w3.alloc (.cells #[.int .i64 0, .int .i64 2, .int .i64 2, .int .i64 1, .int .i64 3] 3)) (w3.heap.size + 1) A ([0, 2, 2, 1, 3].map (Value.int .i64)) := (HW3.out.alloc (by omega) _).more (by omega)
  have q2 : Row (w3.alloc (.cells #[.int .i64 0, .int .i64 2, .int .i64 2, .int .i64 1, .int .i64 3] 3)) (w3.heap.size + 1) (some ⟨w3.heap.size, 0, none⟩) ([0, 2, 2, 1, 3].map (Value.int .i64)) := Row.new w3 3 _
  have HS := Lib.hid (SameInts_any A (some ⟨w3.heap.size, 0, none⟩) c 5 (w3.heap.size + 1) [0, 2, 2, 1, 3] [0, 2, 2, 1, 3] _ (by decide) (by decide) q1 q2 (by simp))
  rw [show decide (([0, 2, 2, 1, 3] : List Int) = [0, 2, 2, 1, 3]) = true by decide] at HS
  clear q1 q2
  refine HS.out.mono ?_
  rintro e w4 ⟨rfl, hb1⟩
  have e5 := below_after (e4.alloc e4.size _) hb1 (Nat.le_refl _)
  clear HS hb1
  go_wp2_with fail
  go_ret
  exact ⟨rfl, e5⟩
end Go.Proofs.YtpibknhnhegebaaGreatDoor
