/- slices.SortStableFunc at a list of ints by the lows of extents, where one block of insertion sort serves (at most 20 elements). -/
import Derived.Test.YtbldpojkpmafpaaGreatDoorZbBusClique
import Derived.BigRegion
import Derived.RangeFuncNested
import Derived.RangeFuncBound
import Derived.RangeFuncCalls
import Derived.RangeFuncLeaves
import Derived.Shelf.Abstract
import Derived.Shelf.RegionOpen
import Derived.WalkKit
import Derived.OwnWalkIn
import Derived.TacticsInMore
import Derived.LoopNIn
import Derived.LoopIn
namespace Go.Proofs.YtbldpojkpmafpaaGreatDoor
open Go.RowKit

def cmp3 (a b : Int) : Int := if a < b then -1 else if b < a then 1 else 0
theorem isNaN_any (a : Int) (w : World) : Calls Tryz.prog 132 #[.int .i64 a] w fun e w' => e = .returned (.bool false) ∧ w = w' := by
  go_enter Tryz.func132, Tryz.ntmps132
  go_wp2_with fail
  go_ret
  exact ⟨by simp, rfl⟩
theorem Compare_any (a b : Int) (w : World) : Calls Tryz.prog 90 #[.int .i64 a, .int .i64 b] w fun e w' => e = .returned (.int .i64 (cmp3 a b)) ∧ w = w' := by
  unfold cmp3
  by_cases h : a < b
  · rw [if_pos h]
    go_enter Tryz.func90, Tryz.ntmps90
    go_wp2_with (first | (go_at_call 132; refine (isNaN_any _ _).mono ?_; rintro e w1 ⟨rfl, rfl⟩))
    go_ret
    exact ⟨rfl, rfl⟩
  · rw [if_neg h]
    by_cases h2 : b < a
    · rw [if_pos h2]
      go_enter Tryz.func90, Tryz.ntmps90
      go_wp2_with (first | (go_at_call 132; refine (isNaN_any _ _).mono ?_; rintro e w1 ⟨rfl, rfl⟩))
      go_ret
      exact ⟨rfl, rfl⟩
    · rw [if_neg h2]
      go_enter Tryz.func90, Tryz.ntmps90
      go_wp2_with (first | (go_at_call 132; refine (isNaN_any _ _).mono ?_; rintro e w1 ⟨rfl, rfl⟩))
      go_ret
      exact ⟨rfl, rfl⟩

set_option maxHeartbeats 2000000 in
set_option maxRecDepth 100000 in
theorem byLow_any (bx g : Nat) (V : Value) (F : Nat → Int) (A : Option Addr) (c B i j : Nat) (xs : List (Int × Int)) (w : World) (hb : w.cell? ⟨bx, 0, none⟩ = some (.pointer (some ⟨g, 0, none⟩))) (h : RowAt w g V F (.slice A xs.length c)) (hr : Row w B A (xcells xs)) (hi : i < xs.length) (hj : j < xs.length) :
    Calls Tryz.prog 89 #[.int .i64 (i : Int), .int .i64 (j : Int), .pointer (some ⟨bx, 0, none⟩)] w fun e w' => e = .returned (.int .i64 (cmp3 (xs.getD i (0, 0)).1 (xs.getD j (0, 0)).1)) ∧ ∃ m, w' = w.drewN m := by
  obtain ⟨b, off, x, y, rfl, hbB, hx, hc1, hc2⟩ := hr.extent i hi
  obtain ⟨b', off', x', y', hA, _, hx', hc1', hc2'⟩ := hr.extent j hj
  injection hA with hA; injection hA with h1 h2; subst h1; subst h2
  have e1 : (xs.getD i (0, 0)).1 = x := by rw [List.getD_eq_getElem?_getD, hx]; rfl
  have e2 : (xs.getD j (0, 0)).1 = x' := by rw [List.getD_eq_getElem?_getD, hx']; rfl
  rw [e1, e2]
  have x98 := h.ext
  have hii : (i : Int) < (xs.length : Int) := by omega
  have hjj : (j : Int) < (xs.length : Int) := by omega
  have hq : ∀ m, Calls Tryz.prog 90 #[.int .i64 x, .int .i64 x'] (w.drewN m) fun e w' => e = .returned (.int .i64 (cmp3 x x')) ∧ w' = w.drewN m := fun m => (Compare_any x x' _).mono fun _ _ h => ⟨h.1, h.2.symm⟩
  have HQ := Lib.hid hq
  clear hx hx' e1 e2 h hr hq hc2 hc2'
  go_enter Tryz.func89, Tryz.ntmps89
  go_wp2_with fail
  go_quiet (first | (go_at_call 90; refine Calls.quiet_of_same (HQ.out _)))
  go_wp2_with fail
  go_ret
  exact ⟨rfl, _, rfl⟩

structure DRow (w : World) (g : Nat) (d : List Nat) : Prop where
  cell : ∀ i, i < d.length → w.cell? ⟨g, i, none⟩ = some (.int .i64 ((d.getD i 0 : Nat) : Int))
  free : ∀ i, w.frozen? ⟨g, i, none⟩ = false
  lt : g < w.heap.size
theorem DRow.drewN {w : World} {g : Nat} {d : List Nat} (h : DRow w g d) (m : Nat) : DRow (w.drewN m) g d := ⟨h.cell, h.free, h.lt⟩
theorem DRow.set {w : World} {g i x : Nat} {d : List Nat} (h : DRow w g d) : DRow (w.setCell ⟨g, i, none⟩ (.int .i64 (x : Int))) g (d.set i x) := by
  refine ⟨fun k hk => ?_, fun k => by rw [World.frozen?_setCell]; exact h.free k, by simpa using h.lt⟩
  rw [List.length_set] at hk
  by_cases hki : k = i
  · subst hki
    rw [World.cell?_setCell_same' _ _ _ (by rw [h.cell k hk]; rfl)]
    simp [List.getD_eq_getElem?_getD, hk]
  · rw [World.cell?_setCell_other _ _ _ _ (fun e => by injection e; omega), h.cell k hk]
    simp [List.getD_eq_getElem?_getD, List.getElem?_set_ne (Ne.symm hki)]

theorem grown_drewN {w w' : World} {r : Option Nat} (h : w.grownBy w' r) (m : Nat) : w.grownBy (w'.drewN m) r := ⟨h.os, h.tape, h.output, h.size, h.block⟩
theorem grown_drew {w w' : World} {r : Option Nat} (h : w.grownBy w' r) : w.grownBy w'.drew r := ⟨h.os, h.tape, h.output, h.size, h.block⟩
theorem grown_set {w w' : World} {g i : Nat} (h : w.grownBy w' (some g)) (u : Value) : w.grownBy (w'.setCell ⟨g, i, none⟩ u) (some g) :=
  ⟨h.os, h.tape, h.output, by simpa using h.size, fun k hk hne => (Below.heap_setCell w' ⟨g, i, none⟩ u k (fun e => hne (by rw [e]))).trans (h.block k hk hne)⟩

def swapAt (d : List Nat) (j : Nat) : List Nat := (d.set (j + 1) (d.getD j 0)).set j (d.getD (j + 1) 0)
def sink (K : Nat → Int) : Nat → List Nat → List Nat
  | 0, d => d
  | j + 1, d => if K (d.getD (j + 1) 0) < K (d.getD j 0) then sink K j (swapAt d j) else d
def sortTo (K : Nat → Int) (d : List Nat) : Nat → List Nat
  | 0 => d
  | i + 1 => sink K i (sortTo K d i)
theorem swapAt_len (d : List Nat) (j : Nat) : (swapAt d j).length = d.length := by simp [swapAt]
theorem swapAt_mem {d : List Nat} {j M : Nat} (hj : j + 1 < d.length) (h : ∀ x ∈ d, x < M) : ∀ x ∈ swapAt d j, x < M := by
  intro x hx
  unfold swapAt at hx
  have g1 : d.getD j 0 < M := by rw [List.getD_eq_getElem?_getD, List.getElem?_eq_getElem (by omega)]; exact h _ (List.getElem_mem _)
  have g2 : d.getD (j + 1) 0 < M := by rw [List.getD_eq_getElem?_getD, List.getElem?_eq_getElem hj]; exact h _ (List.getElem_mem _)
  rcases List.mem_or_eq_of_mem_set hx with h1 | h1
  · rcases List.mem_or_eq_of_mem_set h1 with h2 | h2
    · exact h x h2
    · omega
  · omega
theorem sink_ok (K : Nat → Int) (M : Nat) : ∀ (j : Nat) (d : List Nat), j < d.length → (∀ x ∈ d, x < M) → (sink K j d).length = d.length ∧ ∀ x ∈ sink K j d, x < M
  | 0, d, _, h => ⟨rfl, h⟩
  | j + 1, d, hj, h => by
      unfold sink
      split
      · have := sink_ok K M j (swapAt d j) (by rw [swapAt_len]; omega) (swapAt_mem hj h)
        rw [swapAt_len] at this
        exact this
      · exact ⟨rfl, h⟩
theorem sortTo_ok (K : Nat → Int) (M : Nat) (d : List Nat) (h : ∀ x ∈ d, x < M) : ∀ i, i ≤ d.length → (sortTo K d i).length = d.length ∧ ∀ x ∈ sortTo K d i, x < M
  | 0, _ => ⟨rfl, h⟩
  | i + 1, hi => by
      obtain ⟨h1, h2⟩ := sortTo_ok K M d h i (by omega)
      have := sink_ok K M i (sortTo K d i) (by omega) h2
      rw [h1] at this
      exact this

set_option maxHeartbeats 4000000 in
set_option maxRecDepth 100000 in
theorem insertion_any (bx g c B M : Nat) (d : List Nat) (K : Nat → Int) (w : World) (hd : DRow w g d) (hBg : B ≤ g) (hn : d.length ≤ 1000) (hM : ∀ x ∈ d, x < M)
    (hcmp : ∀ i j wx, i < M → j < M → Below B w wx → Calls Tryz.prog 89 #[.int .i64 (i : Int), .int .i64 (j : Int), .pointer (some ⟨bx, 0, none⟩)] wx fun e w' => e = .returned (.int .i64 (cmp3 (K i) (K j))) ∧ ∃ m, w' = wx.drewN m) :
    Calls Tryz.prog 170 #[.slice (some ⟨g, 0, none⟩) d.length c, .int .i64 0, .int .i64 (d.length : Int), .func (.func 89) #[] #[.pointer (some ⟨bx, 0, none⟩)]] w fun e w' => (∃ v, e = .returned v) ∧ DRow w' g (sortTo K d d.length) ∧ w.grownBy w' (some g) := by
  have HC := Lib.hid hcmp
  have HM := Lib.hid hM
  have HSO := Lib.hid (sortTo_ok K M d hM)
  clear hcmp hM
  obtain ⟨n, hn2⟩ : ∃ n, d.length = n := ⟨_, rfl⟩
  rw [hn2] at HSO hn ⊢
  clear hn2
  have hg0 : w.grownBy w (some g) := ⟨rfl, rfl, rfl, Nat.le_refl _, fun _ _ _ => rfl⟩
  go_enter Tryz.func170, Tryz.ntmps170
  go_wp2_with fail
  go_loopw [8] (fun i wr => ∃ k : Nat, 1 ≤ k ∧ (k ≤ n ∨ k = 1) ∧ i = .int .i64 (k : Int) ∧ DRow wr g (sortTo K d k) ∧ w.grownBy wr (some g)) (fun i _ => n - (intOf i).toNat)
  case atStart => exact ⟨1, Nat.le_refl _, .inr rfl, rfl, hd, hg0⟩
  case round =>
    obtain ⟨k, hk1, hk2, rfl, hrow, hgr⟩ := hrel
    by_cases hlt : k < n
    · have hkk : (k : Int) < (n : Int) := by omega
      obtain ⟨hl0, hm0⟩ := HSO.out k (by omega)
      have HR := Lib.hid (show sortTo K d (k + 1) = sink K k (sortTo K d k) from rfl)
      generalize sortTo K d k = d0 at *
      go_wp2_with fail
      go_loopw [9] (fun i wz => ∃ (j : Nat) (d1 : List Nat), j ≤ k ∧ i = .int .i64 (j : Int) ∧ DRow wz g d1 ∧ d1.length = n ∧ (∀ x ∈ d1, x < M) ∧ sink K j d1 = sortTo K d (k + 1) ∧ w.grownBy wz (some g)) (fun i _ => (intOf i).toNat)
      case atStart => exact ⟨k, d0, Nat.le_refl _, rfl, hrow, hl0, hm0, HR.out.symm, hgr⟩
      case round =>
        obtain ⟨j, d1, hj, rfl, hrow, hl1, hm1, hs, hgr⟩ := hrel
        have HS := Lib.hid hs
        have HM1 := Lib.hid hm1
        clear hs hm1
        cases j with
        | zero =>
          have HS2 := Lib.hid (show d1 = sortTo K d (k + 1) from HS.out)
          go_wp2_with fail
          go_quiet (fail)
          go_wp2_with fail
          go_roundw
          case rel => exact ⟨k + 1, by omega, by omega, by go_num, by rw [← HS2.out]; exact hrow.drewN _, grown_drewN hgr _⟩
          case measure => simp [intOf]; omega
        | succ i =>
          have ebw : Below B w wr := (Below.refl B w).grown hgr (by have := hd.lt; omega) (fun k hk => by cases hk; exact hBg)
          have m1 := hrow.cell (i + 1) (by omega)
          have m2 := hrow.cell i (by omega)
          have f1 := hrow.free (i + 1)
          have f2 := hrow.free i
          have hx : d1.getD (i + 1) 0 < M := by rw [List.getD_eq_getElem?_getD, List.getElem?_eq_getElem (by omega)]; exact HM1.out _ (List.getElem_mem _)
          have hy : d1.getD i 0 < M := by rw [List.getD_eq_getElem?_getD, List.getElem?_eq_getElem (by omega)]; exact HM1.out _ (List.getElem_mem _)
          have hq : ∀ m, Calls Tryz.prog 89 #[.int .i64 ((d1.getD (i + 1) 0 : Nat) : Int), .int .i64 ((d1.getD i 0 : Nat) : Int), .pointer (some ⟨bx, 0, none⟩)] (wr.drewN m) fun e w' => e = .returned (.int .i64 (cmp3 (K (d1.getD (i + 1) 0)) (K (d1.getD i 0)))) ∧ ∃ m', w' = wr.drewN m' := fun m =>
            (HC.out _ _ (wr.drewN m) hx hy (below_drewN ebw _)).mono fun _ _ ⟨h1, m2, h2⟩ => ⟨h1, m + m2, by rw [h2]; simp [World.drewN, Nat.add_assoc]⟩
          have HS3 := Lib.hid (show sink K (i + 1) d1 = if K (d1.getD (i + 1) 0) < K (d1.getD i 0) then sink K i (swapAt d1 i) else d1 from rfl)
          have HSW := Lib.hid (show swapAt d1 i = (d1.set (i + 1) (d1.getD i 0)).set i (d1.getD (i + 1) 0) from rfl)
          have HSM := Lib.hid (swapAt_mem (j := i) (show i + 1 < d1.length by omega) HM1.out)
          generalize d1.getD (i + 1) 0 = x at *
          generalize d1.getD i 0 = y at *
          have q1 : IntKind.i64.wrap ((i : Int) + 1 - 1) = (i : Int) := by rw [IntWalk.i64_in _ (by omega)]; omega
          have q3 : (0 : Int) < (i : Int) + 1 := by omega
          have q4 : (i : Int) < (n : Int) := by omega
          have q5 : (i : Int) + 1 < (n : Int) := by omega
          have HQ := Lib.hid hq
          clear hq
          by_cases hlt2 : K x < K y
          · rw [if_pos hlt2] at HS3
            have hc3 : cmp3 (K x) (K y) = -1 := by unfold cmp3; rw [if_pos hlt2]
            rw [hc3] at HQ
            go_wp2_with fail
            go_quiet (first | (refine HQ.out _))
            go_wp2_with fail
            have m1' : (wr.drewN nq).cell? ⟨g, i + 1, none⟩ = some (.int .i64 (x : Int)) := m1
            have m2' : (wr.drewN nq).cell? ⟨g, i, none⟩ = some (.int .i64 (y : Int)) := m2
            have f1' : (wr.drewN nq).frozen? ⟨g, i + 1, none⟩ = false := f1
            have f2' : (wr.drewN nq).frozen? ⟨g, i, none⟩ = false := f2
            have hr5 : DRow (wr.drewN nq) g d1 := hrow.drewN nq
            have hg5 := grown_drewN hgr nq
            clear m1 m2 f1 f2 hrow hgr ebw HQ
            generalize wr.drewN nq = W5 at *
            go_region
            go_wp2_with fail
            go_roundw
            case rel => exact ⟨i, swapAt d1 i, by omega, by go_num, by rw [HSW.out]; exact ((hr5.set).set).drewN 1, by rw [swapAt_len]; exact hl1, HSM.out, by rw [← HS3.out]; exact HS.out, grown_drew (grown_set (grown_set hg5 _) _)⟩
            case measure => simp [intOf]
          · rw [if_neg hlt2] at HS3
            have hc3 : 0 ≤ cmp3 (K x) (K y) := by unfold cmp3; rw [if_neg hlt2]; split <;> omega
            generalize cmp3 (K x) (K y) = cc at *
            have hcd : decide (cc < 0) = false := decide_eq_false (by omega)
            have HS2 := Lib.hid (show d1 = sortTo K d (k + 1) from HS3.out ▸ HS.out)
            go_wp2_with fail
            go_quiet (first | (refine HQ.out _))
            go_wp2_with fail
            go_roundw
            case rel => exact ⟨k + 1, by omega, by omega, by go_num, by rw [← HS2.out]; exact hrow.drewN _, grown_drewN hgr _⟩
            case measure => simp [intOf]; omega
    · have hkn : ¬ (k : Int) < (n : Int) := by omega
      have HE := Lib.hid (show sortTo K d k = sortTo K d n by
        rcases hk2 with h | h
        · rw [show k = n by omega]
        · subst h
          cases n with
          | zero => rfl
          | succ m => rw [show m = 0 by omega])
      go_wp2_with fail
      go_end0
      exact ⟨⟨_, rfl⟩, by rw [← HE.out]; exact hrow, hgr⟩
end Go.Proofs.YtbldpojkpmafpaaGreatDoor

/- slices.SortStableFunc by the lows of extents, at fewer than 20 elements; slices.IndexFunc with the tracks' test. -/
namespace Go.Proofs.YtbldpojkpmafpaaGreatDoor
open Go.RowKit

def ByLow (bx B M : Nat) (K : Nat → Int) (w : World) : Prop :=
  ∀ i j wx, i < M → j < M → Below B w wx → Calls Tryz.prog 89 #[.int .i64 (i : Int), .int .i64 (j : Int), .pointer (some ⟨bx, 0, none⟩)] wx fun e w' => e = .returned (.int .i64 (cmp3 (K i) (K j))) ∧ ∃ m, w' = wx.drewN m
set_option maxRecDepth 100000 in
theorem stable_any (bx g c B M : Nat) (d : List Nat) (K : Nat → Int) (w : World) (hd : DRow w g d) (hBg : B ≤ g) (hn : d.length < 20) (hM : ∀ x ∈ d, x < M) (hcmp : ByLow bx B M K w) :
    Calls Tryz.prog 131 #[.slice (some ⟨g, 0, none⟩) d.length c, .int .i64 (d.length : Int), .func (.func 89) #[] #[.pointer (some ⟨bx, 0, none⟩)]] w fun e w' => (∃ v, e = .returned v) ∧ DRow w' g (sortTo K d d.length) ∧ w.grownBy w' (some g) := by
  have HI := Lib.hid (insertion_any bx g c B M d K w hd hBg (by omega) hM hcmp)
  have h20 : ¬ (20 : Int) ≤ (d.length : Int) := by omega
  have h21 : ¬ (20 : Int) < (d.length : Int) := by omega
  clear hcmp hM hd
  go_enter Tryz.func131, Tryz.ntmps131
  go_wp2_with fail
  refine wp_loop_rounds 1 ?_
  rw [rounds_succ]
  go_wp2_with fail
  refine HI.out.mono ?_
  rintro e w1 ⟨⟨v, rfl⟩, hd1, hg1⟩
  go_wp2_with fail
  refine wp_loop_rounds 1 ?_
  rw [rounds_succ]
  go_wp2_with fail
  go_end0
  exact ⟨⟨_, rfl⟩, hd1, hg1⟩
set_option maxRecDepth 100000 in
theorem SortStable_any (bx g c B M : Nat) (d : List Nat) (K : Nat → Int) (w : World) (hd : DRow w g d) (hBg : B ≤ g) (hn : d.length < 20) (hM : ∀ x ∈ d, x < M) (hcmp : ByLow bx B M K w) :
    Calls Tryz.prog 88 #[.slice (some ⟨g, 0, none⟩) d.length c, .func (.func 89) #[] #[.pointer (some ⟨bx, 0, none⟩)]] w fun e w' => (∃ v, e = .returned v) ∧ DRow w' g (sortTo K d d.length) ∧ w.grownBy w' (some g) := by
  have HI := Lib.hid (stable_any bx g c B M d K w hd hBg hn hM hcmp)
  clear hcmp hM hd
  go_enter Tryz.func88, Tryz.ntmps88
  go_wp2_with fail
  refine HI.out.mono ?_
  rintro e w1 ⟨⟨v, rfl⟩, hd1, hg1⟩
  go_wp2_with fail
  go_end0
  exact ⟨⟨_, rfl⟩, hd1, hg1⟩

def freeFrom (lo : Int) (k : Nat) : List Int → Int
  | [] => -1
  | e :: r => if e < lo then (k : Int) else freeFrom lo (k + 1) r
theorem ends_any (bx : Nat) (e lo : Int) (w : World) (hb : w.cell? ⟨bx, 0, none⟩ = some (.int .i64 lo)) :
    Calls Tryz.prog 92 #[.int .i64 e, .pointer (some ⟨bx, 0, none⟩)] w fun e' w' => e' = .returned (.bool (decide (e < lo))) ∧ w = w' := by
  go_enter Tryz.func92, Tryz.ntmps92
  go_wp2_with fail
  go_ret
  exact ⟨rfl, rfl⟩
set_option maxRecDepth 100000 in
theorem IndexFunc_any (A : Option Addr) (c B bx : Nat) (lo : Int) (es : List Int) (w : World) (hl : es.length ≤ 1000000) (h : Row w B A (es.map (Value.int .i64))) (hb : w.cell? ⟨bx, 0, none⟩ = some (.int .i64 lo)) :
    Calls Tryz.prog 91 #[.slice A es.length c, .func (.func 92) #[] #[.pointer (some ⟨bx, 0, none⟩)]] w fun e w' => e = .returned (.int .i64 (freeFrom lo 0 es)) ∧ w = w' := by
  have H := Lib.hid h
  clear h
  obtain ⟨r, hr⟩ : ∃ r, freeFrom lo 0 es = r := ⟨_, rfl⟩
  rw [hr]
  have HR := Lib.hid hr
  clear hr
  go_enter Tryz.func91, Tryz.ntmps91
  go_wp2_with fail
  go_loop [8] (fun i => ∃ k : Nat, k ≤ es.length ∧ i = .int .i64 k ∧ freeFrom lo k (es.drop k) = r) (fun i => es.length - (intOf i).toNat)
  case atStart => exact ⟨0, Nat.zero_le _, rfl, HR.out⟩
  case round =>
    obtain ⟨k, hk, rfl, hpre⟩ := hrel
    have HP := Lib.hid hpre
    clear hpre
    by_cases hlt : k < es.length
    · obtain ⟨b, off, x, rfl, hbB, hx, hc⟩ := H.out.int k hlt
      have hd : es.drop k = x :: es.drop (k + 1) := by
        rw [List.drop_eq_getElem_cons hlt]
        rw [List.getElem?_eq_getElem hlt] at hx
        rw [Option.some.inj hx]
      have hp := HP.out
      rw [hd] at hp
      unfold freeFrom at hp
      have he := ends_any bx x lo w hb
      clear hx hd
      by_cases hz : x < lo
      · rw [if_pos hz] at hp
        rw [decide_eq_true hz] at he
        have HN := Lib.hid hp
        have HE := Lib.hid he
        clear hp he HP
        go_wp2_with (refine HE.out.mono ?_; rintro e w' ⟨rfl, rfl⟩)
        go_ret
        exact ⟨ret_i64 HN.out, rfl⟩
      · rw [if_neg hz] at hp
        rw [decide_eq_false hz] at he
        have HN := Lib.hid hp
        have HE := Lib.hid he
        clear hp he HP
        go_wp2_with (refine HE.out.mono ?_; rintro e w' ⟨rfl, rfl⟩)
        go_round
        case rel => exact ⟨k + 1, by omega, by go_num, HN.out⟩
        case measure => simp [intOf]; omega
    · obtain rfl : k = es.length := by omega
      have HN := Lib.hid (show (-1 : Int) = r by rw [← HP.out, List.drop_length]; rfl)
      go_wp2_with fail
      go_ret
      exact ⟨ret_i64 HN.out, rfl⟩
end Go.Proofs.YtbldpojkpmafpaaGreatDoor

/- Package bus: the tracks of nets that stand in an order (from 1 to 19 nets). -/
namespace Go.Proofs.YtbldpojkpmafpaaGreatDoor
open Go.RowKit

def lowAt (xs : List (Int × Int)) (i : Nat) : Int := (xs.getD i (0, 0)).1
def trackStep (xs : List (Int × Int)) (s : List Int × List Nat) (i : Nat) : List Int × List Nat :=
  let x := xs.getD i (0, 0)
  let t := freeFrom x.1 0 s.1
  if t < 0 then (s.1 ++ [x.2], s.2.set i s.1.length) else (s.1.set t.toNat x.2, s.2.set i t.toNat)
def tracksOf (xs : List (Int × Int)) : List Int × List Nat := (sortTo (lowAt xs) (List.range xs.length) xs.length).foldl (trackStep xs) ([], List.replicate xs.length 0)

theorem own_drow {w : World} {base n : Nat} {e : TypeId} {v : Value} {d : List Nat} (h : w.ownsRow base e 1 v n (d.map fun x => Value.int .i64 ((x : Nat) : Int))) (hn : 0 < n) :
    ∃ g c, v = .slice (some ⟨g, 0, none⟩) n c ∧ base ≤ g ∧ d.length = n ∧ DRow w g d := by
  have hlen := h.1
  rw [List.length_map, Nat.mul_one] at hlen
  have hcs := @World.ownsRow.cells _ _ _ _ _ _ _ h
  rcases h.2 with ⟨_, h2⟩ | ⟨g, cap, cur, h1, h2, h3, h4⟩
  · omega
  · refine ⟨g, cap, h1, h2, hlen, fun i hi => ?_, fun i => ?_, (Array.getElem?_eq_some_iff.1 h3).1⟩
    · have := hcs (g := g) (by rw [h1]; rfl) i (.int .i64 ((d[i] : Nat) : Int)) (by rw [List.getElem?_map, List.getElem?_eq_getElem hi]; rfl)
      have e : (⟨g, 0, none⟩ : Addr).add i = ⟨g, i, none⟩ := by
        rcases Nat.eq_zero_or_pos i with rfl | hp
        · rfl
        · simp [Addr.add]; omega
      rw [e] at this
      rw [this, List.getD_eq_getElem?_getD, List.getElem?_eq_getElem hi]; rfl
    · simp [World.frozen?, h3]
theorem range_snoc (k : Nat) : (List.range (k + 1)).map (fun x => Value.int .i64 ((x : Nat) : Int)) = (List.range k).map (fun x => Value.int .i64 ((x : Nat) : Int)) ++ [.int .i64 (k : Int)] := by
  rw [List.range_succ]; simp
theorem DRow.block {w w' : World} {g : Nat} {d : List Nat} (h : DRow w g d) (hb : w'.heap[g]? = w.heap[g]?) (hs : w.heap.size ≤ w'.heap.size) : DRow w' g d :=
  ⟨fun i hi => (World.cell?_of_block (a := ⟨g, i, none⟩) hb).trans (h.cell i hi), fun i => (World.frozen?_of_block (a := ⟨g, i, none⟩) hb).trans (h.free i), by have := h.lt; omega⟩

theorem made_zero (n : Nat) : (madeCells #[.int .i64 0] n).toList = (List.replicate n 0).map fun x => Value.int .i64 ((x : Nat) : Int) := by
  apply List.ext_getElem
  · simp [madeCells]
  · intro i h1 h2
    simp [madeCells, Nat.mod_one]
theorem own_store {w : World} {base g n c i : Nat} {e : TypeId} {d : List Int} {x : Int} (h : w.ownsRow base e 1 (.slice (some ⟨g, 0, none⟩) n c) n (d.map (Value.int .i64))) (_ : i < n) :
    (w.setCell ⟨g, i, none⟩ (.int .i64 x)).ownsRow base e 1 (.slice (some ⟨g, 0, none⟩) n c) n ((d.set i x).map (Value.int .i64)) := by
  refine ⟨by have := h.1; simpa using this, ?_⟩
  rcases h.2 with ⟨h1, _⟩ | ⟨b, cap, cur, h1, h2, h3, h4, h5, h6, h7⟩
  · cases h1
  · injection h1 with h1 _ h8
    injection h1 with h1
    injection h1 with h1
    subst h1; subst h8
    refine .inr ⟨g, c, cur.setIfInBounds i (.int .i64 x), rfl, h2, ?_, h4, h5, by rw [Array.size_setIfInBounds]; exact h6, ?_⟩
    · simp [World.setCell, Array.getElem?_modify, h3]
    · rw [Array.toList_setIfInBounds, List.take_set, h7, List.map_set]
theorem own_free {w : World} {base g n c : Nat} {e : TypeId} {vs : List Value} (h : w.ownsRow base e 1 (.slice (some ⟨g, 0, none⟩) n c) n vs) (i : Nat) : w.frozen? ⟨g, i, none⟩ = false := by
  rcases h.2 with ⟨h1, _⟩ | ⟨b, cap, cur, h1, h2, h3, _⟩
  · cases h1
  · injection h1 with h1
    injection h1 with h1
    injection h1 with h1
    subst h1
    simp [World.frozen?, h3]
theorem grow_alloc {w w' : World} {r : Option Nat} (h : w.grownBy w' r) (o : Obj) : w.grownBy (w'.alloc o) r :=
  ⟨h.os, h.tape, h.output, by have := h.size; simp; omega, fun k hk hne => (Below.heap_alloc w' o k (by have := h.size; omega)).trans (h.block k hk hne)⟩
theorem grow_grow {w w' w'' : World} {r row : Option Nat} (h : w.grownBy w' r) (h2 : w'.grownBy w'' row) (hr : ∀ b, row = some b → w.heap.size ≤ b) : w.grownBy w'' r :=
  ⟨h2.os.trans h.os, h2.tape.trans h.tape, h2.output.trans h.output, Nat.le_trans h.size h2.size, fun k hk hne => (h2.block k (Nat.lt_of_lt_of_le hk h.size) (fun e => by have := hr k e.symm; omega)).trans (h.block k hk hne)⟩
theorem grow_set {w w' : World} {r : Option Nat} {g i : Nat} (h : w.grownBy w' r) (hg : w.heap.size ≤ g ∨ r = some g) (u : Value) : w.grownBy (w'.setCell ⟨g, i, none⟩ u) r :=
  ⟨h.os, h.tape, h.output, by simpa using h.size, fun k hk hne => (Below.heap_setCell w' ⟨g, i, none⟩ u k (fun e => by
    have e' : k = g := e
    rcases hg with h1 | h1
    · omega
    · exact hne (by rw [h1, e']))).trans (h.block k hk hne)⟩
theorem DRow.far {w : World} {g b i : Nat} {d : List Nat} {u : Value} (h : DRow w g d) (hb : g ≠ b) : DRow (w.setCell ⟨b, i, none⟩ u) g d := h.block (Below.heap_setCell w ⟨b, i, none⟩ u g hb) (by simp)
theorem own_cell {w : World} {base g n c : Nat} {e : TypeId} {vs : List Value} (h : w.ownsRow base e 1 (.slice (some ⟨g, 0, none⟩) n c) n vs) (i : Nat) (u : Value) (hu : vs[i]? = some u) : w.cell? ⟨g, i, none⟩ = some u := by
  have := h.cells (g := g) rfl i u hu
  have e : (⟨g, 0, none⟩ : Addr).add i = ⟨g, i, none⟩ := by
    rcases Nat.eq_zero_or_pos i with rfl | hp
    · rfl
    · simp [Addr.add]; omega
  rwa [e] at this
theorem own_some {w : World} {base n : Nat} {e : TypeId} {v : Value} {vs : List Value} (h : w.ownsRow base e 1 v n vs) (hn : 0 < n) : ∃ g c, v = .slice (some ⟨g, 0, none⟩) n c ∧ base ≤ g ∧ g < w.heap.size := by
  rcases h.2 with ⟨_, h2⟩ | ⟨g, cap, cur, h1, h2, h3, _⟩
  · omega
  · exact ⟨g, cap, h1, h2, (Array.getElem?_eq_some_iff.1 h3).1⟩
theorem freeFrom_lt (lo : Int) : ∀ (le : List Int) (k : Nat), freeFrom lo k le < 0 ∨ (k : Int) ≤ freeFrom lo k le ∧ freeFrom lo k le < k + le.length
  | [], k => by simp [freeFrom]
  | e :: r, k => by
      unfold freeFrom
      split
      · right; simp; omega
      · rcases freeFrom_lt lo r (k + 1) with h | h
        · exact .inl h
        · right; simp at h ⊢; omega

set_option maxHeartbeats 4000000 in
set_option maxRecDepth 100000 in
theorem tracks_any (g : Nat) (F : Nat → Int) (A An : Option Addr) (c cn B : Nat) (xs : List (Int × Int)) (w : World) (h : RowAt w g (.slice An xs.length cn) F (.slice A xs.length c)) (hr : Row w B A (xcells xs)) (hB : B ≤ w.heap.size)
    (hn0 : 0 < xs.length) (hn : xs.length < 20) :
    Calls Tryz.prog 43 #[.pointer (some ⟨g, 0, none⟩)] w fun e w' => ∃ (Ao : Option Addr) (co : Nat), e = .returned (.tuple #[.slice Ao xs.length co, .int .i64 ((tracksOf xs).1.length : Int)]) ∧
      Row w' w'.heap.size Ao ((tracksOf xs).2.map fun x => Value.int .i64 ((x : Nat) : Int)) ∧ Below w.heap.size w w' ∧ (∀ b off, Ao = some ⟨b, off, none⟩ → w.heap.size ≤ b) ∧ xs.length ≤ co := by
  have hgl := h.lt
  obtain ⟨i0, hi0, iz0, iz1, iz2⟩ := info_parts Tryz.info3
  obtain ⟨n, hnx⟩ : ∃ n, xs.length = n := ⟨_, rfl⟩
  have HNX := Lib.hid hnx
  have HG := Lib.hid h
  have HR := Lib.hid hr
  rw [hnx] at hn0 hn
  have hnets : w.cell? ⟨g, 0, none⟩ = some (.slice An n cn) := by rw [← hnx]; exact h.nets
  rw [hnx]
  clear h hr hnx
  go_enter Tryz.func43, Tryz.ntmps43
  go_wp2_with fail
  obtain ⟨W0, hW0⟩ : ∃ W, w.alloc (.cells #[.pointer (some ⟨g, 0, none⟩)] 73) = W := ⟨_, rfl⟩
  obtain ⟨bx, hbx⟩ : ∃ bx, w.heap.size = bx := ⟨_, rfl⟩
  have d0 : Blk W0 bx 73 #[.pointer (some ⟨g, 0, none⟩)] := by rw [← hW0, ← hbx]; exact Blk.new _ _ _
  have e0 : Below w.heap.size w W0 := by rw [← hW0]; exact (Below.refl _ w).alloc (Nat.le_refl _) _
  have hs0 : W0.heap.size = bx + 1 := by rw [← hW0, ← hbx]; simp
  have hb0 : W0.cell? ⟨bx, 0, none⟩ = some (.pointer (some ⟨g, 0, none⟩)) := d0.cell 0
  have hn00 : W0.cell? ⟨g, 0, none⟩ = some (.slice An n cn) := (e0.cell (p := ⟨g, 0, none⟩) hgl).trans hnets
  try rw [hW0]
  try rw [hbx]
  clear hW0
  go_loopw [4, 17] (fun v i wr => ∃ k : Nat, k ≤ n ∧ i = .int .i64 k ∧ wr.ownsRow (bx + 1) 3 1 v k ((List.range k).map fun x => Value.int .i64 ((x : Nat) : Int)) ∧ Below (bx + 1) W0 wr) (fun _ i _ => n - (intOf i).toNat)
  case atStart => exact ⟨0, Nat.zero_le _, rfl, World.ownsRow_nil _ _ _ _, Below.refl _ _⟩
  case round =>
    obtain ⟨k, hk, rfl, hown, eb⟩ := hrel
    have hsz := eb.size
    by_cases hlt : k < n
    · have hkn : (k : Int) < (n : Int) := by omega
      go_wp2_with (at_builtin; refine wpList_append_own_at _ rfl (.tmp 20) (.tmp 22) 24 rfl (bx + 1) 3 i0 (.int .i64 0) 1 8 Tryz.underlying24 hi0 iz0 iz1 iz2 rfl (by decide) _ _ _ rfl (hown.alloc _) ⟨_, 0, none⟩ 1 1 [.int .i64 (k : Int)] rfl rfl (cell_one_new _ _ _) ?hone ?c3 ?c4 ?c5 ?_)
      case hone => intro u hu; simp at hu; subst hu; rfl
      case c3 => unfold maxLen; omega
      case c4 => omega
      case c5 => simp; omega
      intro v' w4 hown4 hgrow4 _ hat
      have eb4 : Below (bx + 1) W0 w4 := below_grown eb (by omega) hown hgrow4
      have HRS := Lib.hid (range_snoc k)
      clear hgrow4 hat hown eb
      go_wp2_with fail
      go_roundw
      case rel => exact ⟨k + 1, by omega, by go_num, by rw [HRS.out]; exact hown4, eb4⟩
      case measure => simp [intOf]; omega
    · obtain rfl : k = n := by omega
      have hkn : ¬ (k : Int) < (k : Int) := by omega
      obtain ⟨gb, cb, rfl, hgb, hdl, hdr⟩ := own_drow hown hn0
      have e1 : Below w.heap.size w wr := e0.trans (eb.mono (by omega))
      have hBL : ByLow bx (bx + 1) k (lowAt xs) wr := by
        intro i j wx hi hj hbx'
        have ew : Below w.heap.size w wx := e1.trans (hbx'.mono (by omega))
        have eW : Below (bx + 1) W0 wx := eb.trans hbx'
        exact byLow_any bx g _ F A c B i j xs wx ((eW.cell (p := ⟨bx, 0, none⟩) (by show bx < bx + 1; omega)).trans hb0) (HG.out.block (ew.block g hgl)) (HR.out.below ew hB) (by rw [HNX.out]; exact hi) (by rw [HNX.out]; exact hj)
      have hSS := SortStable_any bx gb cb (bx + 1) k (List.range k) (lowAt xs) wr hdr hgb (by simpa using hn) (fun x hx => List.mem_range.1 hx) hBL
      rw [List.length_range] at hSS
      have HSS := Lib.hid hSS
      clear hSS hBL hown hdr
      go_wp2_with fail
      refine HSS.out.mono ?_
      rintro e w2 ⟨⟨v, rfl⟩, hd2, hg2⟩
      obtain ⟨ds, hds⟩ : ∃ ds, sortTo (lowAt xs) (List.range k) k = ds := ⟨_, rfl⟩
      have hso := sortTo_ok (lowAt xs) k (List.range k) (fun x hx => List.mem_range.1 hx) k (by simp)
      rw [hds] at hd2 hso
      rw [List.length_range] at hso
      have HDS := Lib.hid hds
      obtain ⟨hdl2, hdm⟩ := hso
      have HDM := Lib.hid hdm
      have e2 : Below w.heap.size w w2 := e1.grown hg2 (by have := e1.size; omega) (fun j hj => by cases hj; omega)
      have eW2 : Below (bx + 1) W0 w2 := eb.grown hg2 (by omega) (fun j hj => by cases hj; exact hgb)
      have hn2 : w2.cell? ⟨g, 0, none⟩ = some (.slice An k cn) := (e2.cell (p := ⟨g, 0, none⟩) hgl).trans hnets
      have hb2 : w2.cell? ⟨bx, 0, none⟩ = some (.pointer (some ⟨g, 0, none⟩)) := (eW2.cell (p := ⟨bx, 0, none⟩) (by show bx < bx + 1; omega)).trans hb0
      have hs2 := eW2.size
      clear HSS hds hdm hg2 eb e1 hnets hn00 e0 hb0 d0
      go_wp2_with (at_make; refine wpList_make_full _ rfl (.tmp 32) (.tmp 32) 24 rfl w2.heap.size 3 i0 (.int .i64 0) 1 Tryz.underlying24 hi0 iz0 iz1 .i64 .i64 (k : Int) (k : Int) k rfl rfl rfl rfl ?b2 ?b3 (Nat.le_refl _) ?_)
      case b2 => rw [iz2]; omega
      case b3 => unfold maxLen; omega
      intro W4 hown4 hg4
      rw [made_zero] at hown4
      obtain ⟨G4, hG4⟩ : ∃ G, w2.heap.size = G := ⟨_, rfl⟩
      rw [hG4] at hown4 ⊢
      obtain ⟨g', c', hgo, _, _, hdo⟩ := own_drow hown4 hn0
      have hgo' : g' = G4 := by injection hgo with h1; injection h1 with h1; injection h1 with h1; exact h1.symm
      subst hgo'
      have e4 : Below w.heap.size w W4 := e2.grown hg4 (by have := e2.size; omega) (fun j hj => by cases hj)
      have hd4 : DRow W4 gb ds := hd2.block (hg4.block gb hd2.lt (fun h => by cases h)) hg4.size
      have hb4 : W4.cell? ⟨bx, 0, none⟩ = some (.pointer (some ⟨g, 0, none⟩)) := hg4.cell hb2 (fun h => by cases h)
      have hgb4 : gb < g' := by have := hd2.lt; omega
      have hs4 : g' < W4.heap.size := hdo.lt
      have hbx4 : bx < g' := by omega
      have hgg : g < g' := by omega
      have hww : w.heap.size ≤ g' := by omega
      clear hg4 hown4 hgo hd2 hb2 e2 eW2 hn2 hG4
      go_wp2_with fail
      go_loopw [7, 36] (fun lv i wr => ∃ (j : Nat) (le : List Int) (ou : List Nat), j ≤ k ∧ i = .int .i64 (j : Int) ∧ (ds.take j).foldl (trackStep xs) ([], List.replicate k 0) = (le, ou) ∧ le.length ≤ j ∧ wr.ownsRow W4.heap.size 3 1 lv le.length (le.map (Value.int .i64)) ∧ DRow wr g' ou ∧ ou.length = k ∧ W4.grownBy wr (some g')) (fun _ i _ => k - (intOf i).toNat)
      case atStart => exact ⟨0, [], List.replicate k 0, Nat.zero_le _, rfl, rfl, Nat.le_refl _, World.ownsRow_nil _ _ _ _, hdo, by simp, ⟨rfl, rfl, rfl, Nat.le_refl _, fun _ _ _ => rfl⟩⟩
      case round =>
        obtain ⟨j, le, ou, hj, rfl, hfold, hle, hown, hdou, hol, hgr⟩ := hrel
        have HFO := Lib.hid hfold
        clear hfold
        have ew : Below w.heap.size w wr := e4.grown hgr (by omega) (fun j hj => by cases hj; exact hww)
        by_cases hlt : j < k
        · have hdj := (hd4.block (hgr.block gb (by omega) (fun h => by injection h with h; omega)) hgr.size).cell j (by omega)
          have hbw := hgr.cell hb4 (fun h => by injection h with h; have h' : bx = g' := h; omega)
          have hiiM := HDM.out (ds.getD j 0) (by rw [List.getD_eq_getElem?_getD, List.getElem?_eq_getElem (by omega)]; exact List.getElem_mem _)
          have HSTEP := Lib.hid (show (ds.take (j + 1)).foldl (trackStep xs) ([], List.replicate k 0) = trackStep xs (le, ou) (ds.getD j 0) by
            rw [List.take_add_one, List.getElem?_eq_getElem (by omega), Option.toList_some, List.foldl_append, HFO.out, List.getD_eq_getElem?_getD, List.getElem?_eq_getElem (by omega)]; rfl)
          generalize ds.getD j 0 = ii at *
          have x98 := (HG.out.block (ew.block g hgl)).ext
          obtain ⟨b, off, x, y, hA, hbB, hx, hc1, hc2⟩ := (HR.out.below ew hB).extent ii (by rw [HNX.out]; exact hiiM)
          subst hA
          have hxs : xs.getD ii (0, 0) = (x, y) := by rw [List.getD_eq_getElem?_getD, hx]; rfl
          have HTS := Lib.hid (show trackStep xs (le, ou) ii = if freeFrom x 0 le < 0 then (le ++ [y], ou.set ii le.length) else (le.set (freeFrom x 0 le).toNat y, ou.set ii (freeFrom x 0 le).toNat) by
            unfold trackStep; rw [hxs])
          rw [HNX.out] at x98
          have hik : (ii : Int) < (k : Int) := by omega
          have hjk : (j : Int) < (k : Int) := by omega
          obtain ⟨Al, cl, rfl, _, hrl⟩ := own_cap hown
          clear hx hxs
          go_wp2_with fail
          generalize hW5 : World.alloc wr _ = W5
          obtain ⟨Gx, hGx⟩ : ∃ G, wr.heap.size = G := ⟨_, rfl⟩
          have d5 : Blk W5 Gx 139 #[.int .i64 x, .int .i64 y] := by rw [← hW5, ← hGx]; exact Blk.new _ _ _
          have hown5 : W5.ownsRow W4.heap.size 3 1 (.slice Al le.length cl) le.length (le.map (Value.int .i64)) := by rw [← hW5]; exact hown.alloc _
          have hrl5 : Row W5 W5.heap.size Al (le.map (Value.int .i64)) := by rw [← hW5]; exact (hrl.alloc (Nat.le_refl _) _).more (by simp)
          have hou5 : DRow W5 g' ou := by rw [← hW5]; exact hdou.block (Below.heap_alloc wr _ g' hdou.lt) (by simp)
          have hgr5 : W4.grownBy W5 (some g') := by rw [← hW5]; exact grow_alloc hgr _
          have hs5 : Gx < W5.heap.size := by rw [← hW5, ← hGx]; simp
          have hGx4 : W4.heap.size ≤ Gx := by have := hgr.size; omega
          have x5 : W5.cell? ⟨Gx, 0, none⟩ = some (.int .i64 x) := d5.cell 0
          have y5 : W5.cell? ⟨Gx, 1, none⟩ = some (.int .i64 y) := d5.cell 1
          have hlown := hown.lt
          try rw [hGx]
          rw [hGx] at hlown
          have HIF := Lib.hid (IndexFunc_any Al cl W5.heap.size Gx x le W5 (by omega) hrl5 x5)
          clear hW5 hGx hown hrl hdou hgr hdj hbw x98 hc1 hc2 ew hrl5
          refine HIF.out.mono ?_
          rintro e w6 ⟨rfl, rfl⟩
          clear HIF
          have hfr := freeFrom_lt x le 0
          generalize freeFrom x 0 le = tv at *
          by_cases htv : tv < 0
          · rw [if_pos htv] at HTS
            have htd : decide (tv < 0) = true := decide_eq_true htv
            go_wp2_with (at_builtin; refine wpList_append_own_at _ rfl (.tmp 54) (.tmp 55) 24 rfl W4.heap.size 3 i0 (.int .i64 0) 1 8 Tryz.underlying24 hi0 iz0 iz1 iz2 rfl (by decide) _ _ _ rfl (hown5.alloc _) ⟨_, 0, none⟩ 1 1 [.int .i64 0] rfl rfl (cell_one_new _ _ _) ?hone ?c3 ?c4 ?c5 ?_)
            case hone => intro u hu; simp at hu; subst hu; rfl
            case c3 => unfold maxLen; omega
            case c4 => omega
            case c5 => simp; omega
            intro v' W6 hown6 hgrow6 _ hat
            have hz : le.map (Value.int .i64) ++ [.int .i64 0] = (le ++ [0]).map (Value.int .i64) := by simp
            rw [hz] at hown6
            obtain ⟨gl, cl2, rfl, hgl4, hglw⟩ := own_some hown6 (by omega)
            have hg6 : W4.grownBy W6 (some g') := grow_grow (grow_alloc hgr5 _) hgrow6 (fun b hb => (hown5.lt b hb).1)
            have hou6 : DRow W6 g' ou := (hou5.block (Below.heap_alloc W5 _ g' hou5.lt) (by simp)).block (hgrow6.block g' (by have := hou5.lt; simp; omega) (fun e => by have := (hown5.lt g' e.symm).1; omega)) hgrow6.size
            have y6 : W6.cell? ⟨Gx, 1, none⟩ = some (.int .i64 y) := hgrow6.cell ((World.cell?_alloc_lt W5 _ ⟨Gx, 1, none⟩ (by show Gx < _; omega)).trans y5) (fun e => by have := (hlown Gx e.symm).2; omega)
            have fl := own_free hown6 le.length
            have fo := hou6.free ii
            have co := hou6.cell ii (by omega)
            have cl1 := own_cell hown6 le.length (.int .i64 0) (by simp)
            have hne : g' ≠ gl := by omega
            have hset : (le ++ [0]).set le.length y = le ++ [y] := by simp
            have ho1 := own_set (g := g') (i := ii) (u := .int .i64 (le.length : Int)) (own_store (i := le.length) (x := y) hown6 (by omega)) (by omega)
            rw [hset] at ho1
            have hd1 := (hou6.far (b := gl) (i := le.length) (u := .int .i64 y) hne).set (i := ii) (x := le.length)
            have hg1 := grow_set (g := g') (i := ii) (grow_set (g := gl) (i := le.length) hg6 (.inl hgl4) (.int .i64 y)) (.inr rfl) (.int .i64 (le.length : Int))
            have hll : (le.length : Int) < (le.length : Int) + 1 := by omega
            clear hou5 hgr5 hown5 hgrow6 hat hown6 hou6 hg6 hz hset
            go_wp2_with fail
            go_roundw
            case rel => exact ⟨j + 1, le ++ [y], ou.set ii le.length, by omega, by go_num, by rw [HSTEP.out, HTS.out], by simp; omega, by rw [List.length_append]; exact ho1, hd1, by rw [List.length_set]; exact hol, hg1⟩
            case measure => simp [intOf]; omega
          · rw [if_neg htv] at HTS
            have htl : 0 ≤ tv ∧ tv < le.length := by omega
            obtain ⟨T, rfl⟩ : ∃ T : Nat, tv = (T : Int) := ⟨tv.toNat, by omega⟩
            rw [Int.toNat_natCast] at HTS
            obtain ⟨gl, cl2, hv, hgl4, hglw⟩ := own_some hown5 (by omega)
            have hAl : Al = some ⟨gl, 0, none⟩ := by injection hv
            subst hAl
            have fl := own_free hown5 T
            have fo := hou5.free ii
            have hTl : (T : Int) < (le.length : Int) := by omega
            have co := hou5.cell ii (by omega)
            have cl1 := own_cell hown5 T (.int .i64 (le[T]'(by omega))) (by rw [List.getElem?_map, List.getElem?_eq_getElem (by omega)]; rfl)
            have hne : g' ≠ gl := by omega
            have ho1 := own_set (g := g') (i := ii) (u := .int .i64 (T : Int)) (own_store (i := T) (x := y) hown5 (by omega)) (by omega)
            have hd1 := (hou5.far (b := gl) (i := T) (u := .int .i64 y) hne).set (i := ii) (x := T)
            have hg1 := grow_set (g := g') (i := ii) (grow_set (g := gl) (i := T) hgr5 (.inl hgl4) (.int .i64 y)) (.inr rfl) (.int .i64 (T : Int))
            clear hou5 hgr5 hown5
            go_wp2_with fail
            go_roundw
            case rel => exact ⟨j + 1, le.set T y, ou.set ii T, by omega, by go_num, by rw [HSTEP.out, HTS.out], by rw [List.length_set]; omega, by rw [List.length_set]; exact ho1, hd1, by rw [List.length_set]; exact hol, hg1⟩
            case measure => simp [intOf]; omega
        · obtain rfl : j = k := by omega
          rw [show ds.take j = ds by rw [← hdl2]; exact List.take_length] at HFO
          have hres : tracksOf xs = (le, ou) := by unfold tracksOf; rw [HNX.out, HDS.out]; exact HFO.out
          obtain ⟨Al, cl, rfl, _, hrl⟩ := own_cap hown
          go_wp2_with fail
          go_ret2
          rw [hres]
          exact ⟨some ⟨g', 0, none⟩, j, rfl, .inr ⟨g', 0, rfl, hdou.lt, fun i hi => by
            rw [List.length_map] at hi
            rw [Nat.zero_add, hdou.cell i hi]
            simp only [List.getD_eq_getElem?_getD, List.getElem?_map, List.getElem?_eq_getElem (show i < ou.length from hi)]; rfl⟩, ew, fun b off h => by injection h with h; injection h with h1 _ _; rw [← h1]; exact hww, Nat.le_refl _⟩

end Go.Proofs.YtbldpojkpmafpaaGreatDoor

/- Package bus: whether nets meet; tracks that are no numbers of tracks. -/
namespace Go.Proofs.YtbldpojkpmafpaaGreatDoor
open Go.RowKit

def meetB (xs : List (Int × Int)) (a b : Nat) : Bool := decide ((xs.getD a (0, 0)).1 ≤ (xs.getD b (0, 0)).2) && decide ((xs.getD b (0, 0)).1 ≤ (xs.getD a (0, 0)).2)
def farB (ts : List Int) : Bool := ts.any fun t => decide (t < 0) || decide (64 ≤ t)
end Go.Proofs.YtbldpojkpmafpaaGreatDoor

/- Package bus: the check of a layout. -/
namespace Go.Proofs.YtbldpojkpmafpaaGreatDoor
open Go.RowKit

def confRow (xs : List (Int × Int)) (ts : List Int) (i : Nat) : Nat → Bool
  | 0 => false
  | k + 1 => confRow xs ts i k || (ts.getD i 0 == ts.getD k 0 && meetB xs i k)
def conf (xs : List (Int × Int)) (ts : List Int) : Nat → Bool
  | 0 => false
  | i + 1 => conf xs ts i || confRow xs ts i i
def layErr (l : List Bus.Net) (n : Int) (order ts : List Int) : Int :=
  if Bus.bothErr l n order ≠ 0 then Bus.bothErr l n order else if ts.length ≠ l.length then 2 else if farB ts = true then 3 else if conf (Bus.exts (Bus.atUp order order.length) l) ts l.length = true then 30 else 0

end Go.Proofs.YtbldpojkpmafpaaGreatDoor

/- Package bus: what the crossings of a layout are, and the function taps. -/
namespace Go.Proofs.YtbldpojkpmafpaaGreatDoor
open Go.RowKit

def crossUp (xs : List (Int × Int)) (ts : List Int) (i : Nat) (p : Int) : Nat → Int
  | 0 => 0
  | k + 1 => crossUp xs ts i p k + if decide (ts.getD k 0 < ts.getD i 0) && covB xs k p then 1 else 0
theorem crossUp_lo (xs : List (Int × Int)) (ts : List Int) (i : Nat) (p : Int) : ∀ k : Nat, 0 ≤ crossUp xs ts i p k ∧ crossUp xs ts i p k ≤ k := by
  intro k
  induction k with
  | zero => exact ⟨Int.le_refl _, Int.le_refl _⟩
  | succ k ih => unfold crossUp; split <;> omega
set_option maxHeartbeats 8000000 in
theorem taps_any (g : Nat) (w : World) :
    Calls Tryz.prog 93 #[.pointer (some ⟨g, 0, none⟩)] w fun e w' => ∃ bx, e = .returned (.func (.func 133) #[] #[.pointer (some ⟨bx, 0, none⟩)]) ∧ w.heap.size ≤ bx ∧ bx < w'.heap.size ∧ w'.cell? ⟨bx, 0, none⟩ = some (.pointer (some ⟨g, 0, none⟩)) ∧ Below w.heap.size w w' := by
  go_enter Tryz.func93, Tryz.ntmps93
  go_wp2_with fail
  generalize hW0 : World.alloc w _ = W0
  have d0 : Blk W0 w.heap.size 73 #[.pointer (some ⟨g, 0, none⟩)] := by rw [← hW0]; exact Blk.new _ _ _
  have e0 : Below w.heap.size w W0 := by rw [← hW0]; exact (Below.refl _ w).alloc (Nat.le_refl _) _
  go_ret
  exact ⟨w.heap.size, rfl, Nat.le_refl _, d0.lt, d0.cell 0, e0⟩
end Go.Proofs.YtbldpojkpmafpaaGreatDoor

/- Package bus: the function that taps() gives: what it does for every loop body. -/
namespace Go.Proofs.YtbldpojkpmafpaaGreatDoor
open Go.RowKit Go.Shelf
attribute [local go_sem] Oper.semAt_some

def tapFrom (Fp : Nat → Int) : Nat → List (List Int) → List (Nat × Int)
  | _, [] => []
  | i, c :: r => (c.map fun x => (i, Fp x.toNat)) ++ tapFrom Fp (i + 1) r
def cntTo : List (List Int) → Nat → Nat
  | [], _ => 0
  | _ :: _, 0 => 0
  | c :: r, k + 1 => c.length + cntTo r k
theorem cntTo_zero : ∀ (ls : List (List Int)), cntTo ls 0 = 0
  | [] => rfl
  | _ :: _ => rfl
theorem tap_len (Fp : Nat → Int) : ∀ (ls : List (List Int)) (i : Nat), (tapFrom Fp i ls).length = cntTo ls ls.length
  | [], _ => rfl
  | c :: r, i => by
    unfold tapFrom
    rw [List.length_append, List.length_map, tap_len Fp r]
    rfl
theorem cnt_next : ∀ (ls : List (List Int)) (k : Nat), k < ls.length → cntTo ls (k + 1) = cntTo ls k + (ls.getD k []).length
  | [], k, h => by simp at h
  | c :: r, 0, _ => by simp [cntTo, cntTo_zero]
  | c :: r, k + 1, h => by
    have := cnt_next r k (by simpa using h)
    show c.length + cntTo r (k + 1) = c.length + cntTo r k + _
    rw [this]; simp; omega
theorem tap_at (Fp : Nat → Int) : ∀ (ls : List (List Int)) (i k j : Nat), k < ls.length → j < (ls.getD k []).length → (tapFrom Fp i ls).getD (cntTo ls k + j) (0, 0) = (i + k, Fp ((ls.getD k []).getD j 0).toNat)
  | [], i, k, j, h, _ => by simp at h
  | c :: r, i, 0, j, _, hj => by
    have hj : j < c.length := by simpa using hj
    unfold tapFrom
    rw [cntTo_zero, Nat.zero_add, List.getD_eq_getElem?_getD, List.getElem?_append_left (by simpa using hj)]
    simp [List.getElem?_eq_getElem hj]
  | c :: r, i, k + 1, j, h, hj => by
    have ih := tap_at Fp r (i + 1) k j (by simpa using h) (by simpa using hj)
    unfold tapFrom
    have e : cntTo (c :: r) (k + 1) + j = (c.map fun x => (i, Fp x.toNat)).length + (cntTo r k + j) := by simp [cntTo]; omega
    rw [e, List.getD_eq_getElem?_getD, List.getElem?_append_right (Nat.le_add_right _ _), Nat.add_sub_cancel_left, ← List.getD_eq_getElem?_getD, ih]
    simp; omega
theorem range_prefix {a b : Nat} (h : a ≤ b) : List.range a <+: List.range b := by
  obtain ⟨d, rfl⟩ : ∃ d, b = a + d := ⟨b - a, by omega⟩
  rw [List.range_add]
  exact List.prefix_append _ _
theorem cnt_mono (ls : List (List Int)) : ∀ k, k ≤ ls.length → ∀ j, j ≤ k → cntTo ls j ≤ cntTo ls k
  | 0, _, j, hj => by obtain rfl : j = 0 := by omega
                      exact Nat.le_refl _
  | k + 1, hk, j, hj => by
    by_cases e : j = k + 1
    · subst e; exact Nat.le_refl _
    · have := cnt_mono ls k (by omega) j (by omega)
      rw [cnt_next ls k (by omega)]; omega
theorem AbidesFrom.new {β : Type} {B : Nat} {J : β → World → Prop} (h : AbidesFrom B J) {s : β} {W : World} (o : Obj) (hs : J s W) : J s (W.alloc o) :=
  h s W _ none hs (World.grownBy_alloc W o none) (fun r e => by cases e)

def KeepAt (n0 bx : Nat) (W W' : World) : Prop := Below n0 W W' ∧ W'.heap[bx]? = W.heap[bx]?
theorem KeepAt.refl (n0 bx : Nat) (W : World) : KeepAt n0 bx W W := ⟨Below.refl _ _, rfl⟩
theorem KeepAt.trans {n0 bx : Nat} {A B C : World} (h : KeepAt n0 bx A B) (h' : KeepAt n0 bx B C) : KeepAt n0 bx A C := ⟨h.1.trans h'.1, h'.2.trans h.2⟩
theorem KeepAt.new {n0 bx : Nat} {A B : World} (h : KeepAt n0 bx A B) (hn : n0 ≤ A.heap.size) (hb : bx < A.heap.size) (o : Obj) : KeepAt n0 bx A (B.alloc o) :=
  ⟨h.1.alloc (Nat.le_trans hn h.1.size) _, (Below.heap_alloc B o bx (Nat.lt_of_lt_of_le hb h.1.size)).trans h.2⟩

set_option maxRecDepth 100000 in
set_option maxHeartbeats 4000000 in
theorem taps1_in (F : Fence) (n : Nat) (hf : F.fn 133) (hro : F.round = none) (hn : 1 ≤ n) (lp bx n0 g : Nat) (A : Option Addr) (c : Nat) (E : Value) (Fp : Nat → Int) (l : List NetAt) (N : Nat) (J Jx : List Nat → World → Prop) (W : World)
    (hNN : N = cntTo (l.map NetAt.cols) l.length) (hJ : AbidesFrom W.heap.size J)
    (hY : ∀ pre (x : Nat) W1, J pre W1 → pre.length < N → YieldAt F (n - 1) Tryz.prog lp #[.int .i64 (((tapFrom Fp 0 (l.map NetAt.cols)).getD x (0, 0)).1 : Int), .int .i64 ((tapFrom Fp 0 (l.map NetAt.cols)).getD x (0, 0)).2] W1 fun e W' =>
      (e = .returned (.bool true) ∧ J (pre ++ [x]) W' ∧ KeepAt n0 bx W1 W') ∨ (e = .returned (.bool false) ∧ Jx (pre ++ [x]) W'))
    (hbx : W.cell? ⟨bx, 0, none⟩ = some (.pointer (some ⟨g, 0, none⟩))) (hbn : bx < W.heap.size) (hgn : g < n0) (hrow : RowAt W g (.slice A l.length c) Fp E) (hN : NetsIn W n0 A l) (hc97 : ∀ x ∈ l, ∀ c ∈ x.cols, 0 ≤ c ∧ c < 97) (hl : l.length ≤ 1000) (hn0 : n0 ≤ W.heap.size) (h0 : J [] W) :
    CallsIn F n Tryz.prog 133 #[.func (.yield lp) #[] #[], .pointer (some ⟨bx, 0, none⟩)] W fun e W' => (∃ v, e = .returned v) ∧ ((∃ ys, ys = List.range N ∧ J ys W') ∨ (∃ pre, pre <+: List.range N ∧ Jx pre W')) := by
  have HW := Lib.hid (⟨hrow, hN⟩ : RowAt W g (.slice A l.length c) Fp E ∧ NetsIn W n0 A l)
  have HC := Lib.hid hc97
  have HYY := Lib.hid hY
  have HJJ := Lib.hid hJ
  have HNN := Lib.hid hNN
  have x0 := hrow.nets
  clear hY hN hc97 hJ hNN
  refine callsIn_of_wp Tryz.func133 rfl hf ?_ hro
  simp only [Tryz.ntmps133, List.size_toArray, List.length_cons, List.length_nil, Nat.reduceAdd, Nat.reduceSub, Array.replicate_succ, Array.replicate_zero, List.push_toArray, List.append_toArray, List.nil_append, List.cons_append]
  gi_wp2
  gi_loopw [12] (fun i wr => ∃ k : Nat, k ≤ l.length ∧ i = .int .i64 k ∧ J (List.range (cntTo (l.map NetAt.cols) k)) wr ∧ KeepAt n0 bx W wr) (fun i _ => l.length - (intOf i).toNat)
  case atStart => exact ⟨0, Nat.zero_le _, rfl, by rw [cntTo_zero]; exact h0, KeepAt.refl _ _ _⟩
  case round =>
    obtain ⟨k, hk, rfl, hJs, eb⟩ := hrel
    have hsz := eb.1.size
    by_cases hlt : k < l.length
    · obtain ⟨b, off, x, rfl, hbB, hx, hc1, hc2, hrw, hfew, hix, hics⟩ := HW.out.2.net k hlt
      have hk1 := (eb.1.cell (p := ⟨b, off + k * 2, none⟩) (by show b < _; omega)).trans hc1
      have hk2 := (eb.1.cell (p := ⟨b, off + k * 2 + 1, none⟩) (by show b < _; omega)).trans hc2
      have HX := Lib.hid (show (l.map NetAt.cols).getD k [] = x.cols by rw [List.getD_eq_getElem?_getD, List.getElem?_map, hx]; rfl)
      have hin := HC.out x (List.mem_of_getElem? hx)
      clear hx hc1 hc2
      gi_wp2
      generalize hW1 : World.alloc wr _ = W1
      have hJ1 : J (List.range (cntTo (l.map NetAt.cols) k)) W1 := by rw [← hW1]; exact AbidesFrom.new HJJ.out _ hJs
      have eb1 : KeepAt n0 bx W W1 := by rw [← hW1]; exact eb.new hn0 hbn _
      have hsz1 := eb1.1.size
      have hrw1 := Lib.hid hrw
      clear hW1 hJs eb hk1 hk2 hrw
      generalize x.cols = cs at *
      generalize x.loc = loc at *
      generalize x.cap = cap at *
      gi_loopw [20] (fun i wz => ∃ j : Nat, j ≤ cs.length ∧ i = .int .i64 j ∧ J (List.range (cntTo (l.map NetAt.cols) k + j)) wz ∧ KeepAt n0 bx W wz) (fun i _ => cs.length - (intOf i).toNat)
      case atStart => exact ⟨0, Nat.zero_le _, rfl, hJ1, eb1⟩
      case round =>
        obtain ⟨j, hj, rfl, hJz, ez⟩ := hrel
        by_cases hlj : j < cs.length
        · obtain ⟨b2, off2, y, rfl, hbB2, hy, hcy⟩ := hrw1.out.int j hlj
          have hcyw := (ez.1.cell (p := ⟨b2, off2 + j, none⟩) (by show b2 < _; omega)).trans hcy
          obtain ⟨hy0, hy1⟩ := hin y (List.mem_of_getElem? hy)
          obtain ⟨Y, rfl⟩ : ∃ Y : Nat, y = (Y : Int) := ⟨y.toNat, by omega⟩
          have hY : Y < 97 := by omega
          have hY2 : (Y : Int) < 97 := by omega
          have hrowz := HW.out.1.block (ez.1.block g hgn)
          have m1 := hrowz.pos Y hY
          have hbz := (World.cell?_of_block (a := ⟨bx, 0, none⟩) ez.2).trans hbx
          have hcn : cntTo (l.map NetAt.cols) k + j < N := by
            rw [HNN.out]
            have h1 := cnt_mono (l.map NetAt.cols) l.length (by simp) (k + 1) hlt
            rw [cnt_next _ k (by rw [List.length_map]; exact hlt), HX.out] at h1
            omega
          obtain ⟨fn, tmps, assign, body, hy', hR⟩ := HYY.out _ (cntTo (l.map NetAt.cols) k + j) wr hJz (by rw [List.length_range]; exact hcn)
          have ht := tap_at Fp (l.map NetAt.cols) 0 k j (by rw [List.length_map]; exact hlt) (by rw [HX.out]; exact hlj)
          rw [HX.out, List.getD_eq_getElem?_getD (l := cs), hy, Option.getD_some, Int.toNat_natCast, Nat.zero_add] at ht
          rw [ht] at hy'
          dsimp only at hy'
          have e1 : List.range (cntTo (l.map NetAt.cols) k + j) ++ [cntTo (l.map NetAt.cols) k + j] = List.range (cntTo (l.map NetAt.cols) k + (j + 1)) := by rw [← Nat.add_assoc, List.range_succ]
          rw [e1] at hR
          generalize Fp Y = fy at *
          clear ht hy hcy hrowz HYY hY
          gi_wp2
          refine hR.mono ?_
          rintro e W3 (⟨rfl, hJ3, hk3⟩ | ⟨rfl, hJx3⟩)
          · gi_wp2
            go_roundw
            case rel => exact ⟨j + 1, by omega, by go_num, hJ3, ez.trans hk3⟩
            case measure => simp [intOf]; omega
          · gi_wp2
            refine bodyPost_ret (results_none rfl _ _ _) rfl ?_
            exact ⟨⟨_, rfl⟩, .inr ⟨_, range_prefix (by omega), hJx3⟩⟩
        · obtain rfl : j = cs.length := by omega
          gi_wp2
          go_roundw
          case rel => exact ⟨k + 1, by omega, by go_num, by rw [cnt_next _ k (by rw [List.length_map]; exact hlt), HX.out]; exact hJz, ez⟩
          case measure => simp [intOf]; omega
    · obtain rfl : k = l.length := by omega
      gi_wp2
      go_end0
      exact ⟨⟨_, rfl⟩, .inl ⟨_, by rw [HNN.out], hJs⟩⟩
theorem taps_stops (F : Fence) (n : Nat) (hf : F.fn 133) (hro : F.round = none) (hn : 1 ≤ n) (bx n0 g : Nat) (A : Option Addr) (c : Nat) (E : Value) (Fp : Nat → Int) (l : List NetAt) (w : World)
    (hbx : w.cell? ⟨bx, 0, none⟩ = some (.pointer (some ⟨g, 0, none⟩))) (hbn : bx < w.heap.size) (hgn : g < n0) (hrow : RowAt w g (.slice A l.length c) Fp E) (hN : NetsIn w n0 A l) (hc97 : ∀ x ∈ l, ∀ c ∈ x.cols, 0 ≤ c ∧ c < 97) (hl : l.length ≤ 1000) (hn0 : n0 ≤ w.heap.size) :
    SeqStopsK F n Tryz.prog 133 #[.pointer (some ⟨bx, 0, none⟩)] (fun x : Nat => #[.int .i64 (((tapFrom Fp 0 (l.map NetAt.cols)).getD x (0, 0)).1 : Int), .int .i64 ((tapFrom Fp 0 (l.map NetAt.cols)).getD x (0, 0)).2]) (KeepAt n0 bx)
      (fun ys => ys = List.range (tapFrom Fp 0 (l.map NetAt.cols)).length) (fun pre => pre <+: List.range (tapFrom Fp 0 (l.map NetAt.cols)).length) (tapFrom Fp 0 (l.map NetAt.cols)).length w := fun lp J Jx W hW hJ _ hY h0 =>
  taps1_in F n hf hro hn lp bx n0 g A c E Fp l _ J Jx W (by rw [tap_len, List.length_map]) hJ hY ((hW.cell (p := ⟨bx, 0, none⟩) hbn).trans hbx) (Nat.lt_of_lt_of_le hbn hW.size) hgn (hrow.below hW) (hN.below hW hn0) hc97 hl (Nat.le_trans hn0 hW.size) h0
end Go.Proofs.YtbldpojkpmafpaaGreatDoor
