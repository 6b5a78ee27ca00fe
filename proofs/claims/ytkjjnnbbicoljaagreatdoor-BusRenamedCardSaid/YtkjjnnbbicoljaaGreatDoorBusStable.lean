/- slices.SortStableFunc at a list of ints by the lows of extents, where one block of insertion sort serves (at most 20 elements). -/
import Derived.Test.YtkjjnnbbicoljaaGreatDoorBusClique
import Derived.BigRegion
namespace Go.Proofs.YtkjjnnbbicoljaaGreatDoor
open Go.RowKit

/-- cmp.Compare -/
def cmp3 (a b : Int) : Int := if a < b then -1 else if b < a then 1 else 0
theorem isNaN_any (a : Int) (w : World) : Calls Tryz.prog 141 #[.int .i64 a] w fun e w' => e = .returned (.bool false) ∧ w = w' := by
  go_enter Tryz.func141, Tryz.ntmps141
  go_wp2_with fail
  go_ret
  exact ⟨by simp, rfl⟩
theorem Compare_any (a b : Int) (w : World) : Calls Tryz.prog 103 #[.int .i64 a, .int .i64 b] w fun e w' => e = .returned (.int .i64 (cmp3 a b)) ∧ w = w' := by
  unfold cmp3
  by_cases h : a < b
  · rw [if_pos h]
    go_enter Tryz.func103, Tryz.ntmps103
    go_wp2_with (first | (go_at_call 141; refine (isNaN_any _ _).mono ?_; rintro e w1 ⟨rfl, rfl⟩))
    go_ret
    exact ⟨rfl, rfl⟩
  · rw [if_neg h]
    by_cases h2 : b < a
    · rw [if_pos h2]
      go_enter Tryz.func103, Tryz.ntmps103
      go_wp2_with (first | (go_at_call 141; refine (isNaN_any _ _).mono ?_; rintro e w1 ⟨rfl, rfl⟩))
      go_ret
      exact ⟨rfl, rfl⟩
    · rw [if_neg h2]
      go_enter Tryz.func103, Tryz.ntmps103
      go_wp2_with (first | (go_at_call 141; refine (isNaN_any _ _).mono ?_; rintro e w1 ⟨rfl, rfl⟩))
      go_ret
      exact ⟨rfl, rfl⟩

set_option maxHeartbeats 2000000 in
set_option maxRecDepth 100000 in
/-- the order of nets: by their lows -/
theorem byLow_any (bx g : Nat) (V : Value) (F : Nat → Int) (A : Option Addr) (c B i j : Nat) (xs : List (Int × Int)) (w : World) (hb : w.cell? ⟨bx, 0, none⟩ = some (.pointer (some ⟨g, 0, none⟩))) (h : RowAt w g V F (.slice A xs.length c)) (hr : Row w B A (xcells xs)) (hi : i < xs.length) (hj : j < xs.length) :
    Calls Tryz.prog 102 #[.int .i64 (i : Int), .int .i64 (j : Int), .pointer (some ⟨bx, 0, none⟩)] w fun e w' => e = .returned (.int .i64 (cmp3 (xs.getD i (0, 0)).1 (xs.getD j (0, 0)).1)) ∧ ∃ m, w' = w.drewN m := by
  obtain ⟨b, off, x, y, rfl, hbB, hx, hc1, hc2⟩ := hr.extent i hi
  obtain ⟨b', off', x', y', hA, _, hx', hc1', hc2'⟩ := hr.extent j hj
  injection hA with hA; injection hA with h1 h2; subst h1; subst h2
  have e1 : (xs.getD i (0, 0)).1 = x := by rw [List.getD_eq_getElem?_getD, hx]; rfl
  have e2 : (xs.getD j (0, 0)).1 = x' := by rw [List.getD_eq_getElem?_getD, hx']; rfl
  rw [e1, e2]
  have x98 := h.ext
  have hii : (i : Int) < (xs.length : Int) := by omega
  have hjj : (j : Int) < (xs.length : Int) := by omega
  have hq : ∀ m, Calls Tryz.prog 103 #[.int .i64 x, .int .i64 x'] (w.drewN m) fun e w' => e = .returned (.int .i64 (cmp3 x x')) ∧ w' = w.drewN m := fun m => (Compare_any x x' _).mono fun _ _ h => ⟨h.1, h.2.symm⟩
  have HQ := Lib.hid hq
  clear hx hx' e1 e2 h hr hq hc2 hc2'
  go_enter Tryz.func102, Tryz.ntmps102
  go_wp2_with fail
  go_quiet (first | (go_at_call 103; refine Calls.quiet_of_same (HQ.out _)))
  go_wp2_with fail
  go_ret
  exact ⟨rfl, _, rfl⟩

/-- block g begins with these numbers, and may be written -/
structure DRow (w : World) (g : Nat) (d : List Nat) : Prop where
  cell : ∀ i, i < d.length → w.cell? ⟨g, i, none⟩ = some (.int .i64 ((d.getD i 0 : Nat) : Int))
  free : ∀ i, w.frozen? ⟨g, i, none⟩ = false
  lt : g < w.heap.size
theorem DRow.drewN {w : World} {g : Nat} {d : List Nat} (h : DRow w g d) (m : Nat) : DRow (w.drewN m) g d := ⟨h.cell, h.free, h.lt⟩
theorem DRow.set {w : World} {g i x : Nat} {d : List Nat} (h : DRow w g d) : DRow (w.setCell ⟨g, i, none⟩ (.int .i64 (x : Int))) g (d.set i x) := by
  refine ⟨fun k hk => ?_, fun k => by rw [World.frozen?_setCell]; exact h.free k, by simpa using h.lt⟩
  rw [List.length_set] at hk
  by_cases hki : k = i
  · subst hki
    rw [World.cell?_setCell_same' _ _ _ (by rw [h.cell k hk]; rfl)]
    simp [List.getD_eq_getElem?_getD, hk]
  · rw [World.cell?_setCell_other _ _ _ _ (fun e => by injection e; omega), h.cell k hk]
    simp [List.getD_eq_getElem?_getD, List.getElem?_set_ne (Ne.symm hki)]

theorem grown_drewN {w w' : World} {r : Option Nat} (h : w.grownBy w' r) (m : Nat) : w.grownBy (w'.drewN m) r := ⟨h.os, h.tape, h.output, h.size, h.block⟩
theorem grown_drew {w w' : World} {r : Option Nat} (h : w.grownBy w' r) : w.grownBy w'.drew r := ⟨h.os, h.tape, h.output, h.size, h.block⟩
theorem grown_set {w w' : World} {g i : Nat} (h : w.grownBy w' (some g)) (u : Value) : w.grownBy (w'.setCell ⟨g, i, none⟩ u) (some g) :=
  ⟨h.os, h.tape, h.output, by simpa using h.size, fun k hk hne => (Below.heap_setCell w' ⟨g, i, none⟩ u k (fun e => hne (by rw [e]))).trans (h.block k hk hne)⟩

def swapAt (d : List Nat) (j : Nat) : List Nat := (d.set (j + 1) (d.getD j 0)).set j (d.getD (j + 1) 0)
def sink (K : Nat → Int) : Nat → List Nat → List Nat
  | 0, d => d
  | j + 1, d => if K (d.getD (j + 1) 0) < K (d.getD j 0) then sink K j (swapAt d j) else d
def sortTo (K : Nat → Int) (d : List Nat) : Nat → List Nat
  | 0 => d
  | i + 1 => sink K i (sortTo K d i)
theorem swapAt_len (d : List Nat) (j : Nat) : (swapAt d j).length = d.length := by simp [swapAt]
theorem swapAt_mem {d : List Nat} {j M : Nat} (hj : j + 1 < d.length) (h : ∀ x ∈ d, x < M) : ∀ x ∈ swapAt d j, x < M := by
  intro x hx
  unfold swapAt at hx
  have g1 : d.getD j 0 < M := by rw [List.getD_eq_getElem?_getD, List.getElem?_eq_getElem (by omega)]; exact h _ (List.getElem_mem _)
  have g2 : d.getD (j + 1) 0 < M := by rw [List.getD_eq_getElem?_getD, List.getElem?_eq_getElem hj]; exact h _ (List.getElem_mem _)
  rcases List.mem_or_eq_of_mem_set hx with h1 | h1
  · rcases List.mem_or_eq_of_mem_set h1 with h2 | h2
    · exact h x h2
    · omega
  · omega
theorem sink_ok (K : Nat → Int) (M : Nat) : ∀ (j : Nat) (d : List Nat), j < d.length → (∀ x ∈ d, x < M) → (sink K j d).length = d.length ∧ ∀ x ∈ sink K j d, x < M
  | 0, d, _, h => ⟨rfl, h⟩
  | j + 1, d, hj, h => by
      unfold sink
      split
      · have := sink_ok K M j (swapAt d j) (by rw [swapAt_len]; omega) (swapAt_mem hj h)
        rw [swapAt_len] at this
        exact this
      · exact ⟨rfl, h⟩
theorem sortTo_ok (K : Nat → Int) (M : Nat) (d : List Nat) (h : ∀ x ∈ d, x < M) : ∀ i, i ≤ d.length → (sortTo K d i).length = d.length ∧ ∀ x ∈ sortTo K d i, x < M
  | 0, _ => ⟨rfl, h⟩
  | i + 1, hi => by
      obtain ⟨h1, h2⟩ := sortTo_ok K M d h i (by omega)
      have := sink_ok K M i (sortTo K d i) (by omega) h2
      rw [h1] at this
      exact this

set_option maxHeartbeats 4000000 in
set_option maxRecDepth 100000 in
theorem insertion_any (bx g c B M : Nat) (d : List Nat) (K : Nat → Int) (w : World) (hd : DRow w g d) (hBg : B ≤ g) (hn : d.length ≤ 1000) (hM : ∀ x ∈ d, x < M)
    (hcmp : ∀ i j wx, i < M → j < M → Below B w wx → Calls Tryz.prog 102 #[.int .i64 (i : Int), .int .i64 (j : Int), .pointer (some ⟨bx, 0, none⟩)] wx fun e w' => e = .returned (.int .i64 (cmp3 (K i) (K j))) ∧ ∃ m, w' = wx.drewN m) :
    Calls Tryz.prog 178 #[.slice (some ⟨g, 0, none⟩) d.length c, .int .i64 0, .int .i64 (d.length : Int), .func (.func 102) #[] #[.pointer (some ⟨bx, 0, none⟩)]] w fun e w' => (∃ v, e = .returned v) ∧ DRow w' g (sortTo K d d.length) ∧ w.grownBy w' (some g) := by
  have HC := Lib.hid hcmp
  have HM := Lib.hid hM
  have HSO := Lib.hid (sortTo_ok K M d hM)
  clear hcmp hM
  obtain ⟨n, hn2⟩ : ∃ n, d.length = n := ⟨_, rfl⟩
  rw [hn2] at HSO hn ⊢
  clear hn2
  have hg0 : w.grownBy w (some g) := ⟨rfl, rfl, rfl, Nat.le_refl _, fun _ _ _ => rfl⟩
  go_enter Tryz.func178, Tryz.ntmps178
  go_wp2_with fail
  go_loopw [8] (fun i wr => ∃ k : Nat, 1 ≤ k ∧ (k ≤ n ∨ k = 1) ∧ i = .int .i64 (k : Int) ∧ DRow wr g (sortTo K d k) ∧ w.grownBy wr (some g)) (fun i _ => n - (intOf i).toNat)
  case atStart => exact ⟨1, Nat.le_refl _, .inr rfl, rfl, hd, hg0⟩
  case round =>
    obtain ⟨k, hk1, hk2, rfl, hrow, hgr⟩ := hrel
    by_cases hlt : k < n
    · have hkk : (k : Int) < (n : Int) := by omega
      obtain ⟨hl0, hm0⟩ := HSO.out k (by omega)
      have HR := Lib.hid (show sortTo K d (k + 1) = sink K k (sortTo K d k) from rfl)
      generalize sortTo K d k = d0 at *
      go_wp2_with fail
      go_loopw [9] (fun i wz => ∃ (j : Nat) (d1 : List Nat), j ≤ k ∧ i = .int .i64 (j : Int) ∧ DRow wz g d1 ∧ d1.length = n ∧ (∀ x ∈ d1, x < M) ∧ sink K j d1 = sortTo K d (k + 1) ∧ w.grownBy wz (some g)) (fun i _ => (intOf i).toNat)
      case atStart => exact ⟨k, d0, Nat.le_refl _, rfl, hrow, hl0, hm0, HR.out.symm, hgr⟩
      case round =>
        obtain ⟨j, d1, hj, rfl, hrow, hl1, hm1, hs, hgr⟩ := hrel
        have HS := Lib.hid hs
        have HM1 := Lib.hid hm1
        clear hs hm1
        cases j with
        | zero =>
          have HS2 := Lib.hid (show d1 = sortTo K d (k + 1) from HS.out)
          go_wp2_with fail
          go_quiet (fail)
          go_wp2_with fail
          go_roundw
          case rel => exact ⟨k + 1, by omega, by omega, by go_num, by rw [← HS2.out]; exact hrow.drewN _, grown_drewN hgr _⟩
          case measure => simp [intOf]; omega
        | succ i =>
          have ebw : Below B w wr := (Below.refl B w).grown hgr (by have := hd.lt; omega) (fun k hk => by cases hk; exact hBg)
          have m1 := hrow.cell (i + 1) (by omega)
          have m2 := hrow.cell i (by omega)
          have f1 := hrow.free (i + 1)
          have f2 := hrow.free i
          have hx : d1.getD (i + 1) 0 < M := by rw [List.getD_eq_getElem?_getD, List.getElem?_eq_getElem (by omega)]; exact HM1.out _ (List.getElem_mem _)
          have hy : d1.getD i 0 < M := by rw [List.getD_eq_getElem?_getD, List.getElem?_eq_getElem (by omega)]; exact HM1.out _ (List.getElem_mem _)
          have hq : ∀ m, Calls Tryz.prog 102 #[.int .i64 ((d1.getD (i + 1) 0 : Nat) : Int), .int .i64 ((d1.getD i 0 : Nat) : Int), .pointer (some ⟨bx, 0, none⟩)] (wr.drewN m) fun e w' => e = .returned (.int .i64 (cmp3 (K (d1.getD (i + 1) 0)) (K (d1.getD i 0)))) ∧ ∃ m', w' = wr.drewN m' := fun m =>
            (HC.out _ _ (wr.drewN m) hx hy (below_drewN ebw _)).mono fun _ _ ⟨h1, m2, h2⟩ => ⟨h1, m + m2, by rw [h2]; simp [World.drewN, Nat.add_assoc]⟩
          have HS3 := Lib.hid (show sink K (i + 1) d1 = if K (d1.getD (i + 1) 0) < K (d1.getD i 0) then sink K i (swapAt d1 i) else d1 from rfl)
          have HSW := Lib.hid (show swapAt d1 i = (d1.set (i + 1) (d1.getD i 0)).set i (d1.getD (i + 1) 0) from rfl)
          have HSM := Lib.hid (swapAt_mem (j := i) (show i + 1 < d1.length by omega) HM1.out)
          generalize d1.getD (i + 1) 0 = x at *
          generalize d1.getD i 0 = y at *
          have q1 : IntKind.i64.wrap ((i : Int) + 1 - 1) = (i : Int) := by rw [IntWalk.i64_in _ (by omega)]; omega
          have q3 : (0 : Int) < (i : Int) + 1 := by omega
          have q4 : (i : Int) < (n : Int) := by omega
          have q5 : (i : Int) + 1 < (n : Int) := by omega
          have HQ := Lib.hid hq
          clear hq
          by_cases hlt2 : K x < K y
          · rw [if_pos hlt2] at HS3
            have hc3 : cmp3 (K x) (K y) = -1 := by unfold cmp3; rw [if_pos hlt2]
            rw [hc3] at HQ
            go_wp2_with fail
            go_quiet (first | (refine HQ.out _))
            go_wp2_with fail
            have m1' : (wr.drewN nq).cell? ⟨g, i + 1, none⟩ = some (.int .i64 (x : Int)) := m1
            have m2' : (wr.drewN nq).cell? ⟨g, i, none⟩ = some (.int .i64 (y : Int)) := m2
            have f1' : (wr.drewN nq).frozen? ⟨g, i + 1, none⟩ = false := f1
            have f2' : (wr.drewN nq).frozen? ⟨g, i, none⟩ = false := f2
            have hr5 : DRow (wr.drewN nq) g d1 := hrow.drewN nq
            have hg5 := grown_drewN hgr nq
            clear m1 m2 f1 f2 hrow hgr ebw HQ
            generalize wr.drewN nq = W5 at *
            go_region
            go_wp2_with fail
            go_roundw
            case rel => exact ⟨i, swapAt d1 i, by omega, by go_num, by rw [HSW.out]; exact ((hr5.set).set).drewN 1, by rw [swapAt_len]; exact hl1, HSM.out, by rw [← HS3.out]; exact HS.out, grown_drew (grown_set (grown_set hg5 _) _)⟩
            case measure => simp [intOf]
          · rw [if_neg hlt2] at HS3
            have hc3 : 0 ≤ cmp3 (K x) (K y) := by unfold cmp3; rw [if_neg hlt2]; split <;> omega
            generalize cmp3 (K x) (K y) = cc at *
            have hcd : decide (cc < 0) = false := decide_eq_false (by omega)
            have HS2 := Lib.hid (show d1 = sortTo K d (k + 1) from HS3.out ▸ HS.out)
            go_wp2_with fail
            go_quiet (first | (refine HQ.out _))
            go_wp2_with fail
            go_roundw
            case rel => exact ⟨k + 1, by omega, by omega, by go_num, by rw [← HS2.out]; exact hrow.drewN _, grown_drewN hgr _⟩
            case measure => simp [intOf]; omega
    · have hkn : ¬ (k : Int) < (n : Int) := by omega
      have HE := Lib.hid (show sortTo K d k = sortTo K d n by
        rcases hk2 with h | h
        · rw [show k = n by omega]
        · subst h
          cases n with
          | zero => rfl
          | succ m => rw [show m = 0 by omega])
      go_wp2_with fail
      go_end0
      exact ⟨⟨_, rfl⟩, by rw [← HE.out]; exact hrow, hgr⟩
end Go.Proofs.YtkjjnnbbicoljaaGreatDoor

/- slices.SortStableFunc by the lows of extents, at fewer than 20 elements; slices.IndexFunc with the tracks' test. -/
namespace Go.Proofs.YtkjjnnbbicoljaaGreatDoor
open Go.RowKit

/-- what the order of nets is asked to do, in every world behind w -/
def ByLow (bx B M : Nat) (K : Nat → Int) (w : World) : Prop :=
  ∀ i j wx, i < M → j < M → Below B w wx → Calls Tryz.prog 102 #[.int .i64 (i : Int), .int .i64 (j : Int), .pointer (some ⟨bx, 0, none⟩)] wx fun e w' => e = .returned (.int .i64 (cmp3 (K i) (K j))) ∧ ∃ m, w' = wx.drewN m
set_option maxRecDepth 100000 in
theorem stable_any (bx g c B M : Nat) (d : List Nat) (K : Nat → Int) (w : World) (hd : DRow w g d) (hBg : B ≤ g) (hn : d.length < 20) (hM : ∀ x ∈ d, x < M) (hcmp : ByLow bx B M K w) :
    Calls Tryz.prog 140 #[.slice (some ⟨g, 0, none⟩) d.length c, .int .i64 (d.length : Int), .func (.func 102) #[] #[.pointer (some ⟨bx, 0, none⟩)]] w fun e w' => (∃ v, e = .returned v) ∧ DRow w' g (sortTo K d d.length) ∧ w.grownBy w' (some g) := by
  have HI := Lib.hid (insertion_any bx g c B M d K w hd hBg (by omega) hM hcmp)
  have h20 : ¬ (20 : Int) ≤ (d.length : Int) := by omega
  have h21 : ¬ (20 : Int) < (d.length : Int) := by omega
  clear hcmp hM hd
  go_enter Tryz.func140, Tryz.ntmps140
  go_wp2_with fail
  refine wp_loop_rounds 1 ?_
  rw [rounds_succ]
  go_wp2_with fail
  refine HI.out.mono ?_
  rintro e w1 ⟨⟨v, rfl⟩, hd1, hg1⟩
  go_wp2_with fail
  refine wp_loop_rounds 1 ?_
  rw [rounds_succ]
  go_wp2_with fail
  go_end0
  exact ⟨⟨_, rfl⟩, hd1, hg1⟩
set_option maxRecDepth 100000 in
theorem SortStable_any (bx g c B M : Nat) (d : List Nat) (K : Nat → Int) (w : World) (hd : DRow w g d) (hBg : B ≤ g) (hn : d.length < 20) (hM : ∀ x ∈ d, x < M) (hcmp : ByLow bx B M K w) :
    Calls Tryz.prog 101 #[.slice (some ⟨g, 0, none⟩) d.length c, .func (.func 102) #[] #[.pointer (some ⟨bx, 0, none⟩)]] w fun e w' => (∃ v, e = .returned v) ∧ DRow w' g (sortTo K d d.length) ∧ w.grownBy w' (some g) := by
  have HI := Lib.hid (stable_any bx g c B M d K w hd hBg hn hM hcmp)
  clear hcmp hM hd
  go_enter Tryz.func101, Tryz.ntmps101
  go_wp2_with fail
  refine HI.out.mono ?_
  rintro e w1 ⟨⟨v, rfl⟩, hd1, hg1⟩
  go_wp2_with fail
  go_end0
  exact ⟨⟨_, rfl⟩, hd1, hg1⟩

/-- the first track that is free for a net that begins at lo -/
def freeFrom (lo : Int) (k : Nat) : List Int → Int
  | [] => -1
  | e :: r => if e < lo then (k : Int) else freeFrom lo (k + 1) r
theorem ends_any (bx : Nat) (e lo : Int) (w : World) (hb : w.cell? ⟨bx, 0, none⟩ = some (.int .i64 lo)) :
    Calls Tryz.prog 105 #[.int .i64 e, .pointer (some ⟨bx, 0, none⟩)] w fun e' w' => e' = .returned (.bool (decide (e < lo))) ∧ w = w' := by
  go_enter Tryz.func105, Tryz.ntmps105
  go_wp2_with fail
  go_ret
  exact ⟨rfl, rfl⟩
set_option maxRecDepth 100000 in
theorem IndexFunc_any (A : Option Addr) (c B bx : Nat) (lo : Int) (es : List Int) (w : World) (hl : es.length ≤ 1000000) (h : Row w B A (es.map (Value.int .i64))) (hb : w.cell? ⟨bx, 0, none⟩ = some (.int .i64 lo)) :
    Calls Tryz.prog 104 #[.slice A es.length c, .func (.func 105) #[] #[.pointer (some ⟨bx, 0, none⟩)]] w fun e w' => e = .returned (.int .i64 (freeFrom lo 0 es)) ∧ w = w' := by
  have H := Lib.hid h
  clear h
  obtain ⟨r, hr⟩ : ∃ r, freeFrom lo 0 es = r := ⟨_, rfl⟩
  rw [hr]
  have HR := Lib.hid hr
  clear hr
  go_enter Tryz.func104, Tryz.ntmps104
  go_wp2_with fail
  go_loop [8] (fun i => ∃ k : Nat, k ≤ es.length ∧ i = .int .i64 k ∧ freeFrom lo k (es.drop k) = r) (fun i => es.length - (intOf i).toNat)
  case atStart => exact ⟨0, Nat.zero_le _, rfl, HR.out⟩
  case round =>
    obtain ⟨k, hk, rfl, hpre⟩ := hrel
    have HP := Lib.hid hpre
    clear hpre
    by_cases hlt : k < es.length
    · obtain ⟨b, off, x, rfl, hbB, hx, hc⟩ := H.out.int k hlt
      have hd : es.drop k = x :: es.drop (k + 1) := by
        rw [List.drop_eq_getElem_cons hlt]
        rw [List.getElem?_eq_getElem hlt] at hx
        rw [Option.some.inj hx]
      have hp := HP.out
      rw [hd] at hp
      unfold freeFrom at hp
      have he := ends_any bx x lo w hb
      clear hx hd
      by_cases hz : x < lo
      · rw [if_pos hz] at hp
        rw [decide_eq_true hz] at he
        have HN := Lib.hid hp
        have HE := Lib.hid he
        clear hp he HP
        go_wp2_with (refine HE.out.mono ?_; rintro e w' ⟨rfl, rfl⟩)
        go_ret
        exact ⟨ret_i64 HN.out, rfl⟩
      · rw [if_neg hz] at hp
        rw [decide_eq_false hz] at he
        have HN := Lib.hid hp
        have HE := Lib.hid he
        clear hp he HP
        go_wp2_with (refine HE.out.mono ?_; rintro e w' ⟨rfl, rfl⟩)
        go_round
        case rel => exact ⟨k + 1, by omega, by go_num, HN.out⟩
        case measure => simp [intOf]; omega
    · obtain rfl : k = es.length := by omega
      have HN := Lib.hid (show (-1 : Int) = r by rw [← HP.out, List.drop_length]; rfl)
      go_wp2_with fail
      go_ret
      exact ⟨ret_i64 HN.out, rfl⟩
end Go.Proofs.YtkjjnnbbicoljaaGreatDoor
