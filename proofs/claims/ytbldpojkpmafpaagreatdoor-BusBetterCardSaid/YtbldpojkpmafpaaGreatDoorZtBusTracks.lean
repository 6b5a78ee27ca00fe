/- Package bus: the extents and the length of an order. -/
import Derived.Test.YtbldpojkpmafpaaGreatDoorZtBusStand
import Derived.BigRegion
namespace Go.Proofs.YtbldpojkpmafpaaGreatDoor
open Go.RowKit

theorem xcells_at (ps : List (Int × Int)) : ∀ (k : Nat) (p : Int × Int), ps[k]? = some p → (xcells ps)[k * 2]? = some (.int .i64 p.1) ∧ (xcells ps)[k * 2 + 1]? = some (.int .i64 p.2) := by
  induction ps with
  | nil => intro k p h; simp at h
  | cons q r ih =>
    intro k p h
    cases k with
    | zero => simp at h; subst h; exact ⟨rfl, rfl⟩
    | succ k =>
      have := ih k p (by simpa using h)
      rw [show (k + 1) * 2 = k * 2 + 1 + 1 by omega]
      simpa [xcells] using this
theorem Row.extent {w : World} {B : Nat} {A : Option Addr} {ps : List (Int × Int)} (h : Row w B A (xcells ps)) (k : Nat) (hk : k < ps.length) :
    ∃ b off x y, A = some ⟨b, off, none⟩ ∧ b < B ∧ ps[k]? = some (x, y) ∧ w.cell? ⟨b, off + k * 2, none⟩ = some (.int .i64 x) ∧ w.cell? ⟨b, off + k * 2 + 1, none⟩ = some (.int .i64 y) := by
  have hl := xcells_len ps
  obtain ⟨b, off, h1, h2, h3⟩ := h.open (by omega)
  obtain ⟨e1, e2⟩ := xcells_at ps k ps[k] (List.getElem?_eq_getElem hk)
  refine ⟨b, off, ps[k].1, ps[k].2, h1, h2, List.getElem?_eq_getElem hk, ?_, ?_⟩
  · rw [h3 (k * 2) (by omega), List.getD_eq_getElem?_getD, e1]; rfl
  · rw [Nat.add_assoc, h3 (k * 2 + 1) (by omega), List.getD_eq_getElem?_getD, e2]; rfl
def sumExt (l : List (Int × Int)) : Int := l.foldl (fun s p => s + (p.2 - p.1)) 0
theorem sumExt_snoc (l : List (Int × Int)) (p : Int × Int) : sumExt (l ++ [p]) = sumExt l + (p.2 - p.1) := by simp [sumExt]
def smallExt (p : Int × Int) : Prop := -1000 ≤ p.1 ∧ p.1 ≤ 1000 ∧ -1000 ≤ p.2 ∧ p.2 ≤ 1000
theorem sumExt_bd (l : List (Int × Int)) (h : ∀ p ∈ l, smallExt p) : ∀ k, k ≤ l.length → -(2000 * (k : Int)) ≤ sumExt (l.take k) ∧ sumExt (l.take k) ≤ 2000 * (k : Int) := by
  intro k
  induction k with
  | zero => intro _; simp [sumExt]
  | succ k ih =>
    intro hk
    obtain ⟨h1, h2⟩ := ih (by omega)
    obtain ⟨b1, b2, b3, b4⟩ := h l[k] (List.getElem_mem _)
    rw [List.take_add_one, List.getElem?_eq_getElem (by omega), Option.toList_some, sumExt_snoc]
    omega

set_option maxHeartbeats 2000000 in
set_option maxRecDepth 100000 in
theorem rowLength_any (g : Nat) (V : Value) (F : Nat → Int) (A : Option Addr) (c B : Nat) (xs : List (Int × Int)) (w : World) (h : RowAt w g V F (.slice A xs.length c)) (hr : Row w B A (xcells xs)) (hB : B ≤ w.heap.size)
    (hx : ∀ p ∈ xs, smallExt p) (hl : xs.length ≤ 1000) :
    Calls Tryz.prog 45 #[.pointer (some ⟨g, 0, none⟩)] w fun e w' => e = .returned (.int .i64 (sumExt xs)) ∧ Below w.heap.size w w' := by
  have HR := Lib.hid hr
  have HX := Lib.hid hx
  have x98 := h.ext
  clear hr hx h
  go_enter Tryz.func45, Tryz.ntmps45
  go_wp2_with fail
  go_loopw [3, 11] (fun s i wr => ∃ k : Nat, k ≤ xs.length ∧ i = .int .i64 k ∧ s = .int .i64 (sumExt (xs.take k)) ∧ Below w.heap.size w wr) (fun _ i _ => xs.length - (intOf i).toNat)
  case atStart => exact ⟨0, Nat.zero_le _, rfl, rfl, Below.refl _ _⟩
  case round =>
    obtain ⟨k, hk, rfl, rfl, eb⟩ := hrel
    have hsz := eb.size
    by_cases hlt : k < xs.length
    · obtain ⟨b, off, x, y, rfl, hbB, hx, hc1, hc2⟩ := HR.out.extent k hlt
      have hk1 := (eb.cell (p := ⟨b, off + k * 2, none⟩) (by show b < _; omega)).trans hc1
      have hk2 := (eb.cell (p := ⟨b, off + k * 2 + 1, none⟩) (by show b < _; omega)).trans hc2
      have hsm := HX.out (x, y) (List.mem_of_getElem? hx)
      obtain ⟨b1, b2, b3, b4⟩ := hsm
      simp only at b1 b2 b3 b4
      obtain ⟨s1, s2⟩ := sumExt_bd xs HX.out k hk
      have HS := Lib.hid (show sumExt (xs.take (k + 1)) = sumExt (xs.take k) + (y - x) by rw [List.take_add_one, hx]; exact sumExt_snoc _ _)
      generalize sumExt (xs.take k) = s at *
      have q1 : IntKind.i64.wrap (y - x) = y - x := IntWalk.i64_in _ (by omega)
      have q2 : IntKind.i64.wrap (s + (y - x)) = s + (y - x) := IntWalk.i64_in _ (by omega)
      clear hx hc1 hc2
      go_wp2_with fail
      go_roundw
      case rel => exact ⟨k + 1, by omega, by go_num, by rw [HS.out], eb.alloc hsz _⟩
      case measure => simp [intOf]; omega
    · obtain rfl : k = xs.length := by omega
      rw [List.take_length]
      go_wp2_with fail
      go_ret
      exact ⟨rfl, eb⟩

theorem fold_bd (F : Nat → Int) (hF : ∀ i, 0 ≤ F i ∧ F i ≤ 97) : ∀ (cols : List Int) (a b : Int), -1000 ≤ a → a ≤ 1000 → -1000 ≤ b → b ≤ 1000 →
    (-1000 ≤ cols.foldl (fun l c => min l (F c.toNat)) a ∧ cols.foldl (fun l c => min l (F c.toNat)) a ≤ 1000) ∧ -1000 ≤ cols.foldl (fun l c => max l (F c.toNat)) b ∧ cols.foldl (fun l c => max l (F c.toNat)) b ≤ 1000
  | [], a, b, h1, h2, h3, h4 => ⟨⟨h1, h2⟩, h3, h4⟩
  | c :: r, a, b, h1, h2, h3, h4 => by
      have := hF c.toNat
      simp only [List.foldl_cons]
      exact fold_bd F hF r _ _ (by omega) (by omega) (by omega) (by omega)
theorem exts_small (F : Nat → Int) (hF : ∀ i, 0 ≤ F i ∧ F i ≤ 97) (l : List Bus.Net) : ∀ p ∈ Bus.exts F l, smallExt p := by
  intro p hp
  obtain ⟨x, _, rfl⟩ := List.mem_map.1 hp
  have := fold_bd F hF x.2 97 (-1) (by omega) (by omega) (by omega) (by omega)
  exact ⟨this.1.1, this.1.2, this.2.1, this.2.2⟩

theorem Length_bad (A A2 : Option Addr) (c c2 B : Nat) (l : List NetAt) (order : List Int) (n : Int) (w : World) (h : NetsIn w B A l) (h2 : Row w B A2 (order.map (Value.int .i64))) (hi : ∀ c ∈ order, I64 c) (hB : B ≤ w.heap.size) (hl : l.length ≤ 140737488355328) (hl2 : order.length ≤ 1000000)
    (E : Int) (hE : Bus.bothErr (l.map NetAt.net) n order = E) (h0 : E ≠ 0) :
    Calls Tryz.prog 26 #[.slice A l.length c, .int .i64 n, .slice A2 order.length c2] w fun e w' => e = .returned (.tuple #[.int .i64 0, .int .i64 E]) ∧ Below w.heap.size w w' := by
  have HC := Lib.hid (checked_any A A2 c c2 B l order n w h h2 hi hB hl hl2)
  rw [hE] at HC
  have hne : (E != 0) = true := by rw [bne_iff_ne]; exact h0
  clear h h2 hi hE
  go_enter Tryz.func26, Tryz.ntmps26
  go_wp2_with fail
  refine HC.out.mono ?_
  rintro e w1 ⟨rfl, hb1⟩
  go_wp2_with fail
  go_ret2
  exact ⟨rfl, hb1⟩
theorem both_zero {l : List Bus.Net} {n : Int} {order : List Int} (h : Bus.bothErr l n order = 0) : Bus.netsErr l n = 0 ∧ Bus.orderErr order n = 0 := by
  unfold Bus.bothErr at h
  split at h
  · contradiction
  · exact ⟨by omega, h⟩
theorem exts_len (F : Nat → Int) (l : List NetAt) : (Bus.exts F (l.map NetAt.net)).length = l.length := by simp [Bus.exts]
set_option maxRecDepth 100000 in
theorem Length_ok (A A2 : Option Addr) (c c2 B : Nat) (l : List NetAt) (order : List Int) (n : Int) (w : World) (h : NetsIn w B A l) (h2 : Row w B A2 (order.map (Value.int .i64))) (hi : ∀ c ∈ order, I64 c) (hB : B ≤ w.heap.size) (hl : l.length ≤ 140737488355328) (hl2 : order.length ≤ 1000000)
    (hE : Bus.bothErr (l.map NetAt.net) n order = 0) :
    Calls Tryz.prog 26 #[.slice A l.length c, .int .i64 n, .slice A2 order.length c2] w fun e w' => e = .returned (.tuple #[.int .i64 (sumExt (Bus.exts (Bus.atUp order order.length) (l.map NetAt.net))), .int .i64 0]) ∧ Below w.heap.size w w' := by
  have HC := Lib.hid (checked_any A A2 c c2 B l order n w h h2 hi hB hl hl2)
  rw [hE] at HC
  obtain ⟨z1, z2⟩ := both_zero hE
  have l64 := (Bus.netsErr_zero z1).2.2.1
  rw [List.length_map] at l64
  have hol := (Bus.orderErr_zero z2).1
  have hn97 := (Bus.netsErr_zero z1).2.1
  have HST := Lib.hid (fun w' (hb : Below w.heap.size w w') => stand_any A A2 c c2 B l order n w' (h.below hb hB) (h2.below hb hB) (by have := hb.size; omega) z2 z1)
  have hF0 : ∀ i, 0 ≤ Bus.atUp order order.length i ∧ Bus.atUp order order.length i ≤ 97 := fun i => by have := Bus.atUp_bd order order.length i; omega
  obtain ⟨F, hF⟩ : ∃ F, Bus.atUp order order.length = F := ⟨_, rfl⟩
  rw [hF] at HST hF0 ⊢
  have HSM := Lib.hid (exts_small F hF0 (l.map NetAt.net))
  have hlen := exts_len F l
  obtain ⟨xs, hxs⟩ : ∃ xs, Bus.exts F (l.map NetAt.net) = xs := ⟨_, rfl⟩
  rw [hxs] at HSM hlen ⊢
  have HXS := Lib.hid hxs
  clear h h2 hi hE hF z1 z2 hF0 hxs hol hn97
  go_enter Tryz.func26, Tryz.ntmps26
  go_wp2_with fail
  refine HC.out.mono ?_
  rintro e w1 ⟨rfl, hb1⟩
  go_wp2_with fail
  refine (HST.out _ hb1).mono ?_
  rintro e w2 ⟨g, v, rfl, hg, hrow, hown, hb2⟩
  rw [HXS.out] at hown
  obtain ⟨Av, cv, rfl, _, hr⟩ := own_cap hown
  have e2 := below_after hb1 hb2 (Nat.le_refl _)
  rw [← hlen] at hrow
  have HL := Lib.hid (rowLength_any g _ F Av cv w2.heap.size xs w2 hrow hr (Nat.le_refl _) HSM.out (by omega))
  clear hrow hown hr
  go_wp2_with fail
  refine HL.out.mono ?_
  rintro e w3 ⟨rfl, hb3⟩
  have e3 := below_after e2 hb3 (Nat.le_refl _)
  go_wp2_with fail
  go_ret2
  exact ⟨rfl, e3⟩
end Go.Proofs.YtbldpojkpmafpaaGreatDoor

/- Package bus: the clique of an order. -/
namespace Go.Proofs.YtbldpojkpmafpaaGreatDoor
open Go.RowKit

def covB (xs : List (Int × Int)) (i : Nat) (p : Int) : Bool := decide ((xs.getD i (0, 0)).1 ≤ p) && decide (p ≤ (xs.getD i (0, 0)).2)
def coverUp (xs : List (Int × Int)) (p : Int) : Nat → List Int
  | 0 => []
  | k + 1 => if covB xs k p then coverUp xs p k ++ [(k : Int)] else coverUp xs p k
set_option maxRecDepth 100000 in
theorem covers_any (g : Nat) (V : Value) (F : Nat → Int) (A : Option Addr) (c B i : Nat) (p : Int) (xs : List (Int × Int)) (w : World) (h : RowAt w g V F (.slice A xs.length c)) (hr : Row w B A (xcells xs)) (hi : i < xs.length) (_ : xs.length ≤ 1000) :
    Calls Tryz.prog 63 #[.pointer (some ⟨g, 0, none⟩), .int .i64 (i : Int), .int .i64 p] w fun e w' => e = .returned (.bool (covB xs i p)) ∧ w = w' := by
  obtain ⟨b, off, x, y, rfl, hbB, hx, hc1, hc2⟩ := hr.extent i hi
  have e : covB xs i p = (decide (x ≤ p) && decide (p ≤ y)) := by unfold covB; rw [List.getD_eq_getElem?_getD, hx]; rfl
  rw [e]
  have x98 := h.ext
  have hii : (i : Int) < (xs.length : Int) := by omega
  clear hx e h hr
  by_cases hxp : x ≤ p
  · go_enter Tryz.func63, Tryz.ntmps63
    go_wp2_with fail
    go_ret
    exact ⟨by rw [decide_eq_true hxp]; rfl, rfl⟩
  · go_enter Tryz.func63, Tryz.ntmps63
    go_wp2_with fail
    go_ret
    exact ⟨by rw [decide_eq_false (show ¬ x ≤ p by omega)]; rfl, rfl⟩

theorem Tryz.info3 : (Tryz.prog.info? 3).map (fun i => (i.zero, i.size, i.bytes)) = some (some (.int .i64 0), 1, 8) := by kernel_rfl

def FreshA (B : Nat) (A : Option Addr) : Prop := ∀ b off, A = some ⟨b, off, none⟩ → B ≤ b
theorem own_fresh {w : World} {base size n : Nat} {e : TypeId} {A : Option Addr} {c : Nat} {vs : List Value} (h : w.ownsRow base e size (.slice A n c) n vs) : FreshA base A := fun b off hA => by
  subst hA
  exact (h.lt b rfl).1
end Go.Proofs.YtbldpojkpmafpaaGreatDoor

/- slices.SortStableFunc at a list of ints by the lows of extents, where one block of insertion sort serves (at most 20 elements). -/
namespace Go.Proofs.YtbldpojkpmafpaaGreatDoor
open Go.RowKit

def cmp3 (a b : Int) : Int := if a < b then -1 else if b < a then 1 else 0
theorem isNaN_any (a : Int) (w : World) : Calls Tryz.prog 132 #[.int .i64 a] w fun e w' => e = .returned (.bool false) ∧ w = w' := by
  go_enter Tryz.func132, Tryz.ntmps132
  go_wp2_with fail
  go_ret
  exact ⟨by simp, rfl⟩
theorem Compare_any (a b : Int) (w : World) : Calls Tryz.prog 90 #[.int .i64 a, .int .i64 b] w fun e w' => e = .returned (.int .i64 (cmp3 a b)) ∧ w = w' := by
  unfold cmp3
  by_cases h : a < b
  · rw [if_pos h]
    go_enter Tryz.func90, Tryz.ntmps90
    go_wp2_with (first | (go_at_call 132; refine (isNaN_any _ _).mono ?_; rintro e w1 ⟨rfl, rfl⟩))
    go_ret
    exact ⟨rfl, rfl⟩
  · rw [if_neg h]
    by_cases h2 : b < a
    · rw [if_pos h2]
      go_enter Tryz.func90, Tryz.ntmps90
      go_wp2_with (first | (go_at_call 132; refine (isNaN_any _ _).mono ?_; rintro e w1 ⟨rfl, rfl⟩))
      go_ret
      exact ⟨rfl, rfl⟩
    · rw [if_neg h2]
      go_enter Tryz.func90, Tryz.ntmps90
      go_wp2_with (first | (go_at_call 132; refine (isNaN_any _ _).mono ?_; rintro e w1 ⟨rfl, rfl⟩))
      go_ret
      exact ⟨rfl, rfl⟩

set_option maxHeartbeats 2000000 in
set_option maxRecDepth 100000 in
theorem byLow_any (bx g : Nat) (V : Value) (F : Nat → Int) (A : Option Addr) (c B i j : Nat) (xs : List (Int × Int)) (w : World) (hb : w.cell? ⟨bx, 0, none⟩ = some (.pointer (some ⟨g, 0, none⟩))) (h : RowAt w g V F (.slice A xs.length c)) (hr : Row w B A (xcells xs)) (hi : i < xs.length) (hj : j < xs.length) :
    Calls Tryz.prog 89 #[.int .i64 (i : Int), .int .i64 (j : Int), .pointer (some ⟨bx, 0, none⟩)] w fun e w' => e = .returned (.int .i64 (cmp3 (xs.getD i (0, 0)).1 (xs.getD j (0, 0)).1)) ∧ ∃ m, w' = w.drewN m := by
  obtain ⟨b, off, x, y, rfl, hbB, hx, hc1, hc2⟩ := hr.extent i hi
  obtain ⟨b', off', x', y', hA, _, hx', hc1', hc2'⟩ := hr.extent j hj
  injection hA with hA; injection hA with h1 h2; subst h1; subst h2
  have e1 : (xs.getD i (0, 0)).1 = x := by rw [List.getD_eq_getElem?_getD, hx]; rfl
  have e2 : (xs.getD j (0, 0)).1 = x' := by rw [List.getD_eq_getElem?_getD, hx']; rfl
  rw [e1, e2]
  have x98 := h.ext
  have hii : (i : Int) < (xs.length : Int) := by omega
  have hjj : (j : Int) < (xs.length : Int) := by omega
  have hq : ∀ m, Calls Tryz.prog 90 #[.int .i64 x, .int .i64 x'] (w.drewN m) fun e w' => e = .returned (.int .i64 (cmp3 x x')) ∧ w' = w.drewN m := fun m => (Compare_any x x' _).mono fun _ _ h => ⟨h.1, h.2.symm⟩
  have HQ := Lib.hid hq
  clear hx hx' e1 e2 h hr hq hc2 hc2'
  go_enter Tryz.func89, Tryz.ntmps89
  go_wp2_with fail
  go_quiet (first | (go_at_call 90; refine Calls.quiet_of_same (HQ.out _)))
  go_wp2_with fail
  go_ret
  exact ⟨rfl, _, rfl⟩

structure DRow (w : World) (g : Nat) (d : List Nat) : Prop where
  cell : ∀ i, i < d.length → w.cell? ⟨g, i, none⟩ = some (.int .i64 ((d.getD i 0 : Nat) : Int))
  free : ∀ i, w.frozen? ⟨g, i, none⟩ = false
  lt : g < w.heap.size
theorem DRow.drewN {w : World} {g : Nat} {d : List Nat} (h : DRow w g d) (m : Nat) : DRow (w.drewN m) g d := ⟨h.cell, h.free, h.lt⟩
theorem DRow.set {w : World} {g i x : Nat} {d : List Nat} (h : DRow w g d) : DRow (w.setCell ⟨g, i, none⟩ (.int .i64 (x : Int))) g (d.set i x) := by
  refine ⟨fun k hk => ?_, fun k => by rw [World.frozen?_setCell]; exact h.free k, by simpa using h.lt⟩
  rw [List.length_set] at hk
  by_cases hki : k = i
  · subst hki
    rw [World.cell?_setCell_same' _ _ _ (by rw [h.cell k hk]; rfl)]
    simp [List.getD_eq_getElem?_getD, hk]
  · rw [World.cell?_setCell_other _ _ _ _ (fun e => by injection e; omega), h.cell k hk]
    simp [List.getD_eq_getElem?_getD, List.getElem?_set_ne (Ne.symm hki)]

theorem grown_drewN {w w' : World} {r : Option Nat} (h : w.grownBy w' r) (m : Nat) : w.grownBy (w'.drewN m) r := ⟨h.os, h.tape, h.output, h.size, h.block⟩
theorem grown_drew {w w' : World} {r : Option Nat} (h : w.grownBy w' r) : w.grownBy w'.drew r := ⟨h.os, h.tape, h.output, h.size, h.block⟩
theorem grown_set {w w' : World} {g i : Nat} (h : w.grownBy w' (some g)) (u : Value) : w.grownBy (w'.setCell ⟨g, i, none⟩ u) (some g) :=
  ⟨h.os, h.tape, h.output, by simpa using h.size, fun k hk hne => (Below.heap_setCell w' ⟨g, i, none⟩ u k (fun e => hne (by rw [e]))).trans (h.block k hk hne)⟩

def swapAt (d : List Nat) (j : Nat) : List Nat := (d.set (j + 1) (d.getD j 0)).set j (d.getD (j + 1) 0)
def sink (K : Nat → Int) : Nat → List Nat → List Nat
  | 0, d => d
  | j + 1, d => if K (d.getD (j + 1) 0) < K (d.getD j 0) then sink K j (swapAt d j) else d
def sortTo (K : Nat → Int) (d : List Nat) : Nat → List Nat
  | 0 => d
  | i + 1 => sink K i (sortTo K d i)
theorem swapAt_len (d : List Nat) (j : Nat) : (swapAt d j).length = d.length := by simp [swapAt]
theorem swapAt_mem {d : List Nat} {j M : Nat} (hj : j + 1 < d.length) (h : ∀ x ∈ d, x < M) : ∀ x ∈ swapAt d j, x < M := by
  intro x hx
  unfold swapAt at hx
  have g1 : d.getD j 0 < M := by rw [List.getD_eq_getElem?_getD, List.getElem?_eq_getElem (by omega)]; exact h _ (List.getElem_mem _)
  have g2 : d.getD (j + 1) 0 < M := by rw [List.getD_eq_getElem?_getD, List.getElem?_eq_getElem hj]; exact h _ (List.getElem_mem _)
  rcases List.mem_or_eq_of_mem_set hx with h1 | h1
  · rcases List.mem_or_eq_of_mem_set h1 with h2 | h2
    · exact h x h2
    · omega
  · omega
theorem sink_ok (K : Nat → Int) (M : Nat) : ∀ (j : Nat) (d : List Nat), j < d.length → (∀ x ∈ d, x < M) → (sink K j d).length = d.length ∧ ∀ x ∈ sink K j d, x < M
  | 0, d, _, h => ⟨rfl, h⟩
  | j + 1, d, hj, h => by
      unfold sink
      split
      · have := sink_ok K M j (swapAt d j) (by rw [swapAt_len]; omega) (swapAt_mem hj h)
        rw [swapAt_len] at this
        exact this
      · exact ⟨rfl, h⟩
theorem sortTo_ok (K : Nat → Int) (M : Nat) (d : List Nat) (h : ∀ x ∈ d, x < M) : ∀ i, i ≤ d.length → (sortTo K d i).length = d.length ∧ ∀ x ∈ sortTo K d i, x < M
  | 0, _ => ⟨rfl, h⟩
  | i + 1, hi => by
      obtain ⟨h1, h2⟩ := sortTo_ok K M d h i (by omega)
      have := sink_ok K M i (sortTo K d i) (by omega) h2
      rw [h1] at this
      exact this

set_option maxHeartbeats 4000000 in
set_option maxRecDepth 100000 in
theorem insertion_any (bx g c B M : Nat) (d : List Nat) (K : Nat → Int) (w : World) (hd : DRow w g d) (hBg : B ≤ g) (hn : d.length ≤ 1000) (hM : ∀ x ∈ d, x < M)
    (hcmp : ∀ i j wx, i < M → j < M → Below B w wx → Calls Tryz.prog 89 #[.int .i64 (i : Int), .int .i64 (j : Int), .pointer (some ⟨bx, 0, none⟩)] wx fun e w' => e = .returned (.int .i64 (cmp3 (K i) (K j))) ∧ ∃ m, w' = wx.drewN m) :
    Calls Tryz.prog 170 #[.slice (some ⟨g, 0, none⟩) d.length c, .int .i64 0, .int .i64 (d.length : Int), .func (.func 89) #[] #[.pointer (some ⟨bx, 0, none⟩)]] w fun e w' => (∃ v, e = .returned v) ∧ DRow w' g (sortTo K d d.length) ∧ w.grownBy w' (some g) := by
  have HC := Lib.hid hcmp
  have HM := Lib.hid hM
  have HSO := Lib.hid (sortTo_ok K M d hM)
  clear hcmp hM
  obtain ⟨n, hn2⟩ : ∃ n, d.length = n := ⟨_, rfl⟩
  rw [hn2] at HSO hn ⊢
  clear hn2
  have hg0 : w.grownBy w (some g) := ⟨rfl, rfl, rfl, Nat.le_refl _, fun _ _ _ => rfl⟩
  go_enter Tryz.func170, Tryz.ntmps170
  go_wp2_with fail
  go_loopw [8] (fun i wr => ∃ k : Nat, 1 ≤ k ∧ (k ≤ n ∨ k = 1) ∧ i = .int .i64 (k : Int) ∧ DRow wr g (sortTo K d k) ∧ w.grownBy wr (some g)) (fun i _ => n - (intOf i).toNat)
  case atStart => exact ⟨1, Nat.le_refl _, .inr rfl, rfl, hd, hg0⟩
  case round =>
    obtain ⟨k, hk1, hk2, rfl, hrow, hgr⟩ := hrel
    by_cases hlt : k < n
    · have hkk : (k : Int) < (n : Int) := by omega
      obtain ⟨hl0, hm0⟩ := HSO.out k (by omega)
      have HR := Lib.hid (show sortTo K d (k + 1) = sink K k (sortTo K d k) from rfl)
      generalize sortTo K d k = d0 at *
      go_wp2_with fail
      go_loopw [9] (fun i wz => ∃ (j : Nat) (d1 : List Nat), j ≤ k ∧ i = .int .i64 (j : Int) ∧ DRow wz g d1 ∧ d1.length = n ∧ (∀ x ∈ d1, x < M) ∧ sink K j d1 = sortTo K d (k + 1) ∧ w.grownBy wz (some g)) (fun i _ => (intOf i).toNat)
      case atStart => exact ⟨k, d0, Nat.le_refl _, rfl, hrow, hl0, hm0, HR.out.symm, hgr⟩
      case round =>
        obtain ⟨j, d1, hj, rfl, hrow, hl1, hm1, hs, hgr⟩ := hrel
        have HS := Lib.hid hs
        have HM1 := Lib.hid hm1
        clear hs hm1
        cases j with
        | zero =>
          have HS2 := Lib.hid (show d1 = sortTo K d (k + 1) from HS.out)
          go_wp2_with fail
          go_quiet (fail)
          go_wp2_with fail
          go_roundw
          case rel => exact ⟨k + 1, by omega, by omega, by go_num, by rw [← HS2.out]; exact hrow.drewN _, grown_drewN hgr _⟩
          case measure => simp [intOf]; omega
        | succ i =>
          have ebw : Below B w wr := (Below.refl B w).grown hgr (by have := hd.lt; omega) (fun k hk => by cases hk; exact hBg)
          have m1 := hrow.cell (i + 1) (by omega)
          have m2 := hrow.cell i (by omega)
          have f1 := hrow.free (i + 1)
          have f2 := hrow.free i
          have hx : d1.getD (i + 1) 0 < M := by rw [List.getD_eq_getElem?_getD, List.getElem?_eq_getElem (by omega)]; exact HM1.out _ (List.getElem_mem _)
          have hy : d1.getD i 0 < M := by rw [List.getD_eq_getElem?_getD, List.getElem?_eq_getElem (by omega)]; exact HM1.out _ (List.getElem_mem _)
          have hq : ∀ m, Calls Tryz.prog 89 #[.int .i64 ((d1.getD (i + 1) 0 : Nat) : Int), .int .i64 ((d1.getD i 0 : Nat) : Int), .pointer (some ⟨bx, 0, none⟩)] (wr.drewN m) fun e w' => e = .returned (.int .i64 (cmp3 (K (d1.getD (i + 1) 0)) (K (d1.getD i 0)))) ∧ ∃ m', w' = wr.drewN m' := fun m =>
            (HC.out _ _ (wr.drewN m) hx hy (below_drewN ebw _)).mono fun _ _ ⟨h1, m2, h2⟩ => ⟨h1, m + m2, by rw [h2]; simp [World.drewN, Nat.add_assoc]⟩
          have HS3 := Lib.hid (show sink K (i + 1) d1 = if K (d1.getD (i + 1) 0) < K (d1.getD i 0) then sink K i (swapAt d1 i) else d1 from rfl)
          have HSW := Lib.hid (show swapAt d1 i = (d1.set (i + 1) (d1.getD i 0)).set i (d1.getD (i + 1) 0) from rfl)
          have HSM := Lib.hid (swapAt_mem (j := i) (show i + 1 < d1.length by omega) HM1.out)
          generalize d1.getD (i + 1) 0 = x at *
          generalize d1.getD i 0 = y at *
          have q1 : IntKind.i64.wrap ((i : Int) + 1 - 1) = (i : Int) := by rw [IntWalk.i64_in _ (by omega)]; omega
          have q3 : (0 : Int) < (i : Int) + 1 := by omega
          have q4 : (i : Int) < (n : Int) := by omega
          have q5 : (i : Int) + 1 < (n : Int) := by omega
          have HQ := Lib.hid hq
          clear hq
          by_cases hlt2 : K x < K y
          · rw [if_pos hlt2] at HS3
            have hc3 : cmp3 (K x) (K y) = -1 := by unfold cmp3; rw [if_pos hlt2]
            rw [hc3] at HQ
            go_wp2_with fail
            go_quiet (first | (refine HQ.out _))
            go_wp2_with fail
            have m1' : (wr.drewN nq).cell? ⟨g, i + 1, none⟩ = some (.int .i64 (x : Int)) := m1
            have m2' : (wr.drewN nq).cell? ⟨g, i, none⟩ = some (.int .i64 (y : Int)) := m2
            have f1' : (wr.drewN nq).frozen? ⟨g, i + 1, none⟩ = false := f1
            have f2' : (wr.drewN nq).frozen? ⟨g, i, none⟩ = false := f2
            have hr5 : DRow (wr.drewN nq) g d1 := hrow.drewN nq
            have hg5 := grown_drewN hgr nq
            clear m1 m2 f1 f2 hrow hgr ebw HQ
            generalize wr.drewN nq = W5 at *
            go_region
            go_wp2_with fail
            go_roundw
            case rel => exact ⟨i, swapAt d1 i, by omega, by go_num, by rw [HSW.out]; exact ((hr5.set).set).drewN 1, by rw [swapAt_len]; exact hl1, HSM.out, by rw [← HS3.out]; exact HS.out, grown_drew (grown_set (grown_set hg5 _) _)⟩
            case measure => simp [intOf]
          · rw [if_neg hlt2] at HS3
            have hc3 : 0 ≤ cmp3 (K x) (K y) := by unfold cmp3; rw [if_neg hlt2]; split <;> omega
            generalize cmp3 (K x) (K y) = cc at *
            have hcd : decide (cc < 0) = false := decide_eq_false (by omega)
            have HS2 := Lib.hid (show d1 = sortTo K d (k + 1) from HS3.out ▸ HS.out)
            go_wp2_with fail
            go_quiet (first | (refine HQ.out _))
            go_wp2_with fail
            go_roundw
            case rel => exact ⟨k + 1, by omega, by omega, by go_num, by rw [← HS2.out]; exact hrow.drewN _, grown_drewN hgr _⟩
            case measure => simp [intOf]; omega
    · have hkn : ¬ (k : Int) < (n : Int) := by omega
      have HE := Lib.hid (show sortTo K d k = sortTo K d n by
        rcases hk2 with h | h
        · rw [show k = n by omega]
        · subst h
          cases n with
          | zero => rfl
          | succ m => rw [show m = 0 by omega])
      go_wp2_with fail
      go_end0
      exact ⟨⟨_, rfl⟩, by rw [← HE.out]; exact hrow, hgr⟩
end Go.Proofs.YtbldpojkpmafpaaGreatDoor

/- slices.SortStableFunc by the lows of extents, at fewer than 20 elements; slices.IndexFunc with the tracks' test. -/
namespace Go.Proofs.YtbldpojkpmafpaaGreatDoor
open Go.RowKit

def ByLow (bx B M : Nat) (K : Nat → Int) (w : World) : Prop :=
  ∀ i j wx, i < M → j < M → Below B w wx → Calls Tryz.prog 89 #[.int .i64 (i : Int), .int .i64 (j : Int), .pointer (some ⟨bx, 0, none⟩)] wx fun e w' => e = .returned (.int .i64 (cmp3 (K i) (K j))) ∧ ∃ m, w' = wx.drewN m
set_option maxRecDepth 100000 in
theorem stable_any (bx g c B M : Nat) (d : List Nat) (K : Nat → Int) (w : World) (hd : DRow w g d) (hBg : B ≤ g) (hn : d.length < 20) (hM : ∀ x ∈ d, x < M) (hcmp : ByLow bx B M K w) :
    Calls Tryz.prog 131 #[.slice (some ⟨g, 0, none⟩) d.length c, .int .i64 (d.length : Int), .func (.func 89) #[] #[.pointer (some ⟨bx, 0, none⟩)]] w fun e w' => (∃ v, e = .returned v) ∧ DRow w' g (sortTo K d d.length) ∧ w.grownBy w' (some g) := by
  have HI := Lib.hid (insertion_any bx g c B M d K w hd hBg (by omega) hM hcmp)
  have h20 : ¬ (20 : Int) ≤ (d.length : Int) := by omega
  have h21 : ¬ (20 : Int) < (d.length : Int) := by omega
  clear hcmp hM hd
  go_enter Tryz.func131, Tryz.ntmps131
  go_wp2_with fail
  refine wp_loop_rounds 1 ?_
  rw [rounds_succ]
  go_wp2_with fail
  refine HI.out.mono ?_
  rintro e w1 ⟨⟨v, rfl⟩, hd1, hg1⟩
  go_wp2_with fail
  refine wp_loop_rounds 1 ?_
  rw [rounds_succ]
  go_wp2_with fail
  go_end0
  exact ⟨⟨_, rfl⟩, hd1, hg1⟩
set_option maxRecDepth 100000 in
theorem SortStable_any (bx g c B M : Nat) (d : List Nat) (K : Nat → Int) (w : World) (hd : DRow w g d) (hBg : B ≤ g) (hn : d.length < 20) (hM : ∀ x ∈ d, x < M) (hcmp : ByLow bx B M K w) :
    Calls Tryz.prog 88 #[.slice (some ⟨g, 0, none⟩) d.length c, .func (.func 89) #[] #[.pointer (some ⟨bx, 0, none⟩)]] w fun e w' => (∃ v, e = .returned v) ∧ DRow w' g (sortTo K d d.length) ∧ w.grownBy w' (some g) := by
  have HI := Lib.hid (stable_any bx g c B M d K w hd hBg hn hM hcmp)
  clear hcmp hM hd
  go_enter Tryz.func88, Tryz.ntmps88
  go_wp2_with fail
  refine HI.out.mono ?_
  rintro e w1 ⟨⟨v, rfl⟩, hd1, hg1⟩
  go_wp2_with fail
  go_end0
  exact ⟨⟨_, rfl⟩, hd1, hg1⟩

def freeFrom (lo : Int) (k : Nat) : List Int → Int
  | [] => -1
  | e :: r => if e < lo then (k : Int) else freeFrom lo (k + 1) r
theorem ends_any (bx : Nat) (e lo : Int) (w : World) (hb : w.cell? ⟨bx, 0, none⟩ = some (.int .i64 lo)) :
    Calls Tryz.prog 92 #[.int .i64 e, .pointer (some ⟨bx, 0, none⟩)] w fun e' w' => e' = .returned (.bool (decide (e < lo))) ∧ w = w' := by
  go_enter Tryz.func92, Tryz.ntmps92
  go_wp2_with fail
  go_ret
  exact ⟨rfl, rfl⟩
set_option maxRecDepth 100000 in
theorem IndexFunc_any (A : Option Addr) (c B bx : Nat) (lo : Int) (es : List Int) (w : World) (hl : es.length ≤ 1000000) (h : Row w B A (es.map (Value.int .i64))) (hb : w.cell? ⟨bx, 0, none⟩ = some (.int .i64 lo)) :
    Calls Tryz.prog 91 #[.slice A es.length c, .func (.func 92) #[] #[.pointer (some ⟨bx, 0, none⟩)]] w fun e w' => e = .returned (.int .i64 (freeFrom lo 0 es)) ∧ w = w' := by
  have H := Lib.hid h
  clear h
  obtain ⟨r, hr⟩ : ∃ r, freeFrom lo 0 es = r := ⟨_, rfl⟩
  rw [hr]
  have HR := Lib.hid hr
  clear hr
  go_enter Tryz.func91, Tryz.ntmps91
  go_wp2_with fail
  go_loop [8] (fun i => ∃ k : Nat, k ≤ es.length ∧ i = .int .i64 k ∧ freeFrom lo k (es.drop k) = r) (fun i => es.length - (intOf i).toNat)
  case atStart => exact ⟨0, Nat.zero_le _, rfl, HR.out⟩
  case round =>
    obtain ⟨k, hk, rfl, hpre⟩ := hrel
    have HP := Lib.hid hpre
    clear hpre
    by_cases hlt : k < es.length
    · obtain ⟨b, off, x, rfl, hbB, hx, hc⟩ := H.out.int k hlt
      have hd : es.drop k = x :: es.drop (k + 1) := by
        rw [List.drop_eq_getElem_cons hlt]
        rw [List.getElem?_eq_getElem hlt] at hx
        rw [Option.some.inj hx]
      have hp := HP.out
      rw [hd] at hp
      unfold freeFrom at hp
      have he := ends_any bx x lo w hb
      clear hx hd
      by_cases hz : x < lo
      · rw [if_pos hz] at hp
        rw [decide_eq_true hz] at he
        have HN := Lib.hid hp
        have HE := Lib.hid he
        clear hp he HP
        go_wp2_with (refine HE.out.mono ?_; rintro e w' ⟨rfl, rfl⟩)
        go_ret
        exact ⟨ret_i64 HN.out, rfl⟩
      · rw [if_neg hz] at hp
        rw [decide_eq_false hz] at he
        have HN := Lib.hid hp
        have HE := Lib.hid he
        clear hp he HP
        go_wp2_with (refine HE.out.mono ?_; rintro e w' ⟨rfl, rfl⟩)
        go_round
        case rel => exact ⟨k + 1, by omega, by go_num, HN.out⟩
        case measure => simp [intOf]; omega
    · obtain rfl : k = es.length := by omega
      have HN := Lib.hid (show (-1 : Int) = r by rw [← HP.out, List.drop_length]; rfl)
      go_wp2_with fail
      go_ret
      exact ⟨ret_i64 HN.out, rfl⟩
end Go.Proofs.YtbldpojkpmafpaaGreatDoor

/- Package bus: the tracks of nets that stand in an order (from 1 to 19 nets). -/
namespace Go.Proofs.YtbldpojkpmafpaaGreatDoor
open Go.RowKit

def lowAt (xs : List (Int × Int)) (i : Nat) : Int := (xs.getD i (0, 0)).1
def trackStep (xs : List (Int × Int)) (s : List Int × List Nat) (i : Nat) : List Int × List Nat :=
  let x := xs.getD i (0, 0)
  let t := freeFrom x.1 0 s.1
  if t < 0 then (s.1 ++ [x.2], s.2.set i s.1.length) else (s.1.set t.toNat x.2, s.2.set i t.toNat)
def tracksOf (xs : List (Int × Int)) : List Int × List Nat := (sortTo (lowAt xs) (List.range xs.length) xs.length).foldl (trackStep xs) ([], List.replicate xs.length 0)

theorem own_drow {w : World} {base n : Nat} {e : TypeId} {v : Value} {d : List Nat} (h : w.ownsRow base e 1 v n (d.map fun x => Value.int .i64 ((x : Nat) : Int))) (hn : 0 < n) :
    ∃ g c, v = .slice (some ⟨g, 0, none⟩) n c ∧ base ≤ g ∧ d.length = n ∧ DRow w g d := by
  have hlen := h.1
  rw [List.length_map, Nat.mul_one] at hlen
  have hcs := @World.ownsRow.cells _ _ _ _ _ _ _ h
  rcases h.2 with ⟨_, h2⟩ | ⟨g, cap, cur, h1, h2, h3, h4⟩
  · omega
  · refine ⟨g, cap, h1, h2, hlen, fun i hi => ?_, fun i => ?_, (Array.getElem?_eq_some_iff.1 h3).1⟩
    · have := hcs (g := g) (by rw [h1]; rfl) i (.int .i64 ((d[i] : Nat) : Int)) (by rw [List.getElem?_map, List.getElem?_eq_getElem hi]; rfl)
      have e : (⟨g, 0, none⟩ : Addr).add i = ⟨g, i, none⟩ := by
        rcases Nat.eq_zero_or_pos i with rfl | hp
        · rfl
        · simp [Addr.add]; omega
      rw [e] at this
      rw [this, List.getD_eq_getElem?_getD, List.getElem?_eq_getElem hi]; rfl
    · simp [World.frozen?, h3]
theorem range_snoc (k : Nat) : (List.range (k + 1)).map (fun x => Value.int .i64 ((x : Nat) : Int)) = (List.range k).map (fun x => Value.int .i64 ((x : Nat) : Int)) ++ [.int .i64 (k : Int)] := by
  rw [List.range_succ]; simp
theorem DRow.block {w w' : World} {g : Nat} {d : List Nat} (h : DRow w g d) (hb : w'.heap[g]? = w.heap[g]?) (hs : w.heap.size ≤ w'.heap.size) : DRow w' g d :=
  ⟨fun i hi => (World.cell?_of_block (a := ⟨g, i, none⟩) hb).trans (h.cell i hi), fun i => (World.frozen?_of_block (a := ⟨g, i, none⟩) hb).trans (h.free i), by have := h.lt; omega⟩

theorem made_zero (n : Nat) : (madeCells #[.int .i64 0] n).toList = (List.replicate n 0).map fun x => Value.int .i64 ((x : Nat) : Int) := by
  apply List.ext_getElem
  · simp [madeCells]
  · intro i h1 h2
    simp [madeCells, Nat.mod_one]
theorem own_store {w : World} {base g n c i : Nat} {e : TypeId} {d : List Int} {x : Int} (h : w.ownsRow base e 1 (.slice (some ⟨g, 0, none⟩) n c) n (d.map (Value.int .i64))) (_ : i < n) :
    (w.setCell ⟨g, i, none⟩ (.int .i64 x)).ownsRow base e 1 (.slice (some ⟨g, 0, none⟩) n c) n ((d.set i x).map (Value.int .i64)) := by
  refine ⟨by have := h.1; simpa using this, ?_⟩
  rcases h.2 with ⟨h1, _⟩ | ⟨b, cap, cur, h1, h2, h3, h4, h5, h6, h7⟩
  · cases h1
  · injection h1 with h1 _ h8
    injection h1 with h1
    injection h1 with h1
    subst h1; subst h8
    refine .inr ⟨g, c, cur.setIfInBounds i (.int .i64 x), rfl, h2, ?_, h4, h5, by rw [Array.size_setIfInBounds]; exact h6, ?_⟩
    · simp [World.setCell, Array.getElem?_modify, h3]
    · rw [Array.toList_setIfInBounds, List.take_set, h7, List.map_set]
theorem own_free {w : World} {base g n c : Nat} {e : TypeId} {vs : List Value} (h : w.ownsRow base e 1 (.slice (some ⟨g, 0, none⟩) n c) n vs) (i : Nat) : w.frozen? ⟨g, i, none⟩ = false := by
  rcases h.2 with ⟨h1, _⟩ | ⟨b, cap, cur, h1, h2, h3, _⟩
  · cases h1
  · injection h1 with h1
    injection h1 with h1
    injection h1 with h1
    subst h1
    simp [World.frozen?, h3]
theorem grow_alloc {w w' : World} {r : Option Nat} (h : w.grownBy w' r) (o : Obj) : w.grownBy (w'.alloc o) r :=
  ⟨h.os, h.tape, h.output, by have := h.size; simp; omega, fun k hk hne => (Below.heap_alloc w' o k (by have := h.size; omega)).trans (h.block k hk hne)⟩
theorem grow_grow {w w' w'' : World} {r row : Option Nat} (h : w.grownBy w' r) (h2 : w'.grownBy w'' row) (hr : ∀ b, row = some b → w.heap.size ≤ b) : w.grownBy w'' r :=
  ⟨h2.os.trans h.os, h2.tape.trans h.tape, h2.output.trans h.output, Nat.le_trans h.size h2.size, fun k hk hne => (h2.block k (Nat.lt_of_lt_of_le hk h.size) (fun e => by have := hr k e.symm; omega)).trans (h.block k hk hne)⟩
theorem grow_set {w w' : World} {r : Option Nat} {g i : Nat} (h : w.grownBy w' r) (hg : w.heap.size ≤ g ∨ r = some g) (u : Value) : w.grownBy (w'.setCell ⟨g, i, none⟩ u) r :=
  ⟨h.os, h.tape, h.output, by simpa using h.size, fun k hk hne => (Below.heap_setCell w' ⟨g, i, none⟩ u k (fun e => by
    have e' : k = g := e
    rcases hg with h1 | h1
    · omega
    · exact hne (by rw [h1, e']))).trans (h.block k hk hne)⟩
theorem DRow.far {w : World} {g b i : Nat} {d : List Nat} {u : Value} (h : DRow w g d) (hb : g ≠ b) : DRow (w.setCell ⟨b, i, none⟩ u) g d := h.block (Below.heap_setCell w ⟨b, i, none⟩ u g hb) (by simp)
theorem own_cell {w : World} {base g n c : Nat} {e : TypeId} {vs : List Value} (h : w.ownsRow base e 1 (.slice (some ⟨g, 0, none⟩) n c) n vs) (i : Nat) (u : Value) (hu : vs[i]? = some u) : w.cell? ⟨g, i, none⟩ = some u := by
  have := h.cells (g := g) rfl i u hu
  have e : (⟨g, 0, none⟩ : Addr).add i = ⟨g, i, none⟩ := by
    rcases Nat.eq_zero_or_pos i with rfl | hp
    · rfl
    · simp [Addr.add]; omega
  rwa [e] at this
theorem own_some {w : World} {base n : Nat} {e : TypeId} {v : Value} {vs : List Value} (h : w.ownsRow base e 1 v n vs) (hn : 0 < n) : ∃ g c, v = .slice (some ⟨g, 0, none⟩) n c ∧ base ≤ g ∧ g < w.heap.size := by
  rcases h.2 with ⟨_, h2⟩ | ⟨g, cap, cur, h1, h2, h3, _⟩
  · omega
  · exact ⟨g, cap, h1, h2, (Array.getElem?_eq_some_iff.1 h3).1⟩
theorem freeFrom_lt (lo : Int) : ∀ (le : List Int) (k : Nat), freeFrom lo k le < 0 ∨ (k : Int) ≤ freeFrom lo k le ∧ freeFrom lo k le < k + le.length
  | [], k => by simp [freeFrom]
  | e :: r, k => by
      unfold freeFrom
      split
      · right; simp; omega
      · rcases freeFrom_lt lo r (k + 1) with h | h
        · exact .inl h
        · right; simp at h ⊢; omega

set_option maxHeartbeats 4000000 in
set_option maxRecDepth 100000 in
theorem tracks_any (g : Nat) (F : Nat → Int) (A An : Option Addr) (c cn B : Nat) (xs : List (Int × Int)) (w : World) (h : RowAt w g (.slice An xs.length cn) F (.slice A xs.length c)) (hr : Row w B A (xcells xs)) (hB : B ≤ w.heap.size)
    (hn0 : 0 < xs.length) (hn : xs.length < 20) :
    Calls Tryz.prog 43 #[.pointer (some ⟨g, 0, none⟩)] w fun e w' => ∃ (Ao : Option Addr) (co : Nat), e = .returned (.tuple #[.slice Ao xs.length co, .int .i64 ((tracksOf xs).1.length : Int)]) ∧
      Row w' w'.heap.size Ao ((tracksOf xs).2.map fun x => Value.int .i64 ((x : Nat) : Int)) ∧ Below w.heap.size w w' ∧ (∀ b off, Ao = some ⟨b, off, none⟩ → w.heap.size ≤ b) ∧ xs.length ≤ co := by
  have hgl := h.lt
  obtain ⟨i0, hi0, iz0, iz1, iz2⟩ := info_parts Tryz.info3
  obtain ⟨n, hnx⟩ : ∃ n, xs.length = n := ⟨_, rfl⟩
  have HNX := Lib.hid hnx
  have HG := Lib.hid h
  have HR := Lib.hid hr
  rw [hnx] at hn0 hn
  have hnets : w.cell? ⟨g, 0, none⟩ = some (.slice An n cn) := by rw [← hnx]; exact h.nets
  rw [hnx]
  clear h hr hnx
  go_enter Tryz.func43, Tryz.ntmps43
  go_wp2_with fail
  obtain ⟨W0, hW0⟩ : ∃ W, w.alloc (.cells #[.pointer (some ⟨g, 0, none⟩)] 73) = W := ⟨_, rfl⟩
  obtain ⟨bx, hbx⟩ : ∃ bx, w.heap.size = bx := ⟨_, rfl⟩
  have d0 : Blk W0 bx 73 #[.pointer (some ⟨g, 0, none⟩)] := by rw [← hW0, ← hbx]; exact Blk.new _ _ _
  have e0 : Below w.heap.size w W0 := by rw [← hW0]; exact (Below.refl _ w).alloc (Nat.le_refl _) _
  have hs0 : W0.heap.size = bx + 1 := by rw [← hW0, ← hbx]; simp
  have hb0 : W0.cell? ⟨bx, 0, none⟩ = some (.pointer (some ⟨g, 0, none⟩)) := d0.cell 0
  have hn00 : W0.cell? ⟨g, 0, none⟩ = some (.slice An n cn) := (e0.cell (p := ⟨g, 0, none⟩) hgl).trans hnets
  try rw [hW0]
  try rw [hbx]
  clear hW0
  go_loopw [4, 17] (fun v i wr => ∃ k : Nat, k ≤ n ∧ i = .int .i64 k ∧ wr.ownsRow (bx + 1) 3 1 v k ((List.range k).map fun x => Value.int .i64 ((x : Nat) : Int)) ∧ Below (bx + 1) W0 wr) (fun _ i _ => n - (intOf i).toNat)
  case atStart => exact ⟨0, Nat.zero_le _, rfl, World.ownsRow_nil _ _ _ _, Below.refl _ _⟩
  case round =>
    obtain ⟨k, hk, rfl, hown, eb⟩ := hrel
    have hsz := eb.size
    by_cases hlt : k < n
    · have hkn : (k : Int) < (n : Int) := by omega
      go_wp2_with (at_builtin; refine wpList_append_own_at _ rfl (.tmp 20) (.tmp 22) 24 rfl (bx + 1) 3 i0 (.int .i64 0) 1 8 Tryz.underlying24 hi0 iz0 iz1 iz2 rfl (by decide) _ _ _ rfl (hown.alloc _) ⟨_, 0, none⟩ 1 1 [.int .i64 (k : Int)] rfl rfl (cell_one_new _ _ _) ?hone ?c3 ?c4 ?c5 ?_)
      case hone => intro u hu; simp at hu; subst hu; rfl
      case c3 => unfold maxLen; omega
      case c4 => omega
      case c5 => simp; omega
      intro v' w4 hown4 hgrow4 _ hat
      have eb4 : Below (bx + 1) W0 w4 := below_grown eb (by omega) hown hgrow4
      have HRS := Lib.hid (range_snoc k)
      clear hgrow4 hat hown eb
      go_wp2_with fail
      go_roundw
      case rel => exact ⟨k + 1, by omega, by go_num, by rw [HRS.out]; exact hown4, eb4⟩
      case measure => simp [intOf]; omega
    · obtain rfl : k = n := by omega
      have hkn : ¬ (k : Int) < (k : Int) := by omega
      obtain ⟨gb, cb, rfl, hgb, hdl, hdr⟩ := own_drow hown hn0
      have e1 : Below w.heap.size w wr := e0.trans (eb.mono (by omega))
      have hBL : ByLow bx (bx + 1) k (lowAt xs) wr := by
        intro i j wx hi hj hbx'
        have ew : Below w.heap.size w wx := e1.trans (hbx'.mono (by omega))
        have eW : Below (bx + 1) W0 wx := eb.trans hbx'
        exact byLow_any bx g _ F A c B i j xs wx ((eW.cell (p := ⟨bx, 0, none⟩) (by show bx < bx + 1; omega)).trans hb0) (HG.out.block (ew.block g hgl)) (HR.out.below ew hB) (by rw [HNX.out]; exact hi) (by rw [HNX.out]; exact hj)
      have hSS := SortStable_any bx gb cb (bx + 1) k (List.range k) (lowAt xs) wr hdr hgb (by simpa using hn) (fun x hx => List.mem_range.1 hx) hBL
      rw [List.length_range] at hSS
      have HSS := Lib.hid hSS
      clear hSS hBL hown hdr
      go_wp2_with fail
      refine HSS.out.mono ?_
      rintro e w2 ⟨⟨v, rfl⟩, hd2, hg2⟩
      obtain ⟨ds, hds⟩ : ∃ ds, sortTo (lowAt xs) (List.range k) k = ds := ⟨_, rfl⟩
      have hso := sortTo_ok (lowAt xs) k (List.range k) (fun x hx => List.mem_range.1 hx) k (by simp)
      rw [hds] at hd2 hso
      rw [List.length_range] at hso
      have HDS := Lib.hid hds
      obtain ⟨hdl2, hdm⟩ := hso
      have HDM := Lib.hid hdm
      have e2 : Below w.heap.size w w2 := e1.grown hg2 (by have := e1.size; omega) (fun j hj => by cases hj; omega)
      have eW2 : Below (bx + 1) W0 w2 := eb.grown hg2 (by omega) (fun j hj => by cases hj; exact hgb)
      have hn2 : w2.cell? ⟨g, 0, none⟩ = some (.slice An k cn) := (e2.cell (p := ⟨g, 0, none⟩) hgl).trans hnets
      have hb2 : w2.cell? ⟨bx, 0, none⟩ = some (.pointer (some ⟨g, 0, none⟩)) := (eW2.cell (p := ⟨bx, 0, none⟩) (by show bx < bx + 1; omega)).trans hb0
      have hs2 := eW2.size
      clear HSS hds hdm hg2 eb e1 hnets hn00 e0 hb0 d0
      go_wp2_with (at_make; refine wpList_make_full _ rfl (.tmp 32) (.tmp 32) 24 rfl w2.heap.size 3 i0 (.int .i64 0) 1 Tryz.underlying24 hi0 iz0 iz1 .i64 .i64 (k : Int) (k : Int) k rfl rfl rfl rfl ?b2 ?b3 (Nat.le_refl _) ?_)
      case b2 => rw [iz2]; omega
      case b3 => unfold maxLen; omega
      intro W4 hown4 hg4
      rw [made_zero] at hown4
      obtain ⟨G4, hG4⟩ : ∃ G, w2.heap.size = G := ⟨_, rfl⟩
      rw [hG4] at hown4 ⊢
      obtain ⟨g', c', hgo, _, _, hdo⟩ := own_drow hown4 hn0
      have hgo' : g' = G4 := by injection hgo with h1; injection h1 with h1; injection h1 with h1; exact h1.symm
      subst hgo'
      have e4 : Below w.heap.size w W4 := e2.grown hg4 (by have := e2.size; omega) (fun j hj => by cases hj)
      have hd4 : DRow W4 gb ds := hd2.block (hg4.block gb hd2.lt (fun h => by cases h)) hg4.size
      have hb4 : W4.cell? ⟨bx, 0, none⟩ = some (.pointer (some ⟨g, 0, none⟩)) := hg4.cell hb2 (fun h => by cases h)
      have hgb4 : gb < g' := by have := hd2.lt; omega
      have hs4 : g' < W4.heap.size := hdo.lt
      have hbx4 : bx < g' := by omega
      have hgg : g < g' := by omega
      have hww : w.heap.size ≤ g' := by omega
      clear hg4 hown4 hgo hd2 hb2 e2 eW2 hn2 hG4
      go_wp2_with fail
      go_loopw [7, 36] (fun lv i wr => ∃ (j : Nat) (le : List Int) (ou : List Nat), j ≤ k ∧ i = .int .i64 (j : Int) ∧ (ds.take j).foldl (trackStep xs) ([], List.replicate k 0) = (le, ou) ∧ le.length ≤ j ∧ wr.ownsRow W4.heap.size 3 1 lv le.length (le.map (Value.int .i64)) ∧ DRow wr g' ou ∧ ou.length = k ∧ W4.grownBy wr (some g')) (fun _ i _ => k - (intOf i).toNat)
      case atStart => exact ⟨0, [], List.replicate k 0, Nat.zero_le _, rfl, rfl, Nat.le_refl _, World.ownsRow_nil _ _ _ _, hdo, by simp, ⟨rfl, rfl, rfl, Nat.le_refl _, fun _ _ _ => rfl⟩⟩
      case round =>
        obtain ⟨j, le, ou, hj, rfl, hfold, hle, hown, hdou, hol, hgr⟩ := hrel
        have HFO := Lib.hid hfold
        clear hfold
        have ew : Below w.heap.size w wr := e4.grown hgr (by omega) (fun j hj => by cases hj; exact hww)
        by_cases hlt : j < k
        · have hdj := (hd4.block (hgr.block gb (by omega) (fun h => by injection h with h; omega)) hgr.size).cell j (by omega)
          have hbw := hgr.cell hb4 (fun h => by injection h with h; have h' : bx = g' := h; omega)
          have hiiM := HDM.out (ds.getD j 0) (by rw [List.getD_eq_getElem?_getD, List.getElem?_eq_getElem (by omega)]; exact List.getElem_mem _)
          have HSTEP := Lib.hid (show (ds.take (j + 1)).foldl (trackStep xs) ([], List.replicate k 0) = trackStep xs (le, ou) (ds.getD j 0) by
            rw [List.take_add_one, List.getElem?_eq_getElem (by omega), Option.toList_some, List.foldl_append, HFO.out, List.getD_eq_getElem?_getD, List.getElem?_eq_getElem (by omega)]; rfl)
          generalize ds.getD j 0 = ii at *
          have x98 := (HG.out.block (ew.block g hgl)).ext
          obtain ⟨b, off, x, y, hA, hbB, hx, hc1, hc2⟩ := (HR.out.below ew hB).extent ii (by rw [HNX.out]; exact hiiM)
          subst hA
          have hxs : xs.getD ii (0, 0) = (x, y) := by rw [List.getD_eq_getElem?_getD, hx]; rfl
          have HTS := Lib.hid (show trackStep xs (le, ou) ii = if freeFrom x 0 le < 0 then (le ++ [y], ou.set ii le.length) else (le.set (freeFrom x 0 le).toNat y, ou.set ii (freeFrom x 0 le).toNat) by
            unfold trackStep; rw [hxs])
          rw [HNX.out] at x98
          have hik : (ii : Int) < (k : Int) := by omega
          have hjk : (j : Int) < (k : Int) := by omega
          obtain ⟨Al, cl, rfl, _, hrl⟩ := own_cap hown
          clear hx hxs
          go_wp2_with fail
          generalize hW5 : World.alloc wr _ = W5
          obtain ⟨Gx, hGx⟩ : ∃ G, wr.heap.size = G := ⟨_, rfl⟩
          have d5 : Blk W5 Gx 139 #[.int .i64 x, .int .i64 y] := by rw [← hW5, ← hGx]; exact Blk.new _ _ _
          have hown5 : W5.ownsRow W4.heap.size 3 1 (.slice Al le.length cl) le.length (le.map (Value.int .i64)) := by rw [← hW5]; exact hown.alloc _
          have hrl5 : Row W5 W5.heap.size Al (le.map (Value.int .i64)) := by rw [← hW5]; exact (hrl.alloc (Nat.le_refl _) _).more (by simp)
          have hou5 : DRow W5 g' ou := by rw [← hW5]; exact hdou.block (Below.heap_alloc wr _ g' hdou.lt) (by simp)
          have hgr5 : W4.grownBy W5 (some g') := by rw [← hW5]; exact grow_alloc hgr _
          have hs5 : Gx < W5.heap.size := by rw [← hW5, ← hGx]; simp
          have hGx4 : W4.heap.size ≤ Gx := by have := hgr.size; omega
          have x5 : W5.cell? ⟨Gx, 0, none⟩ = some (.int .i64 x) := d5.cell 0
          have y5 : W5.cell? ⟨Gx, 1, none⟩ = some (.int .i64 y) := d5.cell 1
          have hlown := hown.lt
          try rw [hGx]
          rw [hGx] at hlown
          have HIF := Lib.hid (IndexFunc_any Al cl W5.heap.size Gx x le W5 (by omega) hrl5 x5)
          clear hW5 hGx hown hrl hdou hgr hdj hbw x98 hc1 hc2 ew hrl5
          refine HIF.out.mono ?_
          rintro e w6 ⟨rfl, rfl⟩
          clear HIF
          have hfr := freeFrom_lt x le 0
          generalize freeFrom x 0 le = tv at *
          by_cases htv : tv < 0
          · rw [if_pos htv] at HTS
            have htd : decide (tv < 0) = true := decide_eq_true htv
            go_wp2_with (at_builtin; refine wpList_append_own_at _ rfl (.tmp 54) (.tmp 55) 24 rfl W4.heap.size 3 i0 (.int .i64 0) 1 8 Tryz.underlying24 hi0 iz0 iz1 iz2 rfl (by decide) _ _ _ rfl (hown5.alloc _) ⟨_, 0, none⟩ 1 1 [.int .i64 0] rfl rfl (cell_one_new _ _ _) ?hone ?c3 ?c4 ?c5 ?_)
            case hone => intro u hu; simp at hu; subst hu; rfl
            case c3 => unfold maxLen; omega
            case c4 => omega
            case c5 => simp; omega
            intro v' W6 hown6 hgrow6 _ hat
            have hz : le.map (Value.int .i64) ++ [.int .i64 0] = (le ++ [0]).map (Value.int .i64) := by simp
            rw [hz] at hown6
            obtain ⟨gl, cl2, rfl, hgl4, hglw⟩ := own_some hown6 (by omega)
            have hg6 : W4.grownBy W6 (some g') := grow_grow (grow_alloc hgr5 _) hgrow6 (fun b hb => (hown5.lt b hb).1)
            have hou6 : DRow W6 g' ou := (hou5.block (Below.heap_alloc W5 _ g' hou5.lt) (by simp)).block (hgrow6.block g' (by have := hou5.lt; simp; omega) (fun e => by have := (hown5.lt g' e.symm).1; omega)) hgrow6.size
            have y6 : W6.cell? ⟨Gx, 1, none⟩ = some (.int .i64 y) := hgrow6.cell ((World.cell?_alloc_lt W5 _ ⟨Gx, 1, none⟩ (by show Gx < _; omega)).trans y5) (fun e => by have := (hlown Gx e.symm).2; omega)
            have fl := own_free hown6 le.length
            have fo := hou6.free ii
            have co := hou6.cell ii (by omega)
            have cl1 := own_cell hown6 le.length (.int .i64 0) (by simp)
            have hne : g' ≠ gl := by omega
            have hset : (le ++ [0]).set le.length y = le ++ [y] := by simp
            have ho1 := own_set (g := g') (i := ii) (u := .int .i64 (le.length : Int)) (own_store (i := le.length) (x := y) hown6 (by omega)) (by omega)
            rw [hset] at ho1
            have hd1 := (hou6.far (b := gl) (i := le.length) (u := .int .i64 y) hne).set (i := ii) (x := le.length)
            have hg1 := grow_set (g := g') (i := ii) (grow_set (g := gl) (i := le.length) hg6 (.inl hgl4) (.int .i64 y)) (.inr rfl) (.int .i64 (le.length : Int))
            have hll : (le.length : Int) < (le.length : Int) + 1 := by omega
            clear hou5 hgr5 hown5 hgrow6 hat hown6 hou6 hg6 hz hset
            go_wp2_with fail
            go_roundw
            case rel => exact ⟨j + 1, le ++ [y], ou.set ii le.length, by omega, by go_num, by rw [HSTEP.out, HTS.out], by simp; omega, by rw [List.length_append]; exact ho1, hd1, by rw [List.length_set]; exact hol, hg1⟩
            case measure => simp [intOf]; omega
          · rw [if_neg htv] at HTS
            have htl : 0 ≤ tv ∧ tv < le.length := by omega
            obtain ⟨T, rfl⟩ : ∃ T : Nat, tv = (T : Int) := ⟨tv.toNat, by omega⟩
            rw [Int.toNat_natCast] at HTS
            obtain ⟨gl, cl2, hv, hgl4, hglw⟩ := own_some hown5 (by omega)
            have hAl : Al = some ⟨gl, 0, none⟩ := by injection hv
            subst hAl
            have fl := own_free hown5 T
            have fo := hou5.free ii
            have hTl : (T : Int) < (le.length : Int) := by omega
            have co := hou5.cell ii (by omega)
            have cl1 := own_cell hown5 T (.int .i64 (le[T]'(by omega))) (by rw [List.getElem?_map, List.getElem?_eq_getElem (by omega)]; rfl)
            have hne : g' ≠ gl := by omega
            have ho1 := own_set (g := g') (i := ii) (u := .int .i64 (T : Int)) (own_store (i := T) (x := y) hown5 (by omega)) (by omega)
            have hd1 := (hou5.far (b := gl) (i := T) (u := .int .i64 y) hne).set (i := ii) (x := T)
            have hg1 := grow_set (g := g') (i := ii) (grow_set (g := gl) (i := T) hgr5 (.inl hgl4) (.int .i64 y)) (.inr rfl) (.int .i64 (T : Int))
            clear hou5 hgr5 hown5
            go_wp2_with fail
            go_roundw
            case rel => exact ⟨j + 1, le.set T y, ou.set ii T, by omega, by go_num, by rw [HSTEP.out, HTS.out], by rw [List.length_set]; omega, by rw [List.length_set]; exact ho1, hd1, by rw [List.length_set]; exact hol, hg1⟩
            case measure => simp [intOf]; omega
        · obtain rfl : j = k := by omega
          rw [show ds.take j = ds by rw [← hdl2]; exact List.take_length] at HFO
          have hres : tracksOf xs = (le, ou) := by unfold tracksOf; rw [HNX.out, HDS.out]; exact HFO.out
          obtain ⟨Al, cl, rfl, _, hrl⟩ := own_cap hown
          go_wp2_with fail
          go_ret2
          rw [hres]
          exact ⟨some ⟨g', 0, none⟩, j, rfl, .inr ⟨g', 0, rfl, hdou.lt, fun i hi => by
            rw [List.length_map] at hi
            rw [Nat.zero_add, hdou.cell i hi]
            simp only [List.getD_eq_getElem?_getD, List.getElem?_map, List.getElem?_eq_getElem (show i < ou.length from hi)]; rfl⟩, ew, fun b off h => by injection h with h; injection h with h1 _ _; rw [← h1]; exact hww, Nat.le_refl _⟩

def RetTracks (w0 : World) (xs : List (Int × Int)) (e : Ending) (w' : World) : Prop :=
  ∃ (Ao : Option Addr) (co : Nat), e = .returned (.tuple #[.slice Ao xs.length co, .int .i64 ((tracksOf xs).1.length : Int), .int .i64 0]) ∧
    Row w' w'.heap.size Ao ((tracksOf xs).2.map fun x => Value.int .i64 ((x : Nat) : Int)) ∧ Below w0.heap.size w0 w' ∧ (xs = [] ∨ ∀ b off, Ao = some ⟨b, off, none⟩ → w0.heap.size ≤ b) ∧ xs.length ≤ co
theorem Tracks_bad (A A2 : Option Addr) (c c2 B : Nat) (l : List NetAt) (order : List Int) (n : Int) (w : World) (h : NetsIn w B A l) (h2 : Row w B A2 (order.map (Value.int .i64))) (hi : ∀ c ∈ order, I64 c) (hB : B ≤ w.heap.size) (hl : l.length ≤ 140737488355328) (hl2 : order.length ≤ 1000000)
    (E : Int) (hE : Bus.bothErr (l.map NetAt.net) n order = E) (h0 : E ≠ 0) :
    Calls Tryz.prog 24 #[.slice A l.length c, .int .i64 n, .slice A2 order.length c2] w fun e w' => e = .returned (.tuple #[.slice none 0 0, .int .i64 0, .int .i64 E]) ∧ Below w.heap.size w w' := by
  have HC := Lib.hid (checked_any A A2 c c2 B l order n w h h2 hi hB hl hl2)
  rw [hE] at HC
  have hne : (E != 0) = true := by rw [bne_iff_ne]; exact h0
  clear h h2 hi hE
  go_enter Tryz.func24, Tryz.ntmps24
  go_wp2_with fail
  refine HC.out.mono ?_
  rintro e w1 ⟨rfl, hb1⟩
  go_wp2_with fail
  go_ret3
  exact ⟨rfl, hb1⟩
set_option maxRecDepth 100000 in
theorem Tracks_ok (A A2 : Option Addr) (c c2 B : Nat) (l : List NetAt) (order : List Int) (n : Int) (w : World) (h : NetsIn w B A l) (h2 : Row w B A2 (order.map (Value.int .i64))) (hi : ∀ c ∈ order, I64 c) (hB : B ≤ w.heap.size) (hl : l.length ≤ 140737488355328) (hl2 : order.length ≤ 1000000)
    (hE : Bus.bothErr (l.map NetAt.net) n order = 0) (hl0 : 0 < l.length) (hl20 : l.length < 20) :
    Calls Tryz.prog 24 #[.slice A l.length c, .int .i64 n, .slice A2 order.length c2] w (RetTracks w (Bus.exts (Bus.atUp order order.length) (l.map NetAt.net))) := by
  have HC := Lib.hid (checked_any A A2 c c2 B l order n w h h2 hi hB hl hl2)
  rw [hE] at HC
  obtain ⟨z1, z2⟩ := both_zero hE
  have HST := Lib.hid (fun w' (hb : Below w.heap.size w w') => stand_any A A2 c c2 B l order n w' (h.below hb hB) (h2.below hb hB) (by have := hb.size; omega) z2 z1)
  obtain ⟨F, hF⟩ : ∃ F, Bus.atUp order order.length = F := ⟨_, rfl⟩
  rw [hF] at HST ⊢
  have hlen := exts_len F l
  obtain ⟨xs, hxs⟩ : ∃ xs, Bus.exts F (l.map NetAt.net) = xs := ⟨_, rfl⟩
  rw [hxs] at hlen ⊢
  have HXS := Lib.hid hxs
  clear h h2 hi hE hF z1 z2 hxs
  go_enter Tryz.func24, Tryz.ntmps24
  go_wp2_with fail
  refine HC.out.mono ?_
  rintro e w1 ⟨rfl, hb1⟩
  go_wp2_with fail
  refine (HST.out _ hb1).mono ?_
  rintro e w2 ⟨g, v, rfl, hg, hrow, hown, hb2⟩
  rw [HXS.out] at hown
  obtain ⟨Av, cv, rfl, _, hr⟩ := own_cap hown
  rw [← hlen] at hrow
  have e2 := below_after hb1 hb2 (Nat.le_refl _)
  have HT := Lib.hid (tracks_any g F Av A cv c w2.heap.size xs w2 hrow hr (Nat.le_refl _) (by omega) (by omega))
  clear hrow hown hr
  go_wp2_with fail
  refine HT.out.mono ?_
  rintro e w3 ⟨Ao, co, rfl, hro, hb3, hfr, hco⟩
  have e3 := below_after e2 hb3 (Nat.le_refl _)
  go_wp2_with fail
  go_ret3
  exact ⟨Ao, co, by rw [hlen]; rfl, hro, e3, .inr fun b off h => Nat.le_trans e2.size (hfr b off h), hco⟩
end Go.Proofs.YtbldpojkpmafpaaGreatDoor
