/- Package bus: the extents and the length of an order. -/
import Derived.Test.YtkjjnnbbicoljaaGreatDoorBusStand
namespace Go.Proofs.YtkjjnnbbicoljaaGreatDoor
open Go.RowKit

theorem xcells_at (ps : List (Int × Int)) : ∀ (k : Nat) (p : Int × Int), ps[k]? = some p → (xcells ps)[k * 2]? = some (.int .i64 p.1) ∧ (xcells ps)[k * 2 + 1]? = some (.int .i64 p.2) := by
  induction ps with
  | nil => intro k p h; simp at h
  | cons q r ih =>
    intro k p h
    cases k with
    | zero => simp at h; subst h; exact ⟨rfl, rfl⟩
    | succ k =>
      have := ih k p (by simpa using h)
      rw [show (k + 1) * 2 = k * 2 + 1 + 1 by omega]
      simpa [xcells] using this
/-- the k-th extent, under names of its own -/
theorem Row.extent {w : World} {B : Nat} {A : Option Addr} {ps : List (Int × Int)} (h : Row w B A (xcells ps)) (k : Nat) (hk : k < ps.length) :
    ∃ b off x y, A = some ⟨b, off, none⟩ ∧ b < B ∧ ps[k]? = some (x, y) ∧ w.cell? ⟨b, off + k * 2, none⟩ = some (.int .i64 x) ∧ w.cell? ⟨b, off + k * 2 + 1, none⟩ = some (.int .i64 y) := by
  have hl := xcells_len ps
  obtain ⟨b, off, h1, h2, h3⟩ := h.open (by omega)
  obtain ⟨e1, e2⟩ := xcells_at ps k ps[k] (List.getElem?_eq_getElem hk)
  refine ⟨b, off, ps[k].1, ps[k].2, h1, h2, List.getElem?_eq_getElem hk, ?_, ?_⟩
  · rw [h3 (k * 2) (by omega), List.getD_eq_getElem?_getD, e1]; rfl
  · rw [Nat.add_assoc, h3 (k * 2 + 1) (by omega), List.getD_eq_getElem?_getD, e2]; rfl
/-- the sum of the lengths -/
def sumExt (l : List (Int × Int)) : Int := l.foldl (fun s p => s + (p.2 - p.1)) 0
theorem sumExt_snoc (l : List (Int × Int)) (p : Int × Int) : sumExt (l ++ [p]) = sumExt l + (p.2 - p.1) := by simp [sumExt]
def smallExt (p : Int × Int) : Prop := -1000 ≤ p.1 ∧ p.1 ≤ 1000 ∧ -1000 ≤ p.2 ∧ p.2 ≤ 1000
theorem sumExt_bd (l : List (Int × Int)) (h : ∀ p ∈ l, smallExt p) : ∀ k, k ≤ l.length → -(2000 * (k : Int)) ≤ sumExt (l.take k) ∧ sumExt (l.take k) ≤ 2000 * (k : Int) := by
  intro k
  induction k with
  | zero => intro _; simp [sumExt]
  | succ k ih =>
    intro hk
    obtain ⟨h1, h2⟩ := ih (by omega)
    obtain ⟨b1, b2, b3, b4⟩ := h l[k] (List.getElem_mem _)
    rw [List.take_add_one, List.getElem?_eq_getElem (by omega), Option.toList_some, sumExt_snoc]
    omega

set_option maxHeartbeats 2000000 in
set_option maxRecDepth 100000 in
theorem rowLength_any (g : Nat) (V : Value) (F : Nat → Int) (A : Option Addr) (c B : Nat) (xs : List (Int × Int)) (w : World) (h : RowAt w g V F (.slice A xs.length c)) (hr : Row w B A (xcells xs)) (hB : B ≤ w.heap.size)
    (hx : ∀ p ∈ xs, smallExt p) (hl : xs.length ≤ 1000) :
    Calls Tryz.prog 71 #[.pointer (some ⟨g, 0, none⟩)] w fun e w' => e = .returned (.int .i64 (sumExt xs)) ∧ Below w.heap.size w w' := by
  have HR := Lib.hid hr
  have HX := Lib.hid hx
  have x98 := h.ext
  clear hr hx h
  go_enter Tryz.func71, Tryz.ntmps71
  go_wp2_with fail
  go_loopw [3, 11] (fun s i wr => ∃ k : Nat, k ≤ xs.length ∧ i = .int .i64 k ∧ s = .int .i64 (sumExt (xs.take k)) ∧ Below w.heap.size w wr) (fun _ i _ => xs.length - (intOf i).toNat)
  case atStart => exact ⟨0, Nat.zero_le _, rfl, rfl, Below.refl _ _⟩
  case round =>
    obtain ⟨k, hk, rfl, rfl, eb⟩ := hrel
    have hsz := eb.size
    by_cases hlt : k < xs.length
    · obtain ⟨b, off, x, y, rfl, hbB, hx, hc1, hc2⟩ := HR.out.extent k hlt
      have hk1 := (eb.cell (p := ⟨b, off + k * 2, none⟩) (by show b < _; omega)).trans hc1
      have hk2 := (eb.cell (p := ⟨b, off + k * 2 + 1, none⟩) (by show b < _; omega)).trans hc2
      have hsm := HX.out (x, y) (List.mem_of_getElem? hx)
      obtain ⟨b1, b2, b3, b4⟩ := hsm
      simp only at b1 b2 b3 b4
      obtain ⟨s1, s2⟩ := sumExt_bd xs HX.out k hk
      have HS := Lib.hid (show sumExt (xs.take (k + 1)) = sumExt (xs.take k) + (y - x) by rw [List.take_add_one, hx]; exact sumExt_snoc _ _)
      generalize sumExt (xs.take k) = s at *
      have q1 : IntKind.i64.wrap (y - x) = y - x := IntWalk.i64_in _ (by omega)
      have q2 : IntKind.i64.wrap (s + (y - x)) = s + (y - x) := IntWalk.i64_in _ (by omega)
      clear hx hc1 hc2
      go_wp2_with fail
      go_roundw
      case rel => exact ⟨k + 1, by omega, by go_num, by rw [HS.out], eb.alloc hsz _⟩
      case measure => simp [intOf]; omega
    · obtain rfl : k = xs.length := by omega
      rw [List.take_length]
      go_wp2_with fail
      go_ret
      exact ⟨rfl, eb⟩

theorem fold_bd (F : Nat → Int) (hF : ∀ i, 0 ≤ F i ∧ F i ≤ 97) : ∀ (cols : List Int) (a b : Int), -1000 ≤ a → a ≤ 1000 → -1000 ≤ b → b ≤ 1000 →
    (-1000 ≤ cols.foldl (fun l c => min l (F c.toNat)) a ∧ cols.foldl (fun l c => min l (F c.toNat)) a ≤ 1000) ∧ -1000 ≤ cols.foldl (fun l c => max l (F c.toNat)) b ∧ cols.foldl (fun l c => max l (F c.toNat)) b ≤ 1000
  | [], a, b, h1, h2, h3, h4 => ⟨⟨h1, h2⟩, h3, h4⟩
  | c :: r, a, b, h1, h2, h3, h4 => by
      have := hF c.toNat
      simp only [List.foldl_cons]
      exact fold_bd F hF r _ _ (by omega) (by omega) (by omega) (by omega)
theorem exts_small (F : Nat → Int) (hF : ∀ i, 0 ≤ F i ∧ F i ≤ 97) (l : List Bus.Net) : ∀ p ∈ Bus.exts F l, smallExt p := by
  intro p hp
  obtain ⟨x, _, rfl⟩ := List.mem_map.1 hp
  have := fold_bd F hF x.2 97 (-1) (by omega) (by omega) (by omega) (by omega)
  exact ⟨this.1.1, this.1.2, this.2.1, this.2.2⟩

/-- what Extents returns -/
def RetExts (w0 : World) (xs : List (Int × Int)) (e : Ending) (w' : World) : Prop :=
  ∃ A c, e = .returned (.tuple #[.slice A xs.length c, .int .i64 0]) ∧ Row w' w'.heap.size A (xcells xs) ∧ Below w0.heap.size w0 w'
theorem Extents_bad (A A2 : Option Addr) (c c2 B : Nat) (l : List NetAt) (order : List Int) (n : Int) (w : World) (h : NetsIn w B A l) (h2 : Row w B A2 (order.map (Value.int .i64))) (hi : ∀ c ∈ order, I64 c) (hB : B ≤ w.heap.size) (hl : l.length ≤ 140737488355328) (hl2 : order.length ≤ 1000000)
    (E : Int) (hE : Bus.bothErr (l.map NetAt.net) n order = E) (h0 : E ≠ 0) :
    Calls Tryz.prog 21 #[.slice A l.length c, .int .i64 n, .slice A2 order.length c2] w fun e w' => e = .returned (.tuple #[.slice none 0 0, .int .i64 E]) ∧ Below w.heap.size w w' := by
  have HC := Lib.hid (checked_any A A2 c c2 B l order n w h h2 hi hB hl hl2)
  rw [hE] at HC
  have hne : (E != 0) = true := by rw [bne_iff_ne]; exact h0
  clear h h2 hi hE
  go_enter Tryz.func21, Tryz.ntmps21
  go_wp2_with fail
  refine HC.out.mono ?_
  rintro e w1 ⟨rfl, hb1⟩
  go_wp2_with fail
  go_ret2
  exact ⟨rfl, hb1⟩
theorem Length_bad (A A2 : Option Addr) (c c2 B : Nat) (l : List NetAt) (order : List Int) (n : Int) (w : World) (h : NetsIn w B A l) (h2 : Row w B A2 (order.map (Value.int .i64))) (hi : ∀ c ∈ order, I64 c) (hB : B ≤ w.heap.size) (hl : l.length ≤ 140737488355328) (hl2 : order.length ≤ 1000000)
    (E : Int) (hE : Bus.bothErr (l.map NetAt.net) n order = E) (h0 : E ≠ 0) :
    Calls Tryz.prog 39 #[.slice A l.length c, .int .i64 n, .slice A2 order.length c2] w fun e w' => e = .returned (.tuple #[.int .i64 0, .int .i64 E]) ∧ Below w.heap.size w w' := by
  have HC := Lib.hid (checked_any A A2 c c2 B l order n w h h2 hi hB hl hl2)
  rw [hE] at HC
  have hne : (E != 0) = true := by rw [bne_iff_ne]; exact h0
  clear h h2 hi hE
  go_enter Tryz.func39, Tryz.ntmps39
  go_wp2_with fail
  refine HC.out.mono ?_
  rintro e w1 ⟨rfl, hb1⟩
  go_wp2_with fail
  go_ret2
  exact ⟨rfl, hb1⟩
theorem both_zero {l : List Bus.Net} {n : Int} {order : List Int} (h : Bus.bothErr l n order = 0) : Bus.netsErr l n = 0 ∧ Bus.orderErr order n = 0 := by
  unfold Bus.bothErr at h
  split at h
  · contradiction
  · exact ⟨by omega, h⟩
theorem exts_len (F : Nat → Int) (l : List NetAt) : (Bus.exts F (l.map NetAt.net)).length = l.length := by simp [Bus.exts]
set_option maxRecDepth 100000 in
theorem Extents_ok (A A2 : Option Addr) (c c2 B : Nat) (l : List NetAt) (order : List Int) (n : Int) (w : World) (h : NetsIn w B A l) (h2 : Row w B A2 (order.map (Value.int .i64))) (hi : ∀ c ∈ order, I64 c) (hB : B ≤ w.heap.size) (hl : l.length ≤ 140737488355328) (hl2 : order.length ≤ 1000000)
    (hE : Bus.bothErr (l.map NetAt.net) n order = 0) :
    Calls Tryz.prog 21 #[.slice A l.length c, .int .i64 n, .slice A2 order.length c2] w (RetExts w (Bus.exts (Bus.atUp order order.length) (l.map NetAt.net))) := by
  have HC := Lib.hid (checked_any A A2 c c2 B l order n w h h2 hi hB hl hl2)
  rw [hE] at HC
  obtain ⟨z1, z2⟩ := both_zero hE
  have HST := Lib.hid (fun w' (hb : Below w.heap.size w w') => stand_any A A2 c c2 B l order n w' (h.below hb hB) (h2.below hb hB) (by have := hb.size; omega) z2 z1)
  obtain ⟨F, hF⟩ : ∃ F, Bus.atUp order order.length = F := ⟨_, rfl⟩
  rw [hF] at HST ⊢
  clear h h2 hi hE hF z1 z2
  go_enter Tryz.func21, Tryz.ntmps21
  go_wp2_with fail
  refine HC.out.mono ?_
  rintro e w1 ⟨rfl, hb1⟩
  go_wp2_with fail
  refine (HST.out _ hb1).mono ?_
  rintro e w2 ⟨g, v, rfl, hg, hrow, hown, hb2⟩
  have x98 := hrow.ext
  obtain ⟨Av, cv, rfl, _, hr⟩ := own_cap hown
  have e2 := below_after hb1 hb2 (Nat.le_refl _)
  go_wp2_with fail
  go_ret2
  exact ⟨Av, cv, by rw [exts_len]; rfl, hr, e2⟩
set_option maxRecDepth 100000 in
theorem Length_ok (A A2 : Option Addr) (c c2 B : Nat) (l : List NetAt) (order : List Int) (n : Int) (w : World) (h : NetsIn w B A l) (h2 : Row w B A2 (order.map (Value.int .i64))) (hi : ∀ c ∈ order, I64 c) (hB : B ≤ w.heap.size) (hl : l.length ≤ 140737488355328) (hl2 : order.length ≤ 1000000)
    (hE : Bus.bothErr (l.map NetAt.net) n order = 0) :
    Calls Tryz.prog 39 #[.slice A l.length c, .int .i64 n, .slice A2 order.length c2] w fun e w' => e = .returned (.tuple #[.int .i64 (sumExt (Bus.exts (Bus.atUp order order.length) (l.map NetAt.net))), .int .i64 0]) ∧ Below w.heap.size w w' := by
  have HC := Lib.hid (checked_any A A2 c c2 B l order n w h h2 hi hB hl hl2)
  rw [hE] at HC
  obtain ⟨z1, z2⟩ := both_zero hE
  have l64 := (Bus.netsErr_zero z1).2.2.1
  rw [List.length_map] at l64
  have hol := (Bus.orderErr_zero z2).1
  have hn97 := (Bus.netsErr_zero z1).2.1
  have HST := Lib.hid (fun w' (hb : Below w.heap.size w w') => stand_any A A2 c c2 B l order n w' (h.below hb hB) (h2.below hb hB) (by have := hb.size; omega) z2 z1)
  have hF0 : ∀ i, 0 ≤ Bus.atUp order order.length i ∧ Bus.atUp order order.length i ≤ 97 := fun i => by have := Bus.atUp_bd order order.length i; omega
  obtain ⟨F, hF⟩ : ∃ F, Bus.atUp order order.length = F := ⟨_, rfl⟩
  rw [hF] at HST hF0 ⊢
  have HSM := Lib.hid (exts_small F hF0 (l.map NetAt.net))
  have hlen := exts_len F l
  obtain ⟨xs, hxs⟩ : ∃ xs, Bus.exts F (l.map NetAt.net) = xs := ⟨_, rfl⟩
  rw [hxs] at HSM hlen ⊢
  have HXS := Lib.hid hxs
  clear h h2 hi hE hF z1 z2 hF0 hxs hol hn97
  go_enter Tryz.func39, Tryz.ntmps39
  go_wp2_with fail
  refine HC.out.mono ?_
  rintro e w1 ⟨rfl, hb1⟩
  go_wp2_with fail
  refine (HST.out _ hb1).mono ?_
  rintro e w2 ⟨g, v, rfl, hg, hrow, hown, hb2⟩
  rw [HXS.out] at hown
  obtain ⟨Av, cv, rfl, _, hr⟩ := own_cap hown
  have e2 := below_after hb1 hb2 (Nat.le_refl _)
  rw [← hlen] at hrow
  have HL := Lib.hid (rowLength_any g _ F Av cv w2.heap.size xs w2 hrow hr (Nat.le_refl _) HSM.out (by omega))
  clear hrow hown hr
  go_wp2_with fail
  refine HL.out.mono ?_
  rintro e w3 ⟨rfl, hb3⟩
  have e3 := below_after e2 hb3 (Nat.le_refl _)
  go_wp2_with fail
  go_ret2
  exact ⟨rfl, e3⟩
end Go.Proofs.YtkjjnnbbicoljaaGreatDoor
