/- Package num: the texts and the lengths of machine integers. -/
import Derived.Test.YtpibknhnhegebaaGreatDoorNumAdd
namespace Go.Proofs.YtpibknhnhegebaaGreatDoor
open Go.RowKit
attribute [local go_sem] nil_eql nil_neq

/-- sign and digits of a machine integer other than 0 -/
def PartsOne (n : Int) (w0 : World) (e : Ending) (w' : World) : Prop :=
  ∃ g, e = .returned (.tuple #[.bool (decide (n < 0)), .slice (some ⟨g, 0, none⟩) 1 1]) ∧ Blk w' g 187 #[.int .u64 (n.natAbs : Int)] ∧ w0.heap.size ≤ g ∧ Below w0.heap.size w0 w'

set_option maxHeartbeats 1000000 in
set_option maxRecDepth 100000 in
theorem parts_one (n : Int) (w : World) (h1 : -4000000000000000000 ≤ n) (h2 : n ≤ 4000000000000000000) (h0 : n ≠ 0) :
    Calls Tryz.prog 152 #[.agg #[.int .i64 n, .slice none 0 0]] w (PartsOne n w) := by
  have hz : (n == 0) = false := by simpa using h0
  go_enter Tryz.func152, Tryz.ntmps152
  go_wp2_with fail
  generalize hW0 : World.alloc w _ = W0
  have d0 : Blk W0.drew w.heap.size 82 #[.int .i64 n, .slice none 0 0] := by rw [← hW0]; exact (Blk.new _ _ _).drew
  have e0 : Below w.heap.size w W0 := by rw [← hW0]; exact (by repeat (first | with_reducible exact Below.refl _ _ | with_reducible assumption | with_reducible refine Below.setCell ?_ (by first | omega | (simp; done) | (simp; omega)) _ | with_reducible refine below_drewN ?_ _ | with_reducible refine Below.drew ?_ | with_reducible refine Below.alloc ?_ (by first | omega | (simp; done) | (simp; omega)) _ | with_reducible refine below_after ?_ (by assumption) (by first | omega | (simp; done) | (simp; omega))))
  clear hW0
  have s0 : w.heap.size < W0.heap.size := d0.lt
  have m1 : W0.cell? ⟨w.heap.size, 0, none⟩ = some (.int .i64 n) := d0.cell 0
  have m2 : W0.cell? ⟨w.heap.size, 1, none⟩ = some (.slice none 0 0) := d0.cell 1
  have l1 : W0.drew.cell? ⟨w.heap.size, 0, none⟩ = some (.int .i64 n) := d0.cell 0
  have l2 : W0.drew.cell? ⟨w.heap.size, 1, none⟩ = some (.slice none 0 0) := d0.cell 1
  go_region_held3 (fun w' => w'.cell? ⟨w.heap.size, 0, none⟩ = some (.int .i64 n) ∧ w'.cell? ⟨w.heap.size, 1, none⟩ = some (.slice none 0 0))
    (first | (with_reducible exact ⟨l1, l2⟩) | (go_split_ands; with_reducible exact ⟨by assumption, by assumption⟩) | go_keep)
    (first
      | (go_at_call 151; refine (size_any _ _ h1 h2).mono ?_; rintro e w1 ⟨rfl, rfl⟩))
  all_goals (go_wp2_with fail)
  go_ret2
  exact ⟨_, rfl, (Blk.new _ _ _).drew, by have := e0.size; exact this, ((e0.alloc (by have := e0.size; exact this) _).drew)⟩

theorem parts_zero (w : World) :
    Calls Tryz.prog 152 #[.agg #[.int .i64 0, .slice none 0 0]] w fun e w' => e = .returned (.tuple #[.bool false, .slice none 0 0]) ∧ Below w.heap.size w w' := by
  have hz : ((0 : Int) == 0) = true := rfl
  go_enter Tryz.func152, Tryz.ntmps152
  go_wp2
  go_ret2
  exact ⟨rfl, (by repeat (first | with_reducible exact Below.refl _ _ | with_reducible assumption | with_reducible refine Below.setCell ?_ (by first | omega | (simp; done) | (simp; omega)) _ | with_reducible refine below_drewN ?_ _ | with_reducible refine Below.drew ?_ | with_reducible refine Below.alloc ?_ (by first | omega | (simp; done) | (simp; omega)) _ | with_reducible refine below_after ?_ (by assumption) (by first | omega | (simp; done) | (simp; omega))))⟩

theorem bitLenAux_le : ∀ (f x : Nat), Lib.bitLenAux f x ≤ f
  | 0, x => by simp [Lib.bitLenAux]
  | f + 1, x => by
      have := bitLenAux_le f (x / 2)
      unfold Lib.bitLenAux
      split <;> omega
theorem bitLen_le (x : Nat) : Lib.bitLen x ≤ 64 := bitLenAux_le 64 x

/-- how many bits a machine integer has: at most 64 -/
def FewBits (w0 : World) (e : Ending) (w' : World) : Prop := ∃ k : Int, 0 ≤ k ∧ k ≤ 64 ∧ e = .returned (.int .i64 k) ∧ Below w0.heap.size w0 w'

set_option maxHeartbeats 1000000 in
set_option maxRecDepth 100000 in
theorem Bits_any (n : Int) (w : World) (h1 : -4000000000000000000 ≤ n) (h2 : n ≤ 4000000000000000000) :
    Calls Tryz.prog 191 #[.agg #[.int .i64 n, .slice none 0 0]] w (FewBits w) := by
  by_cases h0 : n = 0
  · subst h0
    go_enter Tryz.func191, Tryz.ntmps191
    go_wp2_with fail
    generalize hW0 : World.alloc w _ = W0
    have e0 : Below w.heap.size w W0 := by rw [← hW0]; exact (by repeat (first | with_reducible exact Below.refl _ _ | with_reducible assumption | with_reducible refine Below.setCell ?_ (by first | omega | (simp; done) | (simp; omega)) _ | with_reducible refine below_drewN ?_ _ | with_reducible refine Below.drew ?_ | with_reducible refine Below.alloc ?_ (by first | omega | (simp; done) | (simp; omega)) _ | with_reducible refine below_after ?_ (by assumption) (by first | omega | (simp; done) | (simp; omega))))
    clear hW0
    refine (parts_zero _).mono ?_
    rintro e w1 ⟨rfl, hb1⟩
    go_wp2_with fail
    go_ret
    exact ⟨0, by omega, by omega, rfl, below_after e0 hb1 (Nat.le_refl _)⟩
  · go_enter Tryz.func191, Tryz.ntmps191
    go_wp2_with fail
    generalize hW0 : World.alloc w _ = W0
    have e0 : Below w.heap.size w W0 := by rw [← hW0]; exact (by repeat (first | with_reducible exact Below.refl _ _ | with_reducible assumption | with_reducible refine Below.setCell ?_ (by first | omega | (simp; done) | (simp; omega)) _ | with_reducible refine below_drewN ?_ _ | with_reducible refine Below.drew ?_ | with_reducible refine Below.alloc ?_ (by first | omega | (simp; done) | (simp; omega)) _ | with_reducible refine below_after ?_ (by assumption) (by first | omega | (simp; done) | (simp; omega))))
    clear hW0
    refine (parts_one n _ h1 h2 h0).mono ?_
    rintro e w1 ⟨g, rfl, hg, hge, hb1⟩
    have hc : w1.cell? ⟨g, 0, none⟩ = some (.int .u64 (n.natAbs : Int)) := hg.cell 0
    have e1 := below_after e0 hb1 (Nat.le_refl _)
    have hk := bitLen_le n.natAbs
    clear hg hge hb1 e0
    go_wp2_with (go_at_call 181; refine (Tryz.bits_Len64 _ _ (by omega) (by omega)).mono ?_; rintro e w' ⟨rfl, rfl⟩)
    go_ret
    exact ⟨_, by omega, by omega, rfl, e1⟩

set_option maxRecDepth 100000 in
theorem long_no (n : Int) (w : World) (h1 : -4000000000000000000 ≤ n) (h2 : n ≤ 4000000000000000000) :
    Calls Tryz.prog 127 #[.agg #[.int .i64 n, .slice none 0 0]] w fun e w' => e = .returned (.bool false) ∧ Below w.heap.size w w' := by
  go_enter Tryz.func127, Tryz.ntmps127
  go_wp2_with fail
  generalize hW0 : World.alloc w _ = W0
  have e0 : Below w.heap.size w W0 := by rw [← hW0]; exact (by repeat (first | with_reducible exact Below.refl _ _ | with_reducible assumption | with_reducible refine Below.setCell ?_ (by first | omega | (simp; done) | (simp; omega)) _ | with_reducible refine below_drewN ?_ _ | with_reducible refine Below.drew ?_ | with_reducible refine Below.alloc ?_ (by first | omega | (simp; done) | (simp; omega)) _ | with_reducible refine below_after ?_ (by assumption) (by first | omega | (simp; done) | (simp; omega))))
  clear hW0
  refine (Bits_any n _ h1 h2).mono ?_
  rintro e w1 ⟨k, k1, k2, rfl, hb1⟩
  have hd : decide (1800 < k) = false := by simp; omega
  go_wp2_with fail
  go_ret
  exact ⟨rfl, below_after e0 hb1 (Nat.le_refl _)⟩

set_option maxRecDepth 100000 in
theorem Large_no (a b : Int) (w : World) (h1 : -4000000000000000000 ≤ a) (h2 : a ≤ 4000000000000000000) (h3 : -4000000000000000000 ≤ b) (h4 : b ≤ 4000000000000000000) :
    Calls Tryz.prog 64 #[.agg #[.int .i64 a, .slice none 0 0, .int .i64 b, .slice none 0 0]] w fun e w' => e = .returned (.bool false) ∧ Below w.heap.size w w' := by
  go_enter Tryz.func64, Tryz.ntmps64
  go_wp2_with fail
  generalize hW0 : World.alloc w _ = W0
  have d0 : Blk W0 w.heap.size 84 #[.int .i64 a, .slice none 0 0, .int .i64 b, .slice none 0 0] := by rw [← hW0]; exact Blk.new _ _ _
  have e0 : Below w.heap.size w W0 := by rw [← hW0]; exact (by repeat (first | with_reducible exact Below.refl _ _ | with_reducible assumption | with_reducible refine Below.setCell ?_ (by first | omega | (simp; done) | (simp; omega)) _ | with_reducible refine below_drewN ?_ _ | with_reducible refine Below.drew ?_ | with_reducible refine Below.alloc ?_ (by first | omega | (simp; done) | (simp; omega)) _ | with_reducible refine below_after ?_ (by assumption) (by first | omega | (simp; done) | (simp; omega))))
  clear hW0
  refine (long_no a _ h1 h2).mono ?_
  rintro e w1 ⟨rfl, hb1⟩
  have c0 := keep_blk (g := w.heap.size) (by with_reducible assumption) hb1; have P0 := c0.four; have s0 := c0.lt; have e1 := below_after (B := w.heap.size) (by with_reducible assumption) hb1 (Nat.le_refl _)
  clear d0 e0
  go_wp2_with fail
  refine (long_no b _ h3 h4).mono ?_
  rintro e w2 ⟨rfl, hb1⟩
  have e2 := below_after e1 hb1 (Nat.le_refl _)
  go_wp2_with fail
  go_ret
  exact ⟨rfl, e2⟩

set_option maxRecDepth 100000 in
theorem String_any (n : Int) (w : World) (he : Env w) (h1 : -4000000000000000000 ≤ n) (h2 : n ≤ 4000000000000000000) :
    Calls Tryz.prog 111 #[.agg #[.int .i64 n, .slice none 0 0]] w fun e w' => e = .returned (.string ⟨(Lib.itoa n).toArray⟩) ∧ Below w.heap.size w w' := by
  go_enter Tryz.func111, Tryz.ntmps111
  go_wp2_with fail
  refine (Itoa_any n _ (he.alloc _) (by omega) (by omega)).mono ?_
  rintro e w1 ⟨rfl, hb1⟩
  have e2 := below_after ((Below.refl w.heap.size w).alloc (Nat.le_refl _) _) hb1 (Nat.le_refl _)
  go_wp2_with fail
  go_ret
  exact ⟨rfl, e2⟩

set_option maxRecDepth 100000 in
theorem Text_whole (n : Int) (w : World) (he : Env w) (h1 : -4000000000000000000 ≤ n) (h2 : n ≤ 4000000000000000000) :
    Calls Tryz.prog 47 #[.agg #[.int .i64 n, .slice none 0 0, .int .i64 1, .slice none 0 0]] w fun e w' => e = .returned (.string ⟨(Lib.itoa n).toArray⟩) ∧ Below w.heap.size w w' := by
  have hone : ((1 : Int) == 1) = true := rfl
  go_enter Tryz.func47, Tryz.ntmps47
  go_wp2_with fail
  generalize hW0 : World.alloc w _ = W0
  have d0 : Blk W0 w.heap.size 84 #[.int .i64 n, .slice none 0 0, .int .i64 1, .slice none 0 0] := by rw [← hW0]; exact Blk.new _ _ _
  have e0 : Below w.heap.size w W0 := by rw [← hW0]; exact (by repeat (first | with_reducible exact Below.refl _ _ | with_reducible assumption | with_reducible refine Below.setCell ?_ (by first | omega | (simp; done) | (simp; omega)) _ | with_reducible refine below_drewN ?_ _ | with_reducible refine Below.drew ?_ | with_reducible refine Below.alloc ?_ (by first | omega | (simp; done) | (simp; omega)) _ | with_reducible refine below_after ?_ (by assumption) (by first | omega | (simp; done) | (simp; omega))))
  have hE : Env W0 := by rw [← hW0]; exact he.alloc _
  clear hW0
  refine (IsWhole_any _ _ _).mono ?_
  rintro e w1 ⟨rfl, hb1⟩
  have c0 := keep_blk (g := w.heap.size) (by with_reducible assumption) hb1; have P0 := c0.four; have s0 := c0.lt; have e1 := below_after (B := w.heap.size) (by with_reducible assumption) hb1 (Nat.le_refl _)
  have hE1 := hE.below hb1
  clear d0 e0
  go_wp2_with fail
  refine (String_any n _ hE1 h1 h2).mono ?_
  rintro e w2 ⟨rfl, hb1⟩
  have e2 := below_after e1 hb1 (Nat.le_refl _)
  go_wp2_with fail
  go_ret
  exact ⟨rfl, e2⟩
end Go.Proofs.YtpibknhnhegebaaGreatDoor
