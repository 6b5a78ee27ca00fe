/- Package num: fractions of machine integers: whole ones, products, sums. -/
import Derived.Test.YtpibknhnhegebaaGreatDoorNumMake
namespace Go.Proofs.YtpibknhnhegebaaGreatDoor
open Go.RowKit
attribute [local go_sem] nil_eql nil_neq

set_option maxHeartbeats 1000000 in
set_option maxRecDepth 100000 in
theorem Whole_any (n : Int) (w : World) :
    Calls Tryz.prog 125 #[.agg #[.int .i64 n, .slice none 0 0]] w fun e w' => e = .returned (.agg #[.int .i64 n, .slice none 0 0, .int .i64 1, .slice none 0 0]) ∧ Below w.heap.size w w' := by
  go_enter Tryz.func125, Tryz.ntmps125
  go_wp2_with fail
  generalize hW0 : World.alloc (World.alloc w _) _ = W0
  have d0 : Blk W0.drew w.heap.size 82 #[.int .i64 n, .slice none 0 0] := by rw [← hW0]; exact ((Blk.new _ _ _).alloc _).drew
  have d1 : Blk W0.drew (w.heap.size + 1) 84 #[.int .i64 0, .slice none 0 0, .int .i64 0, .slice none 0 0] := by rw [← hW0]; exact (Blk.new' _ _ _ _ (by simp)).drew
  have e0 : Below w.heap.size w W0.drew := by rw [← hW0]; exact (by repeat (first | with_reducible exact Below.refl _ _ | with_reducible assumption | with_reducible refine Below.setCell ?_ (by first | omega | (simp; done) | (simp; omega)) _ | with_reducible refine below_drewN ?_ _ | with_reducible refine Below.drew ?_ | with_reducible refine Below.alloc ?_ (by first | omega | (simp; done) | (simp; omega)) _ | with_reducible refine below_after ?_ (by assumption) (by first | omega | (simp; done) | (simp; omega))))
  clear hW0
  have l1 : W0.drew.cell? ⟨w.heap.size, 0, none⟩ = some (.int .i64 n) := d0.cell 0
  have l2 : W0.drew.cell? ⟨w.heap.size, 1, none⟩ = some (.slice none 0 0) := d0.cell 1
  go_region_held3 (fun w' => w'.cell? ⟨w.heap.size, 0, none⟩ = some (.int .i64 n) ∧ w'.cell? ⟨w.heap.size, 1, none⟩ = some (.slice none 0 0))
    (first | (with_reducible exact ⟨l1, l2⟩) | (go_split_ands; with_reducible exact ⟨keep_cell (by assumption) hb1, keep_cell (by assumption) hb1⟩) | (go_split_ands; with_reducible exact ⟨far4 (by assumption) (by omega) _ _ _ _, far4 (by assumption) (by omega) _ _ _ _⟩))
   
    (first
      | (go_at_call 97; refine (Of_any _ _).mono ?_; rintro e w1 ⟨rfl, hb1⟩
         have c0 := keep_blk (g := w.heap.size + 1) (by with_reducible assumption) hb1; have P0 := c0.four; have s0 := c0.lt; have e1 := below_after (B := w.heap.size) (by with_reducible assumption) hb1 (Nat.le_refl _)))
  all_goals (go_wp2_with fail)
  exact bodyPost_ret (v := .agg #[.int .i64 n, .slice none 0 0, .int .i64 1, .slice none 0 0]) (by simp [results, Tryz.results125, go_sem, P0]) rfl ⟨rfl, (by repeat (first | with_reducible exact Below.refl _ _ | with_reducible assumption | with_reducible refine Below.setCell ?_ (by first | omega | (simp; done) | (simp; omega)) _ | with_reducible refine below_drewN ?_ _ | with_reducible refine Below.drew ?_ | with_reducible refine Below.alloc ?_ (by first | omega | (simp; done) | (simp; omega)) _ | with_reducible refine below_after ?_ (by assumption) (by first | omega | (simp; done) | (simp; omega))))⟩

set_option maxHeartbeats 1000000 in
set_option maxRecDepth 100000 in
theorem F_any (n : Int) (w : World) :
    Calls Tryz.prog 61 #[.int .i64 n] w fun e w' => e = .returned (.agg #[.int .i64 n, .slice none 0 0, .int .i64 1, .slice none 0 0]) ∧ Below w.heap.size w w' := by
  go_enter Tryz.func61, Tryz.ntmps61
  go_wp2_with fail
  generalize hW0 : World.alloc w _ = W0
  have d1 : Blk W0 w.heap.size 84 #[.int .i64 0, .slice none 0 0, .int .i64 0, .slice none 0 0] := by rw [← hW0]; exact Blk.new _ _ _
  have e0 : Below w.heap.size w W0 := by rw [← hW0]; exact (by repeat (first | with_reducible exact Below.refl _ _ | with_reducible assumption | with_reducible refine Below.setCell ?_ (by first | omega | (simp; done) | (simp; omega)) _ | with_reducible refine below_drewN ?_ _ | with_reducible refine Below.drew ?_ | with_reducible refine Below.alloc ?_ (by first | omega | (simp; done) | (simp; omega)) _ | with_reducible refine below_after ?_ (by assumption) (by first | omega | (simp; done) | (simp; omega))))
  clear hW0
  refine (Of_any _ _).mono ?_
  rintro e w1 ⟨rfl, hb1⟩
  have c0 := keep_blk (g := w.heap.size) (by with_reducible assumption) hb1; have P0 := c0.four; have s0 := c0.lt; have e1 := below_after (B := w.heap.size) (by with_reducible assumption) hb1 (Nat.le_refl _)
  clear d1 e0
  go_wp2_with fail
  refine (Whole_any _ _).mono ?_
  rintro e w1 ⟨rfl, hb1⟩
  have c0 := keep_blk (g := w.heap.size) (by with_reducible assumption) hb1; have P0 := c0.four; have s0 := c0.lt; have e1 := below_after (B := w.heap.size) (by with_reducible assumption) hb1 (Nat.le_refl _)
  go_wp2_with fail
  exact bodyPost_ret (v := .agg #[.int .i64 n, .slice none 0 0, .int .i64 1, .slice none 0 0]) (by simp [results, Tryz.results61, go_sem, P0]) rfl ⟨rfl, (by repeat (first | with_reducible exact Below.refl _ _ | with_reducible assumption | with_reducible refine Below.setCell ?_ (by first | omega | (simp; done) | (simp; omega)) _ | with_reducible refine below_drewN ?_ _ | with_reducible refine Below.drew ?_ | with_reducible refine Below.alloc ?_ (by first | omega | (simp; done) | (simp; omega)) _ | with_reducible refine below_after ?_ (by assumption) (by first | omega | (simp; done) | (simp; omega))))⟩

set_option maxHeartbeats 4000000 in
set_option maxRecDepth 100000 in
theorem FMul_at (a b c d n m g : Int) (w : World) (a1 : -4000000000000000000 ≤ a) (a2 : a ≤ 4000000000000000000) (b1 : 0 < b) (b2 : b ≤ 4000000000000000000)
    (c1 : -4000000000000000000 ≤ c) (c2 : c ≤ 4000000000000000000) (d1 : 0 < d) (d2 : d ≤ 4000000000000000000)
    (hn : a * c = n) (hm : b * d = m) (n1 : -4000000000000000000 ≤ n) (n2 : n ≤ 4000000000000000000) (m1 : 0 < m) (m2 : m ≤ 4000000000000000000) (hg : (Int.gcd n m : Int) = g) :
    Calls Tryz.prog 60 #[.agg #[.int .i64 a, .slice none 0 0, .int .i64 b, .slice none 0 0], .agg #[.int .i64 c, .slice none 0 0, .int .i64 d, .slice none 0 0]] w fun e w' => e = .returned (.agg #[.int .i64 (n / g), .slice none 0 0, .int .i64 (m / g), .slice none 0 0]) ∧ Below w.heap.size w w' := by
  have HA := Lib.hid (fun w => Int_Mul a c w a1 a2 c1 c2 (by omega) (by omega))
  have HB := Lib.hid (fun w => Int_Mul b d w (by omega) b2 (by omega) d2 (by omega) (by omega))
  have HM := Lib.hid (fun w => Make_any n m w n1 n2 m1 m2)
  rw [hn] at HA
  rw [hm] at HB
  rw [hg] at HM
  clear hn hm hg
  go_enter Tryz.func60, Tryz.ntmps60
  go_wp2_with fail
  generalize hW0 : World.alloc (World.alloc (World.alloc w _) _) _ = W0
  have k0 : Blk W0.drew w.heap.size 84 #[.int .i64 a, .slice none 0 0, .int .i64 b, .slice none 0 0] := by rw [← hW0]; exact (((Blk.new _ _ _).alloc _).alloc _).drew
  have k1 : Blk W0.drew (w.heap.size + 1) 84 #[.int .i64 c, .slice none 0 0, .int .i64 d, .slice none 0 0] := by rw [← hW0]; exact ((Blk.new' _ _ _ _ (by simp)).alloc _).drew
  have k2 : Blk W0.drew (w.heap.size + 1 + 1) 84 #[.int .i64 0, .slice none 0 0, .int .i64 0, .slice none 0 0] := by rw [← hW0]; exact (Blk.new' _ _ _ _ (by simp)).drew
  have e0 : Below w.heap.size w W0.drew := by rw [← hW0]; exact (by repeat (first | with_reducible exact Below.refl _ _ | with_reducible assumption | with_reducible refine Below.setCell ?_ (by first | omega | (simp; done) | (simp; omega)) _ | with_reducible refine below_drewN ?_ _ | with_reducible refine Below.drew ?_ | with_reducible refine Below.alloc ?_ (by first | omega | (simp; done) | (simp; omega)) _ | with_reducible refine below_after ?_ (by assumption) (by first | omega | (simp; done) | (simp; omega))))
  clear hW0
  have l1 : W0.drew.cell? ⟨w.heap.size, 0, none⟩ = some (.int .i64 a) := k0.cell 0
  have l2 : W0.drew.cell? ⟨w.heap.size, 1, none⟩ = some (.slice none 0 0) := k0.cell 1
  have l3 : W0.drew.cell? ⟨w.heap.size, 2, none⟩ = some (.int .i64 b) := k0.cell 2
  have l4 : W0.drew.cell? ⟨w.heap.size, 3, none⟩ = some (.slice none 0 0) := k0.cell 3
  have l5 : W0.drew.cell? ⟨w.heap.size + 1, 0, none⟩ = some (.int .i64 c) := k1.cell 0
  have l6 : W0.drew.cell? ⟨w.heap.size + 1, 1, none⟩ = some (.slice none 0 0) := k1.cell 1
  have l7 : W0.drew.cell? ⟨w.heap.size + 1, 2, none⟩ = some (.int .i64 d) := k1.cell 2
  have l8 : W0.drew.cell? ⟨w.heap.size + 1, 3, none⟩ = some (.slice none 0 0) := k1.cell 3
  go_region_held3 (fun w' => w'.cell? ⟨w.heap.size, 0, none⟩ = some (.int .i64 a) ∧ w'.cell? ⟨w.heap.size, 1, none⟩ = some (.slice none 0 0) ∧ w'.cell? ⟨w.heap.size, 2, none⟩ = some (.int .i64 b) ∧ w'.cell? ⟨w.heap.size, 3, none⟩ = some (.slice none 0 0) ∧ w'.cell? ⟨w.heap.size + 1, 0, none⟩ = some (.int .i64 c) ∧ w'.cell? ⟨w.heap.size + 1, 1, none⟩ = some (.slice none 0 0) ∧ w'.cell? ⟨w.heap.size + 1, 2, none⟩ = some (.int .i64 d) ∧ w'.cell? ⟨w.heap.size + 1, 3, none⟩ = some (.slice none 0 0))
    (first | (with_reducible exact ⟨l1, l2, l3, l4, l5, l6, l7, l8⟩) | (go_split_ands; with_reducible exact ⟨keep_cell (by assumption) hb1, keep_cell (by assumption) hb1, keep_cell (by assumption) hb1, keep_cell (by assumption) hb1, keep_cell (by assumption) hb1, keep_cell (by assumption) hb1, keep_cell (by assumption) hb1, keep_cell (by assumption) hb1⟩) | (go_split_ands; with_reducible exact ⟨far4 (by assumption) (by omega) _ _ _ _, far4 (by assumption) (by omega) _ _ _ _, far4 (by assumption) (by omega) _ _ _ _, far4 (by assumption) (by omega) _ _ _ _, far4 (by assumption) (by omega) _ _ _ _, far4 (by assumption) (by omega) _ _ _ _, far4 (by assumption) (by omega) _ _ _ _, far4 (by assumption) (by omega) _ _ _ _⟩))
   
    (first
      | (go_at_call 98; first | (with_reducible refine (HA.out _).mono ?_) | (with_reducible refine (HB.out _).mono ?_)
         rintro e w1 ⟨rfl, hb1⟩
         have c0 := keep_blk (g := w.heap.size + 1 + 1) (by with_reducible assumption) hb1; have P0 := c0.four; have s0 := c0.lt; have e1 := below_after (B := w.heap.size) (by with_reducible assumption) hb1 (Nat.le_refl _))
      | (go_at_call 100; refine (HM.out _).mono ?_; rintro e w1 ⟨rfl, hb1⟩
         have c0 := keep_blk (g := w.heap.size + 1 + 1) (by with_reducible assumption) hb1; have P0 := c0.four; have s0 := c0.lt; have e1 := below_after (B := w.heap.size) (by with_reducible assumption) hb1 (Nat.le_refl _)))
  all_goals (go_wp2_with fail)
  all_goals exact bodyPost_ret (v := .agg #[.int .i64 (n / g), .slice none 0 0, .int .i64 (m / g), .slice none 0 0]) (by simp [results, Tryz.results60, go_sem, P0]) rfl ⟨rfl, (by repeat (first | with_reducible exact Below.refl _ _ | with_reducible assumption | with_reducible refine Below.setCell ?_ (by first | omega | (simp; done) | (simp; omega)) _ | with_reducible refine below_drewN ?_ _ | with_reducible refine Below.drew ?_ | with_reducible refine Below.alloc ?_ (by first | omega | (simp; done) | (simp; omega)) _ | with_reducible refine below_after ?_ (by assumption) (by first | omega | (simp; done) | (simp; omega))))⟩
end Go.Proofs.YtpibknhnhegebaaGreatDoor
