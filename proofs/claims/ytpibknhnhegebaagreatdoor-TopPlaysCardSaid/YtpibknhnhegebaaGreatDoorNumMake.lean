/- Package num at integers that have a place in a machine integer: quotients and fractions. -/
import Derived.Test.YtpibknhnhegebaaGreatDoorNumGcd
namespace Go.Proofs.YtpibknhnhegebaaGreatDoor
open Go.RowKit
attribute [local go_sem] nil_eql nil_neq

theorem sgn_pos {n : Int} (h : 0 < n) : sgn n = 1 := by unfold sgn; omega

set_option maxHeartbeats 1000000 in
set_option maxRecDepth 100000 in
theorem Quo_pos (a b : Int) (w : World) (h1 : -4000000000000000000 ≤ a) (h2 : a ≤ 4000000000000000000) (h3 : 0 < b) (h4 : b ≤ 4000000000000000000) :
    Calls Tryz.prog 159 #[.agg #[.int .i64 a, .slice none 0 0], .agg #[.int .i64 b, .slice none 0 0]] w fun e w' => e = .returned (.agg #[.int .i64 (a / b), .slice none 0 0]) ∧ Below w.heap.size w w' := by
  have hs : decide (sgn b < 0) = false := by rw [sgn_pos h3]; rfl
  go_enter Tryz.func159, Tryz.ntmps159
  go_wp2_with fail
  generalize hW0 : World.alloc (World.alloc (World.alloc w _) _) _ = W0
  have d0 : Blk W0 w.heap.size 82 #[.int .i64 a, .slice none 0 0] := by rw [← hW0]; exact ((Blk.new _ _ _).alloc _).alloc _
  have d1 : Blk W0 (w.heap.size + 1) 82 #[.int .i64 b, .slice none 0 0] := by rw [← hW0]; exact (Blk.new' _ _ _ _ (by simp)).alloc _
  have d2 : Blk W0 (w.heap.size + 1 + 1) 82 #[.int .i64 0, .slice none 0 0] := by rw [← hW0]; exact (Blk.new' _ _ _ _ (by simp))
  have e0 : Below w.heap.size w W0 := by rw [← hW0]; exact (by repeat (first | with_reducible exact Below.refl _ _ | with_reducible assumption | with_reducible refine Below.setCell ?_ (by first | omega | (simp; done) | (simp; omega)) _ | with_reducible refine below_drewN ?_ _ | with_reducible refine Below.drew ?_ | with_reducible refine Below.alloc ?_ (by first | omega | (simp; done) | (simp; omega)) _ | with_reducible refine below_after ?_ (by assumption) (by first | omega | (simp; done) | (simp; omega))))
  clear hW0
  have P0 := d0.two; have s0 := d0.lt; have P1 := d1.two; have s1 := d1.lt; have P2 := d2.two; have s2 := d2.lt
  refine (Int_Sign _ _).mono ?_
  rintro e w1 ⟨rfl, hb1⟩
  have c0 := keep_blk (g := w.heap.size) (by with_reducible assumption) hb1; have P0 := c0.two; have s0 := c0.lt; have c1 := keep_blk (g := w.heap.size + 1) (by with_reducible assumption) hb1; have P1 := c1.two; have s1 := c1.lt; have c2 := keep_blk (g := w.heap.size + 1 + 1) (by with_reducible assumption) hb1; have P2 := c2.two; have s2 := c2.lt; have e1 := below_after (B := w.heap.size) (by with_reducible assumption) hb1 (Nat.le_refl _)
  clear d0 d1 d2 e0
  go_wp2_with (go_at_call 186; refine (Int_DivMod _ _ _ h1 h2 h3 h4).mono ?_; rintro e w1 ⟨rfl, hb1⟩; have c0 := keep_blk (g := w.heap.size) (by with_reducible assumption) hb1; have P0 := c0.two; have s0 := c0.lt; have c1 := keep_blk (g := w.heap.size + 1) (by with_reducible assumption) hb1; have P1 := c1.two; have s1 := c1.lt; have c2 := keep_blk (g := w.heap.size + 1 + 1) (by with_reducible assumption) hb1; have P2 := c2.two; have s2 := c2.lt; have e1 := below_after (B := w.heap.size) (by with_reducible assumption) hb1 (Nat.le_refl _))
  exact bodyPost_ret (v := .agg #[.int .i64 (a / b), .slice none 0 0]) (by simp [results, Tryz.results159, go_sem, P2, s1, s2]) rfl ⟨rfl, (by repeat (first | with_reducible exact Below.refl _ _ | with_reducible assumption | with_reducible refine Below.setCell ?_ (by first | omega | (simp; done) | (simp; omega)) _ | with_reducible refine below_drewN ?_ _ | with_reducible refine Below.drew ?_ | with_reducible refine Below.alloc ?_ (by first | omega | (simp; done) | (simp; omega)) _ | with_reducible refine below_after ?_ (by assumption) (by first | omega | (simp; done) | (simp; omega))))⟩

set_option maxHeartbeats 1000000 in
set_option maxRecDepth 100000 in
theorem Make_one (a : Int) (w : World) :
    Calls Tryz.prog 100 #[.agg #[.int .i64 a, .slice none 0 0], .agg #[.int .i64 1, .slice none 0 0]] w fun e w' => e = .returned (.agg #[.int .i64 a, .slice none 0 0, .int .i64 1, .slice none 0 0]) ∧ Below w.heap.size w w' := by
  have hs : decide (sgn 1 < 0) = false := rfl
  go_enter Tryz.func100, Tryz.ntmps100
  go_wp2_with fail
  generalize hW0 : World.alloc (World.alloc (World.alloc w _) _) _ = W0
  have d0 : Blk W0 w.heap.size 82 #[.int .i64 a, .slice none 0 0] := by rw [← hW0]; exact ((Blk.new _ _ _).alloc _).alloc _
  have d1 : Blk W0 (w.heap.size + 1) 82 #[.int .i64 1, .slice none 0 0] := by rw [← hW0]; exact (Blk.new' _ _ _ _ (by simp)).alloc _
  have d2 : Blk W0 (w.heap.size + 1 + 1) 84 #[.int .i64 0, .slice none 0 0, .int .i64 0, .slice none 0 0] := by rw [← hW0]; exact (Blk.new' _ _ _ _ (by simp))
  have e0 : Below w.heap.size w W0 := by rw [← hW0]; exact (by repeat (first | with_reducible exact Below.refl _ _ | with_reducible assumption | with_reducible refine Below.setCell ?_ (by first | omega | (simp; done) | (simp; omega)) _ | with_reducible refine below_drewN ?_ _ | with_reducible refine Below.drew ?_ | with_reducible refine Below.alloc ?_ (by first | omega | (simp; done) | (simp; omega)) _ | with_reducible refine below_after ?_ (by assumption) (by first | omega | (simp; done) | (simp; omega))))
  clear hW0
  have P0 := d0.two; have s0 := d0.lt; have P1 := d1.two; have s1 := d1.lt; have P2 := d2.four; have s2 := d2.lt
  refine (Int_Sign _ _).mono ?_
  rintro e w1 ⟨rfl, hb1⟩
  have c0 := keep_blk (g := w.heap.size) (by with_reducible assumption) hb1; have P0 := c0.two; have s0 := c0.lt; have c1 := keep_blk (g := w.heap.size + 1) (by with_reducible assumption) hb1; have P1 := c1.two; have s1 := c1.lt; have c2 := keep_blk (g := w.heap.size + 1 + 1) (by with_reducible assumption) hb1; have P2 := c2.four; have s2 := c2.lt; have e1 := below_after (B := w.heap.size) (by with_reducible assumption) hb1 (Nat.le_refl _)
  clear d0 d1 d2 e0
  go_wp2_with fail
  exact bodyPost_ret (v := .agg #[.int .i64 a, .slice none 0 0, .int .i64 1, .slice none 0 0]) (by simp [results, Tryz.results100, go_sem, P2]) rfl ⟨rfl, (by repeat (first | with_reducible exact Below.refl _ _ | with_reducible assumption | with_reducible refine Below.setCell ?_ (by first | omega | (simp; done) | (simp; omega)) _ | with_reducible refine below_drewN ?_ _ | with_reducible refine Below.drew ?_ | with_reducible refine Below.alloc ?_ (by first | omega | (simp; done) | (simp; omega)) _ | with_reducible refine below_after ?_ (by assumption) (by first | omega | (simp; done) | (simp; omega))))⟩

set_option maxHeartbeats 2000000 in
set_option maxRecDepth 100000 in
theorem Make_more (a d g : Int) (w : World) (h1 : -4000000000000000000 ≤ a) (h2 : a ≤ 4000000000000000000) (h3 : 1 < d) (h4 : d ≤ 4000000000000000000) (hg : g = (Int.gcd a d : Int)) :
    Calls Tryz.prog 100 #[.agg #[.int .i64 a, .slice none 0 0], .agg #[.int .i64 d, .slice none 0 0]] w fun e w' => e = .returned (.agg #[.int .i64 (a / g), .slice none 0 0, .int .i64 (d / g), .slice none 0 0]) ∧ Below w.heap.size w w' := by
  have hs : decide (sgn d < 0) = false := by rw [sgn_pos (by omega)]; rfl
  have hd1 : (d == 1) = false := by simp; omega
  have hg1 : 0 < g := by have := Int.gcd_pos_of_ne_zero_right a (show d ≠ 0 by omega); omega
  have hg2 : g ≤ 4000000000000000000 := by have := Nat.gcd_le_right a.natAbs (show 0 < d.natAbs by omega); have e : Int.gcd a d = Nat.gcd a.natAbs d.natAbs := rfl; omega
  have HG := Lib.hid hg.symm
  clear hg
  go_enter Tryz.func100, Tryz.ntmps100
  go_wp2_with fail
  generalize hW0 : World.alloc (World.alloc (World.alloc w _) _) _ = W0
  have d0 : Blk W0 w.heap.size 82 #[.int .i64 a, .slice none 0 0] := by rw [← hW0]; exact ((Blk.new _ _ _).alloc _).alloc _
  have d1 : Blk W0 (w.heap.size + 1) 82 #[.int .i64 d, .slice none 0 0] := by rw [← hW0]; exact (Blk.new' _ _ _ _ (by simp)).alloc _
  have d2 : Blk W0 (w.heap.size + 1 + 1) 84 #[.int .i64 0, .slice none 0 0, .int .i64 0, .slice none 0 0] := by rw [← hW0]; exact (Blk.new' _ _ _ _ (by simp))
  have e0 : Below w.heap.size w W0 := by rw [← hW0]; exact (by repeat (first | with_reducible exact Below.refl _ _ | with_reducible assumption | with_reducible refine Below.setCell ?_ (by first | omega | (simp; done) | (simp; omega)) _ | with_reducible refine below_drewN ?_ _ | with_reducible refine Below.drew ?_ | with_reducible refine Below.alloc ?_ (by first | omega | (simp; done) | (simp; omega)) _ | with_reducible refine below_after ?_ (by assumption) (by first | omega | (simp; done) | (simp; omega))))
  clear hW0
  have P0 := d0.two; have s0 := d0.lt; have P1 := d1.two; have s1 := d1.lt; have P2 := d2.four; have s2 := d2.lt
  refine (Int_Sign _ _).mono ?_
  rintro e w1 ⟨rfl, hb1⟩
  have c0 := keep_blk (g := w.heap.size) (by with_reducible assumption) hb1; have P0 := c0.two; have s0 := c0.lt; have c1 := keep_blk (g := w.heap.size + 1) (by with_reducible assumption) hb1; have P1 := c1.two; have s1 := c1.lt; have c2 := keep_blk (g := w.heap.size + 1 + 1) (by with_reducible assumption) hb1; have P2 := c2.four; have s2 := c2.lt; have e1 := below_after (B := w.heap.size) (by with_reducible assumption) hb1 (Nat.le_refl _)
  clear d0 d1 d2 e0
  go_wp2_with fail
  refine (Gcd_any _ _ _ h1 h2 (by omega) h4).mono ?_
  rintro e w2 ⟨rfl, hb1⟩
  rw [HG.out]
  have c0 := keep_blk (g := w.heap.size) (by with_reducible assumption) hb1; have P0 := c0.two; have s0 := c0.lt; have c1 := keep_blk (g := w.heap.size + 1) (by with_reducible assumption) hb1; have P1 := c1.two; have s1 := c1.lt; have c2 := keep_blk (g := w.heap.size + 1 + 1) (by with_reducible assumption) hb1; have P2 := c2.four; have s2 := c2.lt; have e1 := below_after (B := w.heap.size) (by with_reducible assumption) hb1 (Nat.le_refl _)
  go_wp2_with fail
  generalize hW3 : World.alloc w2 _ = W3
  have k0 : Blk W3.drew w.heap.size 82 #[.int .i64 a, .slice none 0 0] := by rw [← hW3]; exact (c0.alloc _).drew
  have k1 : Blk W3.drew (w.heap.size + 1) 82 #[.int .i64 d, .slice none 0 0] := by rw [← hW3]; exact (c1.alloc _).drew
  have k2 : Blk W3.drew (w.heap.size + 1 + 1) 84 #[.int .i64 0, .slice none 0 0, .int .i64 0, .slice none 0 0] := by rw [← hW3]; exact (c2.alloc _).drew
  have k3 : Blk W3.drew w2.heap.size 82 #[.int .i64 g, .slice none 0 0] := by rw [← hW3]; exact (Blk.new _ _ _).drew
  have k4 : Below w.heap.size w W3.drew := by rw [← hW3]; exact (e1.alloc (by first | omega | (simp; done) | (simp; omega)) _).drew
  clear hW3 c0 c1 c2 e1 P0 P1 P2
  have l1 : W3.drew.cell? ⟨w.heap.size, 0, none⟩ = some (.int .i64 a) := k0.cell 0
  have l2 : W3.drew.cell? ⟨w.heap.size, 1, none⟩ = some (.slice none 0 0) := k0.cell 1
  have l3 : W3.drew.cell? ⟨w.heap.size + 1, 0, none⟩ = some (.int .i64 d) := k1.cell 0
  have l4 : W3.drew.cell? ⟨w.heap.size + 1, 1, none⟩ = some (.slice none 0 0) := k1.cell 1
  have l5 : W3.drew.cell? ⟨w2.heap.size, 0, none⟩ = some (.int .i64 g) := k3.cell 0
  have l6 : W3.drew.cell? ⟨w2.heap.size, 1, none⟩ = some (.slice none 0 0) := k3.cell 1
  go_region_held3 (fun w' => w'.cell? ⟨w.heap.size, 0, none⟩ = some (.int .i64 a) ∧ w'.cell? ⟨w.heap.size, 1, none⟩ = some (.slice none 0 0) ∧ w'.cell? ⟨w.heap.size + 1, 0, none⟩ = some (.int .i64 d) ∧ w'.cell? ⟨w.heap.size + 1, 1, none⟩ = some (.slice none 0 0) ∧ w'.cell? ⟨w2.heap.size, 0, none⟩ = some (.int .i64 g) ∧ w'.cell? ⟨w2.heap.size, 1, none⟩ = some (.slice none 0 0))
    (first | (with_reducible exact ⟨l1, l2, l3, l4, l5, l6⟩) | (go_split_ands; with_reducible exact ⟨keep_cell (by assumption) hb1, keep_cell (by assumption) hb1, keep_cell (by assumption) hb1, keep_cell (by assumption) hb1, keep_cell (by assumption) hb1, keep_cell (by assumption) hb1⟩) | (go_split_ands; with_reducible exact ⟨far4 (by assumption) (by omega) _ _ _ _, far4 (by assumption) (by omega) _ _ _ _, far4 (by assumption) (by omega) _ _ _ _, far4 (by assumption) (by omega) _ _ _ _, far4 (by assumption) (by omega) _ _ _ _, far4 (by assumption) (by omega) _ _ _ _⟩))
   
    (first
      | (go_at_call 159; refine (Quo_pos _ _ _ (by omega) (by omega) (by omega) (by omega)).mono ?_; rintro e w1 ⟨rfl, hb1⟩
         have c2 := keep_blk (g := w.heap.size + 1 + 1) (by with_reducible assumption) hb1
         have e1 := below_after (B := w.heap.size) (by with_reducible assumption) hb1 (Nat.le_refl _)
         have P2 := c2.four
         have s2 := c2.lt))
  all_goals (go_wp2_with fail)
  exact bodyPost_ret (v := .agg #[.int .i64 (a / g), .slice none 0 0, .int .i64 (d / g), .slice none 0 0]) (by simp [results, Tryz.results100, go_sem, P2]) rfl ⟨rfl, (by repeat (first | with_reducible exact Below.refl _ _ | with_reducible assumption | with_reducible refine Below.setCell ?_ (by first | omega | (simp; done) | (simp; omega)) _ | with_reducible refine below_drewN ?_ _ | with_reducible refine Below.drew ?_ | with_reducible refine Below.alloc ?_ (by first | omega | (simp; done) | (simp; omega)) _ | with_reducible refine below_after ?_ (by assumption) (by first | omega | (simp; done) | (simp; omega))))⟩

/-- A fraction of two machine integers, the second one positive: in lowest terms. -/
theorem Make_any (a d : Int) (w : World) (h1 : -4000000000000000000 ≤ a) (h2 : a ≤ 4000000000000000000) (h3 : 0 < d) (h4 : d ≤ 4000000000000000000) :
    Calls Tryz.prog 100 #[.agg #[.int .i64 a, .slice none 0 0], .agg #[.int .i64 d, .slice none 0 0]] w fun e w' => e = .returned (.agg #[.int .i64 (a / (Int.gcd a d : Int)), .slice none 0 0, .int .i64 (d / (Int.gcd a d : Int)), .slice none 0 0]) ∧ Below w.heap.size w w' := by
  by_cases hd : d = 1
  · subst hd
    have e : (Int.gcd a 1 : Int) = 1 := by simp
    rw [e, Int.ediv_one]
    exact Make_one a w
  · exact Make_more a d _ w h1 h2 (by omega) h4 rfl
end Go.Proofs.YtpibknhnhegebaaGreatDoor
