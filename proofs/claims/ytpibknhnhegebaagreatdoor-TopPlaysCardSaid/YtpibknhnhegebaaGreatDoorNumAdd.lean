/- Package num: fractions of machine integers: sums, signs. -/
import Derived.Test.YtpibknhnhegebaaGreatDoorNumFrac
namespace Go.Proofs.YtpibknhnhegebaaGreatDoor
open Go.RowKit
attribute [local go_sem] nil_eql nil_neq

theorem IsWhole_any (a b : Int) (w : World) :
    Calls Tryz.prog 110 #[.agg #[.int .i64 a, .slice none 0 0, .int .i64 b, .slice none 0 0]] w fun e w' => e = .returned (.bool (b == 1)) ∧ Below w.heap.size w w' := by
  go_enter Tryz.func110, Tryz.ntmps110
  go_wp2
  go_ret
  exact ⟨rfl, (Below.refl _ _).alloc (Nat.le_refl _) _⟩

theorem FSign_any (a b : Int) (w : World) :
    Calls Tryz.prog 65 #[.agg #[.int .i64 a, .slice none 0 0, .int .i64 b, .slice none 0 0]] w fun e w' => e = .returned (.int .i64 (sgn a)) ∧ Below w.heap.size w w' := by
  go_enter Tryz.func65, Tryz.ntmps65
  go_wp2_with fail
  generalize hW0 : World.alloc w _ = W0
  have e0 : Below w.heap.size w W0 := by rw [← hW0]; exact (by repeat (first | with_reducible exact Below.refl _ _ | with_reducible assumption | with_reducible refine Below.setCell ?_ (by first | omega | (simp; done) | (simp; omega)) _ | with_reducible refine below_drewN ?_ _ | with_reducible refine Below.drew ?_ | with_reducible refine Below.alloc ?_ (by first | omega | (simp; done) | (simp; omega)) _ | with_reducible refine below_after ?_ (by assumption) (by first | omega | (simp; done) | (simp; omega))))
  clear hW0
  refine (Int_Sign _ _).mono ?_
  rintro e w1 ⟨rfl, hb1⟩
  go_wp2_with fail
  go_ret
  exact ⟨rfl, below_after e0 hb1 (Nat.le_refl _)⟩

set_option maxHeartbeats 1000000 in
set_option maxRecDepth 100000 in
theorem FAdd_whole (a c n : Int) (w : World) (a1 : -2000000000000000000 ≤ a) (a2 : a ≤ 2000000000000000000) (c1 : -2000000000000000000 ≤ c) (c2 : c ≤ 2000000000000000000) (hn : a + c = n) :
    Calls Tryz.prog 62 #[.agg #[.int .i64 a, .slice none 0 0, .int .i64 1, .slice none 0 0], .agg #[.int .i64 c, .slice none 0 0, .int .i64 1, .slice none 0 0]] w fun e w' => e = .returned (.agg #[.int .i64 n, .slice none 0 0, .int .i64 1, .slice none 0 0]) ∧ Below w.heap.size w w' := by
  have HA := Lib.hid (fun w => Int_Add a c w a1 a2 c1 c2)
  rw [hn] at HA
  clear hn
  have hb : ((1 : Int) == 1) = true := rfl
  go_enter Tryz.func62, Tryz.ntmps62
  go_wp2_with fail
  generalize hW0 : World.alloc (World.alloc (World.alloc w _) _) _ = W0
  have k0 : Blk W0 w.heap.size 84 #[.int .i64 a, .slice none 0 0, .int .i64 1, .slice none 0 0] := by rw [← hW0]; exact (((Blk.new _ _ _).alloc _).alloc _)
  have k1 : Blk W0 (w.heap.size + 1) 84 #[.int .i64 c, .slice none 0 0, .int .i64 1, .slice none 0 0] := by rw [← hW0]; exact ((Blk.new' _ _ _ _ (by simp)).alloc _)
  have k2 : Blk W0 (w.heap.size + 1 + 1) 84 #[.int .i64 0, .slice none 0 0, .int .i64 0, .slice none 0 0] := by rw [← hW0]; exact (Blk.new' _ _ _ _ (by simp))
  have e0 : Below w.heap.size w W0 := by rw [← hW0]; exact (by repeat (first | with_reducible exact Below.refl _ _ | with_reducible assumption | with_reducible refine Below.setCell ?_ (by first | omega | (simp; done) | (simp; omega)) _ | with_reducible refine below_drewN ?_ _ | with_reducible refine Below.drew ?_ | with_reducible refine Below.alloc ?_ (by first | omega | (simp; done) | (simp; omega)) _ | with_reducible refine below_after ?_ (by assumption) (by first | omega | (simp; done) | (simp; omega))))
  clear hW0
  have P0 := k0.four; have s0 := k0.lt; have P1 := k1.four; have s1 := k1.lt; have P2 := k2.four; have s2 := k2.lt
  refine (IsWhole_any _ _ _).mono ?_
  rintro e w1 ⟨rfl, hb1⟩
  have c0 := keep_blk (g := w.heap.size) (by with_reducible assumption) hb1; have P0 := c0.four; have s0 := c0.lt; have c1 := keep_blk (g := w.heap.size + 1) (by with_reducible assumption) hb1; have P1 := c1.four; have s1 := c1.lt; have c2 := keep_blk (g := w.heap.size + 1 + 1) (by with_reducible assumption) hb1; have P2 := c2.four; have s2 := c2.lt; have e1 := below_after (B := w.heap.size) (by with_reducible assumption) hb1 (Nat.le_refl _)
  clear k0 k1 k2 e0
  go_wp2_with fail
  refine (IsWhole_any _ _ _).mono ?_
  rintro e w2 ⟨rfl, hb1⟩
  have c0 := keep_blk (g := w.heap.size) (by with_reducible assumption) hb1; have P0 := c0.four; have s0 := c0.lt; have c1 := keep_blk (g := w.heap.size + 1) (by with_reducible assumption) hb1; have P1 := c1.four; have s1 := c1.lt; have c2 := keep_blk (g := w.heap.size + 1 + 1) (by with_reducible assumption) hb1; have P2 := c2.four; have s2 := c2.lt; have e1 := below_after (B := w.heap.size) (by with_reducible assumption) hb1 (Nat.le_refl _)
  go_wp2_with fail
  refine (HA.out _).mono ?_
  rintro e w3 ⟨rfl, hb1⟩
  have c0 := keep_blk (g := w.heap.size) (by with_reducible assumption) hb1; have P0 := c0.four; have s0 := c0.lt; have c1 := keep_blk (g := w.heap.size + 1) (by with_reducible assumption) hb1; have P1 := c1.four; have s1 := c1.lt; have c2 := keep_blk (g := w.heap.size + 1 + 1) (by with_reducible assumption) hb1; have P2 := c2.four; have s2 := c2.lt; have e1 := below_after (B := w.heap.size) (by with_reducible assumption) hb1 (Nat.le_refl _)
  go_wp2_with fail
  refine (Whole_any _ _).mono ?_
  rintro e w4 ⟨rfl, hb1⟩
  have c0 := keep_blk (g := w.heap.size) (by with_reducible assumption) hb1; have P0 := c0.four; have s0 := c0.lt; have c1 := keep_blk (g := w.heap.size + 1) (by with_reducible assumption) hb1; have P1 := c1.four; have s1 := c1.lt; have c2 := keep_blk (g := w.heap.size + 1 + 1) (by with_reducible assumption) hb1; have P2 := c2.four; have s2 := c2.lt; have e1 := below_after (B := w.heap.size) (by with_reducible assumption) hb1 (Nat.le_refl _)
  go_wp2_with fail
  exact bodyPost_ret (v := .agg #[.int .i64 n, .slice none 0 0, .int .i64 1, .slice none 0 0]) (by simp [results, Tryz.results62, go_sem, P2]) rfl ⟨rfl, (by repeat (first | with_reducible exact Below.refl _ _ | with_reducible assumption | with_reducible refine Below.setCell ?_ (by first | omega | (simp; done) | (simp; omega)) _ | with_reducible refine below_drewN ?_ _ | with_reducible refine Below.drew ?_ | with_reducible refine Below.alloc ?_ (by first | omega | (simp; done) | (simp; omega)) _ | with_reducible refine below_after ?_ (by assumption) (by first | omega | (simp; done) | (simp; omega))))⟩
end Go.Proofs.YtpibknhnhegebaaGreatDoor
