/- Package num at integers that have a place in a machine integer: greatest common divisors, quotients, fractions. -/
import Derived.Test.YtpibknhnhegebaaGreatDoorNumMul
import Derived.Deep.DeepCutAuto
import Derived.Deep.RegionWith
import Derived.Deep.LoopGhost
namespace Go.Proofs.YtpibknhnhegebaaGreatDoor
open Go.RowKit
attribute [local go_sem] nil_eql nil_neq

set_option maxHeartbeats 2000000 in
set_option maxRecDepth 100000 in
theorem Gcd_any (a b : Int) (w : World) (h1 : -4000000000000000000 ≤ a) (h2 : a ≤ 4000000000000000000) (h3 : -4000000000000000000 ≤ b) (h4 : b ≤ 4000000000000000000) :
    Calls Tryz.prog 122 #[.agg #[.int .i64 a, .slice none 0 0], .agg #[.int .i64 b, .slice none 0 0]] w fun e w' => e = .returned (.agg #[.int .i64 (Int.gcd a b : Int), .slice none 0 0]) ∧ Below w.heap.size w w' := by
  go_enter Tryz.func122, Tryz.ntmps122
  go_upto_region 1 with fail
  generalize hW0 : World.alloc (World.alloc (World.alloc w _) _) _ = W0
  have b0 : Blk W0 w.heap.size 82 #[.int .i64 a, .slice none 0 0] := by rw [← hW0]; exact ((Blk.new _ _ _).alloc _).alloc _
  have b1 : Blk W0 (w.heap.size + 1) 82 #[.int .i64 b, .slice none 0 0] := by rw [← hW0]; exact (Blk.new' _ _ _ _ (by simp)).alloc _
  have b2 : Blk W0 (w.heap.size + 1 + 1) 82 #[.int .i64 0, .slice none 0 0] := by rw [← hW0]; exact (Blk.new' _ _ _ _ (by simp))
  have hB0 : Below w.heap.size w W0 := by rw [← hW0]; exact (by repeat (first | with_reducible exact Below.refl _ _ | with_reducible assumption | with_reducible refine Below.setCell ?_ (by first | omega | (simp; done) | (simp; omega)) _ | with_reducible refine below_drewN ?_ _ | with_reducible refine Below.drew ?_ | with_reducible refine Below.alloc ?_ (by first | omega | (simp; done) | (simp; omega)) _ | with_reducible refine below_after ?_ (by assumption) (by first | omega | (simp; done) | (simp; omega))))
  clear hW0
  go_cut [] (fun wx => Blk wx w.heap.size 82 #[.int .i64 (a.natAbs : Int), .slice none 0 0] ∧ Blk wx (w.heap.size + 1) 82 #[.int .i64 (b.natAbs : Int), .slice none 0 0] ∧ Blk wx (w.heap.size + 1 + 1) 82 #[.int .i64 0, .slice none 0 0] ∧ Below w.heap.size w wx)
  case first =>
    have P0 := b0.two
    have P1 := b1.two
    have d0 := b0.drew
    have d1 := b1.drew
    have d2 := b2.drew
    have e0 := hB0.drew
    go_region_with (go_at_call 185; refine (Int_Abs _ _ (by omega) (by omega)).mono ?_; rintro e w1 ⟨rfl, hb1⟩; have c0 := keep_blk (g := w.heap.size) (by with_reducible assumption) hb1; have c1 := keep_blk (g := w.heap.size + 1) (by with_reducible assumption) hb1; have c2 := keep_blk (g := w.heap.size + 1 + 1) (by with_reducible assumption) hb1; have e1 := below_after (B := w.heap.size) (by with_reducible assumption) hb1 (Nat.le_refl _); have P0 := c0.two; have P1 := c1.two; have P2 := c2.two; have s2 := c2.lt; have s0 := c0.lt; have s1 := c1.lt)
    all_goals (go_wp2_with fail; go_meet; exact ⟨(c0.put2 _ _).off2 (by omega) _ _, (c1.off2 (by omega) _ _).put2 _ _, (c2.off2 (by omega) _ _).off2 (by omega) _ _, (by repeat (first | with_reducible exact Below.refl _ _ | with_reducible assumption | with_reducible refine Below.setCell ?_ (by first | omega | (simp; done) | (simp; omega)) _ | with_reducible refine below_drewN ?_ _ | with_reducible refine Below.drew ?_ | with_reducible refine Below.alloc ?_ (by first | omega | (simp; done) | (simp; omega)) _ | with_reducible refine below_after ?_ (by assumption) (by first | omega | (simp; done) | (simp; omega))))⟩)
  case rest =>
    obtain ⟨r0, r1, r2, hBc⟩ := hcut
    have ha : a.natAbs ≤ 4000000000000000000 := by omega
    have hb : b.natAbs ≤ 4000000000000000000 := by omega
    have hg : Int.gcd a b = Nat.gcd a.natAbs b.natAbs := rfl
    have HG := Lib.hid hg
    clear hg b0 b1 b2 hB0
    generalize a.natAbs = A at *
    generalize b.natAbs = B at *
    go_wp2_with fail
    go_loopg [] B (fun k wr => ∃ x : Nat, x ≤ 4000000000000000000 ∧ k ≤ 4000000000000000000 ∧ Blk wr w.heap.size 82 #[.int .i64 (x : Int), .slice none 0 0] ∧ Blk wr (w.heap.size + 1) 82 #[.int .i64 (k : Int), .slice none 0 0] ∧ Blk wr (w.heap.size + 1 + 1) 82 #[.int .i64 0, .slice none 0 0] ∧ Below w.heap.size w wr ∧ Nat.gcd x k = Nat.gcd A B)
    case atStart => exact ⟨A, ha, hb, r0, r1, r2, hBc, rfl⟩
    case round =>
      obtain ⟨x, hx, hk, c0, c1, c2, e1, hgcd⟩ := hrel
      have HGC := Lib.hid hgcd
      have P0 := c0.two
      have P1 := c1.two
      have P2 := c2.two
      have s2 := c2.lt
      have s0 := c0.lt
      have s1 := c1.lt
      clear hgcd r0 r1 r2 hBc
      by_cases hk0 : gk = 0
      · subst hk0
        have hs : (sgn ((0 : Nat) : Int) != 0) = false := rfl
        have hs' : (sgn 0 != 0) = false := rfl
        go_wp2_with (go_at_call 128; refine (Int_Sign _ _).mono ?_; rintro e w1 ⟨rfl, hb1⟩; have c0 := keep_blk (g := w.heap.size) (by with_reducible assumption) hb1; have c1 := keep_blk (g := w.heap.size + 1) (by with_reducible assumption) hb1; have c2 := keep_blk (g := w.heap.size + 1 + 1) (by with_reducible assumption) hb1; have e1 := below_after (B := w.heap.size) (by with_reducible assumption) hb1 (Nat.le_refl _); have P0 := c0.two; have P1 := c1.two; have P2 := c2.two; have s2 := c2.lt; have s0 := c0.lt; have s1 := c1.lt)
        have q0 : Int.gcd a b = x := by rw [HG.out, ← HGC.out, Nat.gcd_zero_right]
        rw [q0]
        exact bodyPost_ret (v := .agg #[.int .i64 (x : Int), .slice none 0 0]) (by simp [results, Tryz.results122, go_sem, P2]) rfl ⟨rfl, (by repeat (first | with_reducible exact Below.refl _ _ | with_reducible assumption | with_reducible refine Below.setCell ?_ (by first | omega | (simp; done) | (simp; omega)) _ | with_reducible refine below_drewN ?_ _ | with_reducible refine Below.drew ?_ | with_reducible refine Below.alloc ?_ (by first | omega | (simp; done) | (simp; omega)) _ | with_reducible refine below_after ?_ (by assumption) (by first | omega | (simp; done) | (simp; omega))))⟩
      · have hs : (sgn (gk : Int) != 0) = true := by rw [bne_iff_ne]; unfold sgn; omega
        go_wp2_with (first
          | (go_at_call 128; refine (Int_Sign _ _).mono ?_; rintro e w1 ⟨rfl, hb1⟩; have c0 := keep_blk (g := w.heap.size) (by with_reducible assumption) hb1; have c1 := keep_blk (g := w.heap.size + 1) (by with_reducible assumption) hb1; have c2 := keep_blk (g := w.heap.size + 1 + 1) (by with_reducible assumption) hb1; have e1 := below_after (B := w.heap.size) (by with_reducible assumption) hb1 (Nat.le_refl _); have P0 := c0.two; have P1 := c1.two; have P2 := c2.two; have s2 := c2.lt; have s0 := c0.lt; have s1 := c1.lt)
          | (go_at_call 186; refine (Int_DivMod _ _ _ (by omega) (by omega) (by omega) (by omega)).mono ?_; rintro e w1 ⟨rfl, hb1⟩; have c0 := keep_blk (g := w.heap.size) (by with_reducible assumption) hb1; have c1 := keep_blk (g := w.heap.size + 1) (by with_reducible assumption) hb1; have c2 := keep_blk (g := w.heap.size + 1 + 1) (by with_reducible assumption) hb1; have e1 := below_after (B := w.heap.size) (by with_reducible assumption) hb1 (Nat.le_refl _); have P0 := c0.two; have P1 := c1.two; have P2 := c2.two; have s2 := c2.lt; have s0 := c0.lt; have s1 := c1.lt))
        go_region
        go_wp2
        go_roundg (x % gk)
        case measure => exact Nat.mod_lt _ (by omega)
        case rel =>
          refine ⟨gk, hk, by have := Nat.mod_lt x (show 0 < gk by omega); omega, ?_, ?_, ?_, ?_, by rw [← HGC.out, Nat.gcd_comm x gk, Nat.gcd_rec gk x, Nat.gcd_comm]⟩
          · exact (by repeat (first | with_reducible assumption | with_reducible refine Blk.off2 ?_ (by omega) _ _ | with_reducible refine Blk.off4 ?_ (by omega) _ _ _ _ | with_reducible apply Blk.put2 | with_reducible apply Blk.put4 | with_reducible apply Blk.drew | with_reducible apply Blk.drewN | with_reducible refine Blk.alloc ?_ _))
          · rw [Int.natCast_emod]; exact (by repeat (first | with_reducible assumption | with_reducible refine Blk.off2 ?_ (by omega) _ _ | with_reducible refine Blk.off4 ?_ (by omega) _ _ _ _ | with_reducible apply Blk.put2 | with_reducible apply Blk.put4 | with_reducible apply Blk.drew | with_reducible apply Blk.drewN | with_reducible refine Blk.alloc ?_ _))
          · exact (by repeat (first | with_reducible assumption | with_reducible refine Blk.off2 ?_ (by omega) _ _ | with_reducible refine Blk.off4 ?_ (by omega) _ _ _ _ | with_reducible apply Blk.put2 | with_reducible apply Blk.put4 | with_reducible apply Blk.drew | with_reducible apply Blk.drewN | with_reducible refine Blk.alloc ?_ _))
          · exact (by repeat (first | with_reducible exact Below.refl _ _ | with_reducible assumption | with_reducible refine Below.setCell ?_ (by first | omega | (simp; done) | (simp; omega)) _ | with_reducible refine below_drewN ?_ _ | with_reducible refine Below.drew ?_ | with_reducible refine Below.alloc ?_ (by first | omega | (simp; done) | (simp; omega)) _ | with_reducible refine below_after ?_ (by assumption) (by first | omega | (simp; done) | (simp; omega))))
end Go.Proofs.YtpibknhnhegebaaGreatDoor
