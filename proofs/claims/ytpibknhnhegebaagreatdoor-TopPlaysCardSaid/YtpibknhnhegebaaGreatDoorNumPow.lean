/- Package num: powers of 10. -/
import Derived.Test.YtpibknhnhegebaaGreatDoorNumText
import Derived.Laws.BitsAllLaws
import Derived.Laws.BitsLemmas
namespace Go.Proofs.YtpibknhnhegebaaGreatDoor
open Go.RowKit
attribute [local go_sem] nil_eql nil_neq

theorem pow_step (u c k : Nat) : u * c ^ k = (if k % 2 = 1 then u * c else u) * (c * c) ^ (k / 2) := by
  have h2 : c * c = c ^ 2 := by rw [Nat.pow_two]
  rcases Nat.mod_two_eq_zero_or_one k with h | h
  · rw [if_neg (by omega), h2, ← Nat.pow_mul]
    congr 2; omega
  · rw [if_pos h, h2, ← Nat.pow_mul, Nat.mul_assoc, ← Nat.pow_succ']
    congr 2; omega

theorem and_one (k : Nat) (h : k ≤ 18) : (bits BinOp.and IntKind.i64 (k : Int) 1 == 1) = decide (k % 2 = 1) := by
  have : ∀ k : Fin 19, (bits BinOp.and IntKind.i64 (k.val : Int) 1 == 1) = decide (k.val % 2 = 1) := by decide +kernel
  exact this ⟨k, by omega⟩
theorem Int_Mul_nat (a b p : Nat) (w : World) (h : a * b = p) (h1 : a ≤ 4000000000000000000) (h2 : b ≤ 4000000000000000000) (h3 : p ≤ 4000000000000000000) :
    Calls Tryz.prog 98 #[.agg #[.int .i64 (a : Int), .slice none 0 0], .agg #[.int .i64 (b : Int), .slice none 0 0]] w fun e w' => e = .returned (.agg #[.int .i64 (p : Int), .slice none 0 0]) ∧ Below w.heap.size w w' := by
  have e : (a : Int) * (b : Int) = (p : Int) := by rw [← h]; exact (Int.natCast_mul a b).symm
  have := Int_Mul (a : Int) (b : Int) w (by omega) (by omega) (by omega) (by omega) (by omega) (by omega)
  rw [e] at this
  exact this
theorem pow_bd {u c k T : Nat} (_ : 0 < u) (_ : 0 < c) (hk : 0 < k) (h : u * c ^ k = T) : u * c ≤ T := by
  rw [← h]; exact Nat.mul_le_mul_left _ (Nat.le_self_pow (by omega) c)
theorem pow_bd2 {u c k T : Nat} (hu : 0 < u) (hc : 0 < c) (hk : 2 ≤ k) (h : u * c ^ k = T) : c * c ≤ T := by
  rw [← h, ← Nat.pow_two]
  calc c ^ 2 ≤ c ^ k := Nat.pow_le_pow_right hc hk
    _ ≤ u * c ^ k := Nat.le_mul_of_pos_left _ hu

set_option maxHeartbeats 4000000 in
set_option maxRecDepth 100000 in
theorem Pow10 (K : Nat) (w : World) (hK : K ≤ 18) :
    Calls Tryz.prog 190 #[.agg #[.int .i64 10, .slice none 0 0], .int .i64 (K : Int)] w fun e w' => e = .returned (.agg #[.int .i64 ((10 ^ K : Nat) : Int), .slice none 0 0]) ∧ Below w.heap.size w w' := by
  have hM : 10 ^ K ≤ 1000000000000000000 := Nat.pow_le_pow_right (by omega) hK
  obtain ⟨T, hT⟩ : ∃ T, 10 ^ K = T := ⟨_, rfl⟩
  rw [hT] at hM ⊢
  have HT := Lib.hid hT
  clear hT
  go_enter Tryz.func190, Tryz.ntmps190
  go_wp2_with fail
  generalize hW0 : World.alloc (World.alloc w _) _ = W0
  have d0 : Blk W0 w.heap.size 82 #[.int .i64 10, .slice none 0 0] := by rw [← hW0]; exact (Blk.new _ _ _).alloc _
  have d1 : Blk W0 (w.heap.size + 1) 82 #[.int .i64 0, .slice none 0 0] := by rw [← hW0]; exact Blk.new' _ _ _ _ (by simp)
  have e0 : Below w.heap.size w W0 := by rw [← hW0]; exact (by repeat (first | with_reducible exact Below.refl _ _ | with_reducible assumption | with_reducible refine Below.setCell ?_ (by first | omega | (simp; done) | (simp; omega)) _ | with_reducible refine below_drewN ?_ _ | with_reducible refine Below.drew ?_ | with_reducible refine Below.alloc ?_ (by first | omega | (simp; done) | (simp; omega)) _ | with_reducible refine below_after ?_ (by assumption) (by first | omega | (simp; done) | (simp; omega))))
  clear hW0
  refine (Of_any _ _).mono ?_
  rintro e w1 ⟨rfl, hb1⟩
  have c0 := keep_blk (g := w.heap.size) (by with_reducible assumption) hb1; have P0 := c0.two; have s0 := c0.lt; have c1 := keep_blk (g := w.heap.size + 1) (by with_reducible assumption) hb1; have P1 := c1.two; have s1 := c1.lt; have e1 := below_after (B := w.heap.size) (by with_reducible assumption) hb1 (Nat.le_refl _)
  clear d0 d1 e0
  go_wp2_with fail
  generalize hW1 : World.alloc w1 _ = W1
  have k0 : Blk W1 w.heap.size 82 #[.int .i64 10, .slice none 0 0] := by rw [← hW1]; exact c0.alloc _
  have k1 : Blk W1 (w.heap.size + 1) 82 #[.int .i64 0, .slice none 0 0] := by rw [← hW1]; exact c1.alloc _
  have k2 : Blk W1 w1.heap.size 82 #[.int .i64 1, .slice none 0 0] := by rw [← hW1]; exact Blk.new _ _ _
  have k3 : Below w.heap.size w W1 := by rw [← hW1]; exact (by repeat (first | with_reducible exact Below.refl _ _ | with_reducible assumption | with_reducible refine Below.setCell ?_ (by first | omega | (simp; done) | (simp; omega)) _ | with_reducible refine below_drewN ?_ _ | with_reducible refine Below.drew ?_ | with_reducible refine Below.alloc ?_ (by first | omega | (simp; done) | (simp; omega)) _ | with_reducible refine below_after ?_ (by assumption) (by first | omega | (simp; done) | (simp; omega))))
  clear hW1 c0 c1 P0 P1 e1 hb1
  have hBB : w.heap.size + 1 < w1.heap.size := s1
  generalize hB : w1.heap.size = B at *
  clear hB
  go_loopw [1] (fun i wr => ∃ k u c : Nat, i = .int .i64 (k : Int) ∧ 0 < u ∧ 0 < c ∧ w.heap.size + 1 < B ∧ k ≤ 18 ∧ u ≤ 1000000000000000000 ∧ c ≤ 1000000000000000000 ∧ Blk wr w.heap.size 82 #[.int .i64 (c : Int), .slice none 0 0] ∧ Blk wr (w.heap.size + 1) 82 #[.int .i64 0, .slice none 0 0] ∧ Blk wr B 82 #[.int .i64 (u : Int), .slice none 0 0] ∧ Below w.heap.size w wr ∧ u * c ^ k = T) (fun i _ => (intOf i).toNat)
  case atStart => exact ⟨K, 1, 10, rfl, by omega, by omega, by omega, hK, by omega, by omega, k0, k1, k2, k3, by rw [Nat.one_mul]; exact HT.out⟩
  case round =>
    obtain ⟨k, u, c, rfl, hu0, hc0, hBB, hk18, hu, hc, c0, c1, c2, e1, hT⟩ := hrel
    have HP := Lib.hid hT
    have P0 := c0.two
    have P1 := c1.two
    have P2 := c2.two
    clear hT k0 k1 k2 k3
    have ha := and_one k hk18
    by_cases hk0 : k = 0
    · subst hk0
      have hu2 : u = T := by have := HP.out; simpa using this
      have HU := Lib.hid hu2
      clear ha hu2
      go_wp2_with fail
      exact bodyPost_ret (v := .agg #[.int .i64 (T : Int), .slice none 0 0]) (by rw [← HU.out]; simp [results, Tryz.results190, go_sem, P1]) rfl ⟨rfl, (by repeat (first | with_reducible exact Below.refl _ _ | with_reducible assumption | with_reducible refine Below.setCell ?_ (by first | omega | (simp; done) | (simp; omega)) _ | with_reducible refine below_drewN ?_ _ | with_reducible refine Below.drew ?_ | with_reducible refine Below.alloc ?_ (by first | omega | (simp; done) | (simp; omega)) _ | with_reducible refine below_after ?_ (by assumption) (by first | omega | (simp; done) | (simp; omega))))⟩
    · have b1 := pow_bd hu0 hc0 (by omega) HP.out
      obtain ⟨p, hp⟩ : ∃ p, u * c = p := ⟨_, rfl⟩
      obtain ⟨q, hq⟩ : ∃ q, c * c = q := ⟨_, rfl⟩
      have hp0 : 0 < p := by rw [← hp]; exact Nat.mul_pos hu0 hc0
      have hq0 : 0 < q := by rw [← hq]; exact Nat.mul_pos hc0 hc0
      have hs := pow_step u c k
      rw [hp, hq, HP.out] at hs
      rw [hp] at b1
      have M1 := Lib.hid (fun w => Int_Mul_nat u c p w hp (by omega) (by omega) (by omega))
      by_cases hk1 : k = 1
      · subst hk1
        rw [show decide (1 % 2 = 1) = true by decide] at ha
        have ha' : (bits BinOp.and IntKind.i64 1 1 == 1) = true := by decide +kernel
        have HS := Lib.hid hs
        have M2 := M1
        clear hs hp hq
        go_wp2_with (go_at_call 98; (first | (with_reducible refine (M1.out _).mono ?_) | (with_reducible refine (M2.out _).mono ?_)); rintro e w1 ⟨rfl, hb1⟩; have c0 := keep_blk (g := w.heap.size) (by with_reducible assumption) hb1; have P0 := c0.two; have s0 := c0.lt; have c1 := keep_blk (g := w.heap.size + 1) (by with_reducible assumption) hb1; have P1 := c1.two; have s1 := c1.lt; have c2 := keep_blk (g := B) (by with_reducible assumption) hb1; have P2 := c2.two; have s2 := c2.lt; have e1 := below_after (B := w.heap.size) (by with_reducible assumption) hb1 (Nat.le_refl _))
        go_roundw
        case rel => exact ⟨0, p, c, rfl, hp0, hc0, hBB, by omega, by omega, hc, (by repeat (first | with_reducible assumption | with_reducible refine Blk.off2 ?_ (by omega) _ _ | with_reducible refine Blk.off4 ?_ (by omega) _ _ _ _ | with_reducible apply Blk.put2 | with_reducible apply Blk.put4 | with_reducible apply Blk.drew | with_reducible apply Blk.drewN | with_reducible refine Blk.alloc ?_ _)), (by repeat (first | with_reducible assumption | with_reducible refine Blk.off2 ?_ (by omega) _ _ | with_reducible refine Blk.off4 ?_ (by omega) _ _ _ _ | with_reducible apply Blk.put2 | with_reducible apply Blk.put4 | with_reducible apply Blk.drew | with_reducible apply Blk.drewN | with_reducible refine Blk.alloc ?_ _)), (by repeat (first | with_reducible assumption | with_reducible refine Blk.off2 ?_ (by omega) _ _ | with_reducible refine Blk.off4 ?_ (by omega) _ _ _ _ | with_reducible apply Blk.put2 | with_reducible apply Blk.put4 | with_reducible apply Blk.drew | with_reducible apply Blk.drewN | with_reducible refine Blk.alloc ?_ _)), (by repeat (first | with_reducible exact Below.refl _ _ | with_reducible assumption | with_reducible refine Below.setCell ?_ (by first | omega | (simp; done) | (simp; omega)) _ | with_reducible refine below_drewN ?_ _ | with_reducible refine Below.drew ?_ | with_reducible refine Below.alloc ?_ (by first | omega | (simp; done) | (simp; omega)) _ | with_reducible refine below_after ?_ (by assumption) (by first | omega | (simp; done) | (simp; omega)))), by have := HS.out; simpa using this.symm⟩
        case measure => simp [intOf]
      · have b2 := pow_bd2 hu0 hc0 (by omega) HP.out
        rw [hq] at b2
        have M2 := Lib.hid (fun w => Int_Mul_nat c c q w hq (by omega) (by omega) (by omega))
        by_cases hodd : k % 2 = 1
        · rw [if_pos hodd] at hs
          rw [decide_eq_true hodd] at ha
          have HS := Lib.hid hs
          clear hs hp hq hodd
          go_wp2_with fail
          refine (M1.out _).mono ?_
          rintro e w1 ⟨rfl, hb1⟩
          have c0 := keep_blk (g := w.heap.size) (by with_reducible assumption) hb1; have P0 := c0.two; have s0 := c0.lt; have c1 := keep_blk (g := w.heap.size + 1) (by with_reducible assumption) hb1; have P1 := c1.two; have s1 := c1.lt; have c2 := keep_blk (g := B) (by with_reducible assumption) hb1; have P2 := c2.two; have s2 := c2.lt; have e1 := below_after (B := w.heap.size) (by with_reducible assumption) hb1 (Nat.le_refl _)
          clear hb1
          go_wp2_with fail
          generalize hW2 : World.setCell (World.setCell w1 _ _) _ _ = W2
          have k0 : Blk W2 w.heap.size 82 #[.int .i64 (c : Int), .slice none 0 0] := by rw [← hW2]; exact (by repeat (first | with_reducible assumption | with_reducible refine Blk.off2 ?_ (by omega) _ _ | with_reducible refine Blk.off4 ?_ (by omega) _ _ _ _ | with_reducible apply Blk.put2 | with_reducible apply Blk.put4 | with_reducible apply Blk.drew | with_reducible apply Blk.drewN | with_reducible refine Blk.alloc ?_ _))
          have k1 : Blk W2 (w.heap.size + 1) 82 #[.int .i64 0, .slice none 0 0] := by rw [← hW2]; exact (by repeat (first | with_reducible assumption | with_reducible refine Blk.off2 ?_ (by omega) _ _ | with_reducible refine Blk.off4 ?_ (by omega) _ _ _ _ | with_reducible apply Blk.put2 | with_reducible apply Blk.put4 | with_reducible apply Blk.drew | with_reducible apply Blk.drewN | with_reducible refine Blk.alloc ?_ _))
          have k2 : Blk W2 B 82 #[.int .i64 (p : Int), .slice none 0 0] := by rw [← hW2]; exact (by repeat (first | with_reducible assumption | with_reducible refine Blk.off2 ?_ (by omega) _ _ | with_reducible refine Blk.off4 ?_ (by omega) _ _ _ _ | with_reducible apply Blk.put2 | with_reducible apply Blk.put4 | with_reducible apply Blk.drew | with_reducible apply Blk.drewN | with_reducible refine Blk.alloc ?_ _))
          have k3 : Below w.heap.size w W2 := by rw [← hW2]; exact (by repeat (first | with_reducible exact Below.refl _ _ | with_reducible assumption | with_reducible refine Below.setCell ?_ (by first | omega | (simp; done) | (simp; omega)) _ | with_reducible refine below_drewN ?_ _ | with_reducible refine Below.drew ?_ | with_reducible refine Below.alloc ?_ (by first | omega | (simp; done) | (simp; omega)) _ | with_reducible refine below_after ?_ (by assumption) (by first | omega | (simp; done) | (simp; omega))))
          clear hW2 c0 c1 c2 e1 P0 P1 P2
          refine (M2.out _).mono ?_
          rintro e w2 ⟨rfl, hb1⟩
          have c0 := keep_blk (g := w.heap.size) (by with_reducible assumption) hb1; have P0 := c0.two; have s0 := c0.lt; have c1 := keep_blk (g := w.heap.size + 1) (by with_reducible assumption) hb1; have P1 := c1.two; have s1 := c1.lt; have c2 := keep_blk (g := B) (by with_reducible assumption) hb1; have P2 := c2.two; have s2 := c2.lt; have e1 := below_after (B := w.heap.size) (by with_reducible assumption) hb1 (Nat.le_refl _)
          go_wp2_with fail
          go_roundw
          case rel => exact ⟨k / 2, p, q, by go_num, hp0, hq0, hBB, by omega, by omega, by omega, (by repeat (first | with_reducible assumption | with_reducible refine Blk.off2 ?_ (by omega) _ _ | with_reducible refine Blk.off4 ?_ (by omega) _ _ _ _ | with_reducible apply Blk.put2 | with_reducible apply Blk.put4 | with_reducible apply Blk.drew | with_reducible apply Blk.drewN | with_reducible refine Blk.alloc ?_ _)), (by repeat (first | with_reducible assumption | with_reducible refine Blk.off2 ?_ (by omega) _ _ | with_reducible refine Blk.off4 ?_ (by omega) _ _ _ _ | with_reducible apply Blk.put2 | with_reducible apply Blk.put4 | with_reducible apply Blk.drew | with_reducible apply Blk.drewN | with_reducible refine Blk.alloc ?_ _)), (by repeat (first | with_reducible assumption | with_reducible refine Blk.off2 ?_ (by omega) _ _ | with_reducible refine Blk.off4 ?_ (by omega) _ _ _ _ | with_reducible apply Blk.put2 | with_reducible apply Blk.put4 | with_reducible apply Blk.drew | with_reducible apply Blk.drewN | with_reducible refine Blk.alloc ?_ _)), (by repeat (first | with_reducible exact Below.refl _ _ | with_reducible assumption | with_reducible refine Below.setCell ?_ (by first | omega | (simp; done) | (simp; omega)) _ | with_reducible refine below_drewN ?_ _ | with_reducible refine Below.drew ?_ | with_reducible refine Below.alloc ?_ (by first | omega | (simp; done) | (simp; omega)) _ | with_reducible refine below_after ?_ (by assumption) (by first | omega | (simp; done) | (simp; omega)))), HS.out.symm⟩
          case measure => simp [intOf]; omega
        · rw [if_neg hodd] at hs
          rw [decide_eq_false hodd] at ha
          have HS := Lib.hid hs
          clear hs hp hq hodd
          go_wp2_with (go_at_call 98; (first | (with_reducible refine (M1.out _).mono ?_) | (with_reducible refine (M2.out _).mono ?_)); rintro e w1 ⟨rfl, hb1⟩; have c0 := keep_blk (g := w.heap.size) (by with_reducible assumption) hb1; have P0 := c0.two; have s0 := c0.lt; have c1 := keep_blk (g := w.heap.size + 1) (by with_reducible assumption) hb1; have P1 := c1.two; have s1 := c1.lt; have c2 := keep_blk (g := B) (by with_reducible assumption) hb1; have P2 := c2.two; have s2 := c2.lt; have e1 := below_after (B := w.heap.size) (by with_reducible assumption) hb1 (Nat.le_refl _))
          go_roundw
          case rel => exact ⟨k / 2, u, q, by go_num, hu0, hq0, hBB, by omega, by omega, by omega, (by repeat (first | with_reducible assumption | with_reducible refine Blk.off2 ?_ (by omega) _ _ | with_reducible refine Blk.off4 ?_ (by omega) _ _ _ _ | with_reducible apply Blk.put2 | with_reducible apply Blk.put4 | with_reducible apply Blk.drew | with_reducible apply Blk.drewN | with_reducible refine Blk.alloc ?_ _)), (by repeat (first | with_reducible assumption | with_reducible refine Blk.off2 ?_ (by omega) _ _ | with_reducible refine Blk.off4 ?_ (by omega) _ _ _ _ | with_reducible apply Blk.put2 | with_reducible apply Blk.put4 | with_reducible apply Blk.drew | with_reducible apply Blk.drewN | with_reducible refine Blk.alloc ?_ _)), (by repeat (first | with_reducible assumption | with_reducible refine Blk.off2 ?_ (by omega) _ _ | with_reducible refine Blk.off4 ?_ (by omega) _ _ _ _ | with_reducible apply Blk.put2 | with_reducible apply Blk.put4 | with_reducible apply Blk.drew | with_reducible apply Blk.drewN | with_reducible refine Blk.alloc ?_ _)), (by repeat (first | with_reducible exact Below.refl _ _ | with_reducible assumption | with_reducible refine Below.setCell ?_ (by first | omega | (simp; done) | (simp; omega)) _ | with_reducible refine below_drewN ?_ _ | with_reducible refine Below.drew ?_ | with_reducible refine Below.alloc ?_ (by first | omega | (simp; done) | (simp; omega)) _ | with_reducible refine below_after ?_ (by assumption) (by first | omega | (simp; done) | (simp; omega)))), HS.out.symm⟩
          case measure => simp [intOf]; omega
end Go.Proofs.YtpibknhnhegebaaGreatDoor
