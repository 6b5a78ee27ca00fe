/- Plain facts on fractions in lowest terms (no program). -/
namespace Go.Proofs.YtpibknhnhegebaaGreatDoor.Fr
/-- numerator and denominator in lowest terms -/
def num (n d : Nat) : Nat := n / Nat.gcd n d
def den (n d : Nat) : Nat := d / Nat.gcd n d
theorem num_mul (k n d : Nat) (hk : 0 < k) : num (k * n) (k * d) = num n d := by
  unfold num; rw [Nat.gcd_mul_left, Nat.mul_div_mul_left _ _ hk]
theorem den_mul (k n d : Nat) (hk : 0 < k) : den (k * n) (k * d) = den n d := by
  unfold den; rw [Nat.gcd_mul_left, Nat.mul_div_mul_left _ _ hk]
theorem num_eq (n d : Nat) : Nat.gcd n d * num n d = n := by unfold num; exact Nat.mul_div_cancel' (Nat.gcd_dvd_left n d)
theorem den_eq (n d : Nat) : Nat.gcd n d * den n d = d := by unfold den; exact Nat.mul_div_cancel' (Nat.gcd_dvd_right n d)
theorem den_pos (n d : Nat) (hd : 0 < d) : 0 < den n d := by
  have := den_eq n d
  rcases Nat.eq_zero_or_pos (den n d) with h | h
  · rw [h] at this; omega
  · exact h
theorem num_pos (n d : Nat) (hn : 0 < n) : 0 < num n d := by
  have := num_eq n d
  rcases Nat.eq_zero_or_pos (num n d) with h | h
  · rw [h] at this; omega
  · exact h
theorem num_le (n d : Nat) : num n d ≤ n := Nat.div_le_self _ _
theorem den_le (n d : Nat) : den n d ≤ d := Nat.div_le_self _ _
theorem both_mul (X Y x y : Nat) (hY : 0 < Y) (hy : 0 < y) :
    num (num X Y * num x y) (den X Y * den x y) = num (X * x) (Y * y) ∧ den (num X Y * num x y) (den X Y * den x y) = den (X * x) (Y * y) := by
  have hk : 0 < Nat.gcd X Y * Nat.gcd x y := Nat.mul_pos (Nat.gcd_pos_of_pos_right _ hY) (Nat.gcd_pos_of_pos_right _ hy)
  have e1 : X * x = (Nat.gcd X Y * Nat.gcd x y) * (num X Y * num x y) := by
    rw [Nat.mul_mul_mul_comm, num_eq, num_eq]
  have e2 : Y * y = (Nat.gcd X Y * Nat.gcd x y) * (den X Y * den x y) := by
    rw [Nat.mul_mul_mul_comm, den_eq, den_eq]
  rw [e1, e2, num_mul _ _ _ hk, den_mul _ _ _ hk]
  exact ⟨rfl, rfl⟩
end Go.Proofs.YtpibknhnhegebaaGreatDoor.Fr
