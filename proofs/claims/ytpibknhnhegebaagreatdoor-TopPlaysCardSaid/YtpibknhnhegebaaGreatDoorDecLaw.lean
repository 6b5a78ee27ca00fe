/- Plain facts on decimal numerals (no program). -/
import Derived.Lib.ItoaNum
import Derived.Lib.Atoi
import Derived.Lib.IndexMore
import Derived.Lib.Strings
namespace Go.Proofs.YtpibknhnhegebaaGreatDoor.Dec
open Go.Lib

theorem digit_byte (d : Nat) (h : d < 10) : (UInt8.ofNat (48 + d)).toNat = 48 + d := by
  rw [UInt8.toNat_ofNat']; omega
theorem digits_all (u : Nat) : ∀ b ∈ decDigits u, 48 ≤ b.toNat ∧ b.toNat ≤ 57 := by
  induction u using Nat.strongRecOn with
  | _ u ih =>
    intro b hb
    rw [decDigits] at hb
    split at hb
    · simp only [List.mem_singleton] at hb
      subst hb
      rw [digit_byte _ (by omega)]; omega
    · rcases List.mem_append.1 hb with h | h
      · exact ih (u / 10) (by omega) b h
      · simp only [List.mem_singleton] at h
        subst h
        rw [digit_byte _ (by omega)]; omega
theorem digits_pos (u : Nat) : 0 < (decDigits u).length := by
  rw [decDigits]; split <;> simp
theorem digits_len (k : Nat) : ∀ u, u < 10 ^ (k + 1) → (decDigits u).length ≤ k + 1 := by
  induction k with
  | zero => intro u hu; rw [decDigits, dif_pos (by simpa using hu)]; simp
  | succ k ih =>
    intro u hu
    rw [decDigits]
    split
    · simp
    · have := ih (u / 10) (by rw [Nat.div_lt_iff_lt_mul (by omega)]; rw [Nat.pow_succ] at hu; exact hu)
      simp; omega
theorem digits_len18 (u : Nat) (h : u < 1000000000000000000) : (decDigits u).length ≤ 18 := digits_len 17 u (by simpa using h)
/-- no zero in front -/
theorem digits_head (u : Nat) (h : 0 < u) : ∀ b r, decDigits u = b :: r → b.toNat ≠ 48 := by
  induction u using Nat.strongRecOn with
  | _ u ih =>
    intro b r hb
    rw [decDigits] at hb
    split at hb
    · injection hb with h1 _
      subst h1
      rw [digit_byte _ (by omega)]; omega
    · have hp := digits_pos (u / 10)
      cases hd : decDigits (u / 10) with
      | nil => rw [hd] at hp; simp at hp
      | cons c t =>
        rw [hd] at hb
        injection hb with h1 _
        subst h1
        exact ih (u / 10) (by omega) (by omega) c t hd
theorem decFrom_append (l : List UInt8) : ∀ (acc m : Nat) (d : Nat), d < 10 → decFrom acc l = some m → decFrom acc (l ++ [UInt8.ofNat (48 + d)]) = some (m * 10 + d) := by
  induction l with
  | nil =>
    intro acc m d hd h
    simp only [decFrom, Option.some.injEq] at h
    subst h
    simp only [List.nil_append, decFrom, digitVal, digit_byte d hd]
    rw [if_pos (by omega)]
    show some (acc * 10 + (48 + d - 48)) = _
    congr 1; omega
  | cons b r ih =>
    intro acc m d hd h
    rw [List.cons_append]
    unfold decFrom at h ⊢
    cases hv : digitVal b with
    | none => rw [hv] at h; cases h
    | some v => rw [hv] at h; exact ih _ _ _ hd h
theorem decFrom_digits (u : Nat) : decFrom 0 (decDigits u) = some u := by
  induction u using Nat.strongRecOn with
  | _ u ih =>
    rw [decDigits]
    split
    · have := decFrom_append [] 0 0 u (by omega) rfl
      simpa using this
    · have := decFrom_append (decDigits (u / 10)) 0 (u / 10) (u % 10) (by omega) (ih (u / 10) (by omega))
      rw [this]; congr 1; omega
theorem atoi_digits (u : Nat) : atoi (decDigits u) = some (u : Int) := by
  have hp := digits_pos u
  cases hd : decDigits u with
  | nil => rw [hd] at hp; simp at hp
  | cons b r =>
    have hb := digits_all u b (by rw [hd]; simp)
    have h1 : (b == 45) = false := by
      rw [beq_eq_false_iff_ne]; intro e; subst e; simp at hb
    have h2 : (b == 43) = false := by
      rw [beq_eq_false_iff_ne]; intro e; subst e; simp at hb
    have h3 := decFrom_digits u
    rw [hd] at h3
    simp [atoi, h1, h2, decNat, h3]
theorem no_prefix (l : List UInt8) (h : ∀ b ∈ l, 48 ≤ b.toNat ∧ b.toNat ≤ 57) : hasPrefix l [45] = false := by
  cases l with
  | nil => rfl
  | cons b r =>
    have := h b (by simp)
    have hb : (45 == b) = false := by
      rw [beq_eq_false_iff_ne]; intro e; subst e; simp at this
    simp [hasPrefix, List.isPrefixOf, hb]
theorem slash_none (l : List UInt8) (h : ∀ b ∈ l, 48 ≤ b.toNat ∧ b.toNat ≤ 57) : index l [47] = -1 := by
  induction l with
  | nil => rfl
  | cons b r ih =>
    have := h b (by simp)
    have hb : (47 == b) = false := by
      rw [beq_eq_false_iff_ne]; intro e; subst e; simp at this
    have := ih (fun c hc => h c (by simp [hc]))
    simp [index, List.isPrefixOf, hb, this]
theorem no_cut (l : List UInt8) (h : ∀ b ∈ l, 48 ≤ b.toNat ∧ b.toNat ≤ 57) : cut l [47] = (l, [], false) := by
  unfold cut; rw [slash_none l h]; rfl
theorem itoa_nat (u : Nat) : itoa (u : Int) = decDigits u := by unfold itoa; rw [if_neg (by omega)]; simp
end Go.Proofs.YtpibknhnhegebaaGreatDoor.Dec
