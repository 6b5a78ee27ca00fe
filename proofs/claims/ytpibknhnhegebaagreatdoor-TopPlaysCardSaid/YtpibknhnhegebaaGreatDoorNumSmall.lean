/- Package num at integers that have a place in a machine integer: each function returns what the arithmetic says; it makes memory and changes none. -/
import Derived.Test.YtpibknhnhegebaaGreatDoorProg
import Derived.Test.YtpibknhnhegebaaGreatDoorReads
import Derived.WalkKit
import Derived.WalkLawsBesides
import Derived.WalkSpells
import Derived.Lib.Hide
import Derived.Outline
import Derived.BigQuiet
import Derived.Deep.QuietTactic
import Derived.Deep.RegionHeld3
namespace Go.Proofs.YtpibknhnhegebaaGreatDoor
open Go.RowKit

theorem nil_eql (w : World) (a : Option Addr) (n c : Nat) : (binOp .eql 80 (.slice a n c) (.slice none 0 0)).run Tryz.prog w = .ok (.bool a.isNone) w := Lib.run_eql_slice_nil w _ _ a n c 0 0 Tryz.underlying80
theorem nil_neq (w : World) (a : Option Addr) (n c : Nat) : (binOp .neq 80 (.slice a n c) (.slice none 0 0)).run Tryz.prog w = .ok (.bool (!a.isNone)) w := run_neq_slice_nil_any w _ _ a n c 0 0 Tryz.underlying80
attribute [local go_sem] nil_eql nil_neq

theorem ret_i64 {a b : Int} (h : a = b) : Ending.returned (.int .i64 a) = .returned (.int .i64 b) := by rw [h]

theorem Of_any (n : Int) (w : World) :
    Calls Tryz.prog 97 #[.int .i64 n] w fun e w' => e = .returned (.agg #[.int .i64 n, .slice none 0 0]) ∧ Below w.heap.size w w' := by
  go_enter Tryz.func97, Tryz.ntmps97
  go_wp2
  exact bodyPost_ret (v := .agg #[.int .i64 n, .slice none 0 0]) (by simp [results, Tryz.results97, go_sem]) rfl ⟨rfl, (Below.refl _ _).alloc (Nat.le_refl _) _⟩

/-- the sign -/
def sgn (n : Int) : Int := max (-1) (min 1 n)

theorem Int_Sign (n : Int) (w : World) :
    Calls Tryz.prog 128 #[.agg #[.int .i64 n, .slice none 0 0]] w fun e w' => e = .returned (.int .i64 (sgn n)) ∧ Below w.heap.size w w' := by
  go_enter Tryz.func128, Tryz.ntmps128
  go_wp2
  all_goals (go_ret; exact ⟨ret_i64 (by unfold sgn; omega), (Below.refl _ _).alloc (Nat.le_refl _) _⟩)

set_option maxRecDepth 100000 in
theorem Int_Neg (n : Int) (w : World) (h1 : -4000000000000000000 ≤ n) (h2 : n ≤ 4000000000000000000) :
    Calls Tryz.prog 158 #[.agg #[.int .i64 n, .slice none 0 0]] w fun e w' => e = .returned (.agg #[.int .i64 (-n), .slice none 0 0]) ∧ Below w.heap.size w w' := by
  have hne : (n != -9223372036854775808) = true := by rw [bne_iff_ne]; omega
  go_enter Tryz.func158, Tryz.ntmps158
  go_wp2
  exact bodyPost_ret (v := .agg #[.int .i64 (-n), .slice none 0 0]) (by simp [results, Tryz.results158, go_sem]) rfl ⟨rfl, ((Below.refl _ _).alloc (Nat.le_refl _) _).alloc (by simp) _⟩

set_option maxRecDepth 100000 in
theorem Int_Abs (n : Int) (w : World) (h1 : -4000000000000000000 ≤ n) (h2 : n ≤ 4000000000000000000) :
    Calls Tryz.prog 185 #[.agg #[.int .i64 n, .slice none 0 0]] w fun e w' => e = .returned (.agg #[.int .i64 (n.natAbs : Int), .slice none 0 0]) ∧ Below w.heap.size w w' := by
  by_cases h0 : n < 0
  · obtain ⟨m, hm⟩ : ∃ m : Int, (n.natAbs : Int) = m := ⟨_, rfl⟩
    obtain rfl : -n = m := by omega
    rw [hm]; clear hm
    go_enter Tryz.func185, Tryz.ntmps185
    go_wp2_with (go_at_call 158; refine (Int_Neg _ _ h1 h2).mono ?_; rintro e w1 ⟨rfl, hb1⟩; obtain ⟨hc1, hf1⟩ := bcell hb1)
    have hb := hb1.mono (B' := w.heap.size) (by simp; omega)
    exact bodyPost_ret (v := .agg #[.int .i64 (-n), .slice none 0 0]) (by simp [results, Tryz.results185, go_sem, hc1]) rfl ⟨rfl, (((((Below.refl _ _).alloc (Nat.le_refl _) _).alloc (by simp) _).trans hb).setCell (by simp) _).setCell (by simp) _⟩
  · obtain ⟨m, hm⟩ : ∃ m : Int, (n.natAbs : Int) = m := ⟨_, rfl⟩
    obtain rfl : n = m := by omega
    rw [hm]; clear hm
    go_enter Tryz.func185, Tryz.ntmps185
    go_wp2
    exact bodyPost_ret (v := .agg #[.int .i64 n, .slice none 0 0]) (by simp [results, Tryz.results185, go_sem]) rfl ⟨rfl, ((Below.refl _ _).alloc (Nat.le_refl _) _).alloc (by simp) _⟩

set_option maxRecDepth 100000 in
theorem Int_Add (a b : Int) (w : World) (h1 : -2000000000000000000 ≤ a) (h2 : a ≤ 2000000000000000000) (h3 : -2000000000000000000 ≤ b) (h4 : b ≤ 2000000000000000000) :
    Calls Tryz.prog 99 #[.agg #[.int .i64 a, .slice none 0 0], .agg #[.int .i64 b, .slice none 0 0]] w fun e w' => e = .returned (.agg #[.int .i64 (a + b), .slice none 0 0]) ∧ Below w.heap.size w w' := by
  by_cases h0 : 0 < b
  · have ht : a < a + b := by omega
    go_enter Tryz.func99, Tryz.ntmps99
    go_wp2
    exact bodyPost_ret (v := .agg #[.int .i64 (a + b), .slice none 0 0]) (by simp [results, Tryz.results99, go_sem]) rfl ⟨rfl, (((Below.refl _ _).alloc (Nat.le_refl _) _).alloc (by simp) _).alloc (by simp; omega) _⟩
  · have ht : ¬ a < a + b := by omega
    go_enter Tryz.func99, Tryz.ntmps99
    go_wp2
    exact bodyPost_ret (v := .agg #[.int .i64 (a + b), .slice none 0 0]) (by simp [results, Tryz.results99, go_sem]) rfl ⟨rfl, (((Below.refl _ _).alloc (Nat.le_refl _) _).alloc (by simp) _).alloc (by simp; omega) _⟩

theorem floor_neg (a b : Int) (hb : 0 < b) (h : a.tmod b < 0) : a / b = a.tdiv b - 1 ∧ a % b = a.tmod b + b := by
  have h1 := Int.tmod_add_mul_tdiv a b
  have h2 := Int.lt_tmod_of_pos a hb
  rw [Int.ediv_emod_unique hb]
  refine ⟨?_, by omega, by omega⟩
  rw [Int.mul_sub]; omega
theorem floor_pos (a b : Int) (hb : 0 < b) (h : 0 ≤ a.tmod b) : a / b = a.tdiv b ∧ a % b = a.tmod b := by
  have h1 := Int.tmod_add_mul_tdiv a b
  have h2 := Int.tmod_lt_of_pos a hb
  rw [Int.ediv_emod_unique hb]
  exact ⟨h1, h, h2⟩
theorem tdiv_bd (a b M : Int) (hb : 0 < b) (h1 : -M ≤ a) (h2 : a ≤ M) : -M ≤ a.tdiv b ∧ a.tdiv b ≤ M ∧ -b < a.tmod b ∧ a.tmod b < b := by
  have h := Int.natAbs_tdiv_le_natAbs a b
  exact ⟨by omega, by omega, Int.lt_tmod_of_pos a hb, Int.tmod_lt_of_pos a hb⟩

set_option maxHeartbeats 800000 in
set_option maxRecDepth 100000 in
theorem Int_DivMod (a b : Int) (w : World) (h1 : -4000000000000000000 ≤ a) (h2 : a ≤ 4000000000000000000) (h3 : 0 < b) (h4 : b ≤ 4000000000000000000) :
    Calls Tryz.prog 186 #[.agg #[.int .i64 a, .slice none 0 0], .agg #[.int .i64 b, .slice none 0 0]] w fun e w' => e = .returned (.tuple #[.agg #[.int .i64 (a / b), .slice none 0 0], .agg #[.int .i64 (a % b), .slice none 0 0]]) ∧ Below w.heap.size w w' := by
  have hne : (a != -9223372036854775808) = true := by rw [bne_iff_ne]; omega
  have hb0 : (b == 0) = false := by simp; omega
  have hbd := tdiv_bd a b 4000000000000000000 h3 h1 h2
  obtain ⟨t1, t2, t3, t4⟩ := hbd
  by_cases ha : 0 ≤ a
  · have hm := Int.emod_nonneg a (show b ≠ 0 by omega)
    go_enter Tryz.func186, Tryz.ntmps186
    go_wp2
    go_quiet (fail)
    go_wp2
    exact bodyPost_ret (v := .tuple #[.agg #[.int .i64 (a / b), .slice none 0 0], .agg #[.int .i64 (a % b), .slice none 0 0]]) (by simp [results, Tryz.results186, go_sem, Int.tdiv_eq_ediv_of_nonneg ha]) rfl ⟨rfl, (by repeat (first | with_reducible exact Below.refl _ _ | with_reducible assumption | with_reducible refine Below.setCell ?_ (by first | omega | (simp; done) | (simp; omega)) _ | with_reducible refine below_drewN ?_ _ | with_reducible refine Below.drew ?_ | with_reducible refine Below.alloc ?_ (by first | omega | (simp; done) | (simp; omega)) _ | with_reducible refine below_after ?_ (by assumption) (by first | omega | (simp; done) | (simp; omega))))⟩
  · by_cases hr : a.tmod b < 0
    · rw [(floor_neg a b h3 hr).1, (floor_neg a b h3 hr).2]
      go_enter Tryz.func186, Tryz.ntmps186
      go_wp2
      go_quiet (fail)
      go_wp2
      go_quiet (fail)
      go_wp2
      exact bodyPost_ret (v := .tuple #[.agg #[.int .i64 (a.tdiv b - 1), .slice none 0 0], .agg #[.int .i64 (a.tmod b + b), .slice none 0 0]]) (by simp [results, Tryz.results186, go_sem]) rfl ⟨rfl, (by repeat (first | with_reducible exact Below.refl _ _ | with_reducible assumption | with_reducible refine Below.setCell ?_ (by first | omega | (simp; done) | (simp; omega)) _ | with_reducible refine below_drewN ?_ _ | with_reducible refine Below.drew ?_ | with_reducible refine Below.alloc ?_ (by first | omega | (simp; done) | (simp; omega)) _ | with_reducible refine below_after ?_ (by assumption) (by first | omega | (simp; done) | (simp; omega))))⟩
    · have hr' : 0 ≤ a.tmod b := by omega
      rw [(floor_pos a b h3 hr').1, (floor_pos a b h3 hr').2]
      go_enter Tryz.func186, Tryz.ntmps186
      go_wp2
      go_quiet (fail)
      go_wp2
      exact bodyPost_ret (v := .tuple #[.agg #[.int .i64 (a.tdiv b), .slice none 0 0], .agg #[.int .i64 (a.tmod b), .slice none 0 0]]) (by simp [results, Tryz.results186, go_sem]) rfl ⟨rfl, (by repeat (first | with_reducible exact Below.refl _ _ | with_reducible assumption | with_reducible refine Below.setCell ?_ (by first | omega | (simp; done) | (simp; omega)) _ | with_reducible refine below_drewN ?_ _ | with_reducible refine Below.drew ?_ | with_reducible refine Below.alloc ?_ (by first | omega | (simp; done) | (simp; omega)) _ | with_reducible refine below_after ?_ (by assumption) (by first | omega | (simp; done) | (simp; omega))))⟩
end Go.Proofs.YtpibknhnhegebaaGreatDoor
