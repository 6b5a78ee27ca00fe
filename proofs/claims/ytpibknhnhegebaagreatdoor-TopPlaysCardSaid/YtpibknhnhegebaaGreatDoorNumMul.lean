/- Package num at integers that have a place in a machine integer: products; and the words of this proof for Go's library. -/
import Derived.Test.YtpibknhnhegebaaGreatDoorNumSmall
import Derived.Test.YtpibknhnhegebaaGreatDoorShelf
import Derived.Lib.SmallJoins
namespace Go.Proofs.YtpibknhnhegebaaGreatDoor
open Go.RowKit
attribute [local go_sem] nil_eql nil_neq

set_option maxRecDepth 100000 in
theorem size_any (n : Int) (w : World) (h1 : -4000000000000000000 ≤ n) (h2 : n ≤ 4000000000000000000) :
    Calls Tryz.prog 151 #[.int .i64 n] w fun e w' => e = .returned (.int .u64 (n.natAbs : Int)) ∧ w' = w := by
  by_cases h0 : n < 0
  · go_enter Tryz.func151, Tryz.ntmps151
    go_wp2
    go_ret
    exact ⟨by rw [show (n.natAbs : Int) = -n by omega]; rfl, rfl⟩
  · go_enter Tryz.func151, Tryz.ntmps151
    go_wp2
    go_ret
    exact ⟨by rw [show (n.natAbs : Int) = n by omega]; rfl, rfl⟩

theorem mul64_at (x y p : Nat) (h : x * y = p) (hx : x ≤ 4000000000000000000) (hy : y ≤ 4000000000000000000) (hp : p ≤ 4000000000000000000) (w : World) :
    Calls Tryz.prog 150 #[.int .u64 (x : Int), .int .u64 (y : Int)] w fun e w' => e = .returned (.tuple #[.int .u64 0, .int .u64 (p : Int)]) ∧ w' = w :=
  (Tryz.bits_Mul64 x y (by omega) (by omega) w).mono fun e w' ⟨he, hw⟩ => ⟨by
    rw [he, h, Nat.div_eq_of_lt (by omega), Nat.mod_eq_of_lt (by omega)]; rfl, hw⟩

set_option maxHeartbeats 1000000 in
set_option maxRecDepth 100000 in
theorem Int_Mul_at (a b c : Int) (p : Nat) (w : World) (h1 : -4000000000000000000 ≤ a) (h2 : a ≤ 4000000000000000000) (h3 : -4000000000000000000 ≤ b) (h4 : b ≤ 4000000000000000000)
    (hp : a.natAbs * b.natAbs = p) (hp2 : p ≤ 4000000000000000000) (hc : c = if decide (a < 0) = decide (b < 0) then (p : Int) else -(p : Int)) :
    Calls Tryz.prog 98 #[.agg #[.int .i64 a, .slice none 0 0], .agg #[.int .i64 b, .slice none 0 0]] w fun e w' => e = .returned (.agg #[.int .i64 c, .slice none 0 0]) ∧ Below w.heap.size w w' := by
  have HP := Lib.hid hp; clear hp
  by_cases ha : a < 0
  · by_cases hb : b < 0
    · rw [if_pos (by simp [ha, hb])] at hc
      subst hc
      have hda : decide (a < 0) = true := by simp; omega
      have hdb : decide (b < 0) = true := by simp; omega
      go_enter Tryz.func98, Tryz.ntmps98
      go_wp2
      go_quiet (first | (go_at_call 151; exact Calls.quiet_of_same (size_any _ _ (by omega) (by omega))) | (go_at_call 150; exact Calls.quiet_of_same (mul64_at _ _ p HP.out (by omega) (by omega) hp2 _)))
      go_wp2
      exact bodyPost_ret (v := .agg #[.int .i64 ((p : Int)), .slice none 0 0]) (by simp [results, Tryz.results98, go_sem]) rfl ⟨rfl, (by repeat (first | with_reducible exact Below.refl _ _ | with_reducible assumption | with_reducible refine Below.setCell ?_ (by first | omega | (simp; done) | (simp; omega)) _ | with_reducible refine below_drewN ?_ _ | with_reducible refine Below.drew ?_ | with_reducible refine Below.alloc ?_ (by first | omega | (simp; done) | (simp; omega)) _ | with_reducible refine below_after ?_ (by assumption) (by first | omega | (simp; done) | (simp; omega))))⟩
    · rw [if_neg (by simp [ha, hb])] at hc
      subst hc
      have hda : decide (a < 0) = true := by simp; omega
      have hdb : decide (b < 0) = false := by simp; omega
      go_enter Tryz.func98, Tryz.ntmps98
      go_wp2
      go_quiet (first | (go_at_call 151; exact Calls.quiet_of_same (size_any _ _ (by omega) (by omega))) | (go_at_call 150; exact Calls.quiet_of_same (mul64_at _ _ p HP.out (by omega) (by omega) hp2 _)))
      go_wp2
      exact bodyPost_ret (v := .agg #[.int .i64 (-(p : Int)), .slice none 0 0]) (by simp [results, Tryz.results98, go_sem]) rfl ⟨rfl, (by repeat (first | with_reducible exact Below.refl _ _ | with_reducible assumption | with_reducible refine Below.setCell ?_ (by first | omega | (simp; done) | (simp; omega)) _ | with_reducible refine below_drewN ?_ _ | with_reducible refine Below.drew ?_ | with_reducible refine Below.alloc ?_ (by first | omega | (simp; done) | (simp; omega)) _ | with_reducible refine below_after ?_ (by assumption) (by first | omega | (simp; done) | (simp; omega))))⟩
  · by_cases hb : b < 0
    · rw [if_neg (by simp [ha, hb])] at hc
      subst hc
      have hda : decide (a < 0) = false := by simp; omega
      have hdb : decide (b < 0) = true := by simp; omega
      go_enter Tryz.func98, Tryz.ntmps98
      go_wp2
      go_quiet (first | (go_at_call 151; exact Calls.quiet_of_same (size_any _ _ (by omega) (by omega))) | (go_at_call 150; exact Calls.quiet_of_same (mul64_at _ _ p HP.out (by omega) (by omega) hp2 _)))
      go_wp2
      exact bodyPost_ret (v := .agg #[.int .i64 (-(p : Int)), .slice none 0 0]) (by simp [results, Tryz.results98, go_sem]) rfl ⟨rfl, (by repeat (first | with_reducible exact Below.refl _ _ | with_reducible assumption | with_reducible refine Below.setCell ?_ (by first | omega | (simp; done) | (simp; omega)) _ | with_reducible refine below_drewN ?_ _ | with_reducible refine Below.drew ?_ | with_reducible refine Below.alloc ?_ (by first | omega | (simp; done) | (simp; omega)) _ | with_reducible refine below_after ?_ (by assumption) (by first | omega | (simp; done) | (simp; omega))))⟩
    · rw [if_pos (by simp [ha, hb])] at hc
      subst hc
      have hda : decide (a < 0) = false := by simp; omega
      have hdb : decide (b < 0) = false := by simp; omega
      go_enter Tryz.func98, Tryz.ntmps98
      go_wp2
      go_quiet (first | (go_at_call 151; exact Calls.quiet_of_same (size_any _ _ (by omega) (by omega))) | (go_at_call 150; exact Calls.quiet_of_same (mul64_at _ _ p HP.out (by omega) (by omega) hp2 _)))
      go_wp2
      exact bodyPost_ret (v := .agg #[.int .i64 ((p : Int)), .slice none 0 0]) (by simp [results, Tryz.results98, go_sem]) rfl ⟨rfl, (by repeat (first | with_reducible exact Below.refl _ _ | with_reducible assumption | with_reducible refine Below.setCell ?_ (by first | omega | (simp; done) | (simp; omega)) _ | with_reducible refine below_drewN ?_ _ | with_reducible refine Below.drew ?_ | with_reducible refine Below.alloc ?_ (by first | omega | (simp; done) | (simp; omega)) _ | with_reducible refine below_after ?_ (by assumption) (by first | omega | (simp; done) | (simp; omega))))⟩

theorem Int_Mul (a b : Int) (w : World) (h1 : -4000000000000000000 ≤ a) (h2 : a ≤ 4000000000000000000) (h3 : -4000000000000000000 ≤ b) (h4 : b ≤ 4000000000000000000)
    (h5 : -4000000000000000000 ≤ a * b) (h6 : a * b ≤ 4000000000000000000) :
    Calls Tryz.prog 98 #[.agg #[.int .i64 a, .slice none 0 0], .agg #[.int .i64 b, .slice none 0 0]] w fun e w' => e = .returned (.agg #[.int .i64 (a * b), .slice none 0 0]) ∧ Below w.heap.size w w' := by
  have hn : (a.natAbs * b.natAbs) = (a * b).natAbs := (Int.natAbs_mul a b).symm
  refine Int_Mul_at a b (a * b) (a * b).natAbs w h1 h2 h3 h4 hn (by omega) ?_
  by_cases ha : a < 0 <;> by_cases hb : b < 0 <;> simp only [ha, hb, decide_true, decide_false, if_true, if_false, Bool.false_eq_true, Bool.true_eq_false]
  · have := Int.mul_pos_of_neg_of_neg ha hb; omega
  · have := Int.mul_nonpos_of_nonpos_of_nonneg (show a ≤ 0 by omega) (show 0 ≤ b by omega); omega
  · have := Int.mul_nonpos_of_nonneg_of_nonpos (show 0 ≤ a by omega) (show b ≤ 0 by omega); omega
  · have := Int.mul_nonneg (show 0 ≤ a by omega) (show 0 ≤ b by omega); omega

/-- What the walks of this proof want of the world's beginning: two variables of Go's library. -/
def Env (w : World) : Prop := (∃ m, w.cell? ⟨2, 0, none⟩ = some (.int .i64 m)) ∧ Lib.TabIs Tryz.prog w "internal/strconv.uint64pow10" .u64 Lib.pow10Tab
theorem gPow : Tryz.prog.globalNamed "internal/strconv.uint64pow10" = some 3 := by kernel_rfl
theorem Env.below {w w' : World} (h : Env w) (hb : Below w.heap.size w w') : Env w' := by
  obtain ⟨⟨m, hm⟩, ht⟩ := h
  exact ⟨⟨m, keep_cell hm hb⟩, Joins.tab_stays gPow ht hb (Nat.le_refl _)⟩
theorem Env.drewN {w : World} (h : Env w) (n : Nat) : Env (w.drewN n) := h
theorem Env.drew {w : World} (h : Env w) : Env w.drew := h
theorem Env.alloc {w : World} (h : Env w) (o : Obj) : Env (w.alloc o) := h.below ((Below.refl _ _).alloc (Nat.le_refl _) _)
theorem below_grow' (B : Nat) (w : World) (hB : B ≤ w.heap.size) (k : Nat) (os : Array Obj) : Below B w (Sort.grow (w.drewN k) os) :=
  ⟨rfl, rfl, rfl, by show w.heap.size ≤ (w.heap ++ os).size; rw [Array.size_append]; omega, fun j hj => by
    show (w.heap ++ os)[j]? = _
    rw [Array.getElem?_append_left (by omega)]⟩

theorem Cut_any (s sep : ByteArray) (w : World) (he : Env w) (hs : s.size < 4294967281) :
    Calls Tryz.prog 119 #[.string s, .string sep] w fun e w' => e = .returned (.tuple #[.string ⟨(Lib.cut s.data.toList sep.data.toList).1.toArray⟩, .string ⟨(Lib.cut s.data.toList sep.data.toList).2.1.toArray⟩, .bool (Lib.cut s.data.toList sep.data.toList).2.2]) ∧ Below w.heap.size w w' := by
  obtain ⟨⟨m, hm⟩, _⟩ := he
  refine (Tryz.strings_Cut s sep m w hs hm).mono ?_
  rintro e w' ⟨rfl, n, rfl⟩
  exact ⟨rfl, below_drewN (Below.refl _ _) _⟩
theorem Itoa_any (n : Int) (w : World) (he : Env w) (h0 : -9223372036854775808 ≤ n) (h1 : n ≤ 9223372036854775807) :
    Calls Tryz.prog 165 #[.int .i64 n] w fun e w' => e = .returned (.string ⟨(Lib.itoa n).toArray⟩) ∧ Below w.heap.size w w' := by
  refine (Tryz.strconv_Itoa n h0 h1 w he.2).mono ?_
  rintro e w' ⟨rfl, k, os, rfl⟩
  exact ⟨rfl, below_grow' _ _ (Nat.le_refl _) _ _⟩
theorem Atoi_any (s : ByteArray) (n : Int) (hl : s.size ≤ 18) (h : Lib.atoi s.data.toList = some n) (w : World) :
    Calls Tryz.prog 189 #[.string s] w fun e w' => e = .returned (.tuple #[.int .i64 n, .nilIface]) ∧ Below w.heap.size w w' := by
  refine (Tryz.strconv_Atoi s n hl h w).mono ?_
  rintro e w' ⟨rfl, t, rfl⟩
  exact ⟨rfl, Joins.below_bytesWorld _ _ _ _ (Nat.le_refl _)⟩
end Go.Proofs.YtpibknhnhegebaaGreatDoor
