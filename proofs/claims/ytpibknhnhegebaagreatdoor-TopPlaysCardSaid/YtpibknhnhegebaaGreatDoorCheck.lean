/- Package exact: a decimal numeral without a zero in front is a number without an error. -/
import Derived.Test.YtpibknhnhegebaaGreatDoorNumRead
import Derived.Test.YtpibknhnhegebaaGreatDoorDecLaw
namespace Go.Proofs.YtpibknhnhegebaaGreatDoor
open Go.RowKit
attribute [local go_sem] nil_eql nil_neq

theorem size_list (s : ByteArray) : s.size = s.data.toList.length := by rw [Array.length_toList]; rfl
theorem byte_mem (s : ByteArray) (k : Nat) (h : k < s.size) : s[k] ∈ s.data.toList := by
  have : s[k] = s.data[k] := rfl
  rw [this]; simp

set_option maxRecDepth 100000 in
theorem digits_yes (s : ByteArray) (w : World) (hs : s.size ≤ 18) (hs0 : 0 < s.size) (h : ∀ b ∈ s.data.toList, 48 ≤ b.toNat ∧ b.toNat ≤ 57) :
    Calls Tryz.prog 184 #[.string s] w fun e w' => e = .returned (.bool true) ∧ w = w' := by
  have H := Lib.hid h
  clear h
  go_enter Tryz.func184, Tryz.ntmps184
  go_wp2_with fail
  go_loop [6] (fun i => ∃ k : Nat, k ≤ s.size ∧ i = .int .i64 k) (fun i => s.size - (intOf i).toNat)
  case atStart => exact ⟨0, Nat.zero_le _, rfl⟩
  case round =>
    obtain ⟨k, hk, rfl⟩ := hrel
    by_cases hlt : k < s.size
    · have hb := H.out s[k] (byte_mem s k hlt)
      have hb1 : (48 : Int) ≤ (s[k].toNat : Int) := by omega
      have hb2 : (s[k].toNat : Int) ≤ 57 := by omega
      clear hb
      go_wp2_with fail
      go_round
      case rel => exact ⟨k + 1, by omega, by go_num⟩
      case measure => simp [intOf]; omega
    · go_wp2_with fail
      go_ret
      exact ⟨by rw [show (!s.toList.isEmpty) = true by rw [ByteArray.toList_eq]; simp only [Bool.not_eq_true', List.isEmpty_eq_false_iff]; intro e; rw [size_list, e] at hs0; simp at hs0]; rfl, rfl⟩

/-- A decimal numeral of a number, without a zero in front. -/
def IsDec (s : ByteArray) (n : Nat) : Prop := s.data.toList = Lib.decDigits n
theorem IsDec.size {s : ByteArray} {n : Nat} (h : IsDec s n) : s.size = (Lib.decDigits n).length := by
  rw [size_list, h]
theorem IsDec.pos {s : ByteArray} {n : Nat} (h : IsDec s n) : 0 < s.size := by rw [h.size]; exact Dec.digits_pos n
theorem IsDec.le {s : ByteArray} {n : Nat} (h : IsDec s n) (hn : n < 1000000000000000000) : s.size ≤ 18 := by rw [h.size]; exact Dec.digits_len18 n hn
theorem IsDec.all {s : ByteArray} {n : Nat} (h : IsDec s n) : ∀ b ∈ s.data.toList, 48 ≤ b.toNat ∧ b.toNat ≤ 57 := by rw [h]; exact Dec.digits_all n
theorem IsDec.zero {s : ByteArray} (h : IsDec s 0) : s = ⟨#[48]⟩ := by
  unfold IsDec at h
  rw [Lib.decDigits_one (by omega)] at h
  cases s; rename_i d; cases d; simp at h ⊢; exact h
theorem IsDec.head {s : ByteArray} {n : Nat} (h : IsDec s n) (hn : 0 < n) : (s[0]'(h.pos)).toNat ≠ 48 := by
  have hp := h.pos
  have e : s.data.toList[0]'(by rw [← size_list]; exact hp) = s[0]'hp := rfl
  cases hd : s.data.toList with
  | nil => rw [size_list, hd] at hp; simp at hp
  | cons b r =>
    have hb := Dec.digits_head n hn b r (by rw [← h, hd])
    rw [← e]; simp only [hd, List.getElem_cons_zero]; exact hb

set_option maxRecDepth 100000 in
theorem whole_yes (s : ByteArray) (n : Nat) (w : World) (h : IsDec s n) (hn : n < 1000000000000000000) :
    Calls Tryz.prog 121 #[.string s] w fun e w' => e = .returned (.bool true) ∧ w = w' := by
  have HD := Lib.hid (fun w => digits_yes s w (h.le hn) h.pos h.all)
  by_cases h0 : n = 0
  · subst h0
    obtain rfl := h.zero
    clear h
    go_enter Tryz.func121, Tryz.ntmps121
    go_wp2_with (go_at_call 184; refine (HD.out _).mono ?_; rintro e w' ⟨rfl, rfl⟩)
    go_ret
    exact ⟨rfl, rfl⟩
  · have hh := h.head (by omega)
    have hp := h.pos
    obtain ⟨b, hb⟩ : ∃ b, s[0]'hp = b := ⟨_, rfl⟩
    rw [hb] at hh
    have hne : ((b.toNat : Int) != 48) = true := by rw [bne_iff_ne]; omega
    clear h
    go_enter Tryz.func121, Tryz.ntmps121
    go_wp2_with (go_at_call 184; refine (HD.out _).mono ?_; rintro e w' ⟨rfl, rfl⟩)
    all_goals go_ret
    all_goals exact ⟨rfl, rfl⟩

set_option maxRecDepth 100000 in
theorem Check_dec (s : ByteArray) (n : Nat) (w : World) (he : Env w) (h : IsDec s n) (hn : n < 1000000000000000000) :
    Calls Tryz.prog 58 #[.string s] w fun e w' => e = .returned (.int .i64 0) ∧ Below w.heap.size w w' := by
  have hs := h.le hn
  have hp := h.pos
  have HC := Lib.hid (Cut_any s ⟨#[47]⟩ w he (by omega))
  have e1 : (⟨#[47]⟩ : ByteArray).data.toList = [47] := rfl
  rw [e1, Dec.no_cut _ h.all, mk_toList] at HC
  have HP := Lib.hid (fun w => (Tryz.strings_CutPrefix s ⟨#[45]⟩ w))
  have ht : Lib.trimPrefix s.data.toList [45] = s.data.toList := by unfold Lib.trimPrefix; rw [Dec.no_prefix _ h.all]; rfl
  rw [lit_minus, ht, Dec.no_prefix _ h.all, mk_toList] at HP
  have HW := Lib.hid (fun w => whole_yes s n w h hn)
  clear h e1 ht
  go_enter Tryz.func58, Tryz.ntmps58
  go_wp2_with fail
  refine HC.out.mono ?_
  rintro e w1 ⟨rfl, hb1⟩
  go_wp2_with fail
  refine (HP.out _).mono ?_
  rintro e w2 ⟨rfl, rfl⟩
  go_wp2_with fail
  refine (HW.out _).mono ?_
  rintro e w2 ⟨rfl, rfl⟩
  go_wp2_with fail
  go_ret
  exact ⟨rfl, hb1⟩

set_option maxRecDepth 100000 in
theorem From_dec (s : ByteArray) (n : Nat) (w : World) (he : Env w) (h : IsDec s n) (hn : n < 1000000000000000000) :
    Calls Tryz.prog 59 #[.string s] w fun e w' => e = .returned (.agg #[.int .i64 (n : Int), .slice none 0 0, .int .i64 1, .slice none 0 0]) ∧ Below w.heap.size w w' := by
  have hs := h.le hn
  have hp := h.pos
  have HC := Lib.hid (fun (w : World) (he : Env w) => Cut_any s ⟨#[47]⟩ w he (by omega))
  have e1 : (⟨#[47]⟩ : ByteArray).data.toList = [47] := rfl
  rw [e1, Dec.no_cut _ h.all, mk_toList] at HC
  have HR := Lib.hid (fun (w : World) (he : Env w) => Read_small s n w he hp hs (Dec.no_prefix _ h.all) (by rw [h]; exact Dec.atoi_digits n) (by omega))
  clear h e1
  go_enter Tryz.func59, Tryz.ntmps59
  go_wp2_with fail
  generalize hW0 : World.alloc w _ = W0
  have d0 : Blk W0 w.heap.size 84 #[.int .i64 0, .slice none 0 0, .int .i64 0, .slice none 0 0] := by rw [← hW0]; exact Blk.new _ _ _
  have e0 : Below w.heap.size w W0 := by rw [← hW0]; exact (by repeat (first | with_reducible exact Below.refl _ _ | with_reducible assumption | with_reducible refine Below.setCell ?_ (by first | omega | (simp; done) | (simp; omega)) _ | with_reducible refine below_drewN ?_ _ | with_reducible refine Below.drew ?_ | with_reducible refine Below.alloc ?_ (by first | omega | (simp; done) | (simp; omega)) _ | with_reducible refine below_after ?_ (by assumption) (by first | omega | (simp; done) | (simp; omega))))
  have hE : Env W0 := by rw [← hW0]; exact he.alloc _
  clear hW0
  refine (HC.out _ hE).mono ?_
  rintro e w1 ⟨rfl, hb1⟩
  have hE1 := hE.below hb1
  have c0 := keep_blk (g := w.heap.size) (by with_reducible assumption) hb1; have P0 := c0.four; have s0 := c0.lt; have e1 := below_after (B := w.heap.size) (by with_reducible assumption) hb1 (Nat.le_refl _)
  clear d0 e0
  go_wp2_with fail
  refine (HR.out _ hE1).mono ?_
  rintro e w2 ⟨rfl, hb1⟩
  have c0 := keep_blk (g := w.heap.size) (by with_reducible assumption) hb1; have P0 := c0.four; have s0 := c0.lt; have e1 := below_after (B := w.heap.size) (by with_reducible assumption) hb1 (Nat.le_refl _)
  go_wp2_with fail
  refine (Whole_any _ _).mono ?_
  rintro e w3 ⟨rfl, hb1⟩
  have c0 := keep_blk (g := w.heap.size) (by with_reducible assumption) hb1; have P0 := c0.four; have s0 := c0.lt; have e1 := below_after (B := w.heap.size) (by with_reducible assumption) hb1 (Nat.le_refl _)
  go_wp2_with fail
  exact bodyPost_ret (v := .agg #[.int .i64 (n : Int), .slice none 0 0, .int .i64 1, .slice none 0 0]) (by simp [results, Tryz.results59, go_sem, P0]) rfl ⟨rfl, (by repeat (first | with_reducible exact Below.refl _ _ | with_reducible assumption | with_reducible refine Below.setCell ?_ (by first | omega | (simp; done) | (simp; omega)) _ | with_reducible refine below_drewN ?_ _ | with_reducible refine Below.drew ?_ | with_reducible refine Below.alloc ?_ (by first | omega | (simp; done) | (simp; omega)) _ | with_reducible refine below_after ?_ (by assumption) (by first | omega | (simp; done) | (simp; omega))))⟩
end Go.Proofs.YtpibknhnhegebaaGreatDoor
