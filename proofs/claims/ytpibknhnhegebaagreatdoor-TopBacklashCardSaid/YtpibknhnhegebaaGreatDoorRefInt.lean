/- The reference's text of a small whole number: its decimal digits. -/
import Derived.Test.YtpibknhnhegebaaGreatDoorNumSmall
import Derived.Test.YtpibknhnhegebaaGreatDoorRunPlay
import Derived.Test.YtpibknhnhegebaaGreatDoorDecLaw
import Derived.WalkSpells
namespace Go.Proofs.YtpibknhnhegebaaGreatDoor
open Go.RowKit
attribute [local go_sem] nil_eql nil_neq

/-- the digits of a number, none for 0 -/
def digs (m : Nat) : List UInt8 := if m = 0 then [] else Lib.decDigits m
theorem digs_step (m : Nat) (h : 0 < m) : digs m = digs (m / 10) ++ [UInt8.ofNat (48 + m % 10)] := by
  unfold digs
  rw [if_neg (by omega), Lib.decDigits]
  split
  · rw [if_pos (by omega), show m % 10 = m by omega]; rfl
  · rw [if_neg (by omega)]
theorem lit_digit (d : Nat) (h : d < 10) : (⟨#[48, 49, 50, 51, 52, 53, 54, 55, 56, 57]⟩ : ByteArray).extract d (d + 1) = ⟨#[UInt8.ofNat (48 + d)]⟩ := by
  match d, h with
  | 0, _ => rfl
  | 1, _ => rfl
  | 2, _ => rfl
  | 3, _ => rfl
  | 4, _ => rfl
  | 5, _ => rfl
  | 6, _ => rfl
  | 7, _ => rfl
  | 8, _ => rfl
  | 9, _ => rfl
theorem one_more (b : UInt8) (t : List UInt8) : (⟨#[b]⟩ : ByteArray) ++ ⟨t.toArray⟩ = ⟨(b :: t).toArray⟩ := by
  apply ByteArray.ext; simp

set_option maxHeartbeats 2000000 in
set_option maxRecDepth 100000 in
theorem decimal_any (N : Nat) (w : World) (h0 : 0 < N) (hN : N ≤ 1000000000) :
    Calls Tryz.prog 118 #[.int .i64 (N : Int), .int .i64 1] w fun e w' => e = .returned (.string ⟨(Lib.decDigits N).toArray⟩) ∧ w = w' := by
  obtain ⟨D, hD⟩ : ∃ D, Lib.decDigits N = D := ⟨_, rfl⟩
  rw [hD]
  have HD := Lib.hid hD
  have HP := Lib.hid (Dec.digits_pos N)
  have HS := Lib.hid (Dec.digits_len18 N (by omega))
  clear hD
  go_enter Tryz.func118, Tryz.ntmps118
  go_wp2_with fail
  go_loop [0, 5] (fun n s => ∃ (m : Nat) (t : List UInt8), m ≤ N ∧ n = .int .i64 (m : Int) ∧ s = .string ⟨t.toArray⟩ ∧ digs m ++ t = D) (fun n _ => (intOf n).toNat)
  case atStart => exact ⟨N, [], Nat.le_refl _, rfl, rfl, by rw [← HD.out, List.append_nil]; unfold digs; rw [if_neg (by omega)]⟩
  case round =>
    obtain ⟨m, t, hm, rfl, rfl, ht⟩ := hrel
    have HT := Lib.hid ht
    clear ht
    by_cases h : 0 < m
    · have hl := fun wx => run_slice_string (P := Tryz.prog) wx 9 (⟨#[48, 49, 50, 51, 52, 53, 54, 55, 56, 57]⟩ : ByteArray) .i64 .i64 ((m : Int) % 10) ((m : Int) % 10 + 1) Tryz.underlying9 (by omega) (by omega) (by have : (⟨#[48, 49, 50, 51, 52, 53, 54, 55, 56, 57]⟩ : ByteArray).size = 10 := rfl; omega)
      have e1 : ((m : Int) % 10).toNat = m % 10 := by omega
      have e2 : ((m : Int) % 10 + 1).toNat = m % 10 + 1 := by omega
      rw [e1, e2, lit_digit (m % 10) (by omega)] at hl
      have hr : (m : Int).tmod 10 = (m : Int) % 10 := Int.tmod_eq_emod_of_nonneg (by omega)
      have ht18 : t.length ≤ 18 := by
        have h1 := HT.out
        have h2 := HS.out
        rw [HD.out, ← h1, List.length_append] at h2
        omega
      have HN := Lib.hid (show digs (m / 10) ++ ((48 + UInt8.ofNat (m % 10)) :: t) = D by
        rw [← HT.out, digs_step m h, List.append_assoc]; simp)
      go_wp2_with fail
      go_round
      case rel => exact ⟨m / 10, (48 + UInt8.ofNat (m % 10)) :: t, by omega, by go_num, by rw [one_more], HN.out⟩
      case measure => simp [intOf]; omega
    · obtain rfl : m = 0 := by omega
      have ht : t = D := by have := HT.out; simpa [digs] using this
      subst ht
      have hl : (⟨t.toArray⟩ : ByteArray).size = t.length := by simp [ByteArray.size]
      have hp := HP.out
      rw [HD.out] at hp
      have hs := HS.out
      rw [HD.out] at hs
      clear HT HD HP HS
      go_wp2_with fail
      go_ret
      exact ⟨rfl, rfl⟩

set_option maxRecDepth 100000 in
theorem trim_nil (w : World) : Calls Tryz.prog 193 #[.slice none 0 0] w fun e w' => e = .returned (.slice none 0 0) ∧ w = w' := by
  go_enter Tryz.func193, Tryz.ntmps193
  go_wp2_with fail
  refine wp_loop_rounds 1 ?_
  rw [rounds_succ]
  go_wp2_with fail
  go_ret
  exact ⟨rfl, rfl⟩

set_option maxRecDepth 100000 in
theorem trim_one (b c n : Nat) (w : World) (hn : 0 < n) (h : w.cell? ⟨b, 0, none⟩ = some (.int .i64 (n : Int))) : Calls Tryz.prog 193 #[.slice (some ⟨b, 0, none⟩) 1 c] w fun e w' => e = .returned (.slice (some ⟨b, 0, none⟩) 1 c) ∧ w = w' := by
  have hz : ((n : Int) == 0) = false := by rw [beq_eq_false_iff_ne]; omega
  go_enter Tryz.func193, Tryz.ntmps193
  go_wp2_with fail
  refine wp_loop_rounds 1 ?_
  rw [rounds_succ]
  go_wp2_with fail
  go_ret
  exact ⟨rfl, rfl⟩

set_option maxRecDepth 100000 in
theorem signed_nil (w : World) : Calls Tryz.prog 133 #[.bool false, .slice none 0 0] w fun e w' => e = .returned (.agg #[.bool false, .slice none 0 0]) ∧ Below w.heap.size w w' := by
  go_enter Tryz.func133, Tryz.ntmps133
  go_wp2_with fail
  generalize hW0 : World.alloc w _ = W0
  have d0 : Blk W0 w.heap.size 104 #[.bool false, .slice none 0 0] := by rw [← hW0]; exact Blk.new _ _ _
  have e0 : Below w.heap.size w W0 := by rw [← hW0]; exact (by repeat (first | with_reducible exact Below.refl _ _ | with_reducible assumption | with_reducible refine Below.setCell ?_ (by first | omega | (simp; done) | (simp; omega)) _ | with_reducible refine below_drewN ?_ _ | with_reducible refine Below.drew ?_ | with_reducible refine Below.alloc ?_ (by first | omega | (simp; done) | (simp; omega)) _ | with_reducible refine below_after ?_ (by assumption) (by first | omega | (simp; done) | (simp; omega))))
  clear hW0
  refine (trim_nil _).mono ?_
  rintro e w1 ⟨rfl, rfl⟩
  have P0 := d0.two
  go_wp2_with fail
  exact bodyPost_ret (v := .agg #[.bool false, .slice none 0 0]) (by simp [results, Tryz.results133, go_sem, P0]) rfl ⟨rfl, (by repeat (first | with_reducible exact Below.refl _ _ | with_reducible assumption | with_reducible refine Below.setCell ?_ (by first | omega | (simp; done) | (simp; omega)) _ | with_reducible refine below_drewN ?_ _ | with_reducible refine Below.drew ?_ | with_reducible refine Below.alloc ?_ (by first | omega | (simp; done) | (simp; omega)) _ | with_reducible refine below_after ?_ (by assumption) (by first | omega | (simp; done) | (simp; omega))))⟩

set_option maxRecDepth 100000 in
theorem signed_one (b c n : Nat) (w : World) (hn : 0 < n) (h : w.cell? ⟨b, 0, none⟩ = some (.int .i64 (n : Int))) :
    Calls Tryz.prog 133 #[.bool false, .slice (some ⟨b, 0, none⟩) 1 c] w fun e w' => e = .returned (.agg #[.bool false, .slice (some ⟨b, 0, none⟩) 1 c]) ∧ Below w.heap.size w w' := by
  have hlt := World.block_lt_of_cell? w _ h
  simp only at hlt
  go_enter Tryz.func133, Tryz.ntmps133
  go_wp2_with fail
  generalize hW0 : World.alloc w _ = W0
  have d0 : Blk W0 w.heap.size 104 #[.bool false, .slice none 0 0] := by rw [← hW0]; exact Blk.new _ _ _
  have e0 : Below w.heap.size w W0 := by rw [← hW0]; exact (by repeat (first | with_reducible exact Below.refl _ _ | with_reducible assumption | with_reducible refine Below.setCell ?_ (by first | omega | (simp; done) | (simp; omega)) _ | with_reducible refine below_drewN ?_ _ | with_reducible refine Below.drew ?_ | with_reducible refine Below.alloc ?_ (by first | omega | (simp; done) | (simp; omega)) _ | with_reducible refine below_after ?_ (by assumption) (by first | omega | (simp; done) | (simp; omega))))
  clear hW0
  refine (trim_one b c n _ hn ((e0.cell (p := ⟨b, 0, none⟩) hlt).trans h)).mono ?_
  rintro e w1 ⟨rfl, rfl⟩
  have P0 := d0.two
  go_wp2_with fail
  exact bodyPost_ret (v := .agg #[.bool false, .slice (some ⟨b, 0, none⟩) 1 c]) (by simp [results, Tryz.results133, go_sem, P0]) rfl ⟨rfl, (by repeat (first | with_reducible exact Below.refl _ _ | with_reducible assumption | with_reducible refine Below.setCell ?_ (by first | omega | (simp; done) | (simp; omega)) _ | with_reducible refine below_drewN ?_ _ | with_reducible refine Below.drew ?_ | with_reducible refine Below.alloc ?_ (by first | omega | (simp; done) | (simp; omega)) _ | with_reducible refine below_after ?_ (by assumption) (by first | omega | (simp; done) | (simp; omega))))⟩

set_option maxRecDepth 100000 in
theorem whole_zero (w : World) : Calls Tryz.prog 72 #[.int .i64 0] w fun e w' => e = .returned (.agg #[.bool false, .slice none 0 0]) ∧ Below w.heap.size w w' := by
  go_enter Tryz.func72, Tryz.ntmps72
  go_wp2_with fail
  generalize hW0 : World.alloc w _ = W0
  have d0 : Blk W0 w.heap.size 104 #[.bool false, .slice none 0 0] := by rw [← hW0]; exact Blk.new _ _ _
  have e0 : Below w.heap.size w W0 := by rw [← hW0]; exact (by repeat (first | with_reducible exact Below.refl _ _ | with_reducible assumption | with_reducible refine Below.setCell ?_ (by first | omega | (simp; done) | (simp; omega)) _ | with_reducible refine below_drewN ?_ _ | with_reducible refine Below.drew ?_ | with_reducible refine Below.alloc ?_ (by first | omega | (simp; done) | (simp; omega)) _ | with_reducible refine below_after ?_ (by assumption) (by first | omega | (simp; done) | (simp; omega))))
  clear hW0
  refine wp_loop_rounds 1 ?_
  rw [rounds_succ]
  go_wp2_with fail
  refine (signed_nil _).mono ?_
  rintro e w1 ⟨rfl, hb1⟩
  have c0 := keep_blk (g := w.heap.size) (by with_reducible assumption) hb1; have P0 := c0.two; have s0 := c0.lt; have e1 := below_after (B := w.heap.size) (by with_reducible assumption) hb1 (Nat.le_refl _)
  go_wp2_with fail
  exact bodyPost_ret (v := .agg #[.bool false, .slice none 0 0]) (by simp [results, Tryz.results72, go_sem, P0]) rfl ⟨rfl, (by repeat (first | with_reducible exact Below.refl _ _ | with_reducible assumption | with_reducible refine Below.setCell ?_ (by first | omega | (simp; done) | (simp; omega)) _ | with_reducible refine below_drewN ?_ _ | with_reducible refine Below.drew ?_ | with_reducible refine Below.alloc ?_ (by first | omega | (simp; done) | (simp; omega)) _ | with_reducible refine below_after ?_ (by assumption) (by first | omega | (simp; done) | (simp; omega))))⟩

set_option maxRecDepth 100000 in
theorem whole_pos (n : Nat) (w : World) (hn : 0 < n) (hn2 : n < 1000000000) :
    Calls Tryz.prog 72 #[.int .i64 (n : Int)] w fun e w' => (∃ b c, e = .returned (.agg #[.bool false, .slice (some ⟨b, 0, none⟩) 1 c]) ∧ w'.cell? ⟨b, 0, none⟩ = some (.int .i64 (n : Int))) ∧ Below w.heap.size w w' := by
  have hz : ((n : Int) != 0) = true := by rw [bne_iff_ne]; omega
  have hr : (n : Int).tmod 1000000000 = (n : Int) := by rw [Int.tmod_eq_emod_of_nonneg (by omega)]; omega
  have hq : (n : Int).tdiv 1000000000 = 0 := by rw [Int.tdiv_eq_ediv_of_nonneg (by omega)]; omega
  have hq2 : (n : Int) / 1000000000 = 0 := by omega
  have hr2 : (n : Int) % 1000000000 = (n : Int) := by omega
  obtain ⟨i0, hi, hz0, hz1, hz2⟩ := info_parts Tryz.info3
  go_enter Tryz.func72, Tryz.ntmps72
  go_wp2_with fail
  generalize hW0 : World.alloc w _ = W0
  have d0 : Blk W0 w.heap.size 104 #[.bool false, .slice none 0 0] := by rw [← hW0]; exact Blk.new _ _ _
  have e0 : Below w.heap.size w W0 := by rw [← hW0]; exact (by repeat (first | with_reducible exact Below.refl _ _ | with_reducible assumption | with_reducible refine Below.setCell ?_ (by first | omega | (simp; done) | (simp; omega)) _ | with_reducible refine below_drewN ?_ _ | with_reducible refine Below.drew ?_ | with_reducible refine Below.alloc ?_ (by first | omega | (simp; done) | (simp; omega)) _ | with_reducible refine below_after ?_ (by assumption) (by first | omega | (simp; done) | (simp; omega))))
  clear hW0
  have hs0 := d0.lt
  refine wp_loop_rounds 2 ?_
  rw [rounds_succ]
  go_wp2_with (at_builtin; refine wpList_append_own _ rfl _ _ 56 rfl W0.heap.size 3 i0 (.int .i64 0) 1 8 Tryz.underlying56 hi hz0 hz1 hz2 rfl (by decide) _ 0 [] rfl (World.ownsRow_nil _ _ _ _) ⟨_, 0, none⟩ 1 1 [.int .i64 (n : Int)] rfl rfl ?c1 ?c2 ?c3 ?c4 ?c5 ?_)
  case c1 => exact cell_first
  case c2 => intro u hu; simp at hu; subst hu; rfl
  case c3 => unfold maxLen; omega
  case c4 => omega
  case c5 => simp
  intro v' w1 hown' hgrow _
  have e1 := below_grown e0 e0.size (World.ownsRow_nil W0 w.heap.size 3 1) hgrow
  have c0 : Blk w1 w.heap.size 104 #[.bool false, .slice none 0 0] := (hgrow.block w.heap.size (by simp; omega) (fun h => by cases h)).trans (d0.alloc _)
  rcases hown'.2 with ⟨_, h⟩ | ⟨g, cap, cur, rfl, hbg, hg, hcap, _, _, _⟩
  · omega
  have hcell : w1.cell? ⟨g, 0, none⟩ = some (.int .i64 (n : Int)) := by
    have := hown'.cells (g := g) rfl 0 (.int .i64 (n : Int)) rfl
    simpa [Addr.add] using this
  clear hgrow hown' hg d0 e0
  go_wp2_with fail
  rw [rounds_succ]
  go_wp2_with fail
  refine (signed_one g cap n _ hn hcell).mono ?_
  rintro e w2 ⟨rfl, hb1⟩
  have c0 := keep_blk (g := w.heap.size) (by with_reducible assumption) hb1; have P0 := c0.two; have s0 := c0.lt; have e1 := below_after (B := w.heap.size) (by with_reducible assumption) hb1 (Nat.le_refl _)
  have hc2 := keep_cell hcell hb1
  go_wp2_with fail
  exact bodyPost_ret (v := .agg #[.bool false, .slice (some ⟨g, 0, none⟩) 1 cap]) (by simp [results, Tryz.results72, go_sem, P0]) rfl ⟨⟨g, cap, rfl, far2 hc2 (by omega) _ _⟩, (by repeat (first | with_reducible exact Below.refl _ _ | with_reducible assumption | with_reducible refine Below.setCell ?_ (by first | omega | (simp; done) | (simp; omega)) _ | with_reducible refine below_drewN ?_ _ | with_reducible refine Below.drew ?_ | with_reducible refine Below.alloc ?_ (by first | omega | (simp; done) | (simp; omega)) _ | with_reducible refine below_after ?_ (by assumption) (by first | omega | (simp; done) | (simp; omega))))⟩

/-- the decimal digits of a number -/
abbrev decText (n : Nat) : ByteArray := ⟨(Lib.decDigits n).toArray⟩

set_option maxRecDepth 100000 in
theorem text_zero (w : World) : Calls Tryz.prog 71 #[.agg #[.bool false, .slice none 0 0]] w fun e w' => e = .returned (.string (decText 0)) ∧ Below w.heap.size w w' := by
  go_enter Tryz.func71, Tryz.ntmps71
  go_wp2_with fail
  go_ret
  exact ⟨by unfold decText; rw [Lib.decDigits_one (by omega)]; rfl, (by repeat (first | with_reducible exact Below.refl _ _ | with_reducible assumption | with_reducible refine Below.setCell ?_ (by first | omega | (simp; done) | (simp; omega)) _ | with_reducible refine below_drewN ?_ _ | with_reducible refine Below.drew ?_ | with_reducible refine Below.alloc ?_ (by first | omega | (simp; done) | (simp; omega)) _ | with_reducible refine below_after ?_ (by assumption) (by first | omega | (simp; done) | (simp; omega))))⟩

set_option maxRecDepth 100000 in
theorem text_pos (b c n : Nat) (w : World) (hn : 0 < n) (hn2 : n ≤ 1000000000) (h : w.cell? ⟨b, 0, none⟩ = some (.int .i64 (n : Int))) :
    Calls Tryz.prog 71 #[.agg #[.bool false, .slice (some ⟨b, 0, none⟩) 1 c]] w fun e w' => e = .returned (.string (decText n)) ∧ Below w.heap.size w w' := by
  have hlt := World.block_lt_of_cell? w _ h
  simp only at hlt
  have HD := Lib.hid (fun w => decimal_any n w hn hn2)
  obtain ⟨D, hD⟩ : ∃ D, (⟨(Lib.decDigits n).toArray⟩ : ByteArray) = D := ⟨_, rfl⟩
  unfold decText
  rw [hD] at HD ⊢
  have hne : b ≠ w.heap.size := by omega
  go_enter Tryz.func71, Tryz.ntmps71
  go_wp2_with fail
  generalize hW0 : World.alloc w _ = W0
  have d0 : Blk W0 w.heap.size 104 #[.bool false, .slice (some ⟨b, 0, none⟩) 1 c] := by rw [← hW0]; exact Blk.new _ _ _
  have e0 : Below w.heap.size w W0 := by rw [← hW0]; exact (by repeat (first | with_reducible exact Below.refl _ _ | with_reducible assumption | with_reducible refine Below.setCell ?_ (by first | omega | (simp; done) | (simp; omega)) _ | with_reducible refine below_drewN ?_ _ | with_reducible refine Below.drew ?_ | with_reducible refine Below.alloc ?_ (by first | omega | (simp; done) | (simp; omega)) _ | with_reducible refine below_after ?_ (by assumption) (by first | omega | (simp; done) | (simp; omega))))
  have hc := (e0.cell (p := ⟨b, 0, none⟩) hlt).trans h
  have P0 := d0.two
  clear hW0 h
  go_wp2_with (go_at_call 118; refine (HD.out _).mono ?_; rintro e w1 ⟨rfl, rfl⟩)
  refine wp_loop_rounds 1 ?_
  rw [rounds_succ]
  go_wp2_with fail
  go_ret
  exact ⟨rfl, e0⟩

set_option maxRecDepth 100000 in
theorem FromInt_any (n : Nat) (w : World) (hn : n < 1000000000) :
    Calls Tryz.prog 23 #[.int .i64 (n : Int)] w fun e w' => e = .returned (.string (decText n)) ∧ Below w.heap.size w w' := by
  rcases Nat.eq_zero_or_pos n with rfl | hp
  · go_enter Tryz.func23, Tryz.ntmps23
    go_wp2_with fail
    refine (whole_zero _).mono ?_
    rintro e w1 ⟨rfl, hb1⟩
    go_wp2_with fail
    refine (text_zero _).mono ?_
    rintro e w2 ⟨rfl, hb2⟩
    go_wp2_with fail
    go_ret
    exact ⟨rfl, below_after hb1 hb2 (Nat.le_refl _)⟩
  · go_enter Tryz.func23, Tryz.ntmps23
    go_wp2_with fail
    refine (whole_pos n _ hp hn).mono ?_
    rintro e w1 ⟨⟨b, c, rfl, hc⟩, hb1⟩
    go_wp2_with fail
    refine (text_pos b c n _ hp (by omega) hc).mono ?_
    rintro e w2 ⟨rfl, hb2⟩
    go_wp2_with fail
    go_ret
    exact ⟨rfl, below_after hb1 hb2 (Nat.le_refl _)⟩
end Go.Proofs.YtpibknhnhegebaaGreatDoor
