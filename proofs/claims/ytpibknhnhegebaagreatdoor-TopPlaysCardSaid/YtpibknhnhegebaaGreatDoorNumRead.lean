/- Package num: an integer read from up to 18 decimal digits. -/
import Derived.Test.YtpibknhnhegebaaGreatDoorNumPow
namespace Go.Proofs.YtpibknhnhegebaaGreatDoor
open Go.RowKit
attribute [local go_sem] nil_eql nil_neq

theorem mk_toList (s : ByteArray) : (⟨s.data.toList.toArray⟩ : ByteArray) = s := by cases s; rfl
theorem lit_minus : (⟨#[45]⟩ : ByteArray).data.toList = [45] := rfl
set_option maxHeartbeats 4000000 in
set_option maxRecDepth 100000 in
theorem Read_small (s : ByteArray) (n : Nat) (w : World) (_ : Env w) (hs0 : 0 < s.size) (hs : s.size ≤ 18) (hm : Lib.hasPrefix s.data.toList [45] = false) (hn : Lib.atoi s.data.toList = some (n : Int)) (hn2 : n ≤ 1000000000000000000) :
    Calls Tryz.prog 123 #[.string s] w fun e w' => e = .returned (.agg #[.int .i64 (n : Int), .slice none 0 0]) ∧ Below w.heap.size w w' := by
  have HA := Lib.hid (fun w => Atoi_any s n hs hn w)
  have HP := Lib.hid (fun w => (Tryz.strings_HasPrefix s ⟨#[45]⟩ w))
  have HT := Lib.hid (fun w => (Tryz.strings_TrimPrefix s ⟨#[45]⟩ w))
  have ht : Lib.trimPrefix s.data.toList [45] = s.data.toList := by unfold Lib.trimPrefix; rw [hm]; rfl
  rw [lit_minus, hm] at HP
  rw [lit_minus, ht, mk_toList] at HT
  have HW := Lib.hid (fun w => Pow10 s.size w hs)
  obtain ⟨T, hT⟩ : ∃ T, 10 ^ s.size = T := ⟨_, rfl⟩
  rw [hT] at HW
  have hT2 : T ≤ 1000000000000000000 := by rw [← hT]; exact Nat.pow_le_pow_right (by omega) hs
  clear hn hm ht hT
  go_enter Tryz.func123, Tryz.ntmps123
  go_wp2_with fail
  refine (HP.out _).mono ?_
  rintro e w1 ⟨rfl, rfl⟩
  go_wp2_with fail
  refine (HT.out _).mono ?_
  rintro e w1 ⟨rfl, rfl⟩
  go_wp2_with fail
  generalize hW0 : World.alloc (World.alloc w _) _ = W0
  have d0 : Blk W0 w.heap.size 82 #[.int .i64 0, .slice none 0 0] := by rw [← hW0]; exact (Blk.new _ _ _).alloc _
  have d1 : Blk W0 (w.heap.size + 1) 82 #[.int .i64 0, .slice none 0 0] := by rw [← hW0]; exact Blk.new' _ _ _ _ (by simp)
  have e0 : Below w.heap.size w W0 := by rw [← hW0]; exact (by repeat (first | with_reducible exact Below.refl _ _ | with_reducible assumption | with_reducible refine Below.setCell ?_ (by first | omega | (simp; done) | (simp; omega)) _ | with_reducible refine below_drewN ?_ _ | with_reducible refine Below.drew ?_ | with_reducible refine Below.alloc ?_ (by first | omega | (simp; done) | (simp; omega)) _ | with_reducible refine below_after ?_ (by assumption) (by first | omega | (simp; done) | (simp; omega))))
  clear hW0
  go_loopw [0] (fun v wr => ∃ str : ByteArray, ∃ m : Nat, v = .string str ∧ (str = s ∧ m = 0 ∨ str.size = 0 ∧ m = n) ∧ Blk wr w.heap.size 82 #[.int .i64 0, .slice none 0 0] ∧ Blk wr (w.heap.size + 1) 82 #[.int .i64 (m : Int), .slice none 0 0] ∧ Below w.heap.size w wr) (fun v _ => match v with | .string x => x.size | _ => 0)
  case atStart => exact ⟨s, 0, rfl, .inl ⟨rfl, rfl⟩, d0, d1, e0⟩
  case round =>
    obtain ⟨str, m, rfl, hcase, c0, c1, e1⟩ := hrel
    clear d0 d1 e0
    have P0 := c0.two
    have P1 := c1.two
    rcases hcase with ⟨rfl, rfl⟩ | ⟨hz, rfl⟩
    · have hmin : min 18 (str.size : Int) = (str.size : Int) := by omega
      have hex : str.extract 0 str.size = str := by simp
      go_wp2_with fail
      refine (HA.out _).mono ?_
      rintro e w1 ⟨rfl, hb1⟩
      have c0 := keep_blk (g := w.heap.size) (by with_reducible assumption) hb1; have P0 := c0.two; have s0 := c0.lt; have c1 := keep_blk (g := w.heap.size + 1) (by with_reducible assumption) hb1; have P1 := c1.two; have s1 := c1.lt; have e1 := below_after (B := w.heap.size) (by with_reducible assumption) hb1 (Nat.le_refl _)
      have hE : Below w.heap.size w w1.drew := e1.drew
      have D0 : Blk w1.drew w.heap.size 82 #[.int .i64 0, .slice none 0 0] := c0.drew
      have D1 : Blk w1.drew (w.heap.size + 1) 82 #[.int .i64 (((0 : Nat) : Int)), .slice none 0 0] := c1.drew
      have HM := Lib.hid (fun w => Int_Mul_nat 0 T 0 w (by omega) (by omega) (by omega) (by omega))
      have HS := Lib.hid (fun w => Int_Add 0 (n : Int) w (by omega) (by omega) (by omega) (by omega))
      rw [Int.zero_add] at HS
      clear c0 c1 e1 hb1
      go_wp2_with fail
      go_region_with (first
        | (go_at_call 97; refine (Of_any _ _).mono ?_; rintro e w1 ⟨rfl, hb1⟩; have c0 := keep_blk (g := w.heap.size) (by with_reducible assumption) hb1; have P0 := c0.two; have s0 := c0.lt; have c1 := keep_blk (g := w.heap.size + 1) (by with_reducible assumption) hb1; have P1 := c1.two; have s1 := c1.lt; have e1 := below_after (B := w.heap.size) (by with_reducible assumption) hb1 (Nat.le_refl _))
        | (go_at_call 190; refine (HW.out _).mono ?_; rintro e w1 ⟨rfl, hb1⟩; have c0 := keep_blk (g := w.heap.size) (by with_reducible assumption) hb1; have P0 := c0.two; have s0 := c0.lt; have c1 := keep_blk (g := w.heap.size + 1) (by with_reducible assumption) hb1; have P1 := c1.two; have s1 := c1.lt; have e1 := below_after (B := w.heap.size) (by with_reducible assumption) hb1 (Nat.le_refl _))
        | (go_at_call 98; refine (HM.out _).mono ?_; rintro e w1 ⟨rfl, hb1⟩; have c0 := keep_blk (g := w.heap.size) (by with_reducible assumption) hb1; have P0 := c0.two; have s0 := c0.lt; have c1 := keep_blk (g := w.heap.size + 1) (by with_reducible assumption) hb1; have P1 := c1.two; have s1 := c1.lt; have e1 := below_after (B := w.heap.size) (by with_reducible assumption) hb1 (Nat.le_refl _))
        | (go_at_call 99; refine (HS.out _).mono ?_; rintro e w1 ⟨rfl, hb1⟩; have c0 := keep_blk (g := w.heap.size) (by with_reducible assumption) hb1; have P0 := c0.two; have s0 := c0.lt; have c1 := keep_blk (g := w.heap.size + 1) (by with_reducible assumption) hb1; have P1 := c1.two; have s1 := c1.lt; have e1 := below_after (B := w.heap.size) (by with_reducible assumption) hb1 (Nat.le_refl _)))
      all_goals
        go_wp2_with fail
        go_roundw
        case rel => exact ⟨_, n, rfl, .inr ⟨by simp, rfl⟩, (by repeat (first | with_reducible assumption | with_reducible refine Blk.off2 ?_ (by omega) _ _ | with_reducible refine Blk.off4 ?_ (by omega) _ _ _ _ | with_reducible apply Blk.put2 | with_reducible apply Blk.put4 | with_reducible apply Blk.drew | with_reducible apply Blk.drewN | with_reducible refine Blk.alloc ?_ _)), (by repeat (first | with_reducible assumption | with_reducible refine Blk.off2 ?_ (by omega) _ _ | with_reducible refine Blk.off4 ?_ (by omega) _ _ _ _ | with_reducible apply Blk.put2 | with_reducible apply Blk.put4 | with_reducible apply Blk.drew | with_reducible apply Blk.drewN | with_reducible refine Blk.alloc ?_ _)), (by repeat (first | with_reducible exact Below.refl _ _ | with_reducible assumption | with_reducible refine Below.setCell ?_ (by first | omega | (simp; done) | (simp; omega)) _ | with_reducible refine below_drewN ?_ _ | with_reducible refine Below.drew ?_ | with_reducible refine Below.alloc ?_ (by first | omega | (simp; done) | (simp; omega)) _ | with_reducible refine below_after ?_ (by assumption) (by first | omega | (simp; done) | (simp; omega))))⟩
        case measure => simp; omega
    · go_wp2_with fail
      exact bodyPost_ret (v := .agg #[.int .i64 (m : Int), .slice none 0 0]) (by simp [results, Tryz.results123, go_sem, P0]) rfl ⟨rfl, (by repeat (first | with_reducible exact Below.refl _ _ | with_reducible assumption | with_reducible refine Below.setCell ?_ (by first | omega | (simp; done) | (simp; omega)) _ | with_reducible refine below_drewN ?_ _ | with_reducible refine Below.drew ?_ | with_reducible refine Below.alloc ?_ (by first | omega | (simp; done) | (simp; omega)) _ | with_reducible refine below_after ?_ (by assumption) (by first | omega | (simp; done) | (simp; omega))))⟩
end Go.Proofs.YtpibknhnhegebaaGreatDoor
