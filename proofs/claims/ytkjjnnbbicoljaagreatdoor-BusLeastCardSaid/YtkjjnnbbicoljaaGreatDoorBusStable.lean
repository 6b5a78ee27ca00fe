/- slices.SortStableFunc by the lows of extents, at fewer than 20 elements; slices.IndexFunc with the tracks' test. -/
import Derived.Test.YtkjjnnbbicoljaaGreatDoorBusSort
namespace Go.Proofs.YtkjjnnbbicoljaaGreatDoor
open Go.RowKit

/-- what the order of nets is asked to do, in every world behind w -/
def ByLow (bx B M : Nat) (K : Nat → Int) (w : World) : Prop :=
  ∀ i j wx, i < M → j < M → Below B w wx → Calls Tryz.prog 102 #[.int .i64 (i : Int), .int .i64 (j : Int), .pointer (some ⟨bx, 0, none⟩)] wx fun e w' => e = .returned (.int .i64 (cmp3 (K i) (K j))) ∧ ∃ m, w' = wx.drewN m
set_option maxRecDepth 100000 in
theorem stable_any (bx g c B M : Nat) (d : List Nat) (K : Nat → Int) (w : World) (hd : DRow w g d) (hBg : B ≤ g) (hn : d.length < 20) (hM : ∀ x ∈ d, x < M) (hcmp : ByLow bx B M K w) :
    Calls Tryz.prog 140 #[.slice (some ⟨g, 0, none⟩) d.length c, .int .i64 (d.length : Int), .func (.func 102) #[] #[.pointer (some ⟨bx, 0, none⟩)]] w fun e w' => (∃ v, e = .returned v) ∧ DRow w' g (sortTo K d d.length) ∧ w.grownBy w' (some g) := by
  have HI := Lib.hid (insertion_any bx g c B M d K w hd hBg (by omega) hM hcmp)
  have h20 : ¬ (20 : Int) ≤ (d.length : Int) := by omega
  have h21 : ¬ (20 : Int) < (d.length : Int) := by omega
  clear hcmp hM hd
  go_enter Tryz.func140, Tryz.ntmps140
  go_wp2_with fail
  refine wp_loop_rounds 1 ?_
  rw [rounds_succ]
  go_wp2_with fail
  refine HI.out.mono ?_
  rintro e w1 ⟨⟨v, rfl⟩, hd1, hg1⟩
  go_wp2_with fail
  refine wp_loop_rounds 1 ?_
  rw [rounds_succ]
  go_wp2_with fail
  go_end0
  exact ⟨⟨_, rfl⟩, hd1, hg1⟩
set_option maxRecDepth 100000 in
theorem SortStable_any (bx g c B M : Nat) (d : List Nat) (K : Nat → Int) (w : World) (hd : DRow w g d) (hBg : B ≤ g) (hn : d.length < 20) (hM : ∀ x ∈ d, x < M) (hcmp : ByLow bx B M K w) :
    Calls Tryz.prog 101 #[.slice (some ⟨g, 0, none⟩) d.length c, .func (.func 102) #[] #[.pointer (some ⟨bx, 0, none⟩)]] w fun e w' => (∃ v, e = .returned v) ∧ DRow w' g (sortTo K d d.length) ∧ w.grownBy w' (some g) := by
  have HI := Lib.hid (stable_any bx g c B M d K w hd hBg hn hM hcmp)
  clear hcmp hM hd
  go_enter Tryz.func101, Tryz.ntmps101
  go_wp2_with fail
  refine HI.out.mono ?_
  rintro e w1 ⟨⟨v, rfl⟩, hd1, hg1⟩
  go_wp2_with fail
  go_end0
  exact ⟨⟨_, rfl⟩, hd1, hg1⟩

/-- the first track that is free for a net that begins at lo -/
def freeFrom (lo : Int) (k : Nat) : List Int → Int
  | [] => -1
  | e :: r => if e < lo then (k : Int) else freeFrom lo (k + 1) r
theorem ends_any (bx : Nat) (e lo : Int) (w : World) (hb : w.cell? ⟨bx, 0, none⟩ = some (.int .i64 lo)) :
    Calls Tryz.prog 105 #[.int .i64 e, .pointer (some ⟨bx, 0, none⟩)] w fun e' w' => e' = .returned (.bool (decide (e < lo))) ∧ w = w' := by
  go_enter Tryz.func105, Tryz.ntmps105
  go_wp2_with fail
  go_ret
  exact ⟨rfl, rfl⟩
set_option maxRecDepth 100000 in
theorem IndexFunc_any (A : Option Addr) (c B bx : Nat) (lo : Int) (es : List Int) (w : World) (hl : es.length ≤ 1000000) (h : Row w B A (es.map (Value.int .i64))) (hb : w.cell? ⟨bx, 0, none⟩ = some (.int .i64 lo)) :
    Calls Tryz.prog 104 #[.slice A es.length c, .func (.func 105) #[] #[.pointer (some ⟨bx, 0, none⟩)]] w fun e w' => e = .returned (.int .i64 (freeFrom lo 0 es)) ∧ w = w' := by
  have H := Lib.hid h
  clear h
  obtain ⟨r, hr⟩ : ∃ r, freeFrom lo 0 es = r := ⟨_, rfl⟩
  rw [hr]
  have HR := Lib.hid hr
  clear hr
  go_enter Tryz.func104, Tryz.ntmps104
  go_wp2_with fail
  go_loop [8] (fun i => ∃ k : Nat, k ≤ es.length ∧ i = .int .i64 k ∧ freeFrom lo k (es.drop k) = r) (fun i => es.length - (intOf i).toNat)
  case atStart => exact ⟨0, Nat.zero_le _, rfl, HR.out⟩
  case round =>
    obtain ⟨k, hk, rfl, hpre⟩ := hrel
    have HP := Lib.hid hpre
    clear hpre
    by_cases hlt : k < es.length
    · obtain ⟨b, off, x, rfl, hbB, hx, hc⟩ := H.out.int k hlt
      have hd : es.drop k = x :: es.drop (k + 1) := by
        rw [List.drop_eq_getElem_cons hlt]
        rw [List.getElem?_eq_getElem hlt] at hx
        rw [Option.some.inj hx]
      have hp := HP.out
      rw [hd] at hp
      unfold freeFrom at hp
      have he := ends_any bx x lo w hb
      clear hx hd
      by_cases hz : x < lo
      · rw [if_pos hz] at hp
        rw [decide_eq_true hz] at he
        have HN := Lib.hid hp
        have HE := Lib.hid he
        clear hp he HP
        go_wp2_with (refine HE.out.mono ?_; rintro e w' ⟨rfl, rfl⟩)
        go_ret
        exact ⟨ret_i64 HN.out, rfl⟩
      · rw [if_neg hz] at hp
        rw [decide_eq_false hz] at he
        have HN := Lib.hid hp
        have HE := Lib.hid he
        clear hp he HP
        go_wp2_with (refine HE.out.mono ?_; rintro e w' ⟨rfl, rfl⟩)
        go_round
        case rel => exact ⟨k + 1, by omega, by go_num, HN.out⟩
        case measure => simp [intOf]; omega
    · obtain rfl : k = es.length := by omega
      have HN := Lib.hid (show (-1 : Int) = r by rw [← HP.out, List.drop_length]; rfl)
      go_wp2_with fail
      go_ret
      exact ⟨ret_i64 HN.out, rfl⟩
end Go.Proofs.YtkjjnnbbicoljaaGreatDoor
