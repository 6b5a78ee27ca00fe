/- The small functions of the statements about nets: 'first', 'number', 'light'. -/
import Derived.Test.YtcdknjkkaonbiaaGreatDoorBusRefExt
namespace Go.Proofs.YtcdknjkkaonbiaaGreatDoor
open Go.RowKit

set_option maxRecDepth 100000 in
theorem lawFirst_any (A : Option Addr) (c B : Nat) (es : List Int) (w : World) (hl : es.length ≤ 1000000) (h : Row w B A (es.map (Value.int .i64))) :
    Calls Tryz.prog 20 #[.slice A es.length c] w fun e w' => e = .returned (.int .i64 (firstOf es)) ∧ w = w' := by
  have H := Lib.hid h
  clear h
  obtain ⟨r, hr⟩ : ∃ r, firstOf es = r := ⟨_, rfl⟩
  rw [hr]
  have HR := Lib.hid hr
  clear hr
  go_enter Tryz.func20, Tryz.ntmps20
  go_wp2_with fail
  go_loop [3] (fun i => ∃ k : Nat, k ≤ es.length ∧ i = .int .i64 k ∧ firstOf (es.drop k) = r) (fun i => es.length - (intOf i).toNat)
  case atStart => exact ⟨0, Nat.zero_le _, rfl, HR.out⟩
  case round =>
    obtain ⟨k, hk, rfl, hpre⟩ := hrel
    have HP := Lib.hid hpre
    clear hpre
    by_cases hlt : k < es.length
    · obtain ⟨b, off, x, rfl, hbB, hx, hc⟩ := H.out.int k hlt
      have hd : es.drop k = x :: es.drop (k + 1) := by
        rw [List.drop_eq_getElem_cons hlt]
        rw [List.getElem?_eq_getElem hlt] at hx
        rw [Option.some.inj hx]
      have hp := HP.out
      rw [hd] at hp
      clear hx hd
      by_cases hz : x = 0
      · subst hz
        have HN := Lib.hid (show firstOf (es.drop (k + 1)) = r from hp)
        clear hp
        go_wp2_with fail
        go_round
        case rel => exact ⟨k + 1, by omega, by go_num, HN.out⟩
        case measure => simp [intOf]; omega
      · have hne : (x != 0) = true := by rw [bne_iff_ne]; exact hz
        have HN := Lib.hid (show x = r by rw [← hp]; unfold firstOf; rw [if_pos hz])
        clear hp
        go_wp2_with fail
        go_ret
        exact ⟨ret_i64 HN.out, rfl⟩
    · obtain rfl : k = es.length := by omega
      have HN := Lib.hid (show (0 : Int) = r by rw [← HP.out, List.drop_length]; rfl)
      go_wp2_with fail
      go_ret
      exact ⟨ret_i64 HN.out, rfl⟩
theorem lawFirst_one (a : Int) (w : World) (t : TypeId) : Calls Tryz.prog 20 #[.slice (some ⟨w.heap.size, 0, none⟩) 1 1] (w.alloc (.cells #[.int .i64 a] t)) fun e w' => e = .returned (.int .i64 a) ∧ w.alloc (.cells #[.int .i64 a] t) = w' := by
  have H := lawFirst_any (some ⟨w.heap.size, 0, none⟩) 1 (w.heap.size + 1) [a] _ (by simp) (Row.new w t _)
  have e : firstOf [a] = a := by
    by_cases h : a = 0
    · subst h; rfl
    · exact firstOf_hit a _ h
  rwa [e] at H

set_option maxRecDepth 100000 in
theorem number_yes (x : Int) (w : World) : Calls Tryz.prog 21 #[.int .i64 x, .int .i64 0, .int .i64 0, .int .i64 x] w fun e w' => e = .returned (.bool true) ∧ w = w' := by
  go_enter Tryz.func21, Tryz.ntmps21
  go_wp2_with fail
  go_ret
  exact ⟨rfl, rfl⟩
set_option maxRecDepth 100000 in
theorem number_bad (E : Int) (w : World) (h : E ≠ 0) (x : Int) : Calls Tryz.prog 21 #[.int .i64 0, .int .i64 E, .int .i64 E, .int .i64 x] w fun e w' => e = .returned (.bool true) ∧ w = w' := by
  have hne : (E != 0) = true := by rw [bne_iff_ne]; exact h
  go_enter Tryz.func21, Tryz.ntmps21
  go_wp2_with fail
  go_ret
  exact ⟨rfl, rfl⟩

/-- are nets light? -/
def lightB (l : List NetAt) (n : Int) : Bool := decide (l.length ≤ 70) && l.all (fun x => decide (x.cols.length ≤ 12)) && (decide (Bus.netsErr (l.map NetAt.net) n ≠ 0) || decide ((l.length : Int) ≤ 7 ∧ n ≤ 7))

set_option maxHeartbeats 4000000 in
set_option maxRecDepth 100000 in
theorem light_any (A : Option Addr) (c B : Nat) (l : List NetAt) (n : Int) (w : World) (h : NetsIn w B A l) (hB : B ≤ w.heap.size) (hl : l.length ≤ 140737488355328) :
    Calls Tryz.prog 10 #[.slice A l.length c, .int .i64 n] w fun e w' => e = .returned (.bool (lightB l n)) ∧ Below w.heap.size w w' := by
  have H := Lib.hid h
  have HN := Lib.hid (refNets_any A c B l n w h hB hl)
  clear h
  by_cases h70 : 70 < l.length
  · have e : lightB l n = false := by unfold lightB; rw [decide_eq_false (by omega)]; rfl
    rw [e]
    have hd : (70 : Int) < (l.length : Int) := by omega
    have hd2 : decide ((70 : Int) < (l.length : Int)) = true := decide_eq_true hd
    go_enter Tryz.func10, Tryz.ntmps10
    go_wp2_with fail
    all_goals (go_ret; exact ⟨rfl, Below.refl _ _⟩)
  · have hd : ¬ (70 : Int) < (l.length : Int) := by omega
    obtain ⟨r, hr⟩ : ∃ r, lightB l n = r := ⟨_, rfl⟩
    rw [hr]
    have HR := Lib.hid hr
    clear hr
    go_enter Tryz.func10, Tryz.ntmps10
    go_wp2_with fail
    go_loop [5] (fun i => ∃ k : Nat, k ≤ l.length ∧ i = .int .i64 k ∧ ∀ x ∈ l.take k, x.cols.length ≤ 12) (fun i => l.length - (intOf i).toNat)
    case atStart => exact ⟨0, Nat.zero_le _, rfl, fun x hx => by simp at hx⟩
    case round =>
      obtain ⟨k, hk, rfl, hpre⟩ := hrel
      have HP := Lib.hid hpre
      clear hpre
      by_cases hlt : k < l.length
      · obtain ⟨b, off, x, rfl, hbB, hx, hc1, hc2, _, hfew, _, _⟩ := H.out.net k hlt
        have HX := Lib.hid hx
        clear hx
        by_cases h12 : x.cols.length ≤ 12
        · have hd12 : ¬ (12 : Int) < (x.cols.length : Int) := by omega
          go_wp2_with fail
          go_round
          case rel => exact ⟨k + 1, by omega, by go_num, fun z hz => by
            rw [List.take_add_one, HX.out] at hz
            rcases List.mem_append.1 hz with h | h
            · exact HP.out z h
            · simp at h; subst h; exact h12⟩
          case measure => simp [intOf]; omega
        · have HF := Lib.hid (show false = r by
            rw [← HR.out]; unfold lightB
            have : l.all (fun x => decide (x.cols.length ≤ 12)) = false := by
              rw [List.all_eq_false]; exact ⟨x, List.mem_of_getElem? HX.out, by simpa using h12⟩
            rw [this]; simp)
          have hd12 : (12 : Int) < (x.cols.length : Int) := by omega
          go_wp2_with fail
          all_goals (go_ret; exact ⟨by rw [← HF.out]; rfl, Below.refl _ _⟩)
      · obtain rfl : k = l.length := by omega
        have hall : l.all (fun x => decide (x.cols.length ≤ 12)) = true := by
          rw [List.all_eq_true]; intro x hx; exact decide_eq_true (HP.out x (by rw [List.take_length]; exact hx))
        have hr2 := HR.out
        unfold lightB at hr2
        rw [hall, decide_eq_true (show l.length ≤ 70 by omega)] at hr2
        obtain ⟨E, hE⟩ : ∃ E, Bus.netsErr (l.map NetAt.net) n = E := ⟨_, rfl⟩
        rw [hE] at HN hr2
        clear hE hall HP
        by_cases hE0 : E = 0
        · subst hE0
          by_cases h7 : (l.length : Int) ≤ 7
          · by_cases hn7 : n ≤ 7
            · have HF := Lib.hid (show true = r by rw [← hr2]; simp [h7, hn7])
              clear hr2
              go_wp2_with fail
              refine HN.out.mono ?_
              rintro e w1 ⟨rfl, hb1⟩
              go_wp2_with fail
              go_ret
              exact ⟨by rw [← HF.out]; rfl, hb1⟩
            · have HF := Lib.hid (show false = r by rw [← hr2]; simp [hn7])
              clear hr2
              go_wp2_with fail
              refine HN.out.mono ?_
              rintro e w1 ⟨rfl, hb1⟩
              go_wp2_with fail
              go_ret
              exact ⟨by rw [← HF.out]; show Ending.returned (.bool (decide (n ≤ 7))) = _; rw [decide_eq_false (by omega)], hb1⟩
          · have HF := Lib.hid (show false = r by rw [← hr2]; simp [h7])
            clear hr2
            go_wp2_with fail
            refine HN.out.mono ?_
            rintro e w1 ⟨rfl, hb1⟩
            go_wp2_with fail
            go_ret
            exact ⟨by rw [← HF.out]; rfl, hb1⟩
        · have HF := Lib.hid (show true = r by rw [← hr2]; simp [hE0])
          have hne : (E != 0) = true := by rw [bne_iff_ne]; exact hE0
          clear hr2
          go_wp2_with fail
          refine HN.out.mono ?_
          rintro e w1 ⟨rfl, hb1⟩
          go_wp2_with fail
          go_ret
          exact ⟨by rw [← HF.out]; rfl, hb1⟩
end Go.Proofs.YtcdknjkkaonbiaaGreatDoor
