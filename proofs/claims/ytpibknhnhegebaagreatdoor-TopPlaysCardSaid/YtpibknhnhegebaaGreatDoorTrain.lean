/- Package gear: the check of a train. -/
import Derived.Test.YtpibknhnhegebaaGreatDoorCheck
namespace Go.Proofs.YtpibknhnhegebaaGreatDoor
open Go.RowKit
attribute [local go_sem] nil_eql nil_neq

/-- the cells of some pairs -/
def pcells (ps : List (Int × Int)) : List Value := ps.flatMap fun p => [.int .i64 p.1, .int .i64 p.2]
theorem pcells_len (ps : List (Int × Int)) : (pcells ps).length = 2 * ps.length := by
  induction ps with
  | nil => rfl
  | cons p r ih => simp [pcells] at ih ⊢; omega
theorem pcells_at (ps : List (Int × Int)) : ∀ (k : Nat) (p : Int × Int), ps[k]? = some p → (pcells ps)[k * 2]? = some (.int .i64 p.1) ∧ (pcells ps)[k * 2 + 1]? = some (.int .i64 p.2) := by
  induction ps with
  | nil => intro k p h; simp at h
  | cons q r ih =>
    intro k p h
    cases k with
    | zero => simp at h; subst h; exact ⟨rfl, rfl⟩
    | succ k =>
      have := ih k p (by simpa using h)
      rw [show (k + 1) * 2 = k * 2 + 1 + 1 by omega]
      simpa [pcells] using this
/-- the k-th pair, under names of its own -/
theorem Row.pair {w : World} {B : Nat} {A : Option Addr} {ps : List (Int × Int)} (h : Row w B A (pcells ps)) (k : Nat) (hk : k < ps.length) :
    ∃ b off x y, A = some ⟨b, off, none⟩ ∧ b < B ∧ ps[k]? = some (x, y) ∧ w.cell? ⟨b, off + k * 2, none⟩ = some (.int .i64 x) ∧ w.cell? ⟨b, off + k * 2 + 1, none⟩ = some (.int .i64 y) := by
  have hl := pcells_len ps
  obtain ⟨b, off, h1, h2, h3⟩ := h.open (by omega)
  obtain ⟨e1, e2⟩ := pcells_at ps k ps[k] (List.getElem?_eq_getElem hk)
  refine ⟨b, off, ps[k].1, ps[k].2, h1, h2, List.getElem?_eq_getElem hk, ?_, ?_⟩
  · rw [h3 (k * 2) (by omega), List.getD_eq_getElem?_getD, e1]; rfl
  · rw [Nat.add_assoc, h3 (k * 2 + 1) (by omega), List.getD_eq_getElem?_getD, e2]; rfl

/-- is a pair a fine one? -/
def fine (p : Int × Int) : Bool := decide (1 ≤ p.1 ∧ p.1 ≤ 400 ∧ 1 ≤ p.2 ∧ p.2 ≤ 400)
/-- the error of a train -/
def trainErr (ps : List (Int × Int)) : Int := if 4 < ps.length then 5 else if ps.all fine then 0 else 3

set_option maxHeartbeats 2000000 in
set_option maxRecDepth 100000 in
theorem checkTrain_any (A : Option Addr) (c B : Nat) (ps : List (Int × Int)) (w : World) (hl : ps.length ≤ 1000000) (h : Row w B A (pcells ps)) (hB : B ≤ w.heap.size) :
    Calls Tryz.prog 45 #[.slice A ps.length c] w fun e w' => e = .returned (.int .i64 (trainErr ps)) ∧ Below w.heap.size w w' := by
  have H := Lib.hid h; clear h
  by_cases h4 : 4 < ps.length
  · have e : trainErr ps = 5 := if_pos h4
    rw [e]
    go_enter Tryz.func45, Tryz.ntmps45
    go_wp2
    go_ret
    exact ⟨rfl, (by repeat (first | with_reducible exact Below.refl _ _ | with_reducible assumption | with_reducible refine Below.setCell ?_ (by first | omega | (simp; done) | (simp; omega)) _ | with_reducible refine below_drewN ?_ _ | with_reducible refine Below.drew ?_ | with_reducible refine Below.alloc ?_ (by first | omega | (simp; done) | (simp; omega)) _ | with_reducible refine below_after ?_ (by assumption) (by first | omega | (simp; done) | (simp; omega))))⟩
  · have e : trainErr ps = if ps.all fine then 0 else 3 := if_neg h4
    rw [e]
    clear e
    obtain ⟨r, hr⟩ : ∃ r : Int, (if ps.all fine then 0 else 3) = r := ⟨_, rfl⟩
    rw [hr]
    have HR := Lib.hid hr
    clear hr
    go_enter Tryz.func45, Tryz.ntmps45
    go_wp2
    go_loopw [10] (fun i wr => ∃ k : Nat, k ≤ ps.length ∧ i = .int .i64 k ∧ (ps.take k).all fine = true ∧ Below w.heap.size w wr) (fun i _ => ps.length - (intOf i).toNat)
    case atStart => exact ⟨0, Nat.zero_le _, rfl, rfl, (by repeat (first | with_reducible exact Below.refl _ _ | with_reducible assumption | with_reducible refine Below.setCell ?_ (by first | omega | (simp; done) | (simp; omega)) _ | with_reducible refine below_drewN ?_ _ | with_reducible refine Below.drew ?_ | with_reducible refine Below.alloc ?_ (by first | omega | (simp; done) | (simp; omega)) _ | with_reducible refine below_after ?_ (by assumption) (by first | omega | (simp; done) | (simp; omega))))⟩
    case round =>
      obtain ⟨k, hk, rfl, hall, hbw⟩ := hrel
      have hsz := hbw.size
      have HA := Lib.hid hall
      clear hall
      by_cases hlt : k < ps.length
      · obtain ⟨b, off, x, y, rfl, hbB, hx, hc1, hc2⟩ := H.out.pair k hlt
        have hk1 := (hbw.cell (p := ⟨b, off + k * 2, none⟩) (by show b < _; omega)).trans hc1
        have hk2 := (hbw.cell (p := ⟨b, off + k * 2 + 1, none⟩) (by show b < _; omega)).trans hc2
        have HX := Lib.hid hx
        clear hx hc1 hc2
        by_cases hf : fine (x, y) = true
        · have hf' := of_decide_eq_true hf
          have HF := Lib.hid hf
          obtain ⟨f1, f2, f3, f4⟩ := hf'
          simp only at f1 f2 f3 f4
          clear hf
          go_wp2_with fail
          go_roundw
          case rel => exact ⟨k + 1, by omega, by go_num, by rw [List.take_add_one, HX.out]; simp [HA.out, HF.out], (by repeat (first | with_reducible exact Below.refl _ _ | with_reducible assumption | with_reducible refine Below.setCell ?_ (by first | omega | (simp; done) | (simp; omega)) _ | with_reducible refine below_drewN ?_ _ | with_reducible refine Below.drew ?_ | with_reducible refine Below.alloc ?_ (by first | omega | (simp; done) | (simp; omega)) _ | with_reducible refine below_after ?_ (by assumption) (by first | omega | (simp; done) | (simp; omega))))⟩
          case measure => simp [intOf]; omega
        · have HQ := Lib.hid (show (3 : Int) = r by
            rw [← HR.out, if_neg]
            intro hc
            rw [List.all_eq_true] at hc
            exact hf (hc _ (List.mem_of_getElem? HX.out)))
          have hf' : ¬ (1 ≤ x ∧ x ≤ 400 ∧ 1 ≤ y ∧ y ≤ 400) := fun h => hf (decide_eq_true h)
          clear hf
          go_wp2_with fail
          all_goals (go_ret; exact ⟨ret_i64 HQ.out, (by repeat (first | with_reducible exact Below.refl _ _ | with_reducible assumption | with_reducible refine Below.setCell ?_ (by first | omega | (simp; done) | (simp; omega)) _ | with_reducible refine below_drewN ?_ _ | with_reducible refine Below.drew ?_ | with_reducible refine Below.alloc ?_ (by first | omega | (simp; done) | (simp; omega)) _ | with_reducible refine below_after ?_ (by assumption) (by first | omega | (simp; done) | (simp; omega))))⟩)
      · obtain rfl : k = ps.length := by omega
        have hall := HA.out
        rw [List.take_length] at hall
        have HQ := Lib.hid (show (0 : Int) = r by rw [← HR.out, hall]; rfl)
        clear hall
        go_wp2
        go_ret
        exact ⟨ret_i64 HQ.out, (by repeat (first | with_reducible exact Below.refl _ _ | with_reducible assumption | with_reducible refine Below.setCell ?_ (by first | omega | (simp; done) | (simp; omega)) _ | with_reducible refine below_drewN ?_ _ | with_reducible refine Below.drew ?_ | with_reducible refine Below.alloc ?_ (by first | omega | (simp; done) | (simp; omega)) _ | with_reducible refine below_after ?_ (by assumption) (by first | omega | (simp; done) | (simp; omega))))⟩
end Go.Proofs.YtpibknhnhegebaaGreatDoor
