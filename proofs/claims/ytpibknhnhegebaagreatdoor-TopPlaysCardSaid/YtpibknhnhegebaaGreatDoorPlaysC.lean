/- integraphtop.TopPlays: the walk where the positions are not taken. -/
import Derived.Test.YtpibknhnhegebaaGreatDoorPlaysB
namespace Go.Proofs.YtpibknhnhegebaaGreatDoor
open Go.RowKit
attribute [local go_sem] nil_eql nil_neq

set_option maxHeartbeats 8000000 in
set_option maxRecDepth 100000 in
theorem plays_far (l0 l1 s0 : Int) (A : Option Addr) (c : Nat) (xs : List Int) (w : World) (h0 : 0 ≤ l0) (h0' : l0 ≤ 255) (h1 : 0 ≤ l1) (h1' : l1 ≤ 255) (_ : -32768 ≤ s0) (_ : s0 ≤ 32767)
    (hE : Env w) (hrow : Row w w.heap.size A (xs.map (Value.int .i64))) (hlen : xs.length ≤ 140737488355328) (hno : ¬ (xs.length ≤ 40 ∧ okPos xs = true)) :
    Calls Tryz.prog 7 #[.agg #[.int .u8 l0, .int .u8 l1], .int .i16 s0, .slice A xs.length c] w fun e w' => e = .returned (.bool true) ∧ Below w.heap.size w w' := by
  have hsum : IntKind.i64.wrap (l0 + l1) = l0 + l1 := IntWalk.i64_in _ (by omega)
  have i0 : (0 : Int) < 2 := by omega
  have i1 : (1 : Int) < 2 := by omega
  have HE := Lib.hid hE
  by_cases h40 : xs.length ≤ 40
  · have hd : decide ((40 : Int) < (xs.length : Int)) = false := by simp; omega
    have hd2 : decide (40 < xs.length) = false := by simp; omega
    have hok : okPos xs = false := by
      cases h : okPos xs
      · rfl
      · exact absurd ⟨h40, h⟩ hno
    have HTP := Lib.hid (fun w' (hb : Below w.heap.size w w') => toothPositions_any A c w.heap.size xs w' hlen (hrow.below hb (Nat.le_refl _)))
    rw [hok] at HTP
    clear hok hno hrow hE
    go_enter Tryz.func7, Tryz.ntmps7
    go_wp2_with fail
    go_quiet (fail)
    go_wp2_with fail
    generalize hW1 : World.drewN (World.alloc w _) _ = W1
    have e1 : Below w.heap.size w W1 := by rw [← hW1]; exact (by repeat (first | with_reducible exact Below.refl _ _ | with_reducible assumption | with_reducible refine Below.setCell ?_ (by first | omega | (simp; done) | (simp; omega)) _ | with_reducible refine below_drewN ?_ _ | with_reducible refine Below.drew ?_ | with_reducible refine Below.alloc ?_ (by first | omega | (simp; done) | (simp; omega)) _ | with_reducible refine below_after ?_ (by assumption) (by first | omega | (simp; done) | (simp; omega))))
    clear hW1
    refine (HTP.out _ e1).mono ?_
    rintro e w' ⟨rfl, rfl⟩
    go_wp2_with fail
    refine (toothRun_true _ (HE.out.below e1)).mono ?_
    rintro e w9 ⟨rfl, hb9⟩
    have e9 := below_after e1 hb9 (Nat.le_refl _)
    go_wp2_with fail
    go_ret
    exact ⟨rfl, e9⟩
  · have hd : decide ((40 : Int) < (xs.length : Int)) = true := by simp; omega
    have hd2 : decide (40 < xs.length) = true := by simp; omega
    have hd3 : (40 : Int) < (xs.length : Int) := by omega
    have hd4 : 40 < xs.length := by omega
    clear hno hrow hE
    go_enter Tryz.func7, Tryz.ntmps7
    go_wp2_with fail
    go_quiet (fail)
    go_wp2_with fail
    generalize hW1 : World.drewN (World.alloc w _) _ = W1
    have e1 : Below w.heap.size w W1 := by rw [← hW1]; exact (by repeat (first | with_reducible exact Below.refl _ _ | with_reducible assumption | with_reducible refine Below.setCell ?_ (by first | omega | (simp; done) | (simp; omega)) _ | with_reducible refine below_drewN ?_ _ | with_reducible refine Below.drew ?_ | with_reducible refine Below.alloc ?_ (by first | omega | (simp; done) | (simp; omega)) _ | with_reducible refine below_after ?_ (by assumption) (by first | omega | (simp; done) | (simp; omega))))
    clear hW1
    refine (toothRun_true _ (HE.out.below e1)).mono ?_
    rintro e w9 ⟨rfl, hb9⟩
    have e9 := below_after e1 hb9 (Nat.le_refl _)
    go_wp2_with fail
    go_ret
    exact ⟨rfl, e9⟩
end Go.Proofs.YtpibknhnhegebaaGreatDoor
