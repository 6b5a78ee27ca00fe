/- integraphlaw07.BusClaims: the walk. -/
import Derived.Test.YtcdknjkkaonbiaaGreatDoorBusSameLaw
import Derived.Test.YtcdknjkkaonbiaaGreatDoorBusLight
import Derived.Test.YtcdknjkkaonbiaaGreatDoorBusAwake
namespace Go.Proofs.YtcdknjkkaonbiaaGreatDoor
open Go.RowKit

theorem refCheckLayout_any (A A2 A3 : Option Addr) (c c2 c3 B : Nat) (l : List NetAt) (order ts : List Int) (n : Int) (w : World) (h : NetsIn w B A l) (h2 : Row w B A2 (order.map (Value.int .i64))) (h3 : Row w B A3 (ts.map (Value.int .i64))) (hB : B ≤ w.heap.size) (hl : l.length ≤ 140737488355328) (hl2 : order.length ≤ 1000000) (hl3 : ts.length ≤ 1000000) (hc2 : order.length ≤ c2) :
    Calls Tryz.prog 26 #[.slice A l.length c, .int .i64 n, .agg #[.slice A2 order.length c2, .slice A3 ts.length c3]] w fun e w' => e = .returned (.int .i64 (layErrR l n order ts)) ∧ Below w.heap.size w w' := by
  by_cases hE : Bus.bothErr (l.map NetAt.net) n order = 0
  · exact refCheckLayout_ok A A2 A3 c c2 c3 B l order ts n w h h2 h3 hB hl hl2 hl3 hc2 hE
  · have := refCheckLayout_bad A A2 A3 c c2 c3 B l order ts n w h h2 hB hl hl2 hc2 _ rfl hE
    unfold layErrR
    rw [if_pos hE]
    exact this
/-- what bus.CheckClique says, refused lists and all -/
def claimErr (l : List NetAt) (n : Int) (order cl : List Int) : Int := if Bus.bothErr (l.map NetAt.net) n order ≠ 0 then Bus.bothErr (l.map NetAt.net) n order else cliqueErrR l order cl
theorem CheckClique_any (A A2 A3 : Option Addr) (c c2 c3 B : Nat) (l : List NetAt) (order cl : List Int) (n : Int) (w : World) (h : NetsIn w B A l) (h2 : Row w B A2 (order.map (Value.int .i64))) (h3 : Row w B A3 (cl.map (Value.int .i64))) (hi : ∀ c ∈ order, I64 c) (hB : B ≤ w.heap.size) (hl : l.length ≤ 140737488355328) (hl2 : order.length ≤ 1000000) (hl3 : cl.length ≤ 1000000) (hc3 : cl.length ≤ c3) :
    Calls Tryz.prog 28 #[.slice A l.length c, .int .i64 n, .slice A2 order.length c2, .slice A3 cl.length c3] w fun e w' => e = .returned (.int .i64 (claimErr l n order cl)) ∧ Below w.heap.size w w' := by
  unfold claimErr
  by_cases hE : Bus.bothErr (l.map NetAt.net) n order = 0
  · have := CheckClique_ok A A2 A3 c c2 c3 B l order cl n w h h2 h3 hi hB hl hl2 hl3 hc3 hE
    rw [clique_same l n order cl hE] at this
    rw [if_neg (fun h => h hE)]
    exact this
  · rw [if_pos hE]
    exact CheckClique_bad A A2 A3 c c2 c3 B l order cl n w h h2 hi hB hl hl2 _ rfl hE

set_option maxHeartbeats 8000000 in
set_option maxRecDepth 100000 in
theorem claims_walk (A A2 A3 A4 : Option Addr) (c c2 c3 c4 : Nat) (l : List NetAt) (order ts cl : List Int) (n : Int) (w : World)
    (h : NetsIn w w.heap.size A l) (h2 : Row w w.heap.size A2 (order.map (Value.int .i64))) (h3 : Row w w.heap.size A3 (ts.map (Value.int .i64))) (h4 : Row w w.heap.size A4 (cl.map (Value.int .i64))) (hi : ∀ c ∈ order, I64 c)
    (hl : l.length ≤ 140737488355328) (hl2 : order.length ≤ 140737488355328) (hl3 : ts.length ≤ 140737488355328) (hl4 : cl.length ≤ 140737488355328) (hc2 : order.length ≤ c2) (hc4 : cl.length ≤ c4) :
    Calls Tryz.prog 6 #[.slice A l.length c, .int .i64 n, .agg #[.slice A2 order.length c2, .slice A3 ts.length c3, .slice A4 cl.length c4]] w fun e w' => e = .returned (.bool true) ∧ Below w.heap.size w w' := by
  have H := Lib.hid h
  have H2 := Lib.hid h2
  have H3 := Lib.hid h3
  have H4 := Lib.hid h4
  have HA := Lib.hid awake_calls
  have HL := Lib.hid (fun w' (hb : Below w.heap.size w w') => light_any A c w.heap.size l n w' (h.below hb (Nat.le_refl _)) hb.size hl)
  have e0 := (Below.refl w.heap.size w).alloc (Nat.le_refl _) (.cells #[.slice A2 order.length c2, .slice A3 ts.length c3, .slice A4 cl.length c4] 55)
  have d0 := Blk.new w 55 #[.slice A2 order.length c2, .slice A3 ts.length c3, .slice A4 cl.length c4]
  clear h h2 h3 h4
  obtain ⟨li, hli⟩ : ∃ b, lightB l n = b := ⟨_, rfl⟩
  rw [hli] at HL
  cases li
  · go_enter Tryz.func6, Tryz.ntmps6
    go_wp2_with fail
    refine (HA.out _).mono ?_
    rintro e w1 ⟨rfl, hb1⟩
    have e1 := below_after e0 hb1 (Nat.le_refl _)
    go_wp2_with fail
    refine (HL.out _ e1).mono ?_
    rintro e w2 ⟨rfl, hb2⟩
    have e2 := below_after e1 hb2 (Nat.le_refl _)
    go_wp2_with fail
    refine (HA.out _).mono ?_
    rintro e w3 ⟨rfl, hb3⟩
    have e3 := below_after e2 hb3 (Nat.le_refl _)
    go_wp2_with fail
    go_ret
    exact ⟨rfl, e3⟩
  · by_cases hbig : 100 < order.length ∨ 100 < ts.length ∨ 100 < cl.length
    · have hsplit : (100 : Int) < (order.length : Int) ∨ (¬ (100 : Int) < (order.length : Int) ∧ (100 : Int) < (ts.length : Int)) ∨ (¬ (100 : Int) < (order.length : Int) ∧ ¬ (100 : Int) < (ts.length : Int) ∧ (100 : Int) < (cl.length : Int)) := by omega
      clear hbig
      rcases hsplit with q1 | ⟨q1, q2⟩ | ⟨q1, q2, q3⟩
      all_goals
        go_enter Tryz.func6, Tryz.ntmps6
        go_wp2_with fail
        refine (HA.out _).mono ?_
        rintro e w1 ⟨rfl, hb1⟩
        have e1 := below_after e0 hb1 (Nat.le_refl _)
        have d1 := keep_blk d0 hb1
        go_wp2_with fail
        refine (HL.out _ e1).mono ?_
        rintro e w2 ⟨rfl, hb2⟩
        have e2 := below_after e1 hb2 (Nat.le_refl _)
        have d2 := keep_blk d1 hb2
        have f0 : w2.cell? ⟨w.heap.size, 0, none⟩ = some (.slice A2 order.length c2) := d2.cell 0
        have f1 : w2.cell? ⟨w.heap.size, 1, none⟩ = some (.slice A3 ts.length c3) := d2.cell 1
        have f2 : w2.cell? ⟨w.heap.size, 2, none⟩ = some (.slice A4 cl.length c4) := d2.cell 2
        go_wp2_with fail
        refine (HA.out _).mono ?_
        rintro e w3 ⟨rfl, hb3⟩
        have e3 := below_after e2 hb3 (Nat.le_refl _)
        go_wp2_with fail
        go_ret
        exact ⟨rfl, e3⟩
    · have q1 : ¬ (100 : Int) < (order.length : Int) := by omega
      have q2 : ¬ (100 : Int) < (ts.length : Int) := by omega
      have q3 : ¬ (100 : Int) < (cl.length : Int) := by omega
      have HRL := Lib.hid (fun w' (hb : Below w.heap.size w w') => refCheckLayout_any A A2 A3 c c2 c3 w.heap.size l order ts n w' (H.out.below hb (Nat.le_refl _)) (H2.out.below hb (Nat.le_refl _)) (H3.out.below hb (Nat.le_refl _)) hb.size hl (by omega) (by omega) hc2)
      have HPL := Lib.hid (fun w' (hb : Below w.heap.size w w') => CheckLayout_any A A2 A3 c c2 c3 w.heap.size l order ts n w' (H.out.below hb (Nat.le_refl _)) (H2.out.below hb (Nat.le_refl _)) (H3.out.below hb (Nat.le_refl _)) hi hb.size hl (by omega) (by omega))
      rw [lay_same] at HPL
      have HPC := Lib.hid (fun w' (hb : Below w.heap.size w w') => CheckClique_any A A2 A4 c c2 c4 w.heap.size l order cl n w' (H.out.below hb (Nat.le_refl _)) (H2.out.below hb (Nat.le_refl _)) (H4.out.below hb (Nat.le_refl _)) hi hb.size hl (by omega) (by omega) hc4)
      have HRN := Lib.hid (fun w' (hb : Below w.heap.size w w') => refNets_any A c w.heap.size l n w' (H.out.below hb (Nat.le_refl _)) hb.size hl)
      have HRO := Lib.hid (fun w' (hb : Below w.heap.size w w') => refOrder_any A2 c2 w.heap.size order n w' (by omega) hc2 (H2.out.below hb (Nat.le_refl _)) hb.size)
      have HRC := Lib.hid (fun w' (hb : Below w.heap.size w w') => refCheckClique_any A A2 A4 c c2 c4 w.heap.size l order cl w' (H.out.below hb (Nat.le_refl _)) (H2.out.below hb (Nat.le_refl _)) (H4.out.below hb (Nat.le_refl _)) hb.size (by omega) (by omega) hc4)
      have hcl : claimErr l n order cl = if Bus.bothErr (l.map NetAt.net) n order ≠ 0 then Bus.bothErr (l.map NetAt.net) n order else cliqueErrR l order cl := rfl
      have hbc := both_cases (l.map NetAt.net) n order
      generalize claimErr l n order cl = E4 at *
      generalize layErrR l n order ts = E3 at *
      generalize cliqueErrR l order cl = E5 at *
      generalize Bus.bothErr (l.map NetAt.net) n order = E at *
      generalize Bus.netsErr (l.map NetAt.net) n = E1 at *
      generalize Bus.orderErr order n = E2 at *
      have hkeep : ∀ wx, Blk wx w.heap.size 55 #[.slice A2 order.length c2, .slice A3 ts.length c3, .slice A4 cl.length c4] → wx.cell? ⟨w.heap.size, 0, none⟩ = some (.slice A2 order.length c2) ∧ wx.cell? ⟨w.heap.size, 1, none⟩ = some (.slice A3 ts.length c3) ∧ wx.cell? ⟨w.heap.size, 2, none⟩ = some (.slice A4 cl.length c4) := fun wx d => ⟨d.cell 0, d.cell 1, d.cell 2⟩
      have HKP := Lib.hid hkeep
      have hcases : (E1 ≠ 0 ∧ E4 = E1) ∨ (E1 = 0 ∧ E2 ≠ 0 ∧ E4 = E2) ∨ (E1 = 0 ∧ E2 = 0 ∧ E4 = E5) := by
        rcases hbc with ⟨g1, g2⟩ | ⟨g1, g2⟩
        · left; rw [g2, if_pos g1] at hcl; exact ⟨g1, hcl⟩
        · right
          by_cases g3 : E2 = 0
          · right; rw [g2, if_neg (fun h => h g3)] at hcl; exact ⟨g1, g3, hcl⟩
          · left; rw [g2, if_pos g3] at hcl; exact ⟨g1, g3, hcl⟩
      clear hcl hbc hkeep hbig hi H H2 H3 H4
      go_enter Tryz.func6, Tryz.ntmps6
      go_wp2_with fail
      refine (HA.out _).mono ?_
      rintro e w1 ⟨rfl, hb1⟩
      have e1 := below_after e0 hb1 (Nat.le_refl _)
      have d1 := keep_blk d0 hb1
      clear e0 d0 hb1
      go_wp2_with fail
      refine (HL.out _ e1).mono ?_
      rintro e w2 ⟨rfl, hb2⟩
      have e2 := below_after e1 hb2 (Nat.le_refl _)
      have d2 := keep_blk d1 hb2
      obtain ⟨f0, f1, f2⟩ := HKP.out _ d2
      clear e1 d1 hb2
      go_wp2_with fail
      refine (HRL.out _ e2).mono ?_
      rintro e w3 ⟨rfl, hb3⟩
      have e3 := below_after e2 hb3 (Nat.le_refl _)
      have d3 := keep_blk d2 hb3
      obtain ⟨f0, f1, f2⟩ := HKP.out _ d3
      clear e2 d2 hb3
      go_wp2_with fail
      refine (HPL.out _ e3).mono ?_
      rintro e w4 ⟨rfl, hb4⟩
      have e4 := below_after e3 hb4 (Nat.le_refl _)
      have d4 := keep_blk d3 hb4
      obtain ⟨f0, f1, f2⟩ := HKP.out _ d4
      clear e3 d3 hb4
      have hEE : (E3 != E3) = false := by simp
      go_wp2_with fail
      refine (HPC.out _ e4).mono ?_
      rintro e w5 ⟨rfl, hb5⟩
      have e5 := below_after e4 hb5 (Nat.le_refl _)
      have d5 := keep_blk d4 hb5
      obtain ⟨f0, f1, f2⟩ := HKP.out _ d5
      clear e4 d4 hb5 hEE
      go_wp2_with fail
      refine (HRN.out _ e5).mono ?_
      rintro e w6 ⟨rfl, hb6⟩
      have e6 := below_after e5 hb6 (Nat.le_refl _)
      have d6 := keep_blk d5 hb6
      obtain ⟨f0, f1, f2⟩ := HKP.out _ d6
      clear e5 d5 hb6
      rcases hcases with ⟨g1, rfl⟩ | ⟨rfl, g2, rfl⟩ | ⟨rfl, rfl, rfl⟩
      · have hz : (E4 == 0) = false := by rw [beq_eq_false_iff_ne]; exact g1
        go_wp2_with fail
        go_ret
        exact ⟨by simp, e6⟩
      · have hz : (E4 == 0) = false := by rw [beq_eq_false_iff_ne]; exact g2
        go_wp2_with fail
        refine (HRO.out _ e6).mono ?_
        rintro e w7 ⟨rfl, hb7⟩
        have e7 := below_after e6 hb7 (Nat.le_refl _)
        go_wp2_with fail
        go_ret
        exact ⟨by simp, e7⟩
      · go_wp2_with fail
        refine (HRO.out _ e6).mono ?_
        rintro e w7 ⟨rfl, hb7⟩
        have e7 := below_after e6 hb7 (Nat.le_refl _)
        have d7 := keep_blk d6 hb7
        obtain ⟨f0, f1, f2⟩ := HKP.out _ d7
        go_wp2_with fail
        refine (HRC.out _ e7).mono ?_
        rintro e w8 ⟨rfl, hb8⟩
        have e8 := below_after e7 hb8 (Nat.le_refl _)
        go_wp2_with fail
        go_ret
        exact ⟨by simp, e8⟩
end Go.Proofs.YtcdknjkkaonbiaaGreatDoor
