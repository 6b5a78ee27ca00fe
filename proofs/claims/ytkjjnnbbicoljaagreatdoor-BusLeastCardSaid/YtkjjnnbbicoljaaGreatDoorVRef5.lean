/- The reference of package bus: Tracks whole; Tracks and Clique as contracts. -/
import Derived.Test.YtkjjnnbbicoljaaGreatDoorVRef4
namespace Go.Proofs.YtkjjnnbbicoljaaGreatDoor
open Go.RowKit Sv
set_option maxRecDepth 100000
set_option linter.unusedVariables false
noncomputable section
theorem tr_holds (nets : List (Int × List Int)) (order : List Int) (hn : nets.length ≤ 500) (ho : order.length ≤ 1000) (hg : ∀ x ∈ nets, x.2.length ≤ 140737488355328) :
    Holds Tryz.prog true 18 [nv nets, lv order] (.tuple [lv (rI nets order order.length 0).1, iv (cntUp (rI nets order order.length 0).1 nets.length)]) := by
  have hS := trk_ok
  have hcov : ∀ i, i < nets.length → (decide (order.length ≤ 1000) && decide ((nets.getD i (0, [])).2.length ≤ 140737488355328)) = true := fun i hi => by
    rw [decide_eq_true ho, decide_eq_true (hg _ (getN_mem hi))]; rfl
  refine holds_fl (c := BTr) Tryz.func18 rfl rfl fun w F => ?_
  refine GoalL.to known mixed hS 4 _ (tr_start nets order (by omega) (by simp) (by simp) (flat_zero _)) (by kernel_rfl) ?_
  refine GoalL.loop (ι := { p : Nat // p ≤ order.length }) (id := 0) (b := cat BTr pO) (rest := List.drop 5 (fl BTr [])) (by kernel_rfl) (fun p => STrP nets order (rI nets order p.1 0).1 (toI (rI nets order p.1 0).2) p.1) (fun p => order.length - p.1) ⟨0, Nat.zero_le _⟩ (fun _ => rfl) ?_
  rintro ⟨p, hp⟩
  by_cases hlt : p < order.length
  · refine GoalL.st (s := STrP nets order (rI nets order p 0).1 (toI (rI nets order p 0).2) p) known mixed hS 2 _ (tr_row nets order _ _ p (by omega)) (by kernel_rfl) ?_
    refine goalL_blk (id := 1) (c := cat BTr pB) (rest := List.drop 3 (fl BTr pO)) (by kernel_rfl) ?_
    refine GoalL.st (s := STrP nets order (rI nets order p 0).1 (toI (rI nets order p 0).2) p) known mixed hS 1 _ (tr_inner nets order _ _ p) (by kernel_rfl) ?_
    refine GoalL.loop (ι := { i : Nat // i ≤ nets.length }) (id := 2) (b := cat BTr pI) (rest := List.drop 2 (fl BTr pB)) (by kernel_rfl) (fun i => STrI nets order (rI nets order p i.1).1 (toI (rI nets order p i.1).2) p i.1) (fun i => nets.length - i.1) ⟨0, Nat.zero_le _⟩ (fun _ => rfl) ?_
    rintro ⟨i, hi⟩
    have hF := far_all nets order p i hi
    by_cases hlt2 : i < nets.length
    · refine GoalL.st (s := STrI nets order (rI nets order p i).1 (toI (rI nets order p i).2) p i) known mixed hS 2 _ (tr_irow nets order _ _ p i (by omega)) (by kernel_rfl) ?_
      refine goalL_blk (id := 3) (c := cat BTr pN) (rest := List.drop 3 (fl BTr pI)) (by kernel_rfl) ?_
      by_cases hlow : lowR nets order i = (p : Int)
      · refine tr_net hn ho hg (by omega) hF hlt2 hlow ?_
        have e := rI_here nets order p i hlow
        have e' : refStep (mtR nets order) ((rI nets order p i).1, (rI nets order p i).2) i = rI nets order p (i + 1) := e.symm
        rw [e']
        refine GoalL.all (s := STrI nets order (rI nets order p (i + 1)).1 (toI (rI nets order p (i + 1)).2) p i) known mixed hS _ (tr_inext nets order _ _ p i (by omega)) (by kernel_rfl) ?_
        exact ⟨⟨i + 1, hlt2⟩, by simp; omega, rfl, rfl⟩
      · refine GoalL.st (s := STrI nets order (rI nets order p i).1 (toI (rI nets order p i).2) p i) known mixed hS 3 _ (tr_other nets order _ _ p i hlt2 (hcov i hlt2) hlow) (by kernel_rfl) ?_
        refine onN_exit (inB_exit ?_)
        refine GoalL.all (s := STrI nets order (rI nets order p i).1 (toI (rI nets order p i).2) p i) known mixed hS _ (tr_inext nets order _ _ p i (by omega)) (by kernel_rfl) ?_
        have e := rI_other nets order p i hlow
        exact ⟨⟨i + 1, hlt2⟩, by simp; omega, by show _ = (STrI nets order (rI nets order p (i + 1)).1 (toI (rI nets order p (i + 1)).2) p (i + 1)).T; rw [e], by show _ = (STrI nets order (rI nets order p (i + 1)).1 (toI (rI nets order p (i + 1)).2) p (i + 1)).H; rw [e]⟩
    · refine GoalL.st (s := STrI nets order (rI nets order p i).1 (toI (rI nets order p i).2) p i) known mixed hS 2 _ (tr_istop nets order _ _ p i (by omega)) (by kernel_rfl) ?_
      refine onN_exit (onN_exit (inB_exit ?_))
      refine goalL_nil pB_end ?_
      obtain rfl : i = nets.length := by omega
      refine GoalL.all (s := STrI nets order (rI nets order p nets.length).1 (toI (rI nets order p nets.length).2) p nets.length) known mixed hS _ (tr_next nets order _ _ p _ (by omega)) (by kernel_rfl) ?_
      have e := rI_next nets order p
      exact ⟨⟨p + 1, hlt⟩, by simp; omega, by show _ = (STrP nets order (rI nets order (p + 1) 0).1 (toI (rI nets order (p + 1) 0).2) (p + 1)).T; rw [e], by show _ = (STrP nets order (rI nets order (p + 1) 0).1 (toI (rI nets order (p + 1) 0).2) (p + 1)).H; rw [e]⟩
  · refine GoalL.st (s := STrP nets order (rI nets order p 0).1 (toI (rI nets order p 0).2) p) known mixed hS 2 _ (tr_stop nets order _ _ p (by omega)) (by kernel_rfl) ?_
    refine onN_exit (onN_exit (inB_exit ?_))
    obtain rfl : p = order.length := by omega
    have hl := (far_all nets order order.length 0 (Nat.zero_le _)).len
    refine GoalL.allRet (s := STrP nets order (rI nets order order.length 0).1 (toI (rI nets order order.length 0).2) order.length) known mixed hS _ (tr_ret nets order _ _ _ (own_back2 _ _) (by rw [← lst_back]; omega) (lst_back _) (own_back _ _) (by simp) (by rw [← lst_back])) fun T H h => ?_
    rw [hl] at h
    exact h
def okNets (nets : List (Int × List Int)) (order : List Int) : Bool := decide (nets.length ≤ 500) && (decide (order.length ≤ 1000) && nets.all fun x => decide (x.2.length ≤ 140737488355328))
theorem okNets_iff {nets : List (Int × List Int)} {order : List Int} (h : okNets nets order = true) : nets.length ≤ 500 ∧ order.length ≤ 1000 ∧ ∀ x ∈ nets, x.2.length ≤ 140737488355328 := by
  unfold okNets at h
  simp only [Bool.and_eq_true, decide_eq_true_eq, List.all_eq_true] at h
  exact ⟨h.1, h.2.1, h.2.2⟩
noncomputable def cTracksR : Ctr := { f := 18, ps := [.list false tN, .list false (.int .i64)], rs := [.list false (.int .i64), .int .i64], fresh := true, pre := fun d => okNets d.1 d.2.1, fn := fun d => ((rI d.1 d.2.1 (List.length (α := Int) d.2.1) 0).1, (((cntUp (rI d.1 d.2.1 (List.length (α := Int) d.2.1) 0).1 (List.length (α := Int × List Int) d.1) : Nat) : Int), ())) }
noncomputable def cCliqueR : Ctr := { f := 19, ps := [.list false tN, .list false (.int .i64)], rs := [.list false (.int .i64), .int .i64], fresh := true, pre := fun d => okNets d.1 d.2.1, fn := fun d => ((clqUpR d.1 d.2.1 (List.length (α := Int) d.2.1)).1, ((clqUpR d.1 d.2.1 (List.length (α := Int) d.2.1)).2, ())) }
theorem cTracksR_ok : cTracksR.Ok Tryz.prog := fun ⟨nets, order, _⟩ h => by
  obtain ⟨h1, h2, h3⟩ := okNets_iff h
  exact tr_holds nets order h1 h2 h3
theorem cCliqueR_ok : cCliqueR.Ok Tryz.prog := fun ⟨nets, order, _⟩ h => by
  obtain ⟨h1, h2, h3⟩ := okNets_iff h
  exact clq_holds nets order (Nat.le_trans h1 (by decide)) h2 h3
end
end Go.Proofs.YtkjjnnbbicoljaaGreatDoor
