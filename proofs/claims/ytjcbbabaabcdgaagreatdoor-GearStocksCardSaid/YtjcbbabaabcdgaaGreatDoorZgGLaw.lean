/- The plain law: a train that can be taken out of the stock can be built. -/
import Derived.Test.YtjcbbabaabcdgaaGreatDoorZgGCt
import Derived.Test.YtjcbbabaabcdgaaGreatDoorZgGAw2
namespace Go.Proofs.YtjcbbabaabcdgaaGreatDoor
open Go.RowKit Sv
set_option linter.unusedVariables false
def cntL : List (Int × Int) → Int → Int
  | [], _ => 0
  | p :: r, x => cntP p x + cntL r x
theorem cntP_in (p : Int × Int) (x : Int) : 0 ≤ cntP p x := by unfold cntP; split <;> split <;> omega
theorem cntL_in : ∀ (t : List (Int × Int)) (x : Int), 0 ≤ cntL t x
  | [], x => by simp [cntL]
  | p :: r, x => by have := cntL_in r x; have := cntP_in p x; unfold cntL; omega
theorem upd_two (f : Int → Int) (p : Int × Int) (x : Int) : upd1 (upd1 f p.1 (f p.1 - 1)) p.2 (upd1 f p.1 (f p.1 - 1) p.2 - 1) x = f x - cntP p x := by
  unfold upd1 cntP
  by_cases h1 : x = p.1
  · subst h1
    by_cases h2 : p.1 = p.2
    · simp [← h2]; omega
    · simp [h2, Ne.symm h2]
  · by_cases h2 : x = p.2
    · subst h2
      simp [h1, Ne.symm h1]
    · simp [h1, h2, Ne.symm h1, Ne.symm h2]
theorem runT_iff : ∀ (t : List (Int × Int)) (f : Int → Int), (∀ x, 0 ≤ f x) → (runT t f = true ↔ ∀ x, cntL t x ≤ f x)
  | [], f, h => by simp [runT, cntL, h]
  | p :: r, f, h => by
    unfold runT
    have h1 := h p.1
    have h2 := h p.2
    have e := upd_two f p
    have hu : upd1 f p.1 (f p.1 - 1) p.2 = f p.2 - (if p.1 = p.2 then 1 else 0) := by
      unfold upd1
      by_cases hp : p.1 = p.2
      · rw [hp]; simp
      · rw [if_neg (fun h => hp h.symm), if_neg hp]; omega
    by_cases c1 : f p.1 = 0
    · rw [if_pos c1]
      refine ⟨fun h => (by cases h), fun h3 => ?_⟩
      have g1 := h3 p.1
      have g2 := cntL_in r p.1
      unfold cntL cntP at g1
      rw [if_pos rfl] at g1
      split at g1 <;> omega
    · rw [if_neg c1]
      by_cases c2 : upd1 f p.1 (f p.1 - 1) p.2 = 0
      · rw [if_pos c2]
        refine ⟨fun h => (by cases h), fun h3 => ?_⟩
        have g1 := h3 p.2
        have g2 := cntL_in r p.2
        rw [hu] at c2
        unfold cntL cntP at g1
        simp only [if_true] at g1
        split at c2 <;> rename_i hp
        · rw [if_pos hp] at g1; omega
        · rw [if_neg hp] at g1; omega
      · rw [if_neg c2]
        have hf : ∀ x, 0 ≤ f x - cntP p x := fun x => by
          have := h x
          rw [hu] at c2
          unfold cntP
          by_cases q1 : p.1 = x
          · by_cases q2 : p.2 = x
            · rw [if_pos q1, if_pos q2]
              rw [if_pos (q1.trans q2.symm), q2] at c2
              rw [q1] at c1
              omega
            · rw [if_pos q1, if_neg q2]; rw [q1] at c1; omega
          · by_cases q2 : p.2 = x
            · rw [if_neg q1, if_pos q2]
              rw [if_neg (fun h => q1 (h.trans q2)), q2] at c2
              omega
            · rw [if_neg q1, if_neg q2]; omega
        have ih := runT_iff r (upd1 (upd1 f p.1 (f p.1 - 1)) p.2 (upd1 f p.1 (f p.1 - 1) p.2 - 1)) (fun x => by rw [e]; exact hf x)
        rw [ih]
        refine ⟨fun g x => ?_, fun g x => ?_⟩
        · have := g x
          rw [e] at this
          unfold cntL
          omega
        · have := g x
          rw [e]
          unfold cntL at this
          omega
theorem cntL_app : ∀ (a b : List (Int × Int)) (x : Int), cntL (a ++ b) x = cntL a x + cntL b x
  | [], b, x => by simp [cntL]
  | p :: r, b, x => by rw [List.cons_append, cntL, cntL, cntL_app r b x]; omega
theorem cntTo_eq (t : List (Int × Int)) (x : Int) : ∀ k, k ≤ t.length → cntTo t x k = cntL (t.take k) x
  | 0, _ => by simp [cntTo, cntL]
  | k + 1, h => by
    have e : t.take (k + 1) = t.take k ++ [g0 t k] := by
      rw [g0_get (by omega)]; simp
    rw [e, cntL_app, ← cntTo_eq t x k (by omega), cntTo]
    simp [cntL]
theorem cntA_eq (t : List (Int × Int)) (x : Int) : cntA t x = cntL t x := by
  unfold cntA
  rw [cntTo_eq t x _ (Nat.le_refl _), List.take_length]
theorem cntL_zero : ∀ (t : List (Int × Int)) (x : Int), (∀ p ∈ t, p.1 ≠ x ∧ p.2 ≠ x) → cntL t x = 0
  | [], x, _ => rfl
  | p :: r, x, h => by
    have h1 := h p (by simp)
    rw [cntL, cntL_zero r x fun q hq => h q (by simp [hq])]
    unfold cntP
    rw [if_neg h1.1, if_neg h1.2]; rfl
theorem bldTo_iff (s t : List (Int × Int)) : ∀ n, bldTo s t n = true ↔ ∀ k, k < n → bldAt s t k = true
  | 0 => by simp [bldTo]
  | n + 1 => by
    unfold bldTo
    rw [Bool.and_eq_true, bldTo_iff s t n]
    refine ⟨fun h k hk => ?_, fun h => ⟨fun k hk => h k (by omega), h n (by omega)⟩⟩
    by_cases e : k = n
    · subst e; exact h.2
    · exact h.1 k (by omega)
theorem asc {s : List (Int × Int)} (h : ∀ k, k < s.length → 0 < k → (g0 s (k - 1)).1 < (g0 s k).1) : ∀ d i, i + d + 1 < s.length → (g0 s i).1 < (g0 s (i + d + 1)).1
  | 0, i, hi => h (i + 1) hi (by omega)
  | d + 1, i, hi => by
    have h1 := asc h d i (by omega)
    have h2 := h (i + (d + 1) + 1) hi (by omega)
    rw [show i + (d + 1) + 1 - 1 = i + d + 1 by omega] at h2
    omega
theorem mapTo_at {s : List (Int × Int)} {x : Int} : ∀ {n j : Nat}, j < n → (g0 s j).1 = x → (∀ i, j < i → i < n → (g0 s i).1 ≠ x) → mapTo s n x = (g0 s j).2
  | 0, j, h, _, _ => absurd h (by omega)
  | n + 1, j, h, h1, h2 => by
    show upd1 (mapTo s n) (g0 s n).1 (g0 s n).2 x = _
    unfold upd1
    by_cases e : j = n
    · subst e; rw [if_pos h1.symm]
    · rw [if_neg (fun h3 => h2 n (by omega) (by omega) h3.symm)]
      exact mapTo_at (by omega) h1 fun i g1 g2 => h2 i g1 (by omega)
theorem mapTo_no {s : List (Int × Int)} {x : Int} : ∀ {n : Nat}, (∀ i, i < n → (g0 s i).1 ≠ x) → mapTo s n x = 0
  | 0, _ => rfl
  | n + 1, h => by
    show upd1 (mapTo s n) (g0 s n).1 (g0 s n).2 x = _
    unfold upd1
    rw [if_neg (fun h3 => h n (by omega) h3.symm)]
    exact mapTo_no fun i hi => h i (by omega)
theorem hasL_at {s : List (Int × Int)} {x : Int} : ∀ {d i j : Nat}, j = i + d → j < s.length → (g0 s j).1 = x → (∀ k, i ≤ k → k < j → (g0 s k).1 ≠ x) → hasL (s.drop i) x = (g0 s j).2
  | 0, i, j, h, hj, h1, _ => by
    obtain rfl : j = i := h
    rw [List.drop_eq_getElem_cons hj, hasL, ← g0_get hj, if_pos h1]
  | d + 1, i, j, h, hj, h1, h2 => by
    rw [List.drop_eq_getElem_cons (by omega), hasL, ← g0_get (by omega), if_neg (h2 i (by omega) (by omega))]
    exact hasL_at (d := d) (by omega) hj h1 fun k g1 g2 => h2 k (by omega) g2
theorem hasL_no {x : Int} : ∀ {s : List (Int × Int)}, (∀ p ∈ s, p.1 ≠ x) → hasL s x = 0
  | [], _ => rfl
  | p :: r, h => by
    rw [hasL, if_neg (h p (by simp))]
    exact hasL_no fun q hq => h q (by simp [hq])
theorem map_has {s : List (Int × Int)} (h : ∀ k, k < s.length → 0 < k → (g0 s (k - 1)).1 < (g0 s k).1) (x : Int) : mapTo s s.length x = hasL s x := by
  by_cases e : ∃ j, j < s.length ∧ (g0 s j).1 = x
  · obtain ⟨j, hj, hx⟩ := e
    have up : ∀ i k, i < k → k < s.length → (g0 s i).1 < (g0 s k).1 := fun i k hik hk => by
      have := asc h (k - i - 1) i (by omega)
      rwa [show i + (k - i - 1) + 1 = k by omega] at this
    rw [mapTo_at hj hx fun i g1 g2 => by have := up j i g1 g2; omega]
    have := hasL_at (s := s) (x := x) (d := j) (i := 0) (j := j) (by omega) hj hx fun k _ g2 => by have := up k j g2 hj; omega
    rw [List.drop_zero] at this
    exact this.symm
  · rw [mapTo_no fun i hi g => e ⟨i, hi, g⟩, hasL_no]
    intro p hp g
    obtain ⟨i, hi, rfl⟩ := List.getElem_of_mem hp
    exact e ⟨i, hi, by rw [g0_get hi]; exact g⟩
theorem bld_run {s t : List (Int × Int)} (h : stkErr s = 0) : runT t (mapTo s s.length) = bldB s t := by
  have hs := (stk_in h).2.2
  have hm := map_has fun k hk h0 => (hs k hk).2.2 h0
  have hp := mapTo_in (s := s) s.length fun k hk => (hs k hk).2.1
  rw [Bool.eq_iff_iff, runT_iff t _ fun x => (hp x).1]
  unfold bldB
  rw [bldTo_iff]
  refine ⟨fun g k hk => ?_, fun g x => ?_⟩
  · unfold bldAt
    have g1 := g (g0 t k).1
    have g2 := g (g0 t k).2
    rw [hm, ← cntA_eq] at g1 g2
    rw [decide_eq_true g1, decide_eq_true g2]; rfl
  · by_cases e : ∃ k, k < t.length ∧ ((g0 t k).1 = x ∨ (g0 t k).2 = x)
    · obtain ⟨k, hk, hx⟩ := e
      have := g k hk
      unfold bldAt at this
      rw [Bool.and_eq_true, decide_eq_true_eq, decide_eq_true_eq, cntA_eq, cntA_eq] at this
      rw [hm]
      rcases hx with rfl | rfl
      · exact this.1
      · exact this.2
    · rw [cntL_zero t x]
      · exact (hp x).1
      · intro p hp2
        obtain ⟨i, hi, rfl⟩ := List.getElem_of_mem hp2
        refine ⟨fun q => e ⟨i, hi, .inl ?_⟩, fun q => e ⟨i, hi, .inr ?_⟩⟩ <;> rw [g0_get hi] <;> exact q
def lwErr (s t : List (Int × Int)) : Int := if firstI [stkErr s, trnErr t] = 0 then (if bldB s t = true then 0 else 23) else firstI [stkErr s, trnErr t]
theorem ct_law (s t : List (Int × Int)) : ctErr s t = lwErr s t := by
  unfold ctErr lwErr firstI firstI firstI
  by_cases h1 : stkErr s = 0
  · by_cases h2 : trnErr t = 0
    · simp [h1, h2, bld_run h1]
    · simp [h1, h2]
  · simp [h1]
end Go.Proofs.YtjcbbabaabcdgaaGreatDoor
/- The law GearStocks. -/
namespace Go.Proofs.YtjcbbabaabcdgaaGreatDoor
open Go.RowKit Sv
set_option maxRecDepth 100000
set_option linter.unusedVariables false
set_option linter.unusedSimpArgs false
noncomputable section
noncomputable def BLw : Code := (Tryz.f6.body).getD .skip
noncomputable def cAw : Ctr := { f := 7, ps := [], rs := [.bool], fresh := true, pre := fun d => true, fn := fun d => (true, ()) }
noncomputable def lwCs : VCaller := ctrs [cAw, cRs, cGs, cRt, cBd, cFi, cCt]
theorem lw_far (s t : List (Int × Int)) (h1 : (↑s.length : Int) > 40) :
    Tst.path (vrun0 Tryz.prog lwCs (fl BLw []) 20 42 [pl s, pl t]) [true, true, true, false, false, false, false, true, true] (toRet Tryz.prog Tryz.f6 true (bv true)) :=
  mp (an rt (an rt (an rt (an rt (an rf (an (bF (decide_eq_true h1)) (an (bF (decide_eq_true h1)) (an (bF (decide_eq_true h1)) (an (decide_eq_true h1) (an rt (an rt rt)))))))))))
theorem lw_long (s t : List (Int × Int)) (h1 : ¬(↑s.length : Int) > 40) (h2 : (↑t.length : Int) > 10) :
    Tst.path (vrun0 Tryz.prog lwCs (fl BLw []) 20 42 [pl s, pl t]) [true, true, true, false, true, true, true, false, true] (toRet Tryz.prog Tryz.f6 true (bv true)) :=
  mp (an rt (an rt (an rt (an rt (an rf (an (bF (decide_eq_false h1)) (an (bF (decide_eq_false h1)) (an (bF (decide_eq_false h1)) (an (decide_eq_false h1) (an (decide_eq_true h2) (an rt rt)))))))))))
theorem lw_no (s t : List (Int × Int)) (h1 : ¬(↑s.length : Int) > 40) (h2 : ¬(↑t.length : Int) > 10) (h3 : stkErr s = stkErr s) (h4 : List.length [stkErr s, trnErr t] ≤ (1000000 : Nat)) (h5 : firstI [stkErr s, trnErr t] = 0) (h6 : (decide (s.length ≤ (1000000 : Nat)) && decide (t.length ≤ (1000000 : Nat))) = true) (h7 : (bldB s t) = false) :
    Tst.path (vrun0 Tryz.prog lwCs (fl BLw []) 20 42 [pl s, pl t]) [true, true, true, false, true, true, true, false, false, false, true, true] (toRet Tryz.prog Tryz.f6 true (bv (ctErr s t == 23))) :=
  mp (an rt (an rt (an rt (an rt (an rf (an (bF (decide_eq_false h1)) (an (bF (decide_eq_false h1)) (an (bF (decide_eq_false h1)) (an (decide_eq_false h1) (an (decide_eq_false h2) (an rt (an rt (an (bne_eq_false_iff_eq.mpr h3) (an rt (an (decide_eq_true h4) (an (beq_iff_eq.mpr h5) (an h6 (an (bN h7) (an rt (rr (ctErr s t == 23)))))))))))))))))))))
theorem lw_yes (s t : List (Int × Int)) (h1 : ¬(↑s.length : Int) > 40) (h2 : ¬(↑t.length : Int) > 10) (h3 : stkErr s = stkErr s) (h4 : List.length [stkErr s, trnErr t] ≤ (1000000 : Nat)) (h5 : firstI [stkErr s, trnErr t] = 0) (h6 : (decide (s.length ≤ (1000000 : Nat)) && decide (t.length ≤ (1000000 : Nat))) = true) (h7 : (bldB s t) = true) :
    Tst.path (vrun0 Tryz.prog lwCs (fl BLw []) 20 42 [pl s, pl t]) [true, true, true, false, true, true, true, false, false, false, true, false] (toRet Tryz.prog Tryz.f6 true (bv (ctErr s t == 0))) :=
  mp (an rt (an rt (an rt (an rt (an rf (an (bF (decide_eq_false h1)) (an (bF (decide_eq_false h1)) (an (bF (decide_eq_false h1)) (an (decide_eq_false h1) (an (decide_eq_false h2) (an rt (an rt (an (bne_eq_false_iff_eq.mpr h3) (an rt (an (decide_eq_true h4) (an (beq_iff_eq.mpr h5) (an h6 (an (bN h7) (an rt (rr (ctErr s t == 0)))))))))))))))))))))
theorem lw_bad (s t : List (Int × Int)) (h1 : ¬(↑s.length : Int) > 40) (h2 : ¬(↑t.length : Int) > 10) (h3 : stkErr s = stkErr s) (h4 : List.length [stkErr s, trnErr t] ≤ (1000000 : Nat)) (h5 : ¬firstI [stkErr s, trnErr t] = 0) :
    Tst.path (vrun0 Tryz.prog lwCs (fl BLw []) 20 42 [pl s, pl t]) [true, true, true, false, true, true, true, false, false, false, false] (toRet Tryz.prog Tryz.f6 true (bv (ctErr s t == firstI [stkErr s, trnErr t]))) :=
  mp (an rt (an rt (an rt (an rt (an rf (an (bF (decide_eq_false h1)) (an (bF (decide_eq_false h1)) (an (bF (decide_eq_false h1)) (an (decide_eq_false h1) (an (decide_eq_false h2) (an rt (an rt (an (bne_eq_false_iff_eq.mpr h3) (an rt (an (decide_eq_true h4) (an (beq_eq_false_iff_ne.mpr h5) (an rt (rr (ctErr s t == firstI [stkErr s, trnErr t])))))))))))))))))))
theorem cAw_ok : cAw.Ok Tryz.prog := fun _ _ => awake_holds
theorem lwCs_ok : CallOk Tryz.prog (gS lwCs) := ctrs_ok fun c hc => by
  simp only [List.mem_cons, List.not_mem_nil, or_false] at hc
  rcases hc with rfl | rfl | rfl | rfl | rfl | rfl | rfl
  · exact cAw_ok
  · exact cRs_ok
  · exact cGs_ok
  · exact cRt_ok
  · exact cBd_ok
  · exact cFi_ok
  · exact cCt_ok
theorem lw_holds (s t : List (Int × Int)) : Holds Tryz.prog true 6 [pl s, pl t] (bv true) := by
  have hS := lwCs_ok
  refine holds_fl (c := BLw) Tryz.func6 rfl rfl fun w F => ?_
  by_cases h1 : (s.length : Int) > 40
  · exact GoalL.ret known mixed hS 20 _ (lw_far s t h1) fun T H h => h
  · by_cases h2 : (t.length : Int) > 10
    · exact GoalL.ret known mixed hS 20 _ (lw_long s t h1 h2) fun T H h => h
    · have h4 : [stkErr s, trnErr t].length ≤ 1000000 := by simp
      by_cases h5 : firstI [stkErr s, trnErr t] = 0
      · have h6 : (decide (s.length ≤ 1000000) && decide (t.length ≤ 1000000)) = true := by rw [decide_eq_true (by omega), decide_eq_true (by omega)]; rfl
        cases h7 : bldB s t with
        | false =>
          have e : (ctErr s t == 23) = true := by rw [beq_iff_eq, ct_law]; unfold lwErr; rw [if_pos h5, h7]; rfl
          exact GoalL.ret known mixed hS 20 _ (lw_no s t h1 h2 rfl h4 h5 h6 h7) fun T H h => by
            have h2 : retQ Tryz.prog true Tryz.f6 (bv (ctErr s t == 23)) .ret T H := h
            rw [e] at h2
            exact h2
        | true =>
          have e : (ctErr s t == 0) = true := by rw [beq_iff_eq, ct_law]; unfold lwErr; rw [if_pos h5, h7]; rfl
          exact GoalL.ret known mixed hS 20 _ (lw_yes s t h1 h2 rfl h4 h5 h6 h7) fun T H h => by
            have h2 : retQ Tryz.prog true Tryz.f6 (bv (ctErr s t == 0)) .ret T H := h
            rw [e] at h2
            exact h2
      · have e : (ctErr s t == firstI [stkErr s, trnErr t]) = true := by rw [beq_iff_eq, ct_law]; unfold lwErr; rw [if_neg h5]
        exact GoalL.ret known mixed hS 20 _ (lw_bad s t h1 h2 rfl h4 h5) fun T H h => by
          have h2 : retQ Tryz.prog true Tryz.f6 (bv (ctErr s t == firstI [stkErr s, trnErr t])) .ret T H := h
          rw [e] at h2
          exact h2
end
end Go.Proofs.YtjcbbabaabcdgaaGreatDoor
