/- The reference of package bus: over, Under, used, Crossings, Bound, Mirror: what they return. -/
import Derived.Test.YtbldpojkpmafpaaGreatDoorZaVBestLaw
import Derived.Test.YtbldpojkpmafpaaGreatDoorZaBusLaw2
namespace Go.Proofs.YtbldpojkpmafpaaGreatDoor
open Go.RowKit Sv
set_option maxRecDepth 100000
set_option linter.unusedVariables false
noncomputable section
theorem ov_bd (nets : List (Int × List Int)) (order ts : List Int) (tr p : Int) (i : Nat) : 0 ≤ ovR nets order ts tr p i ∧ ovR nets order ts tr p i ≤ i := by
  have := sm_bd (f := fun k => if ts.getD k 0 = tr ∧ covR (refExt order (nets.getD k (0, [])).2) p = true then 1 else 0) (L := 1) (n := i) fun k _ => by split <;> omega
  unfold ovR; omega
theorem over_holds (nets : List (Int × List Int)) (order ts : List Int) (tr p : Int) (h : okNets nets order = true) (ht : nets.length ≤ ts.length) : Holds Tryz.prog true 100 [nv nets, lv order, lv ts, iv tr, iv p] (iv (ovR nets order ts tr p nets.length)) := by
  obtain ⟨hn, ho, hg⟩ := okNets_iff h
  have hS := one_ok cCovers_ok
  have hcov : ∀ i, i < nets.length → (decide (order.length ≤ 1000) && decide ((nets.getD i (0, [])).2.length ≤ 140737488355328)) = true := fun i hi => by
    rw [decide_eq_true ho, decide_eq_true (hg _ (getN_mem hi))]; rfl
  refine holds_fl (c := BOv) Tryz.func100 rfl rfl fun w F => ?_
  refine GoalL.to known mixed hS 3 _ (ov_start nets order ts tr p) (by kernel_rfl) ?_
  refine GoalL.loop (ι := { i : Nat // i ≤ nets.length }) (id := 0) (b := cat BOv [1,1,0,1,0,0]) (rest := List.drop 4 (fl BOv [])) (by kernel_rfl) (fun i => SOv nets order ts tr p (ovR nets order ts tr p i.1) i.1) (fun i => nets.length - i.1) ⟨0, Nat.zero_le _⟩ (fun _ => rfl) ?_
  rintro ⟨i, hi⟩
  have hb := ov_bd nets order ts tr p i
  by_cases hlt : i < nets.length
  · have en : ovR nets order ts tr p (i + 1) = ovR nets order ts tr p i + if ts.getD i 0 = tr ∧ covR (refExt order (nets.getD i (0, [])).2) p = true then 1 else 0 := rfl
    by_cases h1 : ts.getD i 0 = tr
    · by_cases h2 : covR (refExt order (nets.getD i (0, [])).2) p = true
      · rw [if_pos ⟨h1, h2⟩] at en
        refine GoalL.all (s := SOv nets order ts tr p (ovR nets order ts tr p i) i) known mixed hS _ (ov_add nets order ts tr p _ i (by omega) (by omega) h1 hlt (hcov i hlt) h2 (by omega) (by omega)) (by kernel_rfl) ?_
        exact ⟨⟨i + 1, hlt⟩, by simp; omega, by show _ = (SOv nets order ts tr p (ovR nets order ts tr p (i + 1)) (i + 1)).T; rw [en], by show _ = (SOv nets order ts tr p (ovR nets order ts tr p (i + 1)) (i + 1)).H; rw [en]⟩
      · rw [if_neg (fun h => h2 h.2), Int.add_zero] at en
        refine GoalL.all (s := SOv nets order ts tr p (ovR nets order ts tr p i) i) known mixed hS _ (ov_nc nets order ts tr p _ i (by omega) (by omega) h1 hlt (hcov i hlt) (by simpa using h2) (by omega)) (by kernel_rfl) ?_
        exact ⟨⟨i + 1, hlt⟩, by simp; omega, by show _ = (SOv nets order ts tr p (ovR nets order ts tr p (i + 1)) (i + 1)).T; rw [en], by show _ = (SOv nets order ts tr p (ovR nets order ts tr p (i + 1)) (i + 1)).H; rw [en]⟩
    · rw [if_neg (fun h => h1 h.1), Int.add_zero] at en
      refine GoalL.all (s := SOv nets order ts tr p (ovR nets order ts tr p i) i) known mixed hS _ (ov_ne nets order ts tr p _ i (by omega) (by omega) h1 (by omega)) (by kernel_rfl) ?_
      exact ⟨⟨i + 1, hlt⟩, by simp; omega, by show _ = (SOv nets order ts tr p (ovR nets order ts tr p (i + 1)) (i + 1)).T; rw [en], by show _ = (SOv nets order ts tr p (ovR nets order ts tr p (i + 1)) (i + 1)).H; rw [en]⟩
  · refine GoalL.all (s := SOv nets order ts tr p (ovR nets order ts tr p i) i) known mixed hS _ (ov_end nets order ts tr p _ i (by omega)) (by kernel_rfl) ?_
    refine onN_exit (inB_exit ?_)
    obtain rfl : i = nets.length := by omega
    exact GoalL.allRet (s := SOv nets order ts tr p (ovR nets order ts tr p nets.length) nets.length) known mixed hS _ (ov_ret nets order ts tr p _ _) fun T H h => h
theorem cOver_ok : cOver.Ok Tryz.prog := fun ⟨nets, order, ts, tr, p, _⟩ h => by
  obtain ⟨h1, h2⟩ := Bool.and_eq_true_iff.1 h
  exact over_holds nets order ts tr p h1 (of_decide_eq_true h2)
theorem okCr_iff {nets : List (Int × List Int)} {order ts : List Int} (h : okCr nets order ts = true) : nets.length ≤ 64 ∧ order.length ≤ 1000 ∧ nets.length ≤ ts.length ∧ ts.length ≤ 1000 ∧ ∀ x ∈ nets, x.2.length ≤ 1000 := by
  unfold okCr at h
  simp only [Bool.and_eq_true, decide_eq_true_eq, List.all_eq_true] at h
  exact h
theorem okCr_nets {nets : List (Int × List Int)} {order ts : List Int} (h : okCr nets order ts = true) : okNets nets order = true := by
  obtain ⟨h1, h2, h3, h4, h5⟩ := okCr_iff h
  unfold okNets
  rw [decide_eq_true (show nets.length ≤ 500 by omega), decide_eq_true h2, Bool.true_and, Bool.true_and, List.all_eq_true]
  exact fun x hx => decide_eq_true (by have := h5 x hx; omega)
theorem tapR_bd {nets : List (Int × List Int)} (order ts : List Int) (hn : nets.length ≤ 64) (b : Int) (j c : Nat) : 0 ≤ tapR nets order ts b j c ∧ tapR nets order ts b j c ≤ c * 64 := by
  have := sm_bd (f := fun c => ovR nets order ts b (Bus.pos order ((nets.getD j (0, [])).2.getD c 0)) nets.length) (L := 64) (n := c) fun k _ => by
    have := ov_bd nets order ts b (Bus.pos order ((nets.getD j (0, [])).2.getD k 0)) nets.length
    omega
  unfold tapR; omega
theorem undR_bd {nets : List (Int × List Int)} {order ts : List Int} (h : okCr nets order ts = true) (b a : Int) (i : Nat) (hi : i ≤ nets.length) : 0 ≤ undR nets order ts b a i ∧ undR nets order ts b a i ≤ i * 64000 := by
  obtain ⟨h1, h2, h3, h4, h5⟩ := okCr_iff h
  have := sm_bd (f := fun j => if ts.getD j 0 = a then tapR nets order ts b j (nets.getD j (0, [])).2.length else 0) (L := 64000) (n := i) fun j hj => by
    have := tapR_bd order ts h1 b j (nets.getD j (0, [])).2.length
    have := h5 _ (getN_mem (show j < nets.length by omega))
    split <;> omega
  unfold undR; omega
theorem un_ok : CallOk Tryz.prog (gS unCs) := ctrs_ok fun c hc => by
  simp only [List.mem_cons, List.not_mem_nil, or_false] at hc
  rcases hc with rfl | rfl
  · exact cPos_ok
  · exact cOver_ok
theorem uB_end : List.drop 4 (fl BUn uB) = [] := by kernel_rfl
theorem under_holds (nets : List (Int × List Int)) (order ts : List Int) (b a : Int) (h : okCr nets order ts = true) : Holds Tryz.prog true 57 [nv nets, yv order ts, iv b, iv a] (iv (undR nets order ts b a nets.length)) := by
  obtain ⟨h1, h2, h3, h4, h5⟩ := okCr_iff h
  have hS := un_ok
  have hpre : (okNets nets order && decide (nets.length ≤ ts.length)) = true := by rw [okCr_nets h, decide_eq_true h3]; rfl
  refine holds_fl (c := BUn) Tryz.func57 rfl rfl fun w F => ?_
  refine GoalL.to known mixed hS 3 _ (un_start nets order ts b a) (by kernel_rfl) ?_
  refine GoalL.loop (ι := { i : Nat // i ≤ nets.length }) (id := 0) (b := cat BUn uO) (rest := List.drop 4 (fl BUn [])) (by kernel_rfl) (fun i => SUn nets order ts b a (undR nets order ts b a i.1) i.1) (fun i => nets.length - i.1) ⟨0, Nat.zero_le _⟩ (fun _ => rfl) ?_
  rintro ⟨i, hi⟩
  have hb := undR_bd h b a i hi
  by_cases hlt : i < nets.length
  · have en : undR nets order ts b a (i + 1) = undR nets order ts b a i + if ts.getD i 0 = a then tapR nets order ts b i (nets.getD i (0, [])).2.length else 0 := rfl
    have hlen := h5 _ (getN_mem hlt)
    refine GoalL.st (s := SUn nets order ts b a (undR nets order ts b a i) i) known mixed hS 2 _ (un_row nets order ts b a _ i (by omega)) (by kernel_rfl) ?_
    refine goalL_blk (id := 1) (c := cat BUn uB) (rest := List.drop 3 (fl BUn uO)) (by kernel_rfl) ?_
    by_cases ha : ts.getD i 0 = a
    · rw [if_pos ha] at en
      refine GoalL.st (s := SUn nets order ts b a (undR nets order ts b a i) i) known mixed hS 3 _ (un_in nets order ts b a _ i (by omega) ha) (by kernel_rfl) ?_
      rw [show SUk nets order ts b a (undR nets order ts b a i) i 0 = SUk nets order ts b a (undR nets order ts b a i + tapR nets order ts b i 0) i 0 from by rw [show tapR nets order ts b i 0 = 0 from rfl, Int.add_zero]]
      refine GoalL.loop (ι := { k : Nat // k ≤ (nets.getD i (0, [])).2.length }) (id := 2) (b := cat BUn uK) (rest := List.drop 4 (fl BUn uB)) (by kernel_rfl) (fun k => SUk nets order ts b a (undR nets order ts b a i + tapR nets order ts b i k.1) i k.1) (fun k => (nets.getD i (0, [])).2.length - k.1) ⟨0, Nat.zero_le _⟩ (fun _ => rfl) ?_
      rintro ⟨k, hk⟩
      have hc := tapR_bd order ts h1 b i k
      by_cases hlk : k < (nets.getD i (0, [])).2.length
      · have ho := ov_bd nets order ts b (Bus.pos order ((nets.getD i (0, [])).2.getD k 0)) nets.length
        refine GoalL.all (s := SUk nets order ts b a (undR nets order ts b a i + tapR nets order ts b i k) i k) known mixed hS _ (un_add nets order ts b a _ i k hlt (by omega) hlk (by omega) hpre ⟨by omega, by omega⟩ (by omega)) (by kernel_rfl) ?_
        have e2 : undR nets order ts b a i + tapR nets order ts b i (k + 1) = undR nets order ts b a i + tapR nets order ts b i k + ovR nets order ts b (Bus.pos order ((nets.getD i (0, [])).2.getD k 0)) nets.length := (Int.add_assoc _ _ _).symm
        exact ⟨⟨k + 1, hlk⟩, by show (nets.getD i (0, [])).2.length - (k + 1) < (nets.getD i (0, [])).2.length - k; omega, by show _ = (SUk nets order ts b a (undR nets order ts b a i + tapR nets order ts b i (k + 1)) i (k + 1)).T; rw [e2], by show _ = (SUk nets order ts b a (undR nets order ts b a i + tapR nets order ts b i (k + 1)) i (k + 1)).H; rw [e2]⟩
      · refine GoalL.all (s := SUk nets order ts b a (undR nets order ts b a i + tapR nets order ts b i k) i k) known mixed hS _ (un_end nets order ts b a _ i k hlt (by omega)) (by kernel_rfl) ?_
        refine onN_exit (inB_exit ?_)
        obtain rfl : k = (nets.getD i (0, [])).2.length := by omega
        refine goalL_nil uB_end ?_
        refine GoalL.all (s := SUn nets order ts b a (undR nets order ts b a i + tapR nets order ts b i (nets.getD i (0, [])).2.length) i) known mixed hS _ (un_next nets order ts b a _ i (by omega)) (by kernel_rfl) ?_
        exact ⟨⟨i + 1, hlt⟩, by simp; omega, by show _ = (SUn nets order ts b a (undR nets order ts b a (i + 1)) (i + 1)).T; rw [en], by show _ = (SUn nets order ts b a (undR nets order ts b a (i + 1)) (i + 1)).H; rw [en]⟩
    · rw [if_neg ha, Int.add_zero] at en
      refine GoalL.st (s := SUn nets order ts b a (undR nets order ts b a i) i) known mixed hS 2 _ (un_skip nets order ts b a _ i (by omega) ha) (by kernel_rfl) ?_
      refine onN_exit (inB_exit ?_)
      refine GoalL.all (s := SUn nets order ts b a (undR nets order ts b a i) i) known mixed hS _ (un_next nets order ts b a _ i (by omega)) (by kernel_rfl) ?_
      exact ⟨⟨i + 1, hlt⟩, by simp; omega, by show _ = (SUn nets order ts b a (undR nets order ts b a (i + 1)) (i + 1)).T; rw [en], by show _ = (SUn nets order ts b a (undR nets order ts b a (i + 1)) (i + 1)).H; rw [en]⟩
  · refine GoalL.st (s := SUn nets order ts b a (undR nets order ts b a i) i) known mixed hS 2 _ (un_stop nets order ts b a _ i (by omega)) (by kernel_rfl) ?_
    refine onN_exit (onN_exit (inB_exit ?_))
    obtain rfl : i = nets.length := by omega
    exact GoalL.allRet (s := SUn nets order ts b a (undR nets order ts b a nets.length) nets.length) known mixed hS _ (un_ret nets order ts b a _ _) fun T H h => h
theorem cUnder_ok : cUnder.Ok Tryz.prog := fun ⟨nets, ⟨order, ts⟩, b, a, _⟩ h => under_holds nets order ts b a h
theorem used_holds (order ts : List Int) (hl : ts.length ≤ 1000000) : Holds Tryz.prog true 56 [yv order ts] (lv (usedR ts 64)) := by
  have hS := one_ok cIn_ok
  refine holds_fl (c := BUs) Tryz.func56 rfl rfl fun w F => ?_
  refine GoalL.to known mixed hS 3 _ (us_start order ts) (by kernel_rfl) ?_
  refine GoalL.loop (ι := { t : Nat // t ≤ 64 }) (id := 0) (b := cat BUs [1,1,0,1,0,0]) (rest := List.drop 4 (fl BUs [])) (by kernel_rfl) (fun t => SUs order ts (usedR ts t.1) t.1) (fun t => 64 - t.1) ⟨0, Nat.zero_le _⟩ (fun _ => rfl) ?_
  rintro ⟨t, ht⟩
  have hul := used_len ts t
  by_cases hlt : t < 64
  · by_cases hm : (t : Int) ∈ ts
    · refine GoalL.all (s := SUs order ts (usedR ts t) t) known mixed hS _ (us_add order ts _ t (by omega) hl hm (by omega) (by omega) (by simp) (cap_snoc _ _)) (by kernel_rfl) ?_
      have e : usedR ts (t + 1) = usedR ts t ++ [(t : Int)] := by rw [usedR, if_pos hm]
      exact ⟨⟨t + 1, hlt⟩, by simp; omega, by show _ = (SUs order ts (usedR ts (t + 1)) (t + 1)).T; rw [e], by show _ = (SUs order ts (usedR ts (t + 1)) (t + 1)).H; rw [e]⟩
    · refine GoalL.all (s := SUs order ts (usedR ts t) t) known mixed hS _ (us_no order ts _ t (by omega) hl hm (by omega)) (by kernel_rfl) ?_
      have e : usedR ts (t + 1) = usedR ts t := by rw [usedR, if_neg hm]
      exact ⟨⟨t + 1, hlt⟩, by simp; omega, by show _ = (SUs order ts (usedR ts (t + 1)) (t + 1)).T; rw [e], by show _ = (SUs order ts (usedR ts (t + 1)) (t + 1)).H; rw [e]⟩
  · refine GoalL.all (s := SUs order ts (usedR ts t) t) known mixed hS _ (us_end order ts _ t (by omega)) (by kernel_rfl) ?_
    refine onN_exit (inB_exit ?_)
    obtain rfl : t = 64 := by omega
    exact GoalL.allRet (s := SUs order ts (usedR ts 64) 64) known mixed hS _ (us_ret order ts _ _ (lst_back _) (own_back _ _) (by simp)) fun T H h => h
theorem cUsed_ok : cUsed.Ok Tryz.prog := fun ⟨⟨order, ts⟩, _⟩ h => used_holds order ts (of_decide_eq_true h)
theorem cr_ok : CallOk Tryz.prog (gS crCs) := ctrs_ok fun c hc => by
  simp only [List.mem_cons, List.not_mem_nil, or_false] at hc
  rcases hc with rfl | rfl
  · exact cUsed_ok
  · exact cUnder_ok
theorem crB_end : List.drop 2 (fl BCr cB) = [] := by kernel_rfl
theorem cr_rowbd {nets : List (Int × List Int)} {order ts : List Int} (h : okCr nets order ts = true) (u : List Int) (i k : Nat) : 0 ≤ crsRow nets order ts u i k ∧ crsRow nets order ts u i k ≤ k * 4096000 := by
  have hn := (okCr_iff h).1
  refine sm_bd (L := 4096000) fun j _ => ?_
  have h1 := undR_bd h (u.getD j 0) (u.getD i 0) nets.length (Nat.le_refl _)
  have h2 := undR_bd h (u.getD i 0) (u.getD j 0) nets.length (Nat.le_refl _)
  omega
theorem cr_bd {nets : List (Int × List Int)} {order ts : List Int} (h : okCr nets order ts = true) (u : List Int) (i : Nat) (hi : i ≤ 64) : 0 ≤ crsR nets order ts u i ∧ crsR nets order ts u i ≤ i * 262144000 := by
  refine sm_bd (L := 262144000) fun j hj => ?_
  have := cr_rowbd h u j j
  omega
theorem cr_holds (nets : List (Int × List Int)) (order ts : List Int) (h : okCr nets order ts = true) : Holds Tryz.prog true 20 [nv nets, yv order ts] (iv (crsR nets order ts (usedR ts 64) (usedR ts 64).length)) := by
  obtain ⟨h1, h2, h3, h4, h5⟩ := okCr_iff h
  have hS := cr_ok
  refine holds_fl (c := BCr) Tryz.func20 rfl rfl fun w F => ?_
  refine GoalL.to known mixed hS 4 _ (cr_start nets order ts (by omega)) (by kernel_rfl) ?_
  have hul := used_len ts 64
  generalize usedR ts 64 = u at *
  refine GoalL.loop (ι := { i : Nat // i ≤ u.length }) (id := 0) (b := cat BCr cO) (rest := List.drop 5 (fl BCr [])) (by kernel_rfl) (fun i => Scr nets order ts u (crsR nets order ts u i.1) i.1) (fun i => u.length - i.1) ⟨0, Nat.zero_le _⟩ (fun _ => rfl) ?_
  rintro ⟨i, hi⟩
  have hb := cr_bd h u i (by omega)
  by_cases hlt : i < u.length
  · refine GoalL.st (s := Scr nets order ts u (crsR nets order ts u i) i) known mixed hS 2 _ (cr_row nets order ts u _ i (by omega)) (by kernel_rfl) ?_
    refine goalL_blk (id := 1) (c := cat BCr cB) (rest := List.drop 3 (fl BCr cO)) (by kernel_rfl) ?_
    refine GoalL.st (s := Scr nets order ts u (crsR nets order ts u i) i) known mixed hS 1 _ (cr_in nets order ts u _ i) (by kernel_rfl) ?_
    rw [show Scrk nets order ts u (crsR nets order ts u i) i 0 = Scrk nets order ts u (crsR nets order ts u i + crsRow nets order ts u i 0) i 0 from by rw [show crsRow nets order ts u i 0 = 0 from rfl, Int.add_zero]]
    refine GoalL.loop (ι := { k : Nat // k ≤ i }) (id := 2) (b := cat BCr cK) (rest := List.drop 2 (fl BCr cB)) (by kernel_rfl) (fun k => Scrk nets order ts u (crsR nets order ts u i + crsRow nets order ts u i k.1) i k.1) (fun k => i - k.1) ⟨0, Nat.zero_le _⟩ (fun _ => rfl) ?_
    rintro ⟨k, hk⟩
    have hr := cr_rowbd h u i k
    by_cases hlk : k < i
    · have g1 := undR_bd h (u.getD k 0) (u.getD i 0) nets.length (Nat.le_refl _)
      have g2 := undR_bd h (u.getD i 0) (u.getD k 0) nets.length (Nat.le_refl _)
      refine GoalL.all (s := Scrk nets order ts u (crsR nets order ts u i + crsRow nets order ts u i k) i k) known mixed hS _ (cr_add nets order ts u _ i k (by omega) (by omega) hlt h (by omega) (by omega)) (by kernel_rfl) ?_
      have e2 : crsR nets order ts u i + crsRow nets order ts u i (k + 1) = crsR nets order ts u i + crsRow nets order ts u i k + undR nets order ts (u.getD k 0) (u.getD i 0) nets.length := (Int.add_assoc _ _ _).symm
      exact ⟨⟨k + 1, hlk⟩, by simp; omega, by show _ = (Scrk nets order ts u (crsR nets order ts u i + crsRow nets order ts u i (k + 1)) i (k + 1)).T; rw [e2], by show _ = (Scrk nets order ts u (crsR nets order ts u i + crsRow nets order ts u i (k + 1)) i (k + 1)).H; rw [e2]⟩
    · refine GoalL.all (s := Scrk nets order ts u (crsR nets order ts u i + crsRow nets order ts u i k) i k) known mixed hS _ (cr_end nets order ts u _ i k (by omega)) (by kernel_rfl) ?_
      refine onN_exit (inB_exit ?_)
      obtain rfl : k = i := by omega
      refine goalL_nil crB_end ?_
      refine GoalL.all (s := Scr nets order ts u (crsR nets order ts u k + crsRow nets order ts u k k) k) known mixed hS _ (cr_next nets order ts u _ k (by omega)) (by kernel_rfl) ?_
      exact ⟨⟨k + 1, hlt⟩, by simp; omega, rfl, rfl⟩
  · refine GoalL.st (s := Scr nets order ts u (crsR nets order ts u i) i) known mixed hS 2 _ (cr_stop nets order ts u _ i (by omega)) (by kernel_rfl) ?_
    refine onN_exit (onN_exit (inB_exit ?_))
    obtain rfl : i = u.length := by omega
    exact GoalL.allRet (s := Scr nets order ts u (crsR nets order ts u u.length) u.length) known mixed hS _ (cr_ret nets order ts u _ _) fun T H h => h
end
end Go.Proofs.YtbldpojkpmafpaaGreatDoor

/- Package bus: what Bound returns. -/
namespace Go.Proofs.YtbldpojkpmafpaaGreatDoor
open Go.RowKit Sv
set_option maxRecDepth 100000
set_option linter.unusedVariables false
noncomputable section
theorem tab_at {nets : List (Int × List Int)} {order ts : List Int} {i k : Nat} (hi : i < (trkU ts).length) (hk : k < (trkU ts).length) : ((tabOf nets order ts).getD i []).getD k 0 = tabF nets order ts ((trkU ts).getD i 0) ((trkU ts).getD k 0) := by
  unfold tabOf
  simp only [List.getD_eq_getElem?_getD, List.getElem?_map, List.getElem?_eq_getElem hi, Option.map_some, Option.getD_some, List.getElem?_eq_getElem hk]
theorem tab_row {nets : List (Int × List Int)} {order ts : List Int} {i : Nat} (hi : i < (trkU ts).length) : ((tabOf nets order ts).getD i []).length = (trkU ts).length := by
  unfold tabOf
  simp only [List.getD_eq_getElem?_getD, List.getElem?_map, List.getElem?_eq_getElem hi, Option.map_some, Option.getD_some, List.length_map]
theorem tabF_bd {nets : List (Int × List Int)} {n : Int} {order : List Int} (hE : Bus.bothErr nets n order = 0) (ts : List Int) (a b : Int) : 0 ≤ tabF nets order ts a b ∧ tabF nets order ts a b ≤ 397312 := by
  obtain ⟨e1, e2⟩ := both_iff.1 hE
  obtain ⟨n1, n97, l64, _⟩ := Bus.netsErr_zero e1
  have hT := taps_few (l := mkNets nets) (n := n) (by rw [mkNets_net]; exact e1) (Bus.atUp order order.length)
  have e : (mkNets nets).map NetAt.cols = nets.map Prod.snd := by
    have : (mkNets nets).map NetAt.cols = ((mkNets nets).map NetAt.net).map Prod.snd := by rw [List.map_map]; rfl
    rw [this, mkNets_net]
  rw [e] at hT
  have hxl := extsOf_len nets order
  unfold tabF tabI
  have h1 := isum_bd (fun t => tapI (extsOf nets order) ts t a b (extsOf nets order).length) 64 (fun t => by have := tap_bd (extsOf nets order) ts t a b (extsOf nets order).length; omega) (tapFrom (Bus.atUp order order.length) 0 (nets.map Prod.snd))
  have h2 : (tapFrom (Bus.atUp order order.length) 0 (nets.map Prod.snd)).length * 64 ≤ 6208 * 64 := Nat.mul_le_mul_right _ hT
  omega
end
end Go.Proofs.YtbldpojkpmafpaaGreatDoor

/- The best numbering of the tracks, in plain Lean. -/
namespace Go.Proofs.YtbldpojkpmafpaaGreatDoor
open Go.RowKit Sv
set_option linter.unusedVariables false
def trO (u ts to : List Int) : List Int := ts.map fun t => to.getD (u.idxOf t) 0
def arrRow (tab : List (List Int)) (to : List Int) (a b : Nat) : Int := sm (fun b => if to.getD a 0 < to.getD b 0 then (tab.getD a []).getD b 0 else 0) b
def arrS (tab : List (List Int)) (to : List Int) (m a : Nat) : Int := sm (fun a => arrRow tab to a m) a
theorem sm_pick (f : Nat → Int) (a0 : Nat) : ∀ n, a0 < n → sm (fun a => if a = a0 then f a else 0) n = f a0
  | 0, h => absurd h (Nat.not_lt_zero _)
  | n + 1, h => by
    rw [sm]
    by_cases e : n = a0
    · subst e
      rw [if_pos rfl]
      have : sm (fun a => if a = n then f a else 0) n = 0 := by
        rw [sm_congr (g := fun _ => 0) fun k hk => if_neg (by omega), sm_zero]
      omega
    · rw [if_neg e, sm_pick f a0 n (by omega)]; omega
theorem sm_two (g : Nat → Nat → Int) (a0 b0 n m : Nat) (ha : a0 < n) (hb : b0 < m) : sm (fun a => sm (fun b => if a = a0 ∧ b = b0 then g a b else 0) m) n = g a0 b0 := by
  have e : ∀ a, sm (fun b => if a = a0 ∧ b = b0 then g a b else 0) m = if a = a0 then g a b0 else 0 := fun a => by
    by_cases h : a = a0
    · rw [if_pos h, ← sm_pick (fun b => g a b) b0 m hb]
      exact sm_congr fun b _ => by simp [h]
    · rw [if_neg h, sm_congr (g := fun _ => 0) fun b _ => if_neg fun e => h e.1, sm_zero]
  rw [sm_congr fun a _ => e a, sm_pick (fun a => g a b0) a0 n ha]
theorem idx_of {u : List Int} (hu : u.Nodup) {t : Int} (ht : t ∈ u) : u.idxOf t < u.length ∧ u.getD (u.idxOf t) 0 = t ∧ ∀ a, a < u.length → (t = u.getD a 0 ↔ a = u.idxOf t) := by
  have h1 : u.idxOf t < u.length := List.idxOf_lt_length_iff.2 ht
  have h2 : u.getD (u.idxOf t) 0 = t := by rw [getD_lt h1]; exact List.getElem_idxOf h1
  refine ⟨h1, h2, fun a ha => ⟨fun e => ?_, fun e => by rw [e, h2]⟩⟩
  rw [← h2, getD_lt h1, getD_lt ha] at e
  exact ((List.getElem_inj hu).1 e).symm
theorem trO_at {u ts to : List Int} {k : Nat} (hk : k < ts.length) : (trO u ts to).getD k 0 = to.getD (u.idxOf (ts.getD k 0)) 0 := by
  unfold trO
  rw [getD_lt (by rw [List.length_map]; exact hk), List.getElem_map, getD_lt hk]
theorem trO_len (u ts to : List Int) : (trO u ts to).length = ts.length := by unfold trO; rw [List.length_map]
theorem ord_bd {m : Nat} {to : List Int} (h : IsOrd m to) {i : Nat} (hi : i < m) : 0 ≤ to.getD i 0 ∧ to.getD i 0 < m := by
  have h1 := h.len
  rw [getD_lt (by omega)]
  exact h.bd _ (List.getElem_mem _)
section
variable {nets : List (Int × List Int)} {n : Int} {order ts : List Int}
theorem crossSum_sm (xs : List (Int × Int)) (ts : List Int) (taps : List (Nat × Int)) :
    crossSum xs ts taps = sm (fun x => sm (fun k => if ts.getD k 0 < ts.getD (taps.getD x (0, 0)).1 0 ∧ covB xs k (taps.getD x (0, 0)).2 = true then 1 else 0) xs.length) taps.length := by
  unfold crossSum
  rw [← taps_sm]
  exact sm_congr fun x _ => cross_up_sm _ _ _ _ _
theorem tabI_sm (xs : List (Int × Int)) (ts : List Int) (taps : List (Nat × Int)) (a b : Int) : tabI xs ts taps a b = sm (fun x => sm (hitI xs ts (taps.getD x (0, 0)) a b) xs.length) taps.length := by
  unfold tabI
  rw [← taps_sm]
  rfl
theorem arr_sum (hE : Bus.bothErr nets n order = 0) (hl : ts.length = nets.length) {to : List Int} (ho : IsOrd (trkU ts).length to) :
    arrS (tabOf nets order ts) to (trkU ts).length (trkU ts).length = crossOf nets order (trO (trkU ts) ts to) manyI := by
  have hu := (trkU_ok ts).1
  have hn := asc_nodup hu
  have hm : ∀ k, k < ts.length → ts.getD k 0 ∈ trkU ts := fun k hk => ((trkU_ok ts).2 _).2 (by rw [getD_lt hk]; exact List.getElem_mem _)
  rw [show manyI = 1099511627776 from rfl, cross_sum hE, crossSum_sm]
  have hxl := extsOf_len nets order
  have htap : ∀ x, x < (tapFrom (Bus.atUp order order.length) 0 (nets.map Prod.snd)).length → ((tapFrom (Bus.atUp order order.length) 0 (nets.map Prod.snd)).getD x (0, 0)).1 < nets.length := fun x hx => by
    have := tap_ok (Bus.atUp order order.length) (nets.map Prod.snd) x (by omega)
    simpa using this
  generalize hu0 : trkU ts = u at *
  unfold arrS arrRow
  have e1 : ∀ a, a < u.length → sm (fun b => if to.getD a 0 < to.getD b 0 then ((tabOf nets order ts).getD a []).getD b 0 else 0) u.length =
      sm (fun b => sm (fun x => sm (fun k => if to.getD a 0 < to.getD b 0 then hitI (extsOf nets order) ts ((tapFrom (Bus.atUp order order.length) 0 (nets.map Prod.snd)).getD x (0, 0)) (u.getD a 0) (u.getD b 0) k else 0) (extsOf nets order).length) (tapFrom (Bus.atUp order order.length) 0 (nets.map Prod.snd)).length) u.length := fun a ha => by
    refine sm_congr fun b hb => ?_
    have ht := tab_at (nets := nets) (order := order) (ts := ts) (i := a) (k := b) (by rw [hu0]; exact ha) (by rw [hu0]; exact hb)
    rw [ht, hu0]
    unfold tabF
    rw [tabI_sm, ← sm_ite]
    exact sm_congr fun x _ => (sm_ite _ _ _).symm
  rw [sm_congr e1]
  -- the taps and the nets outside, the numbers inside
  have e2 : ∀ a, sm (fun b => sm (fun x => sm (fun k => if to.getD a 0 < to.getD b 0 then hitI (extsOf nets order) ts ((tapFrom (Bus.atUp order order.length) 0 (nets.map Prod.snd)).getD x (0, 0)) (u.getD a 0) (u.getD b 0) k else 0) (extsOf nets order).length) (tapFrom (Bus.atUp order order.length) 0 (nets.map Prod.snd)).length) u.length =
      sm (fun x => sm (fun k => sm (fun b => if to.getD a 0 < to.getD b 0 then hitI (extsOf nets order) ts ((tapFrom (Bus.atUp order order.length) 0 (nets.map Prod.snd)).getD x (0, 0)) (u.getD a 0) (u.getD b 0) k else 0) u.length) (extsOf nets order).length) (tapFrom (Bus.atUp order order.length) 0 (nets.map Prod.snd)).length := fun a => by
    rw [sm_swap]
    exact sm_congr fun x _ => sm_swap _ _ _
  rw [sm_congr fun a _ => e2 a, sm_swap]
  refine sm_congr fun x hx => ?_
  rw [sm_swap]
  refine sm_congr fun k hk => ?_
  have hi := htap x hx
  generalize (tapFrom (Bus.atUp order order.length) 0 (nets.map Prod.snd)).getD x (0, 0) = t at *
  obtain ⟨i, p⟩ := t
  have hi : i < nets.length := hi
  have hk2 : k < ts.length := by omega
  have hi2 : i < ts.length := by omega
  obtain ⟨k1, k2, k3⟩ := idx_of hn (hm k hk2)
  obtain ⟨i1, i2, i3⟩ := idx_of hn (hm i hi2)
  have e3 : ∀ a, a < u.length → sm (fun b => if to.getD a 0 < to.getD b 0 then hitI (extsOf nets order) ts (i, p) (u.getD a 0) (u.getD b 0) k else 0) u.length =
      sm (fun b => if a = u.idxOf (ts.getD k 0) ∧ b = u.idxOf (ts.getD i 0) then (if to.getD a 0 < to.getD b 0 ∧ covB (extsOf nets order) k p = true then 1 else 0) else 0) u.length := fun a ha => by
    refine sm_congr fun b hb => ?_
    unfold hitI
    by_cases ea : a = u.idxOf (ts.getD k 0)
    · by_cases eb : b = u.idxOf (ts.getD i 0)
      · rw [if_pos (show a = u.idxOf (ts.getD k 0) ∧ b = u.idxOf (ts.getD i 0) from ⟨ea, eb⟩)]
        have h1 := (k3 a ha).2 ea
        have h2 := (i3 b hb).2 eb
        by_cases hlt : to.getD a 0 < to.getD b 0
        · rw [if_pos hlt]
          have hne : ts.getD k 0 ≠ ts.getD i 0 := fun e => by
            rw [← e, ← ea] at eb
            rw [eb] at hlt
            omega
          by_cases hc : covB (extsOf nets order) k p = true
          · rw [if_pos ⟨h1, h2, hne, hc⟩, if_pos ⟨hlt, hc⟩]
          · rw [if_neg (fun h => hc h.2.2.2), if_neg (fun h => hc h.2)]
        · rw [if_neg hlt, if_neg (fun h => hlt h.1)]
      · rw [if_neg (show ¬ (a = u.idxOf (ts.getD k 0) ∧ b = u.idxOf (ts.getD i 0)) from fun h => eb h.2)]
        have hz : ¬ (ts.getD k 0 = u.getD a 0 ∧ ts.getD (i, p).1 0 = u.getD b 0 ∧ ts.getD k 0 ≠ ts.getD (i, p).1 0 ∧ covB (extsOf nets order) k (i, p).2 = true) := fun h => eb ((i3 b hb).1 h.2.1)
        simp only [if_neg hz]
        split <;> rfl
    · rw [if_neg (show ¬ (a = u.idxOf (ts.getD k 0) ∧ b = u.idxOf (ts.getD i 0)) from fun h => ea h.1)]
      have hz : ¬ (ts.getD k 0 = u.getD a 0 ∧ ts.getD (i, p).1 0 = u.getD b 0 ∧ ts.getD k 0 ≠ ts.getD (i, p).1 0 ∧ covB (extsOf nets order) k (i, p).2 = true) := fun h => ea ((k3 a ha).1 h.1)
      simp only [if_neg hz]
      split <;> rfl
  rw [sm_congr e3, sm_two (fun a b => if to.getD a 0 < to.getD b 0 ∧ covB (extsOf nets order) k p = true then 1 else 0) _ _ _ _ k1 i1]
  show _ = if (trO u ts to).getD k 0 < (trO u ts to).getD i 0 ∧ covB (extsOf nets order) k p = true then 1 else 0
  rw [trO_at hk2, trO_at hi2]
def arrKey (nets : List (Int × List Int)) (order ts : List Int) (to : List Int) : List Int := crossOf nets order (trO (trkU ts) ts to) manyI :: trO (trkU ts) ts to
def aLeast (nets : List (Int × List Int)) (order ts : List Int) : Option (List Int) → Int
  | none => manyI
  | some b => crossOf nets order (trO (trkU ts) ts b) manyI
def aBest (ts : List Int) : Option (List Int) → List Int
  | none => []
  | some b => trO (trkU ts) ts b
def bestA (nets : List (Int × List Int)) (order ts : List Int) : Option (List Int) := bestOf (arrKey nets order ts) lexB (ext (trkU ts).length (trkU ts).length [])
theorem bestA_some (nets : List (Int × List Int)) (order ts : List Int) : ∃ b, bestA nets order ts = some b ∧ IsOrd (trkU ts).length b := by
  rcases bestOf_mem (arrKey nets order ts) lexB (ext (trkU ts).length (trkU ts).length []) with ⟨h, _⟩ | ⟨b, h1, h2⟩
  · exact absurd h (ext_ne _)
  · exact ⟨b, h1, (ord_mem _ b).1 h2⟩
theorem lexB_cons {a b : Int} {l m : List Int} : lexB (a :: l) (b :: m) = true ↔ a < b ∨ a = b ∧ lexB l m = true := by
  show (if a = b then lexB l m else decide (a < b)) = true ↔ _
  by_cases e : a = b
  · rw [if_pos e]
    constructor
    · exact fun h => .inr ⟨e, h⟩
    · rintro (h | h)
      · omega
      · exact h.2
  · rw [if_neg e, decide_eq_true_eq]
    constructor
    · exact .inl
    · rintro (h | h)
      · exact h
      · exact absurd h.1 e
theorem arr_take (hE : Bus.bothErr nets n order = 0) {st : Option (List Int)} {to : List Int}
    (h : crossOf nets order (trO (trkU ts) ts to) manyI < aLeast nets order ts st ∨ crossOf nets order (trO (trkU ts) ts to) manyI = aLeast nets order ts st ∧ lexB (trO (trkU ts) ts to) (aBest ts st) = true) :
    bestStep (arrKey nets order ts) lexB st to = some to := by
  cases st with
  | none => rfl
  | some b =>
    show (if lexB (arrKey nets order ts to) (arrKey nets order ts b) = true then some to else some b) = some to
    exact if_pos (lexB_cons.2 h)
theorem arr_keep (hE : Bus.bothErr nets n order = 0) {st : Option (List Int)} {to : List Int}
    (h : ¬ (crossOf nets order (trO (trkU ts) ts to) manyI < aLeast nets order ts st ∨ crossOf nets order (trO (trkU ts) ts to) manyI = aLeast nets order ts st ∧ lexB (trO (trkU ts) ts to) (aBest ts st) = true)) :
    bestStep (arrKey nets order ts) lexB st to = st := by
  cases st with
  | none =>
    exfalso
    have hb := cross_bd hE (trO (trkU ts) ts to)
    refine h (.inl ?_)
    show _ < manyI
    exact Int.lt_of_le_of_lt hb.2 (by decide)
  | some b =>
    show (if lexB (arrKey nets order ts to) (arrKey nets order ts b) = true then some to else some b) = some b
    exact if_neg (fun h2 => h (lexB_cons.1 h2))
theorem pos_idx {u : List Int} {t : Int} (ht : t ∈ u) : Bus.pos u t = (u.idxOf t : Int) := by
  suffices h : ∀ (u : List Int) (k : Int), t ∈ u → Bus.posFrom k u t = k + (u.idxOf t : Int) by
    have := h u 0 ht
    unfold Bus.pos
    omega
  intro u
  induction u with
  | nil => intro k h; cases h
  | cons x r ih =>
    intro k h
    unfold Bus.posFrom
    by_cases e : x = t
    · rw [if_pos e, List.idxOf_cons, e]; simp
    · rw [if_neg e, ih (k + 1) ((List.mem_cons.1 h).resolve_left fun e2 => e e2.symm), List.idxOf_cons]
      have : (x == t) = false := by rw [beq_eq_false_iff_ne]; exact e
      rw [this]
      simp
      omega
theorem tr_mem (hE : Bus.bothErr nets n order = 0) (hl : ts.length = nets.length) {to : List Int} (ho : IsOrd (trkU ts).length to) : ∀ t ∈ trO (trkU ts) ts to, 0 ≤ t ∧ t < (trkU ts).length := fun t ht => by
  unfold trO at ht
  obtain ⟨x, hx, rfl⟩ := List.mem_map.1 ht
  have := (idx_of (asc_nodup (trkU_ok ts).1) (((trkU_ok ts).2 x).2 hx)).1
  exact ord_bd ho this
theorem ref_cross (hE : Bus.bothErr nets n order = 0) {ts : List Int} (hl : ts.length = nets.length) (h64 : ∀ t ∈ ts, 0 ≤ t ∧ t < 64) : crsR nets order ts (usedR ts 64) (usedR ts 64).length = crossOf nets order ts manyI :=
  (crs_same hE (used_asc ts 64) fun k hk => by
    have hk2 : k < ts.length := by omega
    have hm : ts.getD k 0 ∈ ts := by rw [getD_lt hk2]; exact List.getElem_mem _
    have := h64 _ hm
    exact (used_mem ts _ 64).2 ⟨hm, this.1, by omega⟩).symm
end
end Go.Proofs.YtbldpojkpmafpaaGreatDoor

/- The runner: a slice of cells that the run has filled, and writes no more, is taken as plain data. -/
namespace Go.Proofs.YtbldpojkpmafpaaGreatDoor
open Go.RowKit Sv
section
variable {X : Ext} {P : Program} {w0 : World} {F : Env} {n : Nat} {T : Tr AV} {H : AHeap} {a : Act} {w : World} {B : Nat} {ρ ρ' : Env}
theorem Sat.freezeSlice {i s n' : Nat} {e : TypeId} {cs : List AV} {t : Ty} {xs : List t.den} {cap : Cap} (hs' : T.get s = some (.slice i 0 n' cap)) (hi : H.get i = some (.cells e cs true false false)) (hr : t.readL n' (cut cs 0 (n' * t.size)) = some xs) (hle : Nat.ble (n' * t.size) cs.length = true)
    (hs : SatX X P w0 F n T H a w) : SatX X P w0 F n (T.set s (some (.lst false t xs))) (H.drop i) a w := by
  obtain ⟨⟨ρ, hAR, hnone, hfz, hkp⟩, hb, hd⟩ := hs
  have hdrop : ∀ {ρ' : Env}, Le ρ ρ' → (∀ i, ρ' i = ρ i) → (∀ b A, ρ'.fz b = some A → (∃ e fr, w.heap[b]? = some (.cells A e fr)) ∧ ∀ k kk c, k ≠ i → H.get k = some kk → ρ k = some (b, c) → kk.isRo = true) → HDen P w0.heap.size ρ' (H.drop i) w := fun {ρ'} hl ha hf => by
    have key : ∀ k kk, (H.drop i).get k = some kk → k ≠ i ∧ H.get k = some kk := fun k kk h => by
      rw [AHeap.get_drop] at h
      split at h
      · cases h
      · rename_i h2; exact ⟨fun h => h2 h.symm, h⟩
    refine ⟨fun k kk h => ?_, fun i1 i2 k1 k2 b c1 c2 g1 g2 g3 g4 => ?_, fun k kk h => hAR.H.lt k kk (key k kk h).2, hAR.H.base, fun b A h => ⟨(hf b A h).1, fun k kk c g1 g2 => ?_⟩⟩
    · obtain ⟨b, c, o, e1, e2, e3, e4⟩ := hAR.H.blk k kk (key k kk h).2
      exact ⟨b, c, o, by rw [ha]; exact e1, e2, e3.mono hl, e4⟩
    · rw [ha] at g3 g4
      exact hAR.H.inj _ _ _ _ _ _ _ (key _ _ g1).2 (key _ _ g2).2 g3 g4
    · rw [ha] at g2
      exact (hf b A h).2 k kk c (key k kk g1).1 (key k kk g1).2 g2
  have hset : ∀ {ρ' : Env}, Le ρ ρ' → (∀ y, Den ρ (.slice i 0 n' cap) y → Den ρ' (.lst false t xs) y) → TDen ρ' (T.set s (some (.lst false t xs))) n a.tmps := fun {ρ'} hl hv => ⟨hAR.T.size, fun k => by
    rw [Tr.get_set]
    have hk := hAR.T.get k
    by_cases hks : s = k
    · subst hks
      rw [if_pos rfl]
      rw [hs'] at hk
      exact hv _ hk
    · rw [if_neg hks]; exact hk.mono hl⟩
  obtain ⟨b, c, o, hib, _, _, hB⟩ := hAR.H.blk i _ hi
  obtain ⟨zs, fz0, z1, z2, z3, z4, _, z6⟩ := cells_at hAR.H hi hib
  obtain rfl := z2 rfl
  have hlen := Nat.le_of_ble_eq_true hle
  have hcut := (z3.drop 0).take (n' * t.size)
  obtain ⟨hfd, hn⟩ := Ty.readL_den hr hcut
  have hfl := t.flat_len xs
  have hnf : ρ.fz b = none := by
    cases hz : ρ.fz b with
    | none => rfl
    | some A =>
      have := (hAR.H.fz b A hz).2 i _ c hi hib
      cases this
  clear hle
  have hle : Le ρ ⟨ρ.at', fun q => if q = b then some zs else ρ.fz q⟩ := ⟨fun _ _ h => h, fun q A h => by
    show (if q = b then some zs else ρ.fz q) = some A
    by_cases hq : q = b
    · subst hq; rw [hnf] at h; cases h
    · rw [if_neg hq]; exact h⟩
  refine ⟨⟨⟨ρ.at', fun q => if q = b then some zs else ρ.fz q⟩, ⟨hset hle fun y hy => ?_, hdrop hle (fun _ => rfl) (fun q A h => ?_), hAR.G.mono hle⟩, hnone, fun q A h => ?_, hkp.re hle (Nat.le_refl _) (fun _ hh => own_drop (fun _ => rfl) hh) fun q A h => by
    have h : (if q = b then some zs else ρ.fz q) = some A := h
    by_cases hq : q = b
    · exact .inr ⟨i, _, c, hi, rfl, hq ▸ hib⟩
    · rw [if_neg hq] at h; exact .inl h⟩, hb, hd⟩
  · obtain ⟨b', c', k, g1, _, g3, rfl⟩ := hy.slice_inv
    rw [hib] at g1
    cases g1
    subst hn
    refine .lst (A := zs) (b := b) (off := 0) (by show (if b = b then some zs else _) = _; rw [if_pos rfl]) (by rw [hfl]; omega) rfl ?_ g3 (fun e => by cases e)
    have e2 : ((zs.toList.take cs.length).drop 0).take (xs.length * t.size) = (zs.toList.drop 0).take (t.flat xs).length := by
      rw [hfl, List.drop_zero, List.drop_zero, List.take_take, Nat.min_eq_left (by omega)]
    rw [← e2]
    exact hfd.mono hle
  · have h : (if q = b then some zs else ρ.fz q) = some A := h
    by_cases hq : q = b
    · subst hq
      rw [if_pos rfl] at h
      cases h
      exact ⟨⟨_, _, z1⟩, fun k kk c' hne g1 g2 => absurd (hAR.H.inj k i kk _ q c' c g1 hi g2 hib) hne⟩
    · rw [if_neg hq] at h
      exact ⟨(hAR.H.fz q A h).1, fun k kk c _ g1 g2 => (hAR.H.fz q A h).2 k kk c g1 g2⟩
  · have h : (if q = b then some zs else ρ.fz q) = some A := h
    by_cases hq : q = b
    · subst hq; exact .inr (hB rfl)
    · rw [if_neg hq] at h; exact hfz q A h
theorem GoalL.freezeSlice {Q : Exit → Tr AV → AHeap → Prop} {l : List Code} (hl : l ≠ []) {i s n' : Nat} {e : TypeId} {cs : List AV} {t : Ty} {xs : List t.den} {cap : Cap} (hs' : T.get s = some (.slice i 0 n' cap)) (hi : H.get i = some (.cells e cs true false false)) (hr : t.readL n' (cut cs 0 (n' * t.size)) = some xs) (hle : Nat.ble (n' * t.size) cs.length = true)
    (hg : GoalLX X P w0 F n l (T.set s (some (.lst false t xs))) (H.drop i) Q) : GoalLX X P w0 F n l T H Q := by
  cases l with
  | nil => exact absurd rfl hl
  | cons c l => exact fun a w hs k => hg a w (Sat.freezeSlice hs' hi hr hle hs) k
end
end Go.Proofs.YtbldpojkpmafpaaGreatDoor
