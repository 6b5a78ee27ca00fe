/- The reference of package bus: Tracks whole; Tracks and Clique as contracts. -/
import Derived.Test.YtkjjnnbbicoljaaGreatDoorVRef4
import Derived.Test.YtkjjnnbbicoljaaGreatDoorBusTracks0
namespace Go.Proofs.YtkjjnnbbicoljaaGreatDoor
open Go.RowKit Sv
set_option maxRecDepth 100000
set_option linter.unusedVariables false
noncomputable section
theorem tr_holds (nets : List (Int × List Int)) (order : List Int) (hn : nets.length ≤ 500) (ho : order.length ≤ 1000) (hg : ∀ x ∈ nets, x.2.length ≤ 140737488355328) :
    Holds Tryz.prog true 18 [nv nets, lv order] (.tuple [lv (rI nets order order.length 0).1, iv (cntUp (rI nets order order.length 0).1 nets.length)]) := by
  have hS := trk_ok
  have hcov : ∀ i, i < nets.length → (decide (order.length ≤ 1000) && decide ((nets.getD i (0, [])).2.length ≤ 140737488355328)) = true := fun i hi => by
    rw [decide_eq_true ho, decide_eq_true (hg _ (getN_mem hi))]; rfl
  refine holds_fl (c := BTr) Tryz.func18 rfl rfl fun w F => ?_
  refine GoalL.to known mixed hS 4 _ (tr_start nets order (by omega) (by simp) (by simp) (flat_zero _)) (by kernel_rfl) ?_
  refine GoalL.loop (ι := { p : Nat // p ≤ order.length }) (id := 0) (b := cat BTr pO) (rest := List.drop 5 (fl BTr [])) (by kernel_rfl) (fun p => STrP nets order (rI nets order p.1 0).1 (toI (rI nets order p.1 0).2) p.1) (fun p => order.length - p.1) ⟨0, Nat.zero_le _⟩ (fun _ => rfl) ?_
  rintro ⟨p, hp⟩
  by_cases hlt : p < order.length
  · refine GoalL.st (s := STrP nets order (rI nets order p 0).1 (toI (rI nets order p 0).2) p) known mixed hS 2 _ (tr_row nets order _ _ p (by omega)) (by kernel_rfl) ?_
    refine goalL_blk (id := 1) (c := cat BTr pB) (rest := List.drop 3 (fl BTr pO)) (by kernel_rfl) ?_
    refine GoalL.st (s := STrP nets order (rI nets order p 0).1 (toI (rI nets order p 0).2) p) known mixed hS 1 _ (tr_inner nets order _ _ p) (by kernel_rfl) ?_
    refine GoalL.loop (ι := { i : Nat // i ≤ nets.length }) (id := 2) (b := cat BTr pI) (rest := List.drop 2 (fl BTr pB)) (by kernel_rfl) (fun i => STrI nets order (rI nets order p i.1).1 (toI (rI nets order p i.1).2) p i.1) (fun i => nets.length - i.1) ⟨0, Nat.zero_le _⟩ (fun _ => rfl) ?_
    rintro ⟨i, hi⟩
    have hF := far_all nets order p i hi
    by_cases hlt2 : i < nets.length
    · refine GoalL.st (s := STrI nets order (rI nets order p i).1 (toI (rI nets order p i).2) p i) known mixed hS 2 _ (tr_irow nets order _ _ p i (by omega)) (by kernel_rfl) ?_
      refine goalL_blk (id := 3) (c := cat BTr pN) (rest := List.drop 3 (fl BTr pI)) (by kernel_rfl) ?_
      by_cases hlow : lowR nets order i = (p : Int)
      · refine tr_net hn ho hg (by omega) hF hlt2 hlow ?_
        have e := rI_here nets order p i hlow
        have e' : refStep (mtR nets order) ((rI nets order p i).1, (rI nets order p i).2) i = rI nets order p (i + 1) := e.symm
        rw [e']
        refine GoalL.all (s := STrI nets order (rI nets order p (i + 1)).1 (toI (rI nets order p (i + 1)).2) p i) known mixed hS _ (tr_inext nets order _ _ p i (by omega)) (by kernel_rfl) ?_
        exact ⟨⟨i + 1, hlt2⟩, by simp; omega, rfl, rfl⟩
      · refine GoalL.st (s := STrI nets order (rI nets order p i).1 (toI (rI nets order p i).2) p i) known mixed hS 3 _ (tr_other nets order _ _ p i hlt2 (hcov i hlt2) hlow) (by kernel_rfl) ?_
        refine onN_exit (inB_exit ?_)
        refine GoalL.all (s := STrI nets order (rI nets order p i).1 (toI (rI nets order p i).2) p i) known mixed hS _ (tr_inext nets order _ _ p i (by omega)) (by kernel_rfl) ?_
        have e := rI_other nets order p i hlow
        exact ⟨⟨i + 1, hlt2⟩, by simp; omega, by show _ = (STrI nets order (rI nets order p (i + 1)).1 (toI (rI nets order p (i + 1)).2) p (i + 1)).T; rw [e], by show _ = (STrI nets order (rI nets order p (i + 1)).1 (toI (rI nets order p (i + 1)).2) p (i + 1)).H; rw [e]⟩
    · refine GoalL.st (s := STrI nets order (rI nets order p i).1 (toI (rI nets order p i).2) p i) known mixed hS 2 _ (tr_istop nets order _ _ p i (by omega)) (by kernel_rfl) ?_
      refine onN_exit (onN_exit (inB_exit ?_))
      refine goalL_nil pB_end ?_
      obtain rfl : i = nets.length := by omega
      refine GoalL.all (s := STrI nets order (rI nets order p nets.length).1 (toI (rI nets order p nets.length).2) p nets.length) known mixed hS _ (tr_next nets order _ _ p _ (by omega)) (by kernel_rfl) ?_
      have e := rI_next nets order p
      exact ⟨⟨p + 1, hlt⟩, by simp; omega, by show _ = (STrP nets order (rI nets order (p + 1) 0).1 (toI (rI nets order (p + 1) 0).2) (p + 1)).T; rw [e], by show _ = (STrP nets order (rI nets order (p + 1) 0).1 (toI (rI nets order (p + 1) 0).2) (p + 1)).H; rw [e]⟩
  · refine GoalL.st (s := STrP nets order (rI nets order p 0).1 (toI (rI nets order p 0).2) p) known mixed hS 2 _ (tr_stop nets order _ _ p (by omega)) (by kernel_rfl) ?_
    refine onN_exit (onN_exit (inB_exit ?_))
    obtain rfl : p = order.length := by omega
    have hl := (far_all nets order order.length 0 (Nat.zero_le _)).len
    refine GoalL.allRet (s := STrP nets order (rI nets order order.length 0).1 (toI (rI nets order order.length 0).2) order.length) known mixed hS _ (tr_ret nets order _ _ _ (own_back2 _ _) (by rw [← lst_back]; omega) (lst_back _) (own_back _ _) (by simp) (by rw [← lst_back])) fun T H h => ?_
    rw [hl] at h
    exact h
def okNets (nets : List (Int × List Int)) (order : List Int) : Bool := decide (nets.length ≤ 500) && (decide (order.length ≤ 1000) && nets.all fun x => decide (x.2.length ≤ 140737488355328))
theorem okNets_iff {nets : List (Int × List Int)} {order : List Int} (h : okNets nets order = true) : nets.length ≤ 500 ∧ order.length ≤ 1000 ∧ ∀ x ∈ nets, x.2.length ≤ 140737488355328 := by
  unfold okNets at h
  simp only [Bool.and_eq_true, decide_eq_true_eq, List.all_eq_true] at h
  exact ⟨h.1, h.2.1, h.2.2⟩
noncomputable def cTracksR : Ctr := { f := 18, ps := [.list false tN, .list false (.int .i64)], rs := [.list false (.int .i64), .int .i64], fresh := true, pre := fun d => okNets d.1 d.2.1, fn := fun d => ((rI d.1 d.2.1 (List.length (α := Int) d.2.1) 0).1, (((cntUp (rI d.1 d.2.1 (List.length (α := Int) d.2.1) 0).1 (List.length (α := Int × List Int) d.1) : Nat) : Int), ())) }
noncomputable def cCliqueR : Ctr := { f := 19, ps := [.list false tN, .list false (.int .i64)], rs := [.list false (.int .i64), .int .i64], fresh := true, pre := fun d => okNets d.1 d.2.1, fn := fun d => ((clqUpR d.1 d.2.1 (List.length (α := Int) d.2.1)).1, ((clqUpR d.1 d.2.1 (List.length (α := Int) d.2.1)).2, ())) }
theorem cTracksR_ok : cTracksR.Ok Tryz.prog := fun ⟨nets, order, _⟩ h => by
  obtain ⟨h1, h2, h3⟩ := okNets_iff h
  exact tr_holds nets order h1 h2 h3
theorem cCliqueR_ok : cCliqueR.Ok Tryz.prog := fun ⟨nets, order, _⟩ h => by
  obtain ⟨h1, h2, h3⟩ := okNets_iff h
  exact clq_holds nets order (Nat.le_trans h1 (by decide)) h2 h3
end
end Go.Proofs.YtkjjnnbbicoljaaGreatDoor

/- Package bus: Tracks, Clique as contracts on plain data. -/
namespace Go.Proofs.YtkjjnnbbicoljaaGreatDoor
open Go.RowKit Sv
set_option maxRecDepth 100000
set_option linter.unusedVariables false
noncomputable section
theorem holds_row {f : FuncId} {args : List AV} {l : List Int} {a b : Int} (h : ∀ (w : World) (F : Env) (xs : List Value), OkF w F → Dens F args xs → Calls Tryz.prog f xs.toArray w fun e w' =>
      ∃ A c, e = .returned (.tuple #[.slice A l.length c, .int .i64 a, .int .i64 b]) ∧ Row w' w'.heap.size A (l.map (Value.int .i64)) ∧ (l = [] ∨ FreshA w.heap.size A) ∧ l.length ≤ c ∧ Below w.heap.size w w') :
    Holds Tryz.prog true f args (.tuple [lv l, iv a, iv b]) := fun w F xs hF hd =>
  (h w F xs hF hd).mono fun e w' ⟨A, c, h1, h2, h3, h4, h5⟩ => by
    have hd := ints_den (n0 := w.heap.size) (at' := F.at') h2 h3 h4
    refine ⟨_, _, h1, .tuple (.cons hd (.cons (.raw _) (.cons (.raw _) .nil))), ⟨hF.glob, hF.all, fun b A hb => ?_⟩, fun b A hb => .inr ?_, h5⟩
    · have hb : (if w.heap.size ≤ b then cellsOf? w' b else none) = some A := hb
      split at hb
      · exact cellsOf?_some.1 hb
      · cases hb
    · have hb : (if w.heap.size ≤ b then cellsOf? w' b else none) = some A := hb
      split at hb
      · assumption
      · cases hb
theorem track_len (xs : List (Int × Int)) : ∀ (L : List Nat) (s : List Int × List Nat), (L.foldl (trackStep xs) s).2.length = s.2.length
  | [], s => rfl
  | i :: L, s => by
    rw [List.foldl_cons, track_len xs L]
    unfold trackStep
    simp only
    split <;> simp
theorem tracksOf_len (xs : List (Int × Int)) : (tracksOf xs).2.length = xs.length := by
  unfold tracksOf
  rw [track_len]; simp
abbrev extsOf (nets : List (Int × List Int)) (order : List Int) : List (Int × Int) := Bus.exts (Bus.atUp order order.length) nets
def trkB (nets : List (Int × List Int)) (n : Int) (order : List Int) : List Int × Int × Int :=
  if Bus.bothErr nets n order = 0 then (toI (tracksOf (extsOf nets order)).2, (((tracksOf (extsOf nets order)).1.length : Nat) : Int), 0) else ([], 0, Bus.bothErr nets n order)
def clqB (nets : List (Int × List Int)) (n : Int) (order : List Int) : List Int × Int × Int :=
  if Bus.bothErr nets n order = 0 then ((cliqueUp (extsOf nets order) n.toNat).1, (cliqueUp (extsOf nets order) n.toNat).2, 0) else ([], 0, Bus.bothErr nets n order)
def okBus (nets : List (Int × List Int)) (n : Int) (order : List Int) : Bool :=
  goodB nets && (decide (nets.length ≤ 70) && (decide (order.length ≤ 1000) && (order.all (fun c => decide (I64 c)) && (decide (Bus.bothErr nets n order ≠ 0) || decide (nets.length < 20)))))
noncomputable def cTracksB : Ctr := { f := 13, ps := [.list false tN, .int .i64, .list false (.int .i64)], rs := [.list false (.int .i64), .int .i64, .int .i64], fresh := true, pre := fun d => okBus d.1 d.2.1 d.2.2.1, fn := fun d => ((trkB d.1 d.2.1 d.2.2.1).1, ((trkB d.1 d.2.1 d.2.2.1).2.1, ((trkB d.1 d.2.1 d.2.2.1).2.2, ()))) }
noncomputable def cCliqueB : Ctr := { f := 14, ps := [.list false tN, .int .i64, .list false (.int .i64)], rs := [.list false (.int .i64), .int .i64, .int .i64], fresh := true, pre := fun d => okBus d.1 d.2.1 d.2.2.1, fn := fun d => ((clqB d.1 d.2.1 d.2.2.1).1, ((clqB d.1 d.2.1 d.2.2.1).2.1, ((clqB d.1 d.2.1 d.2.2.1).2.2, ()))) }
theorem okBus_iff {nets : List (Int × List Int)} {n : Int} {order : List Int} (h : okBus nets n order = true) :
    GoodNets nets ∧ nets.length ≤ 70 ∧ order.length ≤ 1000 ∧ (∀ c ∈ order, I64 c) ∧ (Bus.bothErr nets n order = 0 → nets.length < 20) := by
  unfold okBus at h
  simp only [Bool.and_eq_true, Bool.or_eq_true, decide_eq_true_eq, List.all_eq_true] at h
  obtain ⟨h1, h2, h3, h4, h5⟩ := h
  exact ⟨goodB_iff.1 h1, h2, h3, h4, fun e => h5.resolve_left fun g => g e⟩
theorem dens_bus {F : Env} {w : World} {nets : List (Int × List Int)} {n : Int} {order : List Int} {xs : List Value} (hF : OkF w F) (hg : GoodNets nets) (hd : Dens F [nv nets, iv n, lv order] xs) :
    ∃ (A A2 : Option Addr) (c c2 : Nat) (l : List NetAt), xs = [.slice A l.length c, .int .i64 n, .slice A2 order.length c2] ∧ l.map NetAt.net = nets ∧ NetsIn w w.heap.size A l ∧ Row w w.heap.size A2 (order.map (Value.int .i64)) := by
  cases hd with
  | cons d1 d2 =>
    cases d2 with
    | cons d2 d3 =>
      cases d3 with
      | cons d3 d4 =>
        cases d4
        obtain ⟨A, c, l, rfl, h1, h2⟩ := den_nets hF hg d1
        obtain ⟨A2, c2, rfl, _, h3⟩ := den_ints hF d3
        exact ⟨A, A2, c, c2, l, by rw [d2.raw_eq], h1, h2, h3⟩
theorem tracksB_holds (nets : List (Int × List Int)) (n : Int) (order : List Int) (h : okBus nets n order = true) : Holds Tryz.prog true 13 [nv nets, iv n, lv order] (.tuple [lv (trkB nets n order).1, iv (trkB nets n order).2.1, iv (trkB nets n order).2.2]) := by
  obtain ⟨h1, h2, h3, h4, h5⟩ := okBus_iff h
  refine holds_row fun w F xs hF hd => ?_
  obtain ⟨A, A2, c, c2, l, rfl, hl, hN, hR⟩ := dens_bus hF h1 hd
  have hll : l.length = nets.length := by rw [← hl, List.length_map]
  by_cases hE : Bus.bothErr nets n order = 0
  · have e : trkB nets n order = (toI (tracksOf (extsOf nets order)).2, (((tracksOf (extsOf nets order)).1.length : Nat) : Int), 0) := by unfold trkB; rw [if_pos hE]
    rw [e]
    have := h5 hE
    refine (Tracks_any A A2 c c2 w.heap.size l order n w hN hR h4 (Nat.le_refl _) (by omega) (by rw [hl]; exact hE) (by omega)).mono fun e w' ⟨Ao, co, g1, g2, g3, g4, g5⟩ => ?_
    rw [hl] at g1 g2 g4 g5
    have hlen : (toI (tracksOf (extsOf nets order)).2).length = (extsOf nets order).length := by rw [List.length_map]; exact tracksOf_len _
    refine ⟨Ao, co, by rw [g1]; simp only [hlen], ?_, ?_, by simp only [hlen]; exact g5, g3⟩
    · rw [List.map_map]; exact g2
    · rcases g4 with g4 | g4
      · exact .inl (List.length_eq_zero_iff.1 (by simp only [g4]; rfl))
      · exact .inr g4
  · have e : trkB nets n order = ([], 0, Bus.bothErr nets n order) := by unfold trkB; rw [if_neg hE]
    rw [e]
    refine (Tracks_bad A A2 c c2 w.heap.size l order n w hN hR h4 (Nat.le_refl _) (by omega) (by omega) (Bus.bothErr nets n order) (by rw [hl]) hE).mono fun e w' ⟨g1, g2⟩ => ?_
    exact ⟨none, 0, g1, .inl rfl, .inl rfl, Nat.le_refl _, g2⟩
theorem cliqueB_holds (nets : List (Int × List Int)) (n : Int) (order : List Int) (h : okBus nets n order = true) : Holds Tryz.prog true 14 [nv nets, iv n, lv order] (.tuple [lv (clqB nets n order).1, iv (clqB nets n order).2.1, iv (clqB nets n order).2.2]) := by
  obtain ⟨h1, h2, h3, h4, h5⟩ := okBus_iff h
  refine holds_row fun w F xs hF hd => ?_
  obtain ⟨A, A2, c, c2, l, rfl, hl, hN, hR⟩ := dens_bus hF h1 hd
  have hll : l.length = nets.length := by rw [← hl, List.length_map]
  by_cases hE : Bus.bothErr nets n order = 0
  · have e : clqB nets n order = ((cliqueUp (extsOf nets order) n.toNat).1, (cliqueUp (extsOf nets order) n.toNat).2, 0) := by unfold clqB; rw [if_pos hE]
    rw [e]
    refine (Clique_ok A A2 c c2 w.heap.size l order n w hN hR h4 (Nat.le_refl _) (by omega) (by omega) (by rw [hl]; exact hE)).mono fun e w' ⟨Ao, co, g1, g2, g3, g4, g5⟩ => ?_
    rw [hl] at g1 g2 g5
    exact ⟨Ao, co, g1, g2, .inr g4, g5, g3⟩
  · have e : clqB nets n order = ([], 0, Bus.bothErr nets n order) := by unfold clqB; rw [if_neg hE]
    rw [e]
    refine (Clique_bad A A2 c c2 w.heap.size l order n w hN hR h4 (Nat.le_refl _) (by omega) (by omega) (Bus.bothErr nets n order) (by rw [hl]) hE).mono fun e w' ⟨g1, g2⟩ => ?_
    exact ⟨none, 0, g1, .inl rfl, .inl rfl, Nat.le_refl _, g2⟩
theorem cTracksB_ok : cTracksB.Ok Tryz.prog := fun ⟨nets, n, order, _⟩ h => tracksB_holds nets n order h
theorem cCliqueB_ok : cCliqueB.Ok Tryz.prog := fun ⟨nets, n, order, _⟩ h => cliqueB_holds nets n order h
end
end Go.Proofs.YtkjjnnbbicoljaaGreatDoor
